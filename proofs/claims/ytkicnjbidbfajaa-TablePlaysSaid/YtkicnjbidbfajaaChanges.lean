/- Changes out of wild ones: lists. -/
import Derived.Test.YtkicnjbidbfajaaChange
namespace Go.Proofs.Ytkicnjbidbfajaa
open Go.ChangeShapes Go.WideShapes Go.ChangeAt Go.RowKit
set_option linter.unusedVariables false
set_option linter.unusedSimpArgs false
def cgCells (l : List Cg) : List Value := l.flatMap fun c => [.int .i64 c.tb, .int .i64 c.ky, .bool c.gn, .string c.vl]
theorem cgCells_cons (f : Cg) (l : List Cg) : cgCells (f :: l) = .int .i64 f.tb :: .int .i64 f.ky :: .bool f.gn :: .string f.vl :: cgCells l := rfl
theorem cgCells_at (l : List Cg) (k : Nat) (h : k < l.length) : (cgCells l)[k * 4]? = some (.int .i64 l[k].tb) ∧ (cgCells l)[k * 4 + 1]? = some (.int .i64 l[k].ky) ∧ (cgCells l)[k * 4 + 2]? = some (.bool l[k].gn) ∧ (cgCells l)[k * 4 + 3]? = some (.string l[k].vl) := by
  induction l generalizing k with
  | nil => simp at h
  | cons f l ih =>
    cases k with
    | zero => exact ⟨rfl, rfl, rfl, rfl⟩
    | succ k =>
      have := ih k (by simpa using h)
      rw [cgCells_cons, show (k + 1) * 4 = k * 4 + 1 + 1 + 1 + 1 by omega]
      simpa using this
instance : Inhabited Cg := ⟨⟨0, 0, false, ByteArray.empty⟩⟩
theorem cs_of {w : World} {A : Option Addr} {n cap : Nat} {l : List Cg} (h : Sl w 65 4 (.slice A n cap) n (cgCells l)) (hl : l.length = n) : Cs w (.slice A n cap) n (fun i => l.getD i default) := by
  obtain ⟨A', cap', hv, h1, h2⟩ := h.form
  simp at hv
  obtain ⟨rfl, rfl⟩ := hv
  refine ⟨A, cap, rfl, h1, h2, fun hn => ?_⟩
  obtain ⟨g, off, cap', hv, _, _, hg, hat, _⟩ := h.at_ hn
  simp at hv
  obtain ⟨rfl, rfl⟩ := hv
  refine ⟨g, off, rfl, hg, fun i hi => ?_⟩
  have hc := cgCells_at l i (by omega)
  have e : l.getD i default = l[i]'(by omega) := by simp [List.getD_eq_getElem?_getD, show i < l.length by omega]
  simp only [e]
  exact ⟨hat _ _ hc.1, hat _ _ hc.2.1, hat _ _ hc.2.2.1, hat _ _ hc.2.2.2⟩
theorem infoChange : (Try.prog.info? 65).map (fun i => (i.zero, i.size, i.bytes)) = some (some (.agg #[.int .i64 0, .int .i64 0, .bool false, .string ByteArray.empty]), 4, 40) := by kernel_rfl
def ChangesPost (n most : Nat) (w : World) (e : Ending) (w' : World) : Prop :=
  ∃ A c q F, e = .returned (.slice A q c) ∧ q ≤ most ∧ Cs w' (.slice A q c) q F ∧ (∀ i, i < q → 0 ≤ (F i).tb ∧ (F i).tb < n) ∧ (∀ g, (Value.slice A q c).ownBlock = some g → w.heap.size ≤ g ∧ g < w'.heap.size) ∧ Below w.heap.size w w'
set_option maxRecDepth 100000 in
set_option maxHeartbeats 1000000 in
theorem changes_any (v : Value) (m n most : Nat) (F : Nat → Cg) (w : World) (hC : Cs w v m F) (hs : ∀ i, i < m → (F i).vl.size ≤ maxLen) (hn : 1 ≤ n) (hn2 : n ≤ 8) (hm : most ≤ 100) :
    Calls Try.prog 34 #[v, .int .i64 n, .int .i64 most] w (ChangesPost n most w) := by
  obtain ⟨i0, hi0, hz0, hz1, hz2⟩ := info_parts infoChange
  obtain ⟨A, cap, rfl, h1, h2, h3⟩ := hC
  unfold maxLen at h2
  have HC := Lib.hid h3
  have HS := Lib.hid hs
  clear h3 hs
  go_enter Try.func34, Try.ntmps34
  go_wp2_with fail
  go_loopw [7, 8] (fun s7 s8 wr => ∃ (i : Nat) (A7 : Option Addr) (c7 : Nat) (l : List Cg), i ≤ m ∧ i ≤ most ∧ s8 = .int .i64 i ∧ s7 = .slice A7 i c7 ∧ Hid (l.length = i) ∧ Hid (∀ c ∈ l, 0 ≤ c.tb ∧ c.tb < n) ∧ Sl wr 65 4 (.slice A7 i c7) i (cgCells l) ∧ (∀ g, (Value.slice A7 i c7).ownBlock = some g → w.heap.size ≤ g ∧ g < wr.heap.size) ∧ Below w.heap.size w wr) (fun _ s8 _ => most - (intOf s8).toNat)
  case atStart => exact ⟨0, none, 0, [], by omega, by omega, rfl, rfl, Lib.hid rfl, Lib.hid (by simp), Sl.nil _ _ _ _, by simp [Value.ownBlock], Below.refl _ _⟩
  case round =>
    obtain ⟨i, A7, c7, l, hi1, hi2, rfl, rfl, hl, hr, hS, hO, hb⟩ := hrel
    have u1 : IntKind.i64.wrap ((i : Int) + 1) = (i : Int) + 1 := IntWalk.i64_in _ (by omega)
    have HSl := Lib.hid hS
    have HO := Lib.hid hO
    have HB := Lib.hid hb
    have HEnd := Lib.hid (show ChangesPost n most w (.returned (.slice A7 i c7)) wr from ⟨A7, c7, i, _, rfl, hi2, cs_of hS hl.out, fun j hj => by
      have e : l.getD j default = l[j]'(by have := hl.out; omega) := by simp [List.getD_eq_getElem?_getD, show j < l.length by have := hl.out; omega]
      rw [e]; exact hr.out _ (List.getElem_mem _), hO, hb⟩)
    clear hS hO
    by_cases hlt : i < m
    · have q2 : (i : Int) < m := by omega
      by_cases hmo : i < most
      · have q3 : (i : Int) < most := by omega
        have q1 : (0 : Int) ≤ i := by omega
        obtain ⟨g, off, rfl, hg, hat⟩ := HC.out (by omega)
        obtain ⟨x0, x1, x2, x3⟩ := hat i hlt
        have y0 := (hb.cell (p := ⟨g, off + i * 4, none⟩) hg).trans x0
        have y1 := (hb.cell (p := ⟨g, off + i * 4 + 1, none⟩) hg).trans x1
        have y2 := (hb.cell (p := ⟨g, off + i * 4 + 2, none⟩) hg).trans x2
        have y3 := (hb.cell (p := ⟨g, off + i * 4 + 3, none⟩) hg).trans x3
        have HCh := Lib.hid (change_any (F i) n wr hn hn2 (HS.out i hlt))
        clear x0 x1 x2 x3 hat hb
        generalize (F i).tb = a0 at *
        generalize (F i).ky = a1 at *
        generalize (F i).gn = a2 at *
        generalize (F i).vl = a3 at *
        go_wp2_with fail
        refine HCh.out.mono ?_
        rintro e w4 ⟨c', rfl, hc', hb4⟩
        obtain ⟨t', k', g', v'⟩ := c'
        have hHB4 := HB.out.trans (hb4.mono HB.out.size)
        have HB4 := Lib.hid hHB4
        have HSl4 := Lib.hid (HSl.out.below hb4)
        have HO4 := Lib.hid (show ∀ g, (Value.slice A7 i c7).ownBlock = some g → w.heap.size ≤ g ∧ g < w4.heap.size from fun g hg => ⟨(HO.out g hg).1, Nat.lt_of_lt_of_le (HO.out g hg).2 hb4.size⟩)
        have HC4 := Lib.hid hc'
        clear y0 y1 y2 y3 hb4 hHB4 HSl HO HB HEnd hc'
        simp only [cgV]
        go_wp2_with (refine wpList_append_sl (by rfl) (.tmp 20) (.tmp 27) _ (by rfl) 65 i0 _ 4 40 Try.underlying61 hi0 hz0 hz1 hz2 rfl (by omega) _ i (cgCells l) (by rfl) (HSl4.out.alloc _) _ 1 1 [.int .i64 t', .int .i64 k', .bool g', .string v'] (by rfl) (by rfl) (World.news_of_block (cs := #[.int .i64 t', .int .i64 k', .bool g', .string v']) (t := 65) (fr := (0, 0)) (heap_alloc_new _ _)) (by simp [Value.oneCell']) (by omega) (by unfold maxLen; omega) (by omega) ?_; intro v9 w9 hS hK hO; obtain ⟨A9, c9, rfl, _, _⟩ := hS.form; have HS9 := Lib.hid hS; have HK9 := Lib.hid hK; have HO9 := Lib.hid hO; clear hS hK hO)
        go_roundw
        case rel =>
          have hsz := HK9.out.size
          simp at hsz
          refine ⟨i + 1, A9, c9, l ++ [⟨t', k', g', v'⟩], by omega, by omega, by go_num, rfl, Lib.hid (by rw [List.length_append, hl.out]; rfl), Lib.hid (fun c hc => ?_), ?_, fun x hx => ?_, ?_⟩
          · rw [List.mem_append] at hc
            rcases hc with hc | hc
            · exact hr.out c hc
            · simp at hc; subst hc; exact HC4.out
          · have e : cgCells (l ++ [⟨t', k', g', v'⟩]) = cgCells l ++ [.int .i64 t', .int .i64 k', .bool g', .string v'] := by simp [cgCells, List.flatMap_append]
            rw [e]; exact HS9.out
          · rcases HO9.out with e | ⟨g2, e, hg2⟩
            · rw [e] at hx
              have := HO4.out x hx
              exact ⟨this.1, by omega⟩
            · obtain ⟨g3, off3, cap3, hv3, _, _, hlt3, _⟩ := HS9.out.at_ (by omega)
              rw [hv3] at hx
              injection hx with hx
              subst hx
              rw [hv3] at e
              injection e with e
              subst e
              have := HB4.out.size
              simp at hg2
              have hg3 : w4.heap.size + 1 ≤ g3 := hg2
              exact ⟨by show w.heap.size ≤ g3; omega, hlt3⟩
          · exact Keeps.below (HB4.out.alloc HB4.out.size _) HK9.out (by have := HB4.out.size; simp; omega) (fun x hx e => by have := (HO4.out x e).1; omega)
        case measure => simp [intOf]; omega
      · have q3 : ¬ (i : Int) < most := by omega
        clear HSl HO HB hb
        go_wp2_with fail
        go_ret
        exact HEnd.out
    · have q2 : ¬ (i : Int) < m := by omega
      clear HSl HO HB hb
      go_wp2_with fail
      go_ret
      exact HEnd.out
end Go.Proofs.Ytkicnjbidbfajaa
