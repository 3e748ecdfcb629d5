/- Package fault: putting faults. -/
import Derived.Test.YtcchofaheaddbaaFault
import Derived.Deep.RegionLaw
namespace Go.Proofs.Ytcchofaheaddbaa
open Go.ChangeShapes Go.WideShapes Go.ChangeAt Go.RowKit
set_option linter.unusedVariables false
set_option linter.unusedSimpArgs false
def push1 (p : List Flt) (f : Flt) : List Flt := if mayF f && decide (p.length < 1024) then p ++ [f] else p
def pushS (p l : List Flt) : List Flt := l.foldl push1 p
theorem push1_len (p : List Flt) (f : Flt) : p.length ≤ (push1 p f).length ∧ (push1 p f).length ≤ p.length + 1 := by unfold push1; split <;> simp
theorem pushS_take (p l : List Flt) (k : Nat) (h : k < l.length) : pushS p (l.take (k + 1)) = push1 (pushS p (l.take k)) l[k] := by
  unfold pushS
  rw [List.take_succ_eq_append_getElem h, List.foldl_append]; rfl
theorem pushS_len (p l : List Flt) : p.length ≤ (pushS p l).length ∧ (pushS p l).length ≤ p.length + l.length := by
  induction l generalizing p with
  | nil => simp [pushS]
  | cons f l ih =>
    have := ih (push1 p f)
    have h1 := push1_len p f
    simp only [pushS, List.foldl_cons, List.length_cons] at *
    omega
theorem push1_cap (p : List Flt) (f : Flt) (h : p.length ≤ 1024) : (push1 p f).length ≤ 1024 := by
  unfold push1
  split
  · rename_i h1
    simp at h1
    simp; omega
  · exact h
theorem pushS_cap (p l : List Flt) (h : p.length ≤ 1024) : (pushS p l).length ≤ 1024 := by
  induction l generalizing p with
  | nil => exact h
  | cons f l ih => exact ih _ (push1_cap p f h)
/-- a list of faults to be read -/
def RdF (w : World) (v : Value) (l : List Flt) : Prop := ∃ A cap, v = .slice A l.length cap ∧ l.length ≤ maxLen ∧ (0 < l.length → ∃ g off, A = some ⟨g, off, none⟩ ∧ g < w.heap.size ∧ ∀ j u, (fltCells l)[j]? = some u → w.cell? ⟨g, off + j, none⟩ = some u)
theorem RdF.keeps {S : Nat → Prop} {w w' : World} {v : Value} {l : List Flt} (h : RdF w v l) (k : Keeps S w w') (hs : ∀ g, v.ownBlock = some g → ¬ S g) : RdF w' v l := by
  obtain ⟨A, cap, rfl, hl, h⟩ := h
  refine ⟨A, cap, rfl, hl, fun hp => ?_⟩
  obtain ⟨g, off, rfl, hg, hc⟩ := h hp
  exact ⟨g, off, rfl, Nat.lt_of_lt_of_le hg k.size, fun j u hu => (World.cell?_of_block (k.block g hg (hs g rfl))).trans (hc j u hu)⟩
theorem info23 : (Try.prog.info? 23).map (fun i => (i.zero, i.size, i.bytes)) = some (some (.agg #[.int .i64 0, .int .i64 0]), 2, 16) := by kernel_rfl
theorem round_end {p k c1 : Nat} {v v' : Value} {A1 : Option Addr} {fs gs ps : List Flt} {a b : Int} {w w2 w1 : World} (HP2 : planAt w2 p v' ps) (HK2 : Keeps (fun k => k = p ∨ v.ownBlock = some k) w w2) (HO : v'.ownBlock = v.ownBlock ∨ ∃ g, v'.ownBlock = some g ∧ w.heap.size ≤ g)
    (HT : pushS fs (gs.take (k + 1)) = push1 ps (a, b)) (HN : push1 ps (a, b) = ps ++ [(a, b)]) (hk : k + 1 ≤ gs.length)
    (hK1 : Keeps (fun k => v'.ownBlock = some k) (w2.alloc (.cells #[.int .i64 a, .int .i64 b] 23)).drew w1) (hS : Sl w1 23 2 (.slice A1 (ps.length + 1) c1) (ps.length + 1) (fltCells ps ++ [.int .i64 a, .int .i64 b]))
    (hO1 : (Value.slice A1 (ps.length + 1) c1).ownBlock = v'.ownBlock ∨ ∃ g, (Value.slice A1 (ps.length + 1) c1).ownBlock = some g ∧ (w2.alloc (.cells #[.int .i64 a, .int .i64 b] 23)).drew.heap.size ≤ g)
    (hl0 : fs.length ≤ ps.length ∧ ps.length ≤ fs.length + (gs.take k).length) (hw : w.heap.size ≤ w2.heap.size) :
    (∃ (k_1 : Nat) (v' : Value), k_1 ≤ gs.length ∧ Value.int .i64 ((k : Int) + 1) = .int .i64 k_1 ∧ Value.int .i64 ((ps.length : Int) - fs.length + 1) = .int .i64 ((pushS fs (gs.take k_1)).length - fs.length) ∧
      planAt (w1.setCell ⟨p, 0, none⟩ (.slice A1 (ps.length + 1) c1)) p v' (pushS fs (gs.take k_1)) ∧ Keeps (fun k => k = p ∨ v.ownBlock = some k) w (w1.setCell ⟨p, 0, none⟩ (.slice A1 (ps.length + 1) c1)) ∧ (v'.ownBlock = v.ownBlock ∨ ∃ g, v'.ownBlock = some g ∧ w.heap.size ≤ g)) ∧
    gs.length - (intOf (.int .i64 ((k : Int) + 1))).toNat < gs.length - (intOf (.int .i64 (k : Int))).toNat := by
  have hp0 := lt_of_block HP2.1
  have hsz : (w2.alloc (.cells #[.int .i64 a, .int .i64 b] 23)).drew.heap.size = w2.heap.size + 1 := by simp
  have hw1p : w1.heap[p]? = some (.cells #[v'] 44 (0, 0)) := (hK1.block p (by rw [hsz]; omega) HP2.2.2.1).trans ((Below.heap_alloc w2 _ p hp0).trans HP2.1)
  have hnp : (Value.slice A1 (ps.length + 1) c1).ownBlock ≠ some p := by
    rcases hO1 with h | ⟨g, h, hg⟩
    · rw [h]; exact HP2.2.2.1
    · rw [h]; intro e; injection e with e; rw [hsz] at hg; omega
  have hkc : Keeps (· = p) w1 (w1.setCell ⟨p, 0, none⟩ (.slice A1 (ps.length + 1) c1)) := (Keeps.refl (· = p) w1).setCell (p := ⟨p, 0, none⟩) rfl _
  have hps : pushS fs (gs.take (k + 1)) = ps ++ [(a, b)] := HT.trans HN
  refine ⟨⟨k + 1, .slice A1 (ps.length + 1) c1, hk, by simp, ?_, ?_, ?_, ?_⟩, by simp [intOf]; omega⟩
  · rw [hps]; simp; omega
  · rw [hps]
    refine ⟨by simpa using block_set hw1p 0 (.slice A1 (ps.length + 1) c1), ?_, hnp, fun g hg => ?_⟩
    · have e : fltCells (ps ++ [(a, b)]) = fltCells ps ++ [.int .i64 a, .int .i64 b] := by rw [fltCells_app]; rfl
      rw [e, List.length_append]
      exact hS.keeps hkc (fun g hg e => hnp (by rw [hg, e]))
    · obtain ⟨g', off, cap, hv, _, _, hlt, _⟩ := hS.at_ (by omega)
      rw [hv] at hg
      injection hg with hg
      subst hg
      simpa [World.setCell] using hlt
  · refine (((HK2.trans (Keeps.of_below (((Below.refl _ _).alloc (Nat.le_refl _) _).drew))).trans' hK1 (fun x hx hv => ?_))).trans' hkc (fun x _ h => .inl h)
    rcases HO with h | ⟨g, h, hg⟩
    · exact .inr (by rw [← h]; exact hv)
    · rw [h] at hv; injection hv with hv; omega
  · rcases hO1 with h | ⟨g, h, hg⟩
    · rw [h]; exact HO
    · exact .inr ⟨g, h, by rw [hsz] at hg; omega⟩
set_option maxRecDepth 100000 in
set_option maxHeartbeats 2000000 in
theorem push_any (p : Nat) (v sl : Value) (fs gs : List Flt) (w : World) (h : planAt w p v fs) (hr : RdF w sl gs) (hd1 : sl.ownBlock ≠ some p) (hd2 : ∀ g, v.ownBlock = some g → sl.ownBlock ≠ some g) (hfs : fs.length ≤ 1024) :
    Calls Try.prog 13 #[.pointer (some ⟨p, 0, none⟩), sl] w fun e w' => e = .returned (.int .i64 ((pushS fs gs).length - fs.length)) ∧ ∃ v', planAt w' p v' (pushS fs gs) ∧ Keeps (fun k => k = p ∨ v.ownBlock = some k) w w' ∧ (v'.ownBlock = v.ownBlock ∨ ∃ g, v'.ownBlock = some g ∧ w.heap.size ≤ g) := by
  obtain ⟨i0, hi0, hz0, hz1, hz2⟩ := info_parts info23
  obtain ⟨A, cap, rfl, hgl, hrd⟩ := hr
  unfold maxLen at hgl
  have hpl := lt_of_block h.1
  have HR := Lib.hid hrd
  have HD2 := Lib.hid hd2
  have H := Lib.hid h
  clear hrd hd2 h
  go_enter Try.func13, Try.ntmps13
  go_wp2_with fail
  go_loopw [5, 10] (fun n i wr => ∃ (k : Nat) (v' : Value), k ≤ gs.length ∧ i = .int .i64 k ∧ n = .int .i64 ((pushS fs (gs.take k)).length - fs.length) ∧ planAt wr p v' (pushS fs (gs.take k)) ∧ Keeps (fun k => k = p ∨ v.ownBlock = some k) w wr ∧ (v'.ownBlock = v.ownBlock ∨ ∃ g, v'.ownBlock = some g ∧ w.heap.size ≤ g)) (fun _ i _ => gs.length - (intOf i).toNat)
  case atStart => exact ⟨0, v, by omega, rfl, by simp [pushS], by simpa [pushS] using H.out, Keeps.refl _ _, .inl rfl⟩
  case round =>
    obtain ⟨k, v', hk, rfl, rfl, hp, hkp, hown⟩ := hrel
    by_cases hlt : k < gs.length
    · obtain ⟨g, off, rfl, hg, hc⟩ := HR.out (by omega)
      have hgp : g ≠ p := by simpa [Value.ownBlock] using hd1
      have hgv : ∀ x, v.ownBlock = some x → g ≠ x := fun x hx e => HD2.out x hx (by simp [Value.ownBlock, e])
      have hgk : wr.heap[g]? = w.heap[g]? := hkp.block g hg (fun e => e.elim hgp (fun e => hgv g e rfl))
      have x0 : wr.cell? ⟨g, off + k * 2, none⟩ = some (.int .i64 gs[k].1) := (World.cell?_of_block hgk).trans (hc _ _ (fltCells_at gs k hlt).1)
      have x1 : wr.cell? ⟨g, off + k * 2 + 1, none⟩ = some (.int .i64 gs[k].2) := (World.cell?_of_block hgk).trans (hc _ _ (fltCells_at gs k hlt).2)
      have hq1 : (k : Int) < gs.length := by omega
      have hpr := lt_of_block hp.1
      have ht := pushS_take fs gs k hlt
      have HT := Lib.hid ht
      have HP := Lib.hid hp
      have HK := Lib.hid hkp
      have HO := Lib.hid hown
      have hl0 := pushS_len fs (gs.take k)
      have hl1 := pushS_cap fs (gs.take k) hfs
      have hl2 := Lib.hid hlt
      generalize hf : gs[k] = f at *
      generalize pushS fs (gs.take k) = ps at *
      clear hc ht hp hkp hown hgk hgv hlt
      have hf2 := Lib.hid hf
      clear hf
      obtain ⟨a, b⟩ := f
      simp only at x0 x1
      go_wp2_with fail
      refine (may_any (a, b) _).mono ?_
      rintro e w2 ⟨rfl, b2⟩
      have hB := (Below.refl wr.heap.size wr).alloc (Nat.le_refl _) (.cells #[.int .i64 a, .int .i64 b] 23)
      have hp2 := planAt_below (planAt_below HP.out hB) b2
      have q2 : Blk w2 wr.heap.size 23 #[.int .i64 a, .int .i64 b] := Blk.below (heap_alloc_new wr _) b2 (by simp)
      have k2 : Keeps (fun k => k = p ∨ v.ownBlock = some k) w w2 := (HK.out.trans (Keeps.of_below hB)).trans (Keeps.of_below b2)
      have hfb : p < wr.heap.size := hpr
      have hvb : ∀ x, v'.ownBlock = some x → x < wr.heap.size := HP.out.2.2.2
      generalize hfbn : wr.heap.size = fb at *
      clear hB b2 x0 x1
      have f0 : w2.cell? ⟨fb, 0, none⟩ = some (.int .i64 a) := q2.cell 0
      have f1 : w2.cell? ⟨fb, 1, none⟩ = some (.int .i64 b) := q2.cell 1
      obtain ⟨A', cap', rfl, hc1, hc2⟩ := hp2.2.1.form
      have p0 : w2.cell? ⟨p, 0, none⟩ = some (.slice A' ps.length cap') := by simpa using cells_of hp2.1 0
      have pf : w2.frozen? ⟨p, 0, none⟩ = false := free_of hp2.1 0
      have hpw := lt_of_block hp2.1
      have hfw := q2.lt
      have HP2 := Lib.hid hp2
      have HK2 := Lib.hid k2
      have HVB := Lib.hid hvb
      unfold maxLen at hc2
      clear hp2 k2 q2 hvb hfbn hpr
      by_cases hmay : mayF (a, b) = true
      · by_cases h10 : ps.length < 1024
        · have h10' : (ps.length : Int) < 1024 := by omega
          have HN := Lib.hid (show push1 ps (a, b) = ps ++ [(a, b)] by simp [push1, hmay, h10])
          go_wp2_with fail
          go_region_law
            ((refine step_append_sl (by rfl) _ _ _ (by rfl) 23 i0 _ 2 16 Try.underlying32 hi0 hz0 hz1 hz2 rfl (by omega) _ ps.length (fltCells ps) (by rfl) ((HP2.out.2.1.drew.alloc _)) _ 1 1 [.int .i64 a, .int .i64 b] (by rfl) (by rfl) (World.news_of_block (cs := #[.int .i64 a, .int .i64 b]) (t := 23) (fr := (0, 0)) (heap_alloc_new _ _)) (by simp [Value.oneCell']) (by omega) (by unfold maxLen; omega) (by omega) ?_; intro v1 w1 hS hK1 hO1; obtain ⟨A1, c1, rfl, hS1, hS2⟩ := hS.form; have hpf1 : w1.frozen? ⟨p, 0, none⟩ = false := (by rw [World.frozen?_of_block (hK1.block p (by simp; omega) HP2.out.2.2.1)]; exact (frozen?_alloc_cells _ _ _ _).trans pf); have hpc1 : w1.cell? ⟨p, 0, none⟩ = some (.slice A' ps.length cap') := (by rw [World.cell?_of_block (hK1.block p (by simp; omega) HP2.out.2.2.1)]; exact (World.cell?_alloc_lt _ _ _ (by simpa using hpw)).trans p0)))
          all_goals go_wp2_with fail
          all_goals exact round_end HP2.out HK2.out HO.out HT.out HN.out (by have := hl2.out; omega) hK1 hS hO1 hl0 (by have := HK2.out.size; exact this)
        · have h10' : ¬ (ps.length : Int) < 1024 := by omega
          have HN := Lib.hid (show push1 ps (a, b) = ps by simp [push1, h10])
          have HTN := Lib.hid (HT.out.trans HN.out)
          go_wp2_with fail
          go_roundw
          case rel => exact ⟨k + 1, _, by have := hl2.out; omega, by go_num, by rw [HTN.out], by rw [HTN.out]; exact HP2.out, HK2.out, HO.out⟩
          case measure => have := hl2.out; simp [intOf]; omega
      · have hmay' : mayF (a, b) = false := by simpa using hmay
        have HN := Lib.hid (show push1 ps (a, b) = ps by simp [push1, hmay'])
        have HTN := Lib.hid (HT.out.trans HN.out)
        clear hmay
        go_wp2_with fail
        go_roundw
        case rel => exact ⟨k + 1, _, by have := hl2.out; omega, by go_num, by rw [HTN.out], by rw [HTN.out]; exact HP2.out, HK2.out, HO.out⟩
        case measure => have := hl2.out; simp [intOf]; omega
    · obtain rfl : k = gs.length := by omega
      rw [List.take_length] at hp ⊢
      have HP := Lib.hid hp
      have HK := Lib.hid hkp
      have HO := Lib.hid hown
      clear hp hkp hown
      go_wp2_with fail
      go_ret
      exact ⟨rfl, v', HP.out, HK.out, HO.out⟩
end Go.Proofs.Ytcchofaheaddbaa
