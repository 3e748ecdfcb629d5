/- The document's row: one more. -/
import Derived.Test.YtgfcfpoebmlppaaDrrRef
namespace Go.Proofs.Ytgfcfpoebmlppaa
open Go.ChangeShapes Go.WideShapes Go.ChangeAt Go.RowKit
set_option linter.unusedVariables false
set_option linter.unusedSimpArgs false
theorem radd_arg (p : Nat) (id wt : Int) (w : World) (h : argB id wt = false) :
    Calls Try.prog 14 #[.pointer (some ⟨p, 0, none⟩), .int .i64 id, .int .i64 wt] w fun e w' => e = .returned (.int .i64 1) ∧ w = w' := by
  have hc : id < 1 ∨ ¬ id < 1 ∧ 64 < id ∨ ¬ id < 1 ∧ ¬ 64 < id ∧ wt < 1 ∨ ¬ id < 1 ∧ ¬ 64 < id ∧ ¬ wt < 1 ∧ 8 < wt := by
    simp only [argB, decide_eq_false_iff_not] at h; omega
  clear h
  rcases hc with h0 | ⟨h0, h1⟩ | ⟨h0, h1, h2⟩ | ⟨h0, h1, h2, h3⟩
  all_goals
    go_enter Try.func14, Try.ntmps14
    go_wp2
    all_goals (go_ret; exact ⟨rfl, rfl⟩)
theorem radd_twice (x : Nat) (vi vw : Value) (l : List Mem) (A L id wt : Int) (w : World) (h : rAt w x vi vw l A L) (ha : argB id wt = true) (hf : 0 ≤ findS l id) :
    Calls Try.prog 14 #[.pointer (some ⟨x, 0, none⟩), .int .i64 id, .int .i64 wt] w fun e w' => e = .returned (.int .i64 6) ∧ w = w' := by
  simp only [argB, decide_eq_true_eq] at ha
  obtain ⟨h0, h1, h2, h3⟩ := ha
  have k0 : ¬ id < 1 := by omega
  have k1 : ¬ 64 < id := by omega
  have k2 : ¬ wt < 1 := by omega
  have k3 : ¬ 8 < wt := by omega
  have H := Lib.hid h
  clear h h0 h1 h2 h3
  go_enter Try.func14, Try.ntmps14
  go_wp2_with fail
  refine (find_any x vi vw l A L id w H.out).mono ?_
  rintro e w1 ⟨rfl, rfl⟩
  go_wp2_with fail
  go_ret
  exact ⟨rfl, rfl⟩
theorem idCells_one (l : List Mem) : ∀ u ∈ idCells l, u.oneCell' = true := by
  intro u hu
  simp only [idCells, List.mem_map] at hu
  obtain ⟨m, _, rfl⟩ := hu; rfl
theorem wtCells_one (l : List Mem) : ∀ u ∈ wtCells l, u.oneCell' = true := by
  intro u hu
  simp only [wtCells, List.mem_map] at hu
  obtain ⟨m, _, rfl⟩ := hu; rfl
/-- a slice of the call's own -/
def Fr (w0 w : World) (v : Value) (n : Nat) (xs : List Value) : Prop := Sl w 3 1 v n xs ∧ (∀ g, v.ownBlock = some g → w0.heap.size ≤ g ∧ g < w.heap.size) ∧ Below w0.heap.size w0 w
theorem fr_first {w w2 : World} {v : Value} {n : Nat} {xs : List Value} (o : Obj) (hS : Sl w2 3 1 v n xs) (hK : Keeps (fun k => (Value.slice (some ⟨w.heap.size, 0, none⟩) 0 0).ownBlock = some k) (w.alloc o) w2) (hO : v.ownBlock = (Value.slice (some ⟨w.heap.size, 0, none⟩) 0 0).ownBlock ∨ ∃ g, v.ownBlock = some g ∧ (w.alloc o).heap.size ≤ g ∧ g < w2.heap.size) : Fr w w2 v n xs := by
  refine ⟨hS, fun g hg => ?_, Keeps.below ((Below.refl _ _).alloc (Nat.le_refl _) o) hK (by simp) (fun x hx e => by simp [Value.ownBlock] at e; omega)⟩
  rcases hO with e | ⟨g', e, hg', hl⟩
  · rw [e] at hg
    simp [Value.ownBlock] at hg
    subst hg
    have := hK.size
    simp at this
    exact ⟨Nat.le_refl _, by omega⟩
  · rw [e] at hg
    injection hg with hg
    subst hg
    simp at hg'
    exact ⟨by omega, hl⟩
theorem fr_more {w w1 w2 : World} {v1 v : Value} {n1 n : Nat} {xs1 xs : List Value} (o : Obj) (h : Fr w w1 v1 n1 xs1) (hS : Sl w2 3 1 v n xs) (hK : Keeps (fun k => v1.ownBlock = some k) (w1.alloc o) w2) (hO : v.ownBlock = v1.ownBlock ∨ ∃ g, v.ownBlock = some g ∧ (w1.alloc o).heap.size ≤ g ∧ g < w2.heap.size) : Fr w w2 v n xs := by
  have hs1 := h.2.2.size
  have hs2 := hK.size
  simp at hs2
  refine ⟨hS, fun g hg => ?_, Keeps.below (h.2.2.alloc hs1 o) hK (by simp; omega) (fun x hx e => by have := h.2.1 x e; omega)⟩
  rcases hO with e | ⟨g', e, hg', hl⟩
  · rw [e] at hg
    have := h.2.1 g hg
    exact ⟨this.1, by omega⟩
  · rw [e] at hg
    injection hg with hg
    subst hg
    simp at hg'
    exact ⟨by omega, hl⟩
def rAddPost (x : Nat) (l : List Mem) (A L id wt : Int) (w : World) (e : Ending) (w' : World) : Prop :=
  e = .returned (.int .i64 0) ∧ ∃ vi' vw', rAt w' x vi' vw' (l ++ [(wt, id)]) A L ∧ Keeps (· = x) w w' ∧ (∀ g, vi'.ownBlock = some g → w.heap.size ≤ g) ∧ ∀ g, vw'.ownBlock = some g → w.heap.size ≤ g
set_option maxRecDepth 100000 in
set_option maxHeartbeats 2000000 in
theorem radd_ok (x : Nat) (vi vw : Value) (l : List Mem) (A L id wt : Int) (w : World) (h : rAt w x vi vw l A L) (ha : argB id wt = true) (hf : findS l id = -1) (hn : l.length ≤ 300) :
    Calls Try.prog 14 #[.pointer (some ⟨x, 0, none⟩), .int .i64 id, .int .i64 wt] w (rAddPost x l A L id wt w) := by
  obtain ⟨i0, hi0, hz0, hz1, hz2⟩ := info_parts info3
  simp only [argB, decide_eq_true_eq] at ha
  obtain ⟨h0, h1, h2, h3⟩ := ha
  have k0 : ¬ id < 1 := by omega
  have k1 : ¬ 64 < id := by omega
  have k2 : ¬ wt < 1 := by omega
  have k3 : ¬ 8 < wt := by omega
  obtain ⟨A1, cap1, rfl, hlc1, hcm1⟩ := h.2.1.1.form
  obtain ⟨A2, cap2, rfl, hlc2, hcm2⟩ := h.2.1.2.form
  have H := Lib.hid h
  have HF := Lib.hid hf
  have HI1 := Lib.hid (idCells_one l)
  have HW1 := Lib.hid (wtCells_one l)
  clear h h0 h1 h2 h3 hf
  go_enter Try.func14, Try.ntmps14
  go_wp2_with fail
  refine (find_any x _ _ l A L id w H.out).mono ?_
  rintro e w1 ⟨rfl, rfl⟩
  rw [HF.out]
  have c0 := H.out.1.cell 0
  simp at c0
  have fz := fun i => H.out.1.frozen i
  have hpl := H.out.1.lt
  go_upto_region 6 with (first | (at_builtin; refine wpList_append_sls (by rfl) (.tmp 26) (.tmp 30) _ (by rfl) 3 i0 _ 1 8 Try.underlying22 hi0 hz0 hz1 hz2 rfl (by omega) _ 0 [] (by rfl) (Sl.nil _ _ _ _) _ l.length (idCells l) (by rfl) (H.out.2.1.1.alloc _) HI1.out (by unfold maxLen; omega) (by omega) ?_; intro v1 w2 hS hK hO; simp only [Nat.zero_add, List.nil_append] at hS; have hfr := fr_first _ hS hK hO; obtain ⟨B1, d1, rfl, hd1, hd2⟩ := hS.form; have HFR := Lib.hid hfr; clear hS hK hO hfr) | (at_builtin; refine wpList_append_sls (by rfl) (.tmp 31) (.tmp 33) _ (by rfl) 3 i0 _ 1 8 Try.underlying22 hi0 hz0 hz1 hz2 rfl (by omega) _ _ _ (by rfl) (HFR.out.1.alloc _) _ 1 [.int .i64 id] (by rfl) ⟨by simp, .inr ⟨_, 0, 1, _, rfl, heap_alloc_new _ _, by omega, by omega, by unfold maxLen; omega, by simp, fun j u hu => by simpa using hu⟩⟩ (by simp [Value.oneCell']) (by unfold maxLen; omega) (by omega) ?_; intro v3 w3 hS hK hO; have hfr := fr_more _ HFR.out hS hK hO; obtain ⟨B3, d3, rfl, hd3, hd4⟩ := hS.form; have hb3 := H.out.1.below hfr.2.2 hpl; have c9 : w3.cell? ⟨x, 0, none⟩ = some (.slice A1 l.length cap1) := hb3.cell 0; have fz9 := hb3.frozen 0; have HFR3 := Lib.hid hfr; clear hS hK hO hfr hb3))
  have hx1 := HFR3.out.2.1
  have hn3 : (Value.slice B3 (l.length + 1) d3).ownBlock ≠ some x := fun e => by have := (hx1 x e).1; omega
  have hb3 := H.out.1.below HFR3.out.2.2 hpl
  have hK1 : Keeps (· = x) w (w3.setCell ⟨x, 0, none⟩ (.slice B3 (l.length + 1) d3)) := (Keeps.of_below (S := (· = x)) HFR3.out.2.2).setCell (p := ⟨x, 0, none⟩) rfl _
  have hB1 : Blk (w3.setCell ⟨x, 0, none⟩ (.slice B3 (l.length + 1) d3)) x 43 #[.slice B3 (l.length + 1) d3, .slice A2 l.length cap2, .int .i64 A, .int .i64 L] := hb3.set_ 0 _
  have hkc : Keeps (· = x) w3 (w3.setCell ⟨x, 0, none⟩ (.slice B3 (l.length + 1) d3)) := (Keeps.refl (· = x) w3).setCell (p := ⟨x, 0, none⟩) rfl _
  have hS1 := HFR3.out.1.keeps hkc (fun g hg e => hn3 (by rw [hg, e]))
  have hS2 := (H.out.2.1.2.below HFR3.out.2.2).keeps hkc (fun g hg e => H.out.2.2.1.2 (by rw [hg, e]))
  have hO1 : ∀ g, (Value.slice B3 (l.length + 1) d3).ownBlock = some g → w.heap.size ≤ g ∧ g < (w3.setCell ⟨x, 0, none⟩ (.slice B3 (l.length + 1) d3)).heap.size := fun g hg => by have := hx1 g hg; simpa [World.setCell] using this
  clear hx1 hb3 hkc c9 fz9 c0 fz
  generalize World.setCell w3 _ _ = W at *
  have c1 := hB1.cell 1
  simp at c1
  have fz := fun i => hB1.frozen i
  have hpl2 := hB1.lt
  have HK1 := Lib.hid hK1
  have HB1 := Lib.hid hB1
  have HS1 := Lib.hid hS1
  have HS2 := Lib.hid hS2
  have HO1 := Lib.hid hO1
  clear hK1 hB1 hS1 hS2 hO1 HFR HFR3
  go_wp2_with (first | (at_builtin; refine wpList_append_sls (by rfl) (.tmp 38) (.tmp 42) _ (by rfl) 3 i0 _ 1 8 Try.underlying22 hi0 hz0 hz1 hz2 rfl (by omega) _ 0 [] (by rfl) (Sl.nil _ _ _ _) _ l.length (wtCells l) (by rfl) (HS2.out.alloc _) HW1.out (by unfold maxLen; omega) (by omega) ?_; intro v4 w4 hS hK hO; simp only [Nat.zero_add, List.nil_append] at hS; have hfr := fr_first _ hS hK hO; obtain ⟨B4, d4, rfl, hd5, hd6⟩ := hS.form; have HFR := Lib.hid hfr; clear hS hK hO hfr) | (at_builtin; refine wpList_append_sls (by rfl) (.tmp 43) (.tmp 45) _ (by rfl) 3 i0 _ 1 8 Try.underlying22 hi0 hz0 hz1 hz2 rfl (by omega) _ _ _ (by rfl) (HFR.out.1.alloc _) _ 1 [.int .i64 wt] (by rfl) ⟨by simp, .inr ⟨_, 0, 1, _, rfl, heap_alloc_new _ _, by omega, by omega, by unfold maxLen; omega, by simp, fun j u hu => by simpa using hu⟩⟩ (by simp [Value.oneCell']) (by unfold maxLen; omega) (by omega) ?_; intro v5 w5 hS hK hO; have hfr := fr_more _ HFR.out hS hK hO; obtain ⟨B5, d5, rfl, hd7, hd8⟩ := hS.form; have hb5 := HB1.out.below hfr.2.2 hpl2; have c9 : w5.cell? ⟨x, 1, none⟩ = some (.slice A2 l.length cap2) := hb5.cell 1; have fz9 := hb5.frozen 1; have HFR5 := Lib.hid hfr; clear hS hK hO hfr hb5))
  go_ret
  have hx5 := HFR5.out.2.1
  have hsz := HK1.out.size
  have hn5 : (Value.slice B5 (l.length + 1) d5).ownBlock ≠ some x := fun e => by have := (hx5 x e).1; omega
  have hb5 := HB1.out.below HFR5.out.2.2 hpl2
  have hkc : Keeps (· = x) w5 (w5.setCell ⟨x, 1, none⟩ (.slice B5 (l.length + 1) d5)) := (Keeps.refl (· = x) w5).setCell (p := ⟨x, 1, none⟩) rfl _
  refine ⟨rfl, .slice B3 (l.length + 1) d3, .slice B5 (l.length + 1) d5, ⟨hb5.set_ 1 _, ⟨?_, ?_⟩, ⟨hn3, hn5⟩, fun g hg => ?_, fun g hg => ?_⟩, ?_, fun g hg => (HO1.out g hg).1, fun g hg => by have := (hx5 g hg).1; omega⟩
  · have e : idCells (l ++ [(wt, id)]) = idCells l ++ [.int .i64 id] := by simp [idCells]
    rw [e, List.length_append]
    exact (HS1.out.below HFR5.out.2.2).keeps hkc (fun g hg e => hn3 (by rw [hg, e]))
  · have e : wtCells (l ++ [(wt, id)]) = wtCells l ++ [.int .i64 wt] := by simp [wtCells]
    rw [e, List.length_append]
    exact HFR5.out.1.keeps hkc (fun g hg e => hn5 (by rw [hg, e]))
  · have := (HO1.out g hg).2
    have h5 := HFR5.out.2.2.size
    simp [World.setCell]; omega
  · have := (hx5 g hg).2
    simpa [World.setCell] using this
  · exact (HK1.out.trans (Keeps.of_below HFR5.out.2.2)).trans hkc
end Go.Proofs.Ytgfcfpoebmlppaa
