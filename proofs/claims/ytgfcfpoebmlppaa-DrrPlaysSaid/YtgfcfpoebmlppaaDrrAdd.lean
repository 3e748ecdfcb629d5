/- Package drr: one more; all of them. -/
import Derived.Test.YtgfcfpoebmlppaaDrrNext
namespace Go.Proofs.Ytgfcfpoebmlppaa
open Go.ChangeShapes Go.WideShapes Go.ChangeAt Go.RowKit
set_option linter.unusedVariables false
set_option linter.unusedSimpArgs false
def argB (id wt : Int) : Bool := decide (1 ≤ id ∧ id ≤ 64 ∧ 1 ≤ wt ∧ wt ≤ 8)
theorem add_arg (p : Nat) (id wt : Int) (w : World) (h : argB id wt = false) :
    Calls Try.prog 10 #[.pointer (some ⟨p, 0, none⟩), .int .i64 id, .int .i64 wt] w fun e w' => e = .returned (.int .i64 1) ∧ w = w' := by
  have hc : id < 1 ∨ ¬ id < 1 ∧ 64 < id ∨ ¬ id < 1 ∧ ¬ 64 < id ∧ wt < 1 ∨ ¬ id < 1 ∧ ¬ 64 < id ∧ ¬ wt < 1 ∧ 8 < wt := by
    simp only [argB, decide_eq_false_iff_not] at h; omega
  clear h
  rcases hc with h0 | ⟨h0, h1⟩ | ⟨h0, h1, h2⟩ | ⟨h0, h1, h2, h3⟩
  all_goals
    go_enter Try.func10, Try.ntmps10
    go_wp2
    all_goals (go_ret; exact ⟨rfl, rfl⟩)
theorem add_twice (p : Nat) (v : Value) (l : List Mem) (at_ : Nat) (turn : Bool) (left id wt : Int) (w : World) (h : drrAt w p v l at_ turn left) (ha : argB id wt = true) (hf : 0 ≤ findS l id) :
    Calls Try.prog 10 #[.pointer (some ⟨p, 0, none⟩), .int .i64 id, .int .i64 wt] w fun e w' => e = .returned (.int .i64 6) ∧ Below w.heap.size w w' := by
  simp only [argB, decide_eq_true_eq] at ha
  obtain ⟨h0, h1, h2, h3⟩ := ha
  have k0 : ¬ id < 1 := by omega
  have k1 : ¬ 64 < id := by omega
  have k2 : ¬ wt < 1 := by omega
  have k3 : ¬ 8 < wt := by omega
  have H := Lib.hid h
  clear h h0 h1 h2 h3
  go_enter Try.func10, Try.ntmps10
  go_wp2_with fail
  refine (place_any p v l at_ turn left id w H.out).mono ?_
  rintro e w1 ⟨rfl, b1⟩
  have B1 := Lib.hid b1
  clear b1
  go_wp2_with fail
  go_ret
  exact ⟨rfl, B1.out⟩
theorem info55 : (Try.prog.info? 55).map (fun i => (i.zero, i.size, i.bytes)) = some (some (.agg #[.int .i64 0, .int .i64 0]), 2, 16) := by kernel_rfl
def AddPost (p : Nat) (v : Value) (l : List Mem) (at_ : Nat) (turn : Bool) (left id wt : Int) (w : World) (e : Ending) (w' : World) : Prop :=
  e = .returned (.int .i64 0) ∧ ∃ v', drrAt w' p v' (l ++ [(wt, id)]) at_ turn left ∧ Keeps (fun k => k = p ∨ v.ownBlock = some k) w w' ∧ (v'.ownBlock = v.ownBlock ∨ ∃ g, v'.ownBlock = some g ∧ w.heap.size ≤ g)
set_option maxRecDepth 100000 in
set_option maxHeartbeats 1000000 in
theorem add_ok (p : Nat) (v : Value) (l : List Mem) (at_ : Nat) (turn : Bool) (left id wt : Int) (w : World) (h : drrAt w p v l at_ turn left) (ha : argB id wt = true) (hf : findS l id = -1) (hn : l.length ≤ 300) :
    Calls Try.prog 10 #[.pointer (some ⟨p, 0, none⟩), .int .i64 id, .int .i64 wt] w (AddPost p v l at_ turn left id wt w) := by
  obtain ⟨i0, hi0, hz0, hz1, hz2⟩ := info_parts info55
  simp only [argB, decide_eq_true_eq] at ha
  obtain ⟨h0, h1, h2, h3⟩ := ha
  have k0 : ¬ id < 1 := by omega
  have k1 : ¬ 64 < id := by omega
  have k2 : ¬ wt < 1 := by omega
  have k3 : ¬ 8 < wt := by omega
  have H := Lib.hid h
  have HF := Lib.hid hf
  clear h h0 h1 h2 h3 hf
  go_enter Try.func10, Try.ntmps10
  go_wp2_with fail
  refine (place_any p v l at_ turn left id w H.out).mono ?_
  rintro e w1 ⟨rfl, b1⟩
  rw [HF.out]
  have h1 := H.out.below b1
  have K1 := Lib.hid (Keeps.of_below (S := fun k => k = p ∨ v.ownBlock = some k) b1)
  have hz := Lib.hid b1.size
  obtain ⟨A, cap, rfl, hlc, hcm⟩ := h1.2.1.form
  have c0 := h1.1.cell 0
  simp at c0
  have fz := fun i => h1.1.frozen i
  have hpl := h1.1.lt
  have H1 := Lib.hid h1
  clear b1 h1 HF
  unfold maxLen at hcm
  go_wp2_with (at_builtin; refine wpList_append_sl (by rfl) _ _ _ (by rfl) 55 i0 _ 2 16 Try.underlying47 hi0 hz0 hz1 hz2 rfl (by omega) _ l.length (memCells l) (by rfl) (H1.out.2.1.alloc _) _ 1 1 [.int .i64 wt, .int .i64 id] (by rfl) (by rfl) (World.news_of_block (cs := #[.int .i64 wt, .int .i64 id]) (t := 55) (fr := (0, 0)) (heap_alloc_new _ _)) (by simp [Value.oneCell']) (by omega) (by unfold maxLen; omega) (by omega) ?_; intro v1 w2 hS hK1 hO1; obtain ⟨A1, c1, rfl, hc1, hc2⟩ := hS.form; have hbp : Blk w2 p 49 #[.slice A l.length cap, .int .i64 at_, .bool turn, .int .i64 left] := (hK1.block p (by simp; omega) H1.out.2.2.1).trans ((Below.heap_alloc w1 _ p hpl).trans H1.out.1); have q0 : w2.cell? ⟨p, 0, none⟩ = some (.slice A l.length cap) := hbp.cell 0; have qf : w2.frozen? ⟨p, 0, none⟩ = false := hbp.frozen 0; have HS := Lib.hid hS; have HK1 := Lib.hid hK1; have HO1 := Lib.hid hO1; have HBP := Lib.hid hbp; clear hS hK1 hO1 hbp)
  go_ret
  refine ⟨rfl, .slice A1 (l.length + 1) c1, ?_, ?_, ?_⟩
  · have hnp : (Value.slice A1 (l.length + 1) c1).ownBlock ≠ some p := by
      rcases HO1.out with h | ⟨g, h, hg⟩
      · rw [h]; exact H1.out.2.2.1
      · rw [h]; intro e; injection e with e; simp at hg; omega
    have hkc : Keeps (· = p) w2 (w2.setCell ⟨p, 0, none⟩ (.slice A1 (l.length + 1) c1)) := (Keeps.refl (· = p) w2).setCell (p := ⟨p, 0, none⟩) rfl _
    refine ⟨HBP.out.set_ 0 _, ?_, hnp, fun g hg => ?_⟩
    · have e : memCells (l ++ [(wt, id)]) = memCells l ++ [.int .i64 wt, .int .i64 id] := by rw [memCells_app]; rfl
      rw [e, List.length_append]
      exact HS.out.keeps hkc fun g hg e => hnp (by rw [hg, e])
    · obtain ⟨g', off, cap', hv, _, _, hlt, _⟩ := HS.out.at_ (by omega)
      rw [hv] at hg
      injection hg with hg
      subst hg
      simpa [World.setCell] using hlt
  · refine ((K1.out.trans (Keeps.of_below ((Below.refl _ _).alloc (Nat.le_refl _) _))).trans' HK1.out (fun x _ hv => .inr hv)).setCell (p := ⟨p, 0, none⟩) (.inl rfl) _
  · rcases HO1.out with h | ⟨g, h, hg⟩
    · exact .inl h
    · exact .inr ⟨g, h, by have := hz.out; simp at hg; omega⟩
end Go.Proofs.Ytgfcfpoebmlppaa
