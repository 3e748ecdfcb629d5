/- Which configs may be: the document's May. -/
import Derived.Test.YtolmkafmlblnoaaBoundD
namespace Go.Proofs.Ytolmkafmlblnoaa
open Go.ChangeShapes Go.WideShapes Go.ChangeAt Go.RowKit
set_option linter.unusedVariables false
set_option linter.unusedSimpArgs false
theorem gg (p : Prop) [Decidable p] {R : Prop} (h : ¬ p → R) : p ∨ ¬ p ∧ R := by
  by_cases hp : p
  · exact .inl hp
  · exact .inr ⟨hp, h hp⟩
set_option maxRecDepth 100000 in
set_option maxHeartbeats 4000000 in
theorem rmayc_any (a b c d e f g h i j : Int) (w : World) :
    Calls Try.prog 22 #[confV a b c d e f g h i j] w fun e' w' => e' = .returned (.bool (mayC a b c d e f g h i j)) ∧ Below w.heap.size w w' := by
  unfold confV
  obtain ⟨p, hp⟩ : ∃ p : Int, (2 : Int) ^ a.toNat = p := ⟨_, rfl⟩
  have hpb : 1 ≤ a → a ≤ 8 → 2 ≤ p ∧ p ≤ 256 := fun h h' => by rw [← hp]; exact pow_bd a h h'
  have HP := Lib.hid hpb
  have HM := Lib.hid (show mayC a b c d e f g h i j = (inB a 1 8 && inB b 0 (p - 1) && inB c 64 65536 && inB d 1 64 && inB e 1 64 && inB f 1 64 && mayB g h i && decide (1 ≤ j) && decide (j ≤ 1073741824)) by rw [← hp]; rfl)
  have HB := Lib.hid ((Below.refl w.heap.size w).alloc (Nat.le_refl _) (.cells #[.int .i64 a, .int .i64 b, .int .i64 c, .int .i64 d, .int .i64 e, .int .i64 f, .int .i64 g, .int .i64 h, .int .i64 i, .int .i64 j] 23))
  clear hpb
  rcases gg (a < 1) (fun _ => gg (8 < a) (fun _ => gg (b < 0) (fun _ => gg (p ≤ b) (fun _ => gg (c < 64) (fun _ => gg (65536 < c) (fun _ => gg (d < 1) (fun _ => gg (64 < d) (fun _ => trivial)))))))) with h0 | ⟨h0, h1 | ⟨h1, h2 | ⟨h2, h3 | ⟨h3, h4 | ⟨h4, h5 | ⟨h5, h6 | ⟨h6, h7 | ⟨h7, _⟩⟩⟩⟩⟩⟩⟩⟩
  · have hpb := HP.out
    have f0 : decide (a < 1) = true := decide_eq_true h0
    clear hpb
    go_enter Try.func22, Try.ntmps22
    go_wp2
    all_goals
      go_ret
      exact ⟨ret_bool (by rw [HM.out]; simp only [inB]; symm; simp; omega), HB.out⟩
  · have hpb := HP.out
    have f1 : decide (8 < a) = true := decide_eq_true h1
    have f0 : decide (a < 1) = false := decide_eq_false h0
    clear hpb
    go_enter Try.func22, Try.ntmps22
    go_wp2
    all_goals
      go_ret
      exact ⟨ret_bool (by rw [HM.out]; simp only [inB]; symm; simp; omega), HB.out⟩
  · have hpb := HP.out
    have f2 : decide (b < 0) = true := decide_eq_true h2
    have f0 : decide (a < 1) = false := decide_eq_false h0
    have f1 : decide (8 < a) = false := decide_eq_false h1
    clear hpb
    go_enter Try.func22, Try.ntmps22
    go_wp2
    all_goals
      go_ret
      exact ⟨ret_bool (by rw [HM.out]; simp only [inB]; symm; simp; omega), HB.out⟩
  · have hpb := HP.out
    have f3 : decide (p ≤ b) = true := decide_eq_true h3
    have f0 : decide (a < 1) = false := decide_eq_false h0
    have f1 : decide (8 < a) = false := decide_eq_false h1
    have f2 : decide (b < 0) = false := decide_eq_false h2
    have hpb2 := hpb (by omega) (by omega)
    have hw1 : IntKind.i64.wrap p = p := IntWalk.i64_in _ (by omega)
    clear hpb
    go_enter Try.func22, Try.ntmps22
    go_wp2
    all_goals
      go_ret
      exact ⟨ret_bool (by rw [HM.out]; simp only [inB]; symm; simp; omega), HB.out⟩
  · have hpb := HP.out
    have f4 : decide (c < 64) = true := decide_eq_true h4
    have f0 : decide (a < 1) = false := decide_eq_false h0
    have f1 : decide (8 < a) = false := decide_eq_false h1
    have f2 : decide (b < 0) = false := decide_eq_false h2
    have f3 : decide (p ≤ b) = false := decide_eq_false h3
    have hpb2 := hpb (by omega) (by omega)
    have hw1 : IntKind.i64.wrap p = p := IntWalk.i64_in _ (by omega)
    clear hpb
    go_enter Try.func22, Try.ntmps22
    go_wp2
    all_goals
      go_ret
      exact ⟨ret_bool (by rw [HM.out]; simp only [inB]; symm; simp; omega), HB.out⟩
  · have hpb := HP.out
    have f5 : decide (65536 < c) = true := decide_eq_true h5
    have f0 : decide (a < 1) = false := decide_eq_false h0
    have f1 : decide (8 < a) = false := decide_eq_false h1
    have f2 : decide (b < 0) = false := decide_eq_false h2
    have f3 : decide (p ≤ b) = false := decide_eq_false h3
    have f4 : decide (c < 64) = false := decide_eq_false h4
    have hpb2 := hpb (by omega) (by omega)
    have hw1 : IntKind.i64.wrap p = p := IntWalk.i64_in _ (by omega)
    clear hpb
    go_enter Try.func22, Try.ntmps22
    go_wp2
    all_goals
      go_ret
      exact ⟨ret_bool (by rw [HM.out]; simp only [inB]; symm; simp; omega), HB.out⟩
  · have hpb := HP.out
    have f6 : decide (d < 1) = true := decide_eq_true h6
    have f0 : decide (a < 1) = false := decide_eq_false h0
    have f1 : decide (8 < a) = false := decide_eq_false h1
    have f2 : decide (b < 0) = false := decide_eq_false h2
    have f3 : decide (p ≤ b) = false := decide_eq_false h3
    have f4 : decide (c < 64) = false := decide_eq_false h4
    have f5 : decide (65536 < c) = false := decide_eq_false h5
    have hpb2 := hpb (by omega) (by omega)
    have hw1 : IntKind.i64.wrap p = p := IntWalk.i64_in _ (by omega)
    clear hpb
    go_enter Try.func22, Try.ntmps22
    go_wp2
    all_goals
      go_ret
      exact ⟨ret_bool (by rw [HM.out]; simp only [inB]; symm; simp; omega), HB.out⟩
  · have hpb := HP.out
    have f7 : decide (64 < d) = true := decide_eq_true h7
    have f0 : decide (a < 1) = false := decide_eq_false h0
    have f1 : decide (8 < a) = false := decide_eq_false h1
    have f2 : decide (b < 0) = false := decide_eq_false h2
    have f3 : decide (p ≤ b) = false := decide_eq_false h3
    have f4 : decide (c < 64) = false := decide_eq_false h4
    have f5 : decide (65536 < c) = false := decide_eq_false h5
    have f6 : decide (d < 1) = false := decide_eq_false h6
    have hpb2 := hpb (by omega) (by omega)
    have hw1 : IntKind.i64.wrap p = p := IntWalk.i64_in _ (by omega)
    clear hpb
    go_enter Try.func22, Try.ntmps22
    go_wp2
    all_goals
      go_ret
      exact ⟨ret_bool (by rw [HM.out]; simp only [inB]; symm; simp; omega), HB.out⟩
  · have hpb2 := HP.out (by omega) (by omega)
    have hw1 : IntKind.i64.wrap p = p := IntWalk.i64_in _ (by omega)
    have f0 : decide (a < 1) = false := decide_eq_false h0
    have f1 : decide (8 < a) = false := decide_eq_false h1
    have f2 : decide (b < 0) = false := decide_eq_false h2
    have f3 : decide (p ≤ b) = false := decide_eq_false h3
    have f4 : decide (c < 64) = false := decide_eq_false h4
    have f5 : decide (65536 < c) = false := decide_eq_false h5
    have f6 : decide (d < 1) = false := decide_eq_false h6
    have f7 : decide (64 < d) = false := decide_eq_false h7
    have HI := Lib.hid (show inB a 1 8 = true ∧ inB b 0 (p - 1) = true ∧ inB c 64 65536 = true ∧ inB d 1 64 = true by simp [inB]; omega)
    rcases gg (¬ (1 ≤ e)) (fun _ => gg (¬ (e ≤ 64)) (fun _ => gg (¬ (1 ≤ f)) (fun _ => gg (¬ (f ≤ 64)) (fun _ => gg (¬ (mayB g h i = true)) (fun _ => gg (¬ (1 ≤ j)) (fun _ => gg (¬ (j ≤ 1073741824)) (fun _ => trivial))))))) with k0 | ⟨k0, k1 | ⟨k1, k2 | ⟨k2, k3 | ⟨k3, k4 | ⟨k4, k5 | ⟨k5, k6 | ⟨k6, _⟩⟩⟩⟩⟩⟩⟩
    ·
      have g0 : decide (1 ≤ e) = false := decide_eq_false k0
      go_enter Try.func22, Try.ntmps22
      go_wp2_with (go_at_call 29; refine (rmayb_any _ _ _ _).mono ?_; rintro e w' ⟨rfl, rfl⟩)
      all_goals
        go_ret
        obtain ⟨i0, i1, i2, i3⟩ := HI.out
        exact ⟨ret_bool (by rw [HM.out, i0, i1, i2, i3]; simp only [inB]; (try rw [g4]); symm; simp; omega), HB.out⟩
    ·
      have g0 : decide (1 ≤ e) = true := decide_eq_true (by omega)
      have g1 : decide (e ≤ 64) = false := decide_eq_false k1
      go_enter Try.func22, Try.ntmps22
      go_wp2_with (go_at_call 29; refine (rmayb_any _ _ _ _).mono ?_; rintro e w' ⟨rfl, rfl⟩)
      all_goals
        go_ret
        obtain ⟨i0, i1, i2, i3⟩ := HI.out
        exact ⟨ret_bool (by rw [HM.out, i0, i1, i2, i3]; simp only [inB]; (try rw [g4]); symm; simp; omega), HB.out⟩
    ·
      have g0 : decide (1 ≤ e) = true := decide_eq_true (by omega)
      have g1 : decide (e ≤ 64) = true := decide_eq_true (by omega)
      have g2 : decide (1 ≤ f) = false := decide_eq_false k2
      go_enter Try.func22, Try.ntmps22
      go_wp2_with (go_at_call 29; refine (rmayb_any _ _ _ _).mono ?_; rintro e w' ⟨rfl, rfl⟩)
      all_goals
        go_ret
        obtain ⟨i0, i1, i2, i3⟩ := HI.out
        exact ⟨ret_bool (by rw [HM.out, i0, i1, i2, i3]; simp only [inB]; (try rw [g4]); symm; simp; omega), HB.out⟩
    ·
      have g0 : decide (1 ≤ e) = true := decide_eq_true (by omega)
      have g1 : decide (e ≤ 64) = true := decide_eq_true (by omega)
      have g2 : decide (1 ≤ f) = true := decide_eq_true (by omega)
      have g3 : decide (f ≤ 64) = false := decide_eq_false k3
      go_enter Try.func22, Try.ntmps22
      go_wp2_with (go_at_call 29; refine (rmayb_any _ _ _ _).mono ?_; rintro e w' ⟨rfl, rfl⟩)
      all_goals
        go_ret
        obtain ⟨i0, i1, i2, i3⟩ := HI.out
        exact ⟨ret_bool (by rw [HM.out, i0, i1, i2, i3]; simp only [inB]; (try rw [g4]); symm; simp; omega), HB.out⟩
    ·
      have g0 : decide (1 ≤ e) = true := decide_eq_true (by omega)
      have g1 : decide (e ≤ 64) = true := decide_eq_true (by omega)
      have g2 : decide (1 ≤ f) = true := decide_eq_true (by omega)
      have g3 : decide (f ≤ 64) = true := decide_eq_true (by omega)
      have g4 : mayB g h i = false := by simpa using k4
      go_enter Try.func22, Try.ntmps22
      go_wp2_with (go_at_call 29; refine (rmayb_any _ _ _ _).mono ?_; rintro e w' ⟨rfl, rfl⟩)
      all_goals
        go_ret
        obtain ⟨i0, i1, i2, i3⟩ := HI.out
        exact ⟨ret_bool (by rw [HM.out, i0, i1, i2, i3]; simp only [inB]; (try rw [g4]); simp), HB.out⟩
    ·
      have g0 : decide (1 ≤ e) = true := decide_eq_true (by omega)
      have g1 : decide (e ≤ 64) = true := decide_eq_true (by omega)
      have g2 : decide (1 ≤ f) = true := decide_eq_true (by omega)
      have g3 : decide (f ≤ 64) = true := decide_eq_true (by omega)
      have g4 : mayB g h i = true := by simpa using k4
      have g5 : decide (1 ≤ j) = false := decide_eq_false k5
      go_enter Try.func22, Try.ntmps22
      go_wp2_with (go_at_call 29; refine (rmayb_any _ _ _ _).mono ?_; rintro e w' ⟨rfl, rfl⟩)
      all_goals
        go_ret
        obtain ⟨i0, i1, i2, i3⟩ := HI.out
        exact ⟨ret_bool (by rw [HM.out, i0, i1, i2, i3]; simp only [inB]; (try rw [g4]); symm; simp; omega), HB.out⟩
    ·
      have g0 : decide (1 ≤ e) = true := decide_eq_true (by omega)
      have g1 : decide (e ≤ 64) = true := decide_eq_true (by omega)
      have g2 : decide (1 ≤ f) = true := decide_eq_true (by omega)
      have g3 : decide (f ≤ 64) = true := decide_eq_true (by omega)
      have g4 : mayB g h i = true := by simpa using k4
      have g5 : decide (1 ≤ j) = true := decide_eq_true (by omega)
      have g6 : decide (j ≤ 1073741824) = false := decide_eq_false k6
      go_enter Try.func22, Try.ntmps22
      go_wp2_with (go_at_call 29; refine (rmayb_any _ _ _ _).mono ?_; rintro e w' ⟨rfl, rfl⟩)
      all_goals
        go_ret
        obtain ⟨i0, i1, i2, i3⟩ := HI.out
        exact ⟨ret_bool (by rw [HM.out, i0, i1, i2, i3]; simp only [inB]; (try rw [g4]); symm; simp; omega), HB.out⟩
    ·
      have g0 : decide (1 ≤ e) = true := decide_eq_true (by omega)
      have g1 : decide (e ≤ 64) = true := decide_eq_true (by omega)
      have g2 : decide (1 ≤ f) = true := decide_eq_true (by omega)
      have g3 : decide (f ≤ 64) = true := decide_eq_true (by omega)
      have g4 : mayB g h i = true := by simpa using k4
      have g5 : decide (1 ≤ j) = true := decide_eq_true (by omega)
      have g6 : decide (j ≤ 1073741824) = true := decide_eq_true (by omega)
      go_enter Try.func22, Try.ntmps22
      go_wp2_with (go_at_call 29; refine (rmayb_any _ _ _ _).mono ?_; rintro e w' ⟨rfl, rfl⟩)
      all_goals
        go_ret
        obtain ⟨i0, i1, i2, i3⟩ := HI.out
        exact ⟨ret_bool (by rw [HM.out, i0, i1, i2, i3]; simp only [inB]; (try rw [g4]); simp; omega), HB.out⟩
end Go.Proofs.Ytolmkafmlblnoaa
