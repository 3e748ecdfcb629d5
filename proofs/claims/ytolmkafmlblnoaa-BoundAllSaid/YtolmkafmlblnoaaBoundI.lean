/- The statements' own loads and configs; what their awake answers. -/
import Derived.Test.YtolmkafmlblnoaaBoundH
namespace Go.Proofs.Ytolmkafmlblnoaa
open Go.ChangeShapes Go.WideShapes Go.ChangeAt Go.RowKit
set_option linter.unusedVariables false
set_option linter.unusedSimpArgs false
def LdIn (x : Nat) (cs ls : Array Value) (w0 w : World) : Prop := Blk w x 25 cs ∧ Blk w (x + 1) 25 ls ∧ Below x w0 w
theorem LdIn.mk0 (w : World) (cs ls : Array Value) : LdIn w.heap.size cs ls w ((w.alloc (.cells cs 25)).alloc (.cells ls 25)).drew :=
  ⟨(Blk.new w _ _).alloc _, alloc2_new _ _ _, (((Below.refl _ _).alloc (Nat.le_refl _) _).alloc (by simp) _).drew⟩
theorem ldS_may (u r q c f wt : Int) : mayL (bigS u 1048577) (bigS r 1048577) (bigS q 1048577) (bigS c 1048577) (bigS f 1048577) (bigS wt 2147483649) = true := by
  have h0 := bigS_bd u 1048577 (by decide)
  have h1 := bigS_bd r 1048577 (by decide)
  have h2 := bigS_bd q 1048577 (by decide)
  have h3 := bigS_bd c 1048577 (by decide)
  have h4 := bigS_bd f 1048577 (by decide)
  have h5 := bigS_bd wt 2147483649 (by decide)
  simp only [mayL, decide_eq_true_eq]; omega
@[go_sem] def ldS (u r q : Int) (t : Bool) (c f wt : Int) : Value := loadV (bigS u 1048577) (bigS r 1048577) (bigS q 1048577) t (bigS c 1048577) (bigS f 1048577) (bigS wt 2147483649)
set_option maxRecDepth 100000 in
set_option maxHeartbeats 1000000 in
theorem load_any (u r q : Int) (t : Bool) (c f wt : Int) (w : World) :
    Calls Try.prog 7 #[loadV u r q t c f wt] w fun e w' => e = .returned (ldS u r q t c f wt) ∧ Below w.heap.size w w' := by
  unfold ldS loadV
  have HI0 := Lib.hid (LdIn.mk0 w #[.int .i64 u, .int .i64 r, .int .i64 q, .bool t, .int .i64 c, .int .i64 f, .int .i64 wt] #[.int .i64 0, .int .i64 0, .int .i64 0, .bool false, .int .i64 0, .int .i64 0, .int .i64 0])
  go_enter Try.func7, Try.ntmps7
  go_wp2_with fail
  obtain ⟨x, hx⟩ : ∃ x, w.heap.size = x := ⟨_, rfl⟩
  have hI := HI0.out
  rw [hx] at hI ⊢
  have HX := Lib.hid hx
  generalize World.alloc (World.alloc w _) _ = W at hI ⊢
  have HI := Lib.hid hI
  clear hx HI0 hI
  have hne : Nonempty (WIn (LdIn x #[.int .i64 u, .int .i64 r, .int .i64 q, .bool t, .int .i64 c, .int .i64 f, .int .i64 wt] #[.int .i64 0, .int .i64 0, .int .i64 0, .bool false, .int .i64 0, .int .i64 0, .int .i64 0] w)) := ⟨⟨_, HI.out⟩⟩
  have z0 : ∀ y : WIn (LdIn x #[.int .i64 u, .int .i64 r, .int .i64 q, .bool t, .int .i64 c, .int .i64 f, .int .i64 wt] #[.int .i64 0, .int .i64 0, .int .i64 0, .bool false, .int .i64 0, .int .i64 0, .int .i64 0] w), y.w.cell? ⟨x, 0, none⟩ = some (.int .i64 u) := fun y => y.ok.1.cell 0
  have z1 : ∀ y : WIn (LdIn x #[.int .i64 u, .int .i64 r, .int .i64 q, .bool t, .int .i64 c, .int .i64 f, .int .i64 wt] #[.int .i64 0, .int .i64 0, .int .i64 0, .bool false, .int .i64 0, .int .i64 0, .int .i64 0] w), y.w.cell? ⟨x, 1, none⟩ = some (.int .i64 r) := fun y => y.ok.1.cell 1
  have z2 : ∀ y : WIn (LdIn x #[.int .i64 u, .int .i64 r, .int .i64 q, .bool t, .int .i64 c, .int .i64 f, .int .i64 wt] #[.int .i64 0, .int .i64 0, .int .i64 0, .bool false, .int .i64 0, .int .i64 0, .int .i64 0] w), y.w.cell? ⟨x, 2, none⟩ = some (.int .i64 q) := fun y => y.ok.1.cell 2
  have z3 : ∀ y : WIn (LdIn x #[.int .i64 u, .int .i64 r, .int .i64 q, .bool t, .int .i64 c, .int .i64 f, .int .i64 wt] #[.int .i64 0, .int .i64 0, .int .i64 0, .bool false, .int .i64 0, .int .i64 0, .int .i64 0] w), y.w.cell? ⟨x, 3, none⟩ = some (.bool t) := fun y => y.ok.1.cell 3
  have z4 : ∀ y : WIn (LdIn x #[.int .i64 u, .int .i64 r, .int .i64 q, .bool t, .int .i64 c, .int .i64 f, .int .i64 wt] #[.int .i64 0, .int .i64 0, .int .i64 0, .bool false, .int .i64 0, .int .i64 0, .int .i64 0] w), y.w.cell? ⟨x, 4, none⟩ = some (.int .i64 c) := fun y => y.ok.1.cell 4
  have z5 : ∀ y : WIn (LdIn x #[.int .i64 u, .int .i64 r, .int .i64 q, .bool t, .int .i64 c, .int .i64 f, .int .i64 wt] #[.int .i64 0, .int .i64 0, .int .i64 0, .bool false, .int .i64 0, .int .i64 0, .int .i64 0] w), y.w.cell? ⟨x, 5, none⟩ = some (.int .i64 f) := fun y => y.ok.1.cell 5
  have z6 : ∀ y : WIn (LdIn x #[.int .i64 u, .int .i64 r, .int .i64 q, .bool t, .int .i64 c, .int .i64 f, .int .i64 wt] #[.int .i64 0, .int .i64 0, .int .i64 0, .bool false, .int .i64 0, .int .i64 0, .int .i64 0] w), y.w.cell? ⟨x, 6, none⟩ = some (.int .i64 wt) := fun y => y.ok.1.cell 6
  refine wp_region_qtail2 (LdIn x #[.int .i64 u, .int .i64 r, .int .i64 q, .bool t, .int .i64 c, .int .i64 f, .int .i64 wt] #[.int .i64 0, .int .i64 0, .int .i64 0, .bool false, .int .i64 0, .int .i64 0, .int .i64 0] w) 26 (by kernel_rfl) (by kernel_rfl) HI.out ?_
  repeat (refine wpQ_step (fun K hK => ?_); go_simp; first | (refine hK _ ?_; clear hK K) | (apply Exists.intro; refine ⟨fun _ => ?_, hK _ ?_⟩; (first | (go_at_call 15; exact (mod_any _ _ _ (by omega) (by omega)).mono fun e w' ⟨he, hb⟩ => ⟨he, ⟨_, WIn.ok _⟩, hb.symm⟩) | (go_at_call 16; exact (big_any _ _ _ (by omega) (by omega)).mono fun e w' ⟨he, hb⟩ => ⟨he, ⟨_, WIn.ok _⟩, hb.symm⟩)); clear hK K))
  refine wpQ_nil ?_
  intro Y
  obtain ⟨y1, y2, y3⟩ := Y.ok
  clear z0 z1 z2 z3 z4 z5 z6 HI hne
  generalize Y.w = W2 at *
  clear Y
  refine wpList_store_row rfl 25 (.tmp 2) (.tmp 29) rfl (x + 1) _ rfl rfl 25 _ y2 (by kernel_rfl) rfl (by simp [Value.oneCell']) ?_
  simp only [Act.put]
  have HE := Lib.hid (y2.row #[.int .i64 (bigS u 1048577), .int .i64 (bigS r 1048577), .int .i64 (bigS q 1048577), .bool t, .int .i64 (bigS c 1048577), .int .i64 (bigS f 1048577), .int .i64 (bigS wt 2147483649)])
  have HB := Lib.hid (below_setRow y3 (show x ≤ x + 1 by omega) #[.int .i64 (bigS u 1048577), .int .i64 (bigS r 1048577), .int .i64 (bigS q 1048577), .bool t, .int .i64 (bigS c 1048577), .int .i64 (bigS f 1048577), .int .i64 (bigS wt 2147483649)])
  generalize World.setRow W2 _ _ = w6 at HE HB ⊢
  go_wp2_with fail
  exact bodyPost_ret (results_cell_row rfl _ _ (x + 1) 25 _ (0, 0) _ rfl HE.out Try.underlying25 rfl (by kernel_rfl)) rfl ⟨rfl, by first | exact HB.out | (rw [HX.out]; exact HB.out)⟩
theorem conf0_any (w : World) :
    Calls Try.prog 26 #[] w fun e w' => e = .returned (confV 1 0 64 4 2 2 1 8 3 5) ∧ Below w.heap.size w w' := by
  unfold confV
  go_enter Try.func26, Try.ntmps26
  go_wp2
  exact bodyPost_ret (v := .agg #[.int .i64 1, .int .i64 0, .int .i64 64, .int .i64 4, .int .i64 2, .int .i64 2, .int .i64 1, .int .i64 8, .int .i64 3, .int .i64 5]) (by simp [results, Try.results26, go_sem]) rfl ⟨rfl, (Below.refl _ _).alloc (Nat.le_refl _) _⟩
set_option maxRecDepth 100000 in
theorem awake33 (w : World) : Calls Try.prog 12 #[] w fun e w' => e = .returned (.bool true) ∧ Below w.heap.size w w' := by
  have HC := Lib.hid (show costS 2 = 28 by decide)
  have h1 := Lib.hid (fun w => rounds_any 1 0 64 4 2 2 1 8 3 5 0 0 0 false 0 0 0 w)
  have h2 := Lib.hid (fun w => rounds_any 1 0 64 4 2 2 1 8 3 5 1 1 1 true 1 1 1 w)
  have h3 := Lib.hid (fun w => lag_any 1 0 64 4 2 2 1 8 3 5 0 0 0 false 0 0 0 0 w)
  have q1 : roundsS 1 0 64 4 2 2 1 8 3 5 0 0 0 false 0 0 0 = 8 := by decide
  have q2 : roundsS 1 0 64 4 2 2 1 8 3 5 1 1 1 true 1 1 1 = 44 := by decide
  have q3 : lagS 1 0 64 4 2 2 1 8 3 5 0 0 0 false 0 0 0 0 = 52 := by decide
  rw [q1] at h1
  rw [q2] at h2
  rw [q3] at h3
  clear q1 q2 q3
  go_enter Try.func12, Try.ntmps12
  go_wp2_with fail
  refine (cost_any 2 _).mono ?_
  rintro e w1 ⟨rfl, b1⟩
  rw [HC.out]
  go_wp2_with fail
  refine (conf0_any _).mono ?_
  rintro e w2 ⟨rfl, b2⟩
  have c2 := Lib.hid (b1.trans (b2.mono b1.size))
  clear b1 b2
  go_wp2_with fail
  refine (h1.out _).mono ?_
  rintro e w3 ⟨rfl, b3⟩
  have c3 := Lib.hid (c2.out.trans (b3.mono c2.out.size))
  clear b3 c2
  go_wp2_with fail
  refine (conf0_any _).mono ?_
  rintro e w4 ⟨rfl, b4⟩
  have c4 := Lib.hid (c3.out.trans (b4.mono c3.out.size))
  clear b4 c3
  go_wp2_with fail
  refine (h2.out _).mono ?_
  rintro e w5 ⟨rfl, b5⟩
  have c5 := Lib.hid (c4.out.trans (b5.mono c4.out.size))
  clear b5 c4
  go_wp2_with fail
  refine (conf0_any _).mono ?_
  rintro e w6 ⟨rfl, b6⟩
  have c6 := Lib.hid (c5.out.trans (b6.mono c5.out.size))
  clear b6 c5
  go_wp2_with fail
  refine (h3.out _).mono ?_
  rintro e w7 ⟨rfl, b7⟩
  have c7 := Lib.hid (c6.out.trans (b7.mono c6.out.size))
  clear b7 c6
  go_wp2_with fail
  go_ret
  exact ⟨rfl, c7.out⟩
end Go.Proofs.Ytolmkafmlblnoaa
