/- Package beat: what its laws' awake answers. -/
import Derived.Test.YtfaohjgobdhbgaaBeatStep
namespace Go.Proofs.Ytfaohjgobdhbgaa
open Go.ChangeShapes Go.WideShapes Go.ChangeAt Go.RowKit
set_option linter.unusedVariables false
set_option linter.unusedSimpArgs false
set_option maxHeartbeats 1000000 in
theorem awake30 (w : World) : Calls Try.prog 9 #[] w fun e w' => e = .returned (.bool true) ∧ Below w.heap.size w w' := by
  have v1 := Lib.hid (show stLsn (0 + 10) 0 9 5 1 = 0 ∧ stDid (0 + 10) 0 9 5 1 = 0 ∧ stDue 10 (0 + 10) 0 9 5 1 = 10 ∧ stLast (0 + 10) 0 9 5 1 = 0 by decide)
  have v2 := Lib.hid (show stLsn 10 0 10 5 1 = 5 ∧ stDid 10 0 10 5 1 = 8 ∧ stDue 10 10 0 10 5 1 = 20 ∧ stLast 10 0 10 5 1 = 5 by decide)
  have v3 := Lib.hid (show stLsn 20 5 20 5 0 = 0 ∧ stDid 20 5 20 5 0 = 9 ∧ stDue 10 20 5 20 5 0 = 30 ∧ stLast 20 5 20 5 0 = 5 by decide)
  go_enter Try.func9, Try.ntmps9
  go_wp2_with fail
  refine (new_ok 10 0 0 w (by decide)).mono ?_
  rintro e w1 ⟨rfl, h1, b1⟩
  obtain ⟨r, hr⟩ : ∃ r, w.heap.size = r := ⟨_, rfl⟩
  rw [hr] at h1 b1 ⊢
  have HR := Lib.hid hr
  clear hr
  go_wp2_with fail
  refine (due_any _ _ _ _ _ h1).mono ?_
  rintro e w2 ⟨rfl, rfl⟩
  go_wp2_with fail
  refine (step_any r 10 (0 + 10) 0 9 5 1 _ h1 (by decide)).mono ?_
  rintro e w2 ⟨rfl, h2, k2⟩
  obtain ⟨e1, e2, e3, e4⟩ := v1.out
  rw [e3, e4] at h2
  rw [e1, e2]
  clear e1 e2 e3 e4 v1
  have hr1 := lt_of_block h1
  have b2 : Below r w w2 := Keeps.below b1 k2 (by omega) (by intro v hv e; omega)
  have B2 := Lib.hid b2
  have hr2 := Lib.hid (lt_of_block h2)
  clear b1 b2 k2 h1
  go_wp2_with fail
  have h2' : beatAt (w2.alloc (.cells #[.int .i64 0, .slice none 0 0, .slice none 0 0] 38)) r 10 10 0 := (Below.heap_alloc w2 _ r hr2.out).trans h2
  have b3' : Below r w (w2.alloc (.cells #[.int .i64 0, .slice none 0 0, .slice none 0 0] 38)) := B2.out.alloc (by have := hr2.out; omega) _
  refine (step_any r 10 10 0 10 5 1 _ h2' (by decide)).mono ?_
  rintro e w3 ⟨rfl, h3, k3⟩
  obtain ⟨e1, e2, e3, e4⟩ := v2.out
  rw [e3, e4] at h3
  rw [e1, e2]
  clear e1 e2 e3 e4 v2 h2
  have b4 : Below r w w3 := Keeps.below b3' k3 (by have := hr2.out; simp; omega) (by intro v hv e; omega)
  clear b3' k3 h2' hr1 hr2 B2
  have hr3 := lt_of_block h3
  have HR3 := Lib.hid hr3
  have H3 := Lib.hid h3
  have B4 := Lib.hid b4
  clear h3 b4 hr3
  go_wp2_with fail
  have n0 : beatAt (w3.alloc (.cells #[.int .i64 5, .slice none 0 0, .slice none 0 0] 38)) r 10 20 5 := (Below.heap_alloc w3 _ r HR3.out).trans H3.out
  have n1 : Blk (w3.alloc (.cells #[.int .i64 5, .slice none 0 0, .slice none 0 0] 38)) w3.heap.size 38 #[.int .i64 5, .slice none 0 0, .slice none 0 0] := heap_alloc_new w3 _
  have n2 : Below r w (w3.alloc (.cells #[.int .i64 5, .slice none 0 0, .slice none 0 0] 38)) := B4.out.alloc (by have := HR3.out; omega) _
  have hxr : w3.heap.size ≠ r := by have := HR3.out; omega
  generalize w3.alloc (.cells #[.int .i64 5, .slice none 0 0, .slice none 0 0] 38) = w4 at *
  generalize w3.heap.size = xb at *
  clear H3 B4 HR3
  refine (step_any r 10 20 5 20 5 0 _ n0 (by decide)).mono ?_
  rintro e w5 ⟨rfl, h5, k5⟩
  obtain ⟨e1, e2, e3, e4⟩ := v3.out
  rw [e3, e4] at h5
  rw [e1, e2]
  clear e1 e2 e3 e4 v3
  have q5 := k5.at_ n1 hxr
  have hr4 := lt_of_block n0
  have b5 : Below r w w5 := Keeps.below n2 k5 (by omega) (by intro v hv e; omega)
  have r0 := Blk.cell q5 0
  have rl := Blk.lt q5
  simp at r0
  have hr5 := lt_of_block h5
  have h6 : beatAt (w5.alloc (.cells #[.int .i64 0, .slice none 0 0, .slice none 0 0] 38)) r 10 30 5 := (Below.heap_alloc w5 _ r hr5).trans h5
  have b6 : Below r w (w5.alloc (.cells #[.int .i64 0, .slice none 0 0, .slice none 0 0] 38)) := b5.alloc (by omega) _
  clear n0 n1 n2 k5 hr4 q5 hr5 h5 b5
  go_wp2_with fail
  refine (last_any _ _ _ _ _ h6).mono ?_
  rintro e w6 ⟨rfl, rfl⟩
  go_wp2_with fail
  go_ret
  have e := HR.out
  subst e
  exact ⟨rfl, b6⟩
end Go.Proofs.Ytfaohjgobdhbgaa
