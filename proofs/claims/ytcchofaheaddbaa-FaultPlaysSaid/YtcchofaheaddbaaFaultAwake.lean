/- Package fault: what its laws' awake answers. -/
import Derived.Test.YtcchofaheaddbaaPush
namespace Go.Proofs.Ytcchofaheaddbaa
open Go.ChangeShapes Go.WideShapes Go.ChangeAt Go.RowKit
set_option linter.unusedVariables false
set_option linter.unusedSimpArgs false
theorem RdF.of_blk {w : World} {g cap : Nat} {cs : Array Value} {l : List Flt} (h : Blk w g 23 cs) (hc : cs.toList = fltCells l) (hm : l.length ≤ maxLen) : RdF w (.slice (some ⟨g, 0, none⟩) l.length cap) l :=
  ⟨_, cap, rfl, hm, fun _ => ⟨g, 0, rfl, h.lt, fun j u hu => by rw [Nat.zero_add, h.cell]; rw [← hc] at hu; simpa using hu⟩⟩
set_option maxRecDepth 100000 in
theorem awake17 (w : World) : Calls Try.prog 7 #[] w fun e w' => e = .returned (.bool true) ∧ Below w.heap.size w w' := by
  have e1 := Lib.hid (show pushS [] [(1, 0), (9, 0)] = [(1, 0)] by decide)
  go_enter Try.func7, Try.ntmps7
  go_wp2_with fail
  refine (new_any w).mono ?_
  rintro e w1 ⟨rfl, h1, b1⟩
  obtain ⟨r, hr⟩ : ∃ r, w.heap.size = r := ⟨_, rfl⟩
  rw [hr] at h1 b1 ⊢
  have HR := Lib.hid hr
  clear hr
  go_wp2_with fail
  have hr1 := lt_of_block h1.1
  have hB := (Below.refl w1.heap.size w1).alloc (Nat.le_refl _) (.cells #[.int .i64 1, .int .i64 0, .int .i64 9, .int .i64 0] 23)
  have h2 := planAt_below h1 hB
  have q2 : Blk (w1.alloc (.cells #[.int .i64 1, .int .i64 0, .int .i64 9, .int .i64 0] 23)) w1.heap.size 23 #[.int .i64 1, .int .i64 0, .int .i64 9, .int .i64 0] := heap_alloc_new w1 _
  have b2 : Below r w (w1.alloc (.cells #[.int .i64 1, .int .i64 0, .int .i64 9, .int .i64 0] 23)) := b1.trans (hB.mono (by omega))
  refine (push_any r (.slice none 0 0) _ [] [(1, 0), (9, 0)] _ h2 (RdF.of_blk (l := [(1, 0), (9, 0)]) q2 rfl (by decide)) (by simp [Value.ownBlock]; omega) (by simp [Value.ownBlock]) (by decide)).mono ?_
  rintro e w3 ⟨rfl, v3, h3, k3, o3⟩
  rw [e1.out] at h3 ⊢
  have b3 : Below r w w3 := Keeps.below b2 k3 (by simp; omega) (by intro x hx e; simp [Value.ownBlock] at e; omega)
  have H3 := Lib.hid h3
  have B3 := Lib.hid b3
  have hr3 := Lib.hid (lt_of_block h3.1)
  clear h1 hB h2 q2 b2 k3 o3 h3 b3 b1 hr1
  go_wp2_with fail
  refine (next_yes r v3 (1, 0) [] w3 H3.out).mono ?_
  rintro e w4 ⟨rfl, v4, h4, o4, k4⟩
  have b4 : Below r w w4 := Keeps.below B3.out k4 (by have := hr3.out; omega) (by intro x hx e; omega)
  have hr4 := lt_of_block h4.1
  have hB4 := (Below.refl w4.heap.size w4).alloc (Nat.le_refl _) (.cells #[.int .i64 1, .int .i64 0] 23)
  have h5 := planAt_below h4 hB4
  have b5 : Below r w (w4.alloc (.cells #[.int .i64 1, .int .i64 0] 23)) := b4.trans (hB4.mono (by omega))
  have H5 := Lib.hid h5
  have B5 := Lib.hid b5
  clear h4 o4 k4 b4 hr4 hB4 h5 b5 H3 B3 hr3
  simp only [fltV]
  go_wp2_with fail
  refine (len_any r v4 [] _ H5.out).mono ?_
  rintro e w6 ⟨rfl, rfl⟩
  go_wp2_with fail
  go_ret
  have e := HR.out
  subst e
  exact ⟨rfl, B5.out⟩
end Go.Proofs.Ytcchofaheaddbaa
