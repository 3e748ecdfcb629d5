/- Numbers out of wild ones. -/
import Derived.Test.YtkicnjbidbfajaaOwn
namespace Go.Proofs.Ytkicnjbidbfajaa
open Go.ChangeShapes Go.WideShapes Go.ChangeAt Go.RowKit
set_option linter.unusedVariables false
theorem mod_any (v n : Int) (w : World) (h0 : 1 ≤ n) (h1 : n ≤ 9223372036854775807) :
    Calls Try.prog 21 #[.int .i64 v, .int .i64 n] w fun e w' => e = .returned (.int .i64 (bigS v n)) ∧ w = w' := by
  have HF := Lib.hid (bigS_walk v n h0 h1)
  go_enter Try.func21, Try.ntmps21
  go_wp2
  all_goals go_ret
  exact ⟨ret_int HF.out, rfl⟩
theorem big_any (v n : Int) (w : World) (h0 : 1 ≤ n) (h1 : n ≤ 9223372036854775807) :
    Calls Try.prog 50 #[.int .i64 v, .int .i64 n] w fun e w' => e = .returned (.int .i64 (bigS v n)) ∧ w = w' := by
  have HF := Lib.hid (bigS_walk v n h0 h1)
  go_enter Try.func50, Try.ntmps50
  go_wp2
  all_goals go_ret
  exact ⟨ret_int HF.out, rfl⟩
end Go.Proofs.Ytkicnjbidbfajaa
