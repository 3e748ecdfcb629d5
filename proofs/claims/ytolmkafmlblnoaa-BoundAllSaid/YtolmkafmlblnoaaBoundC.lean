/- Package bound: work, waits. -/
import Derived.Test.YtolmkafmlblnoaaBoundB
namespace Go.Proofs.Ytolmkafmlblnoaa
open Go.ChangeShapes Go.WideShapes Go.ChangeAt Go.RowKit
set_option linter.unusedVariables false
set_option linter.unusedSimpArgs false
theorem sum5_any (a b c d e : Int) (t : TypeId) (w : World) (B : Nat) (hB : w.heap.size = B) (cap : Nat) (S : Int) (h0 : 0 ≤ a ∧ a < 4611686018427387904) (h1 : 0 ≤ b ∧ b < 1152921504606846976) (h2 : 0 ≤ c ∧ c < 1152921504606846976) (h3 : 0 ≤ d ∧ d < 1152921504606846976) (h4 : 0 ≤ e ∧ e < 1152921504606846976) (hS : a + b + c + d + e = S) :
    Calls Try.prog 19 #[.slice (some ⟨B, 0, none⟩) 5 cap] (w.alloc (.cells #[.int .i64 a, .int .i64 b, .int .i64 c, .int .i64 d, .int .i64 e] t)) fun e' w' => e' = .returned (.int .i64 S) ∧ w.alloc (.cells #[.int .i64 a, .int .i64 b, .int .i64 c, .int .i64 d, .int .i64 e] t) = w' := by
  subst hB hS
  refine (sum_any w.heap.size [a, b, c, d, e] _ (by simp) (by simp) (fun k hk => cellsS w t [a, b, c, d, e] _ rfl k hk) cap).mono ?_
  rintro e w' ⟨rfl, rfl⟩
  refine ⟨ret_int ?_, rfl⟩
  simp only [sumS, List.foldl]
  simp only [wrap64]
  omega
theorem work_any (u r q : Int) (t : Bool) (c f wt : Int) (w : World) (hm : mayL u r q c f wt = true) :
    Calls Try.prog 20 #[loadV u r q t c f wt] w fun e w' => e = .returned (.int .i64 (workS u r q t c)) ∧ Below w.heap.size w w' := by
  unfold loadV
  simp only [mayL, decide_eq_true_eq] at hm
  cases t
  all_goals
    go_enter Try.func20, Try.ntmps20
    go_wp2_with fail
    refine (sum5_any _ _ _ _ _ _ _ _ (by simp) _ _ (by omega) (by omega) (by omega) (by omega) (by omega) rfl).mono ?_
    rintro e w1 ⟨rfl, rfl⟩
    go_wp2_with fail
    go_ret
    exact ⟨ret_int (by simp only [workS, if_true, if_false, Bool.false_eq_true] <;> first | done | omega), ((Below.refl _ _).alloc (Nat.le_refl _) _).alloc (by simp) _⟩
end Go.Proofs.Ytolmkafmlblnoaa
