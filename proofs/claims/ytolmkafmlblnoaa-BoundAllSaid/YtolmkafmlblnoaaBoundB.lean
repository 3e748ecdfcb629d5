/- Package bound: its functions over sum. -/
import Derived.Test.YtolmkafmlblnoaaBound
namespace Go.Proofs.Ytolmkafmlblnoaa
open Go.ChangeShapes Go.WideShapes Go.ChangeAt Go.RowKit
set_option linter.unusedVariables false
set_option linter.unusedSimpArgs false
theorem cellsS (w : World) (t : TypeId) (xs : List Int) (cs : Array Value) (h : cs = (xs.map (Value.int .i64)).toArray) (k : Nat) (hk : k < xs.length) :
    (w.alloc (.cells cs t)).cell? ⟨w.heap.size, k, none⟩ = some (.int .i64 xs[k]) := by
  subst h
  rw [cells_of (heap_alloc_new w _)]
  simp [hk]
theorem sum2_any (a b : Int) (t : TypeId) (w : World) (cap : Nat) (ha : -9223372036854775808 ≤ a ∧ a ≤ 9223372036854775807) :
    Calls Try.prog 19 #[.slice (some ⟨w.heap.size, 0, none⟩) 2 cap] (w.alloc (.cells #[.int .i64 a, .int .i64 b] t)) fun e w' => e = .returned (.int .i64 (wrap64 (a + b))) ∧ w.alloc (.cells #[.int .i64 a, .int .i64 b] t) = w' := by
  refine (sum_any w.heap.size [a, b] _ (by simp) (by simp) (fun k hk => cellsS w t [a, b] _ rfl k hk) cap).mono ?_
  rintro e w' ⟨rfl, rfl⟩
  refine ⟨ret_int ?_, rfl⟩
  simp only [sumS, List.foldl]
  rw [show (0 : Int) + a = a by omega, wrap64_of a ha.1 ha.2]
theorem cost_any (n : Int) (w : World) :
    Calls Try.prog 13 #[.int .i64 n] w fun e w' => e = .returned (.int .i64 (costS n)) ∧ Below w.heap.size w w' := by
  have h3 : n < 0 ∧ ¬ 16 < n ∨ ¬ n < 0 ∧ ¬ 16 < n ∨ ¬ n < 0 ∧ 16 < n := by omega
  rcases h3 with ⟨h1, h2⟩ | ⟨h1, h2⟩ | ⟨h1, h2⟩
  all_goals
    go_enter Try.func13, Try.ntmps13
    go_wp2_with fail
    refine (sum2_any _ _ _ _ _ (by omega)).mono ?_
    rintro e w1 ⟨rfl, rfl⟩
    go_wp2_with fail
    go_ret
    exact ⟨ret_int (by unfold costS wrap64; omega), (Below.refl _ _).alloc (Nat.le_refl _) _⟩
def workS (u r q : Int) (t : Bool) (c : Int) : Int := 4 * u + 3 * r + (if t then 2 else 0) + q + 12 * c
theorem rwork_any (u r q : Int) (t : Bool) (c f wt : Int) (w : World) (hm : mayL u r q c f wt = true) :
    Calls Try.prog 24 #[loadV u r q t c f wt] w fun e w' => e = .returned (.int .i64 (workS u r q t c)) ∧ Below w.heap.size w w' := by
  unfold loadV
  simp only [mayL, decide_eq_true_eq] at hm
  cases t
  all_goals
    go_enter Try.func24, Try.ntmps24
    go_wp2
    all_goals go_ret
    all_goals exact ⟨ret_int (by unfold workS; simp only [wrap64, if_true, if_false, Bool.false_eq_true]; omega), (Below.refl _ _).alloc (Nat.le_refl _) _⟩
@[go_sem] def confV (a b c d e f g h i j : Int) : Value := .agg #[.int .i64 a, .int .i64 b, .int .i64 c, .int .i64 d, .int .i64 e, .int .i64 f, .int .i64 g, .int .i64 h, .int .i64 i, .int .i64 j]
def waitsS (cap jit f wt : Int) : Int := wt + f * (2 + cap + jit)
theorem mul_bd (f x : Int) (h0 : 0 ≤ f) (h1 : f ≤ 1048576) (h2 : 0 ≤ x) (h3 : x ≤ 2147483650) : 0 ≤ f * x ∧ f * x ≤ 2251799815782400 := by
  refine ⟨Int.mul_nonneg h0 h2, Int.le_trans (Int.mul_le_mul h1 h3 h2 (by decide)) (by decide)⟩
theorem slow_any (tb lt sz qu ch ba g cap jit ev : Int) (u r q : Int) (t : Bool) (c f wt : Int) (w : World) (hm : mayL u r q c f wt = true) (hc : mayB g cap jit = true) :
    Calls Try.prog 25 #[confV tb lt sz qu ch ba g cap jit ev, loadV u r q t c f wt] w fun e w' => e = .returned (.int .i64 (waitsS cap jit f wt)) ∧ Below w.heap.size w w' := by
  unfold loadV confV
  simp only [mayL, mayB, decide_eq_true_eq] at hm hc
  have hb := mul_bd f (2 + cap + jit) (by omega) (by omega) (by omega) (by omega)
  have hw1 := wrap64_of (2 + cap) (by omega) (by omega)
  have hw2 := wrap64_of (2 + cap + jit) (by omega) (by omega)
  have hw3 := wrap64_of (f * (2 + cap + jit)) (by omega) (by omega)
  have hw4 := wrap64_of (wt + f * (2 + cap + jit)) (by omega) (by omega)
  go_enter Try.func25, Try.ntmps25
  go_wp2
  all_goals go_ret
  all_goals exact ⟨ret_int rfl, ((Below.refl _ _).alloc (Nat.le_refl _) _).alloc (by simp) _⟩
end Go.Proofs.Ytolmkafmlblnoaa
