/- The statements' helper for two lists of ints that are alike. -/
import Derived.Test.YtgfcfpoebmlppaaDrrRefDel
import Derived.BigQuiet
namespace Go.Proofs.Ytgfcfpoebmlppaa
open Go.ChangeShapes Go.WideShapes Go.ChangeAt Go.RowKit
set_option linter.unusedVariables false
set_option linter.unusedSimpArgs false
theorem plain_fn (a : Int) (w : World) : Calls Try.prog 23 #[.int .i64 a, .int .i64 a] w fun e w' => e = .returned (.bool true) ∧ w' = w := by
  go_enter Try.func23, Try.ntmps23
  go_wp2
  go_ret
  exact ⟨rfl, rfl⟩
set_option maxRecDepth 100000 in
theorem same_int (u v : Value) (n : Nat) (l : List Mem) (w : World) (hu : Sl w 3 1 u n (idCells l)) (hv : Sl w 3 1 v n (idCells l)) (hn : n ≤ 300) :
    Calls Try.prog 22 #[u, v, .func (.func 23) #[] #[]] w fun e w' => e = .returned (.bool true) ∧ ∃ k, w' = w.drewN k := by
  obtain ⟨A1, c1, rfl, hl1, hm1⟩ := hu.form
  obtain ⟨A2, c2, rfl, hl2, hm2⟩ := hv.form
  unfold maxLen at hm1 hm2
  have HU := Lib.hid hu
  have HV := Lib.hid hv
  have hll : l.length = n := by have := hu.1; simp [idCells] at this; exact this
  clear hu hv
  go_enter Try.func22, Try.ntmps22
  go_wp2_with fail
  go_loopw [7] (fun i wr => ∃ j k : Nat, j ≤ n ∧ i = .int .i64 j ∧ wr = w.drewN k) (fun i _ => n - (intOf i).toNat)
  case atStart => exact ⟨0, 0, by omega, rfl, rfl⟩
  case round =>
    obtain ⟨j, k, hj, rfl, rfl⟩ := hrel
    by_cases hlt : j < n
    · obtain ⟨g1, o1, d1, e1, _, _, _, hat1, _⟩ := HU.out.at_ (by omega)
      obtain ⟨g2, o2, d2, e2, _, _, _, hat2, _⟩ := HV.out.at_ (by omega)
      simp at e1 e2
      obtain ⟨rfl, rfl⟩ := e1
      obtain ⟨rfl, rfl⟩ := e2
      have c0 := hat1 _ _ (idCells_at l j (by omega))
      have c1 := hat2 _ _ (idCells_at l j (by omega))
      generalize l[j].2 = y at c0 c1
      have q1 : (j : Int) < n := by omega
      have q2 : (0 : Int) ≤ j := by omega
      have u1 : IntKind.i64.wrap ((j : Int) + 1) = (j : Int) + 1 := IntWalk.i64_in _ (by omega)
      clear hat1 hat2
      go_wp2_with fail
      go_quiet ((go_at_call 23; exact (plain_fn _ _).mono fun e w' ⟨he, hb⟩ => ⟨he, _, hb⟩))
      go_wp2_with fail
      go_roundw
      case rel => exact ⟨j + 1, _, by omega, by go_num, rfl⟩
      case measure => simp [intOf]; omega
    · obtain rfl : j = n := by omega
      have q1 : ¬ (j : Int) < j := by omega
      go_wp2_with fail
      go_ret
      exact ⟨rfl, k, rfl⟩
theorem plain_int (u v : Value) (n : Nat) (l : List Mem) (w : World) (hu : Sl w 3 1 u n (idCells l)) (hv : Sl w 3 1 v n (idCells l)) (hn : n ≤ 300) :
    Calls Try.prog 17 #[u, v] w fun e w' => e = .returned (.bool true) ∧ ∃ k, w' = w.drewN k := by
  have H := Lib.hid (same_int u v n l w hu hv hn)
  clear hu hv
  go_enter Try.func17, Try.ntmps17
  go_wp2_with fail
  refine H.out.mono ?_
  rintro e w1 ⟨rfl, k, rfl⟩
  go_wp2_with fail
  go_ret
  exact ⟨rfl, k, rfl⟩
end Go.Proofs.Ytgfcfpoebmlppaa
