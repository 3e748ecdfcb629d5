/- The functions of package backoff, its reference and the number helpers: what each one returns, for all arguments. -/
import Derived.Test.YtpgjdmgbddafnaaRows
import Derived.Test.YtpgjdmgbddafnaaCommon
import Derived.WalkKit
import Derived.ProofKit
import Derived.OpenShut
import Derived.BigGuardPart
import Derived.Outline
import Derived.Lib.Hide
import Derived.Deep.QuietTactic
import Derived.BigQuiet
namespace Go.Proofs.Ytpgjdmgbddafnaa
open Go.ChangeShapes Go.WideShapes Go.ChangeAt Go.RowKit
set_option linter.unusedVariables false
set_option linter.unusedSimpArgs false
def mayB (b m j : Int) : Bool := decide (1 ≤ b ∧ b ≤ 1073741824 ∧ b ≤ m ∧ m ≤ 1073741824 ∧ 0 ≤ j ∧ j ≤ 1073741824)
theorem may_any (b m j : Int) (w : World) :
    Calls Try.prog 10 #[.int .i64 b, .int .i64 m, .int .i64 j] w fun e w' => e = .returned (.bool (mayB b m j)) ∧ w = w' := by
  go_enter Try.func10, Try.ntmps10
  go_wp2
  all_goals (go_ret; exact ⟨ret_bool (by simp only [mayB]; first | (symm; rw [decide_eq_false_iff_not]; omega) | (rw [decide_eq_decide]; omega)), rfl⟩)
theorem rmay_any (b m j : Int) (w : World) :
    Calls Try.prog 11 #[.int .i64 b, .int .i64 m, .int .i64 j] w fun e w' => e = .returned (.bool (mayB b m j)) ∧ w = w' := by
  go_enter Try.func11, Try.ntmps11
  go_wp2
  all_goals (go_ret; exact ⟨ret_bool (by simp only [mayB]; first | (symm; rw [decide_eq_false_iff_not]; omega) | (rw [decide_eq_decide]; omega)), rfl⟩)
def dlyS (k b m : Int) : Int := if mayB b m 0 then min (b * 2 ^ k.toNat) m else 0
theorem two_pos (n : Nat) : (0 : Int) < 2 ^ n := Int.pow_pos (by decide)
theorem pow31 (n : Nat) (h : 30 < n) : (2147483648 : Int) ≤ 2 ^ n := by
  have : (2 : Int) ^ 31 ≤ 2 ^ n := by
    exact_mod_cast Nat.pow_le_pow_right (show 0 < 2 by decide) (show 31 ≤ n by omega)
  simpa using this
theorem dlyS_neg (k b m : Int) (hm : mayB b m 0 = true) (h : k < 0) : dlyS k b m = b := by
  simp only [dlyS, hm, if_true, show k.toNat = 0 by omega]
  simp only [mayB, decide_eq_true_eq] at hm
  simp; omega
theorem dlyS_big (k b m : Int) (hm : mayB b m 0 = true) (h : 30 < k) : dlyS k b m = m := by
  simp only [dlyS, hm, if_true]
  simp only [mayB, decide_eq_true_eq] at hm
  have h1 := pow31 k.toNat (by omega)
  have h2 : 1 * (2147483648 : Int) ≤ b * 2 ^ k.toNat := Int.mul_le_mul (by omega) h1 (by decide) (by omega)
  omega
theorem dlyS_over (n : Nat) (b m : Int) (hm : mayB b m 0 = true) (h : m / 2 ^ n < b) : dlyS n b m = m := by
  simp only [dlyS, hm, if_true, Int.toNat_natCast]
  have h2 : m < b * 2 ^ n := Int.lt_mul_of_ediv_lt (two_pos n) h
  omega
theorem dlyS_in (n : Nat) (b m : Int) (hm : mayB b m 0 = true) (h : b * 2 ^ n ≤ m) : dlyS n b m = b * 2 ^ n := by
  simp only [dlyS, hm, if_true, Int.toNat_natCast]
  omega
theorem pow_mono (a b : Nat) (h : a ≤ b) : (2 : Int) ^ a ≤ 2 ^ b := by
  exact_mod_cast Nat.pow_le_pow_right (show 0 < 2 by decide) h
theorem dlyS_stop (n : Nat) (k b m : Int) (hm : mayB b m 0 = true) (hn : n = 0 ∨ (n : Int) ≤ k) (h : ¬ (n : Int) < k ∨ ¬ b * 2 ^ n < m) :
    dlyS k b m = if m < b * 2 ^ n then m else b * 2 ^ n := by
  simp only [dlyS, hm, if_true]
  simp only [mayB, decide_eq_true_eq] at hm
  by_cases hk : (n : Int) < k
  · have h1 := pow_mono n k.toNat (by omega)
    have h2 : b * 2 ^ n ≤ b * 2 ^ k.toNat := Int.mul_le_mul_of_nonneg_left h1 (by omega)
    split <;> omega
  · obtain rfl : n = k.toNat := by omega
    split <;> omega
theorem delay_any (k b m : Int) (w : World) :
    Calls Try.prog 12 #[.int .i64 k, .int .i64 b, .int .i64 m] w fun e w' => e = .returned (.int .i64 (dlyS k b m)) ∧ w = w' := by
  by_cases hm : mayB b m 0 = true
  · have hm' := hm
    simp only [mayB, decide_eq_true_eq] at hm'
    by_cases h0 : k < 0
    · have HF := Lib.hid (dlyS_neg k b m hm h0)
      go_enter Try.func12, Try.ntmps12
      go_wp2_with (go_at_call 10; refine (may_any _ _ _ _).mono ?_; rintro e w' ⟨rfl, rfl⟩)
      all_goals first | (exfalso; omega) | (go_ret; exact ⟨ret_int (by first | rw [HF.out] | (rw [HF.out]; rw [wrap64_of _ (by omega) (by omega)])), rfl⟩)
    · by_cases h1 : 30 < k
      · have HF := Lib.hid (dlyS_big k b m hm h1)
        go_enter Try.func12, Try.ntmps12
        go_wp2_with (go_at_call 10; refine (may_any _ _ _ _).mono ?_; rintro e w' ⟨rfl, rfl⟩)
        all_goals first | (exfalso; omega) | (go_ret; exact ⟨ret_int (by first | rw [HF.out] | (rw [HF.out]; rw [wrap64_of _ (by omega) (by omega)])), rfl⟩)
      · obtain ⟨n, rfl⟩ : ∃ n : Nat, k = n := ⟨k.toNat, by omega⟩
        by_cases h2 : m / 2 ^ n < b
        · have HF := Lib.hid (dlyS_over n b m hm h2)
          go_enter Try.func12, Try.ntmps12
          go_wp2_with (go_at_call 10; refine (may_any _ _ _ _).mono ?_; rintro e w' ⟨rfl, rfl⟩)
          all_goals first | (exfalso; omega) | (go_ret; exact ⟨ret_int (by first | rw [HF.out] | (rw [HF.out]; rw [wrap64_of _ (by omega) (by omega)])), rfl⟩)
        · have h3 : b * 2 ^ n ≤ m := Int.mul_le_of_le_ediv (two_pos n) (by omega)
          have h4 : 0 ≤ b * 2 ^ n := Int.mul_nonneg (by omega) (Int.le_of_lt (two_pos n))
          have HF := Lib.hid (dlyS_in n b m hm h3)
          go_enter Try.func12, Try.ntmps12
          go_wp2_with (go_at_call 10; refine (may_any _ _ _ _).mono ?_; rintro e w' ⟨rfl, rfl⟩)
          all_goals first | (exfalso; omega) | (go_ret; exact ⟨ret_int (by first | rw [HF.out] | (rw [HF.out]; rw [wrap64_of _ (by omega) (by omega)])), rfl⟩)
  · have hm' : mayB b m 0 = false := by simpa using hm
    by_cases h0 : k < 0
    all_goals
      go_enter Try.func12, Try.ntmps12
      go_wp2_with (go_at_call 10; refine (may_any _ _ _ _).mono ?_; rintro e w' ⟨rfl, rfl⟩)
      go_ret
      exact ⟨ret_int (by simp [dlyS, hm']), rfl⟩
/-- the reference's Delay: doubled so often while it is less than most -/
theorem rdelay_any (k b m : Int) (w : World) (hk : k ≤ 9223372036854775807) :
    Calls Try.prog 13 #[.int .i64 k, .int .i64 b, .int .i64 m] w fun e w' => e = .returned (.int .i64 (dlyS k b m)) ∧ w = w' := by
  by_cases hm : mayB b m 0 = true
  · have hm' := hm
    simp only [mayB, decide_eq_true_eq] at hm'
    go_enter Try.func13, Try.ntmps13
    go_wp2_with (go_at_call 11; refine (rmay_any _ _ _ _).mono ?_; rintro e w' ⟨rfl, rfl⟩)
    go_loop [7, 8] (fun d i => ∃ n : Nat, (n = 0 ∨ (n : Int) ≤ k) ∧ i = .int .i64 n ∧ d = .int .i64 (b * 2 ^ n) ∧ (n = 0 ∨ b * 2 ^ (n - 1) < m)) (fun _ i => (k - intOf i).toNat)
    case atStart => exact ⟨0, .inl rfl, rfl, by simp, .inl rfl⟩
    case round =>
      obtain ⟨n, hn, rfl, rfl, hl⟩ := hrel
      have h4 : 0 ≤ b * 2 ^ n := Int.mul_nonneg (by omega) (Int.le_of_lt (two_pos n))
      by_cases hlt : (n : Int) < k
      · by_cases hd : b * 2 ^ n < m
        · go_wp2
          go_round
          case rel => exact ⟨n + 1, by omega, by go_num, congrArg (Value.int .i64) (by rw [Int.pow_succ, ← Int.mul_assoc b, Int.mul_comm 2]), .inr hd⟩
          case measure => simp [intOf]; omega
        · have HF := Lib.hid (dlyS_stop n k b m hm hn (.inr hd))
          go_wp2
          all_goals go_ret
          all_goals exact ⟨ret_int (by rw [HF.out]; split <;> omega), rfl⟩
      · have HF := Lib.hid (dlyS_stop n k b m hm hn (.inl hlt))
        go_wp2
        all_goals go_ret
        all_goals exact ⟨ret_int (by rw [HF.out]; split <;> omega), rfl⟩
  · have hm' : mayB b m 0 = false := by simpa using hm
    go_enter Try.func13, Try.ntmps13
    go_wp2_with (go_at_call 11; refine (rmay_any _ _ _ _).mono ?_; rintro e w' ⟨rfl, rfl⟩)
    go_ret
    exact ⟨ret_int (by simp [dlyS, hm']), rfl⟩
theorem may_zero {b m j : Int} (h : mayB b m j = true) : mayB b m 0 = true := by
  simp only [mayB, decide_eq_true_eq] at *; omega
theorem dlyS_bd (k b m : Int) : 0 ≤ dlyS k b m ∧ dlyS k b m ≤ 1073741824 := by
  unfold dlyS
  split
  · rename_i h
    simp only [mayB, decide_eq_true_eq] at h
    have h4 : 0 ≤ b * 2 ^ k.toNat := Int.mul_nonneg (by omega) (Int.le_of_lt (two_pos _))
    omega
  · decide
def waitS (k b m j d : Int) : Int := if mayB b m j then dlyS k b m + max d 0 % (j + 1) else 0
theorem max0 (d : Int) : (if d < 0 then 0 else d) = max d 0 := by omega
theorem wait_any (k b m j d : Int) (w : World) (hd : d ≤ 9223372036854775807) :
    Calls Try.prog 14 #[.int .i64 k, .int .i64 b, .int .i64 m, .int .i64 j, .int .i64 d] w fun e w' => e = .returned (.int .i64 (waitS k b m j d)) ∧ ∃ n, w' = w.drewN n := by
  by_cases hm : mayB b m j = true
  · have hm' := hm
    simp only [mayB, decide_eq_true_eq] at hm'
    have hb := dlyS_bd k b m
    have s1 : IntKind.i64.wrap (j + 1) = j + 1 := IntWalk.i64_in _ (by omega)
    by_cases hd0 : d < 0
    · have HF := Lib.hid (show dlyS k b m = waitS k b m j d by simp [waitS, hm, show max d 0 = 0 by omega])
      go_enter Try.func14, Try.ntmps14
      go_wp2_with ((go_at_call 10; refine (may_any _ _ _ _).mono ?_; rintro e w' ⟨rfl, rfl⟩))
      go_quiet ((go_at_call 12; exact Calls.quiet_of_same ((delay_any _ _ _ _).mono (fun _ _ h => ⟨h.1, h.2.symm⟩))))
      go_wp2
      go_ret
      exact ⟨ret_int HF.out, _, rfl⟩
    · have h1 : 0 ≤ d % (j + 1) := Int.emod_nonneg _ (by omega)
      have h2 : d % (j + 1) < j + 1 := Int.emod_lt_of_pos _ (by omega)
      have HF := Lib.hid (show dlyS k b m + d % (j + 1) = waitS k b m j d by simp [waitS, hm, show max d 0 = d by omega])
      have s0 : d.tmod (j + 1) = d % (j + 1) := Int.tmod_eq_emod_of_nonneg (by omega)
      have s2 : IntKind.i64.wrap (dlyS k b m + d % (j + 1)) = dlyS k b m + d % (j + 1) := IntWalk.i64_in _ (by omega)
      go_enter Try.func14, Try.ntmps14
      go_wp2_with ((go_at_call 10; refine (may_any _ _ _ _).mono ?_; rintro e w' ⟨rfl, rfl⟩))
      go_quiet ((go_at_call 12; exact Calls.quiet_of_same ((delay_any _ _ _ _).mono (fun _ _ h => ⟨h.1, h.2.symm⟩))))
      go_wp2
      go_ret
      exact ⟨ret_int HF.out, _, rfl⟩
  · have hm' : mayB b m j = false := by simpa using hm
    go_enter Try.func14, Try.ntmps14
    go_wp2_with (go_at_call 10; refine (may_any _ _ _ _).mono ?_; rintro e w' ⟨rfl, rfl⟩)
    go_ret
    exact ⟨ret_int (by simp [waitS, hm']), 0, rfl⟩
theorem rwait_any (k b m j d : Int) (w : World) (hd : d ≤ 9223372036854775807) (hk : k ≤ 9223372036854775807) :
    Calls Try.prog 15 #[.int .i64 k, .int .i64 b, .int .i64 m, .int .i64 j, .int .i64 d] w fun e w' => e = .returned (.int .i64 (waitS k b m j d)) ∧ ∃ n, w' = w.drewN n := by
  by_cases hm : mayB b m j = true
  · have hm' := hm
    simp only [mayB, decide_eq_true_eq] at hm'
    have hb := dlyS_bd k b m
    have s1 : IntKind.i64.wrap (j + 1) = j + 1 := IntWalk.i64_in _ (by omega)
    by_cases hd0 : d < 0
    · have HF := Lib.hid (show dlyS k b m = waitS k b m j d by simp [waitS, hm, show max d 0 = 0 by omega])
      go_enter Try.func15, Try.ntmps15
      go_wp2_with ((go_at_call 11; refine (rmay_any _ _ _ _).mono ?_; rintro e w' ⟨rfl, rfl⟩))
      go_quiet ((go_at_call 13; exact Calls.quiet_of_same ((rdelay_any _ _ _ _ hk).mono (fun _ _ h => ⟨h.1, h.2.symm⟩))))
      go_wp2
      go_ret
      exact ⟨ret_int HF.out, _, rfl⟩
    · have h1 : 0 ≤ d % (j + 1) := Int.emod_nonneg _ (by omega)
      have h2 : d % (j + 1) < j + 1 := Int.emod_lt_of_pos _ (by omega)
      have HF := Lib.hid (show dlyS k b m + d % (j + 1) = waitS k b m j d by simp [waitS, hm, show max d 0 = d by omega])
      have s0 : d.tmod (j + 1) = d % (j + 1) := Int.tmod_eq_emod_of_nonneg (by omega)
      have s2 : IntKind.i64.wrap (dlyS k b m + d % (j + 1)) = dlyS k b m + d % (j + 1) := IntWalk.i64_in _ (by omega)
      go_enter Try.func15, Try.ntmps15
      go_wp2_with ((go_at_call 11; refine (rmay_any _ _ _ _).mono ?_; rintro e w' ⟨rfl, rfl⟩))
      go_quiet ((go_at_call 13; exact Calls.quiet_of_same ((rdelay_any _ _ _ _ hk).mono (fun _ _ h => ⟨h.1, h.2.symm⟩))))
      go_wp2
      go_ret
      exact ⟨ret_int HF.out, _, rfl⟩
  · have hm' : mayB b m j = false := by simpa using hm
    go_enter Try.func15, Try.ntmps15
    go_wp2_with (go_at_call 11; refine (rmay_any _ _ _ _).mono ?_; rintro e w' ⟨rfl, rfl⟩)
    go_ret
    exact ⟨ret_int (by simp [waitS, hm']), 0, rfl⟩
theorem big_any (v n : Int) (w : World) (h0 : 1 ≤ n) (h1 : n ≤ 9223372036854775807) :
    Calls Try.prog 23 #[.int .i64 v, .int .i64 n] w fun e w' => e = .returned (.int .i64 (bigS v n)) ∧ w = w' := by
  have HF := Lib.hid (bigS_walk v n h0 h1)
  go_enter Try.func23, Try.ntmps23
  go_wp2
  all_goals go_ret
  exact ⟨ret_int HF.out, rfl⟩
theorem mod_any (v n : Int) (w : World) (h0 : 1 ≤ n) (h1 : n ≤ 9223372036854775807) :
    Calls Try.prog 17 #[.int .i64 v, .int .i64 n] w fun e w' => e = .returned (.int .i64 (bigS v n)) ∧ w = w' := by
  have HF := Lib.hid (bigS_walk v n h0 h1)
  go_enter Try.func17, Try.ntmps17
  go_wp2
  all_goals go_ret
  exact ⟨ret_int HF.out, rfl⟩
theorem awake19 (w : World) : Calls Try.prog 9 #[] w fun e w' => e = .returned (.bool true) ∧ ∃ n, w' = w.drewN n := by
  have e1 : mayB 1 2 0 = true := by decide
  have e2 : mayB 0 2 0 = false := by decide
  have e3 : dlyS 3 5 100 = 40 := by decide
  have e4 : dlyS 1000 5 100 = 100 := dlyS_big _ _ _ (by decide) (by decide)
  have e5 : waitS 1 5 100 3 6 = 12 := by decide
  go_enter Try.func9, Try.ntmps9
  go_wp2_with (first | (go_at_call 10; refine (may_any _ _ _ _).mono ?_; rintro e w' ⟨rfl, rfl⟩) | (go_at_call 12; refine (delay_any _ _ _ _).mono ?_; rintro e w' ⟨rfl, rfl⟩) | (go_at_call 14; refine (wait_any _ _ _ _ _ _ (by omega)).mono ?_; rintro e w' ⟨rfl, n, rfl⟩))
  go_ret
  exact ⟨rfl, _, rfl⟩
/-- what 'three' makes of any three numbers: some that may be -/
theorem three_any (b m j : Int) (w : World) : Calls Try.prog 16 #[.int .i64 b, .int .i64 m, .int .i64 j] w fun e w' => ∃ b' m' j', mayB b' m' j' = true ∧ e = .returned (.tuple #[.int .i64 b', .int .i64 m', .int .i64 j']) ∧ ∃ n, w' = w.drewN n := by
  go_enter Try.func16, Try.ntmps16
  have c1 := bigS_bd b 1073741824 (by decide)
  have c2 := bigS_bd b 9 (by decide)
  have c3 := bigS_bd j 1073741825 (by decide)
  have c4 := bigS_bd m (1073741824 - (1 + bigS b 1073741824) + 1) (by omega)
  have c5 := bigS_bd m (1073741824 - (1 + bigS b 9) + 1) (by omega)
  go_wp2_with (go_at_call 23; refine (big_any _ _ _ (by omega) (by omega)).mono ?_; rintro e w' ⟨rfl, rfl⟩)
  all_goals go_ret3
  all_goals exact ⟨_, _, _, (by simp only [mayB, decide_eq_true_eq]; omega), rfl, 0, rfl⟩
theorem dlyS_ge (k b m : Int) (h : mayB b m 0 = true) : b ≤ dlyS k b m ∧ dlyS k b m ≤ m := by
  simp only [dlyS, h, if_true]
  simp only [mayB, decide_eq_true_eq] at h
  have h1 : b * 1 ≤ b * 2 ^ k.toNat := Int.mul_le_mul_of_nonneg_left (by have := two_pos k.toNat; omega) (by omega)
  omega
theorem waitS_bd (k b m j d : Int) (h : mayB b m j = true) : dlyS k b m ≤ waitS k b m j d ∧ waitS k b m j d ≤ dlyS k b m + j ∧ (d < 0 → waitS k b m j d = dlyS k b m) := by
  simp only [waitS, h, if_true]
  simp only [mayB, decide_eq_true_eq] at h
  have h1 : 0 ≤ max d 0 % (j + 1) := Int.emod_nonneg _ (by omega)
  have h2 : max d 0 % (j + 1) < j + 1 := Int.emod_lt_of_pos _ (by omega)
  refine ⟨by omega, by omega, fun hd => ?_⟩
  rw [show max d 0 = 0 by omega]; simp
theorem dlyS_next (k b m : Int) (h : mayB b m 0 = true) (h0 : 0 ≤ k) : dlyS k b m ≤ dlyS (k + 1) b m ∧ (dlyS (k + 1) b m = m ∨ dlyS (k + 1) b m = 2 * dlyS k b m) := by
  simp only [dlyS, h, if_true]
  simp only [mayB, decide_eq_true_eq] at h
  rw [show (k + 1).toNat = k.toNat + 1 by omega, Int.pow_succ, ← Int.mul_assoc]
  have h4 : 0 ≤ b * 2 ^ k.toNat := Int.mul_nonneg (by omega) (Int.le_of_lt (two_pos _))
  omega
end Go.Proofs.Ytpgjdmgbddafnaa
