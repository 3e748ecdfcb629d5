/- The law qanat/qanatlaw19.BackoffBounds returns true for all arguments of its types; no condition. -/
import Derived.Test.YtpgjdmgbddafnaaRows
import Derived.Test.YtpgjdmgbddafnaaBackoff
import Derived.WalkKit
import Derived.ProofKit
import Derived.OpenShut
import Derived.ShutString
namespace Go.Proofs.Ytpgjdmgbddafnaa.backoffBounds
open Go.ChangeShapes Go.WideShapes Go.ChangeAt Go.RowKit
open Go.ChangeMaps (open_string shut_string)
set_option linter.unusedSimpArgs false
set_option linter.unusedVariables false      -- a walk need not use every 'w<i>' (that an integer argument fits its kind)

theorem own : ownKnob Try.prog.godebug = none := by kernel_rfl

/-! ### STEP 1: THE WALK: the Go text returns true. 'Grown w w'': the world has at most new blocks (Derived/RowKit3.lean). Part the cases AHEAD of 'go_enter' where a test parts the walk; take each callee by a contract of your own. -/
set_option maxRecDepth 100000 in
set_option maxHeartbeats 4000000 in
theorem walk (a0 : Int) (a1 : Int) (a2 : Int) (a3 : Int) (a4 : Int) (w0 : (Lit.int .i64 a0).wf = true) (w1 : (Lit.int .i64 a1).wf = true) (w2 : (Lit.int .i64 a2).wf = true) (w3 : (Lit.int .i64 a3).wf = true) (w4 : (Lit.int .i64 a4).wf = true) (w : World) :
    Calls Try.prog 4 #[.int .i64 a0, .int .i64 a1, .int .i64 a2, .int .i64 a3, .int .i64 a4] w fun e w' => e = .returned (.bool true) ∧ Grown w w' := by
  have b4 : a4 ≤ 9223372036854775807 := (bounds_i64 w4).2
  have b0 := bounds_i64 w0
  have c1 := bigS_bd a0 40 (by decide)
  obtain ⟨N, HN⟩ : ∃ N, ((a0.tmod 4 != 3) = true ∧ bigS a0 40 = N) ∨ ((a0.tmod 4 != 3) = false ∧ a0 = N) := by
    cases (a0.tmod 4 != 3) <;> simp
  have hN : -9223372036854775808 ≤ N ∧ N ≤ 9223372036854775807 := by omega
  go_enter Try.func4, Try.ntmps4
  go_wp2_with fail
  refine (three_any _ _ _ _).mono ?_
  rintro e w' ⟨b, m, j, hm, rfl, n, rfl⟩
  have h0 := may_zero hm
  have hm' := hm
  simp only [mayB, decide_eq_true_eq] at hm'
  have d1 := dlyS_ge N b m h0
  have d2 := waitS_bd N b m j a4 hm
  have d3 := dlyS_neg N b m h0
  have d4 : N = 9223372036854775807 → dlyS N b m = m := fun h => dlyS_big N b m h0 (by omega)
  have d5 := dlyS_next N b m h0
  have d6 := dlyS_ge (N + 1) b m h0
  clear h0 hm
  by_cases n0 : N < 0
  · have d3' := d3 n0
    clear d3 d4 d5
    rcases HN with ⟨hk, rfl⟩ | ⟨hk, rfl⟩
    · exfalso; omega
    · have H3 := Lib.hid d3'
      clear d3'
      by_cases hd : a4 < 0
      all_goals
        go_wp2_with (first | (go_at_call 9; refine (awake19 _).mono ?_; rintro e w' ⟨rfl, n, rfl⟩) | (go_at_call 12; refine (delay_any _ _ _ _).mono ?_; rintro e w' ⟨rfl, rfl⟩) | (go_at_call 14; refine (wait_any _ _ _ _ _ _ (by omega)).mono ?_; rintro e w' ⟨rfl, n, rfl⟩) | (go_at_call 17; refine (mod_any _ _ _ (by omega) (by omega)).mono ?_; rintro e w' ⟨rfl, rfl⟩))
        all_goals first | (exfalso; have := H3.out; omega) | (go_ret; exact ⟨ret_bool (by have := H3.out; first | rfl | (simp only [beq_iff_eq, decide_eq_true_eq]; omega)), by repeat (first | exact Grown.refl _ | apply grown_drewN)⟩)
  · by_cases n1 : N = 9223372036854775807
    · have d4' := d4 n1
      clear d3 d4 d5
      rcases HN with ⟨hk, rfl⟩ | ⟨hk, rfl⟩
      · exfalso; omega
      · have H3 := Lib.hid d4'
        have e0 : (a0 == 9223372036854775807) = true := beq_iff_eq.2 n1
        clear d4' n1
        by_cases hd : a4 < 0
        all_goals
          go_wp2_with (first | (go_at_call 9; refine (awake19 _).mono ?_; rintro e w' ⟨rfl, n, rfl⟩) | (go_at_call 12; refine (delay_any _ _ _ _).mono ?_; rintro e w' ⟨rfl, rfl⟩) | (go_at_call 14; refine (wait_any _ _ _ _ _ _ (by omega)).mono ?_; rintro e w' ⟨rfl, n, rfl⟩) | (go_at_call 17; refine (mod_any _ _ _ (by omega) (by omega)).mono ?_; rintro e w' ⟨rfl, rfl⟩))
          all_goals first | (exfalso; have := H3.out; omega) | (go_ret; exact ⟨ret_bool (by have := H3.out; first | rfl | (simp only [beq_iff_eq, decide_eq_true_eq]; omega)), by repeat (first | exact Grown.refl _ | apply grown_drewN)⟩)
    · have e0 : (N == 9223372036854775807) = false := beq_eq_false_iff_ne.2 n1
      have d5' := d5 (by omega)
      clear d3 d4 d5
      rcases HN with ⟨hk, rfl⟩ | ⟨hk, rfl⟩
      rotate_left
      · have hk2 : (a0 % 4 != 3) = false := by rw [← Int.tmod_eq_emod_of_nonneg (by omega)]; exact hk
        by_cases hd : a4 < 0
        all_goals
          go_wp2_with (first | (go_at_call 9; refine (awake19 _).mono ?_; rintro e w' ⟨rfl, n, rfl⟩) | (go_at_call 12; refine (delay_any _ _ _ _).mono ?_; rintro e w' ⟨rfl, rfl⟩) | (go_at_call 14; refine (wait_any _ _ _ _ _ _ (by omega)).mono ?_; rintro e w' ⟨rfl, n, rfl⟩) | (go_at_call 17; refine (mod_any _ _ _ (by omega) (by omega)).mono ?_; rintro e w' ⟨rfl, rfl⟩))
          all_goals first | (exfalso; omega) | (go_ret; exact ⟨ret_bool (by first | rfl | (simp only [beq_iff_eq, decide_eq_true_eq]; omega) | (rw [beq_iff_eq]; omega)), by repeat (first | exact Grown.refl _ | apply grown_drewN)⟩)
      all_goals by_cases hd : a4 < 0
      all_goals
        go_wp2_with (first | (go_at_call 9; refine (awake19 _).mono ?_; rintro e w' ⟨rfl, n, rfl⟩) | (go_at_call 12; refine (delay_any _ _ _ _).mono ?_; rintro e w' ⟨rfl, rfl⟩) | (go_at_call 14; refine (wait_any _ _ _ _ _ _ (by omega)).mono ?_; rintro e w' ⟨rfl, n, rfl⟩) | (go_at_call 17; refine (mod_any _ _ _ (by omega) (by omega)).mono ?_; rintro e w' ⟨rfl, rfl⟩))
        all_goals first | (exfalso; omega) | (go_ret; exact ⟨ret_bool (by first | rfl | (simp only [beq_iff_eq, decide_eq_true_eq]; omega) | (rw [beq_iff_eq]; omega)), by repeat (first | exact Grown.refl _ | apply grown_drewN)⟩)

/-! ### THE ROW's STEP: WRITTEN OUT: LEAVE IT -/
set_option maxRecDepth 100000 in
theorem lifted (os : Os) (started : os.Started) (H : Type) (enc : TypeId × Value → H) :
    ReturnsInHanded {} Try.checked os 4 .any (Rows.backoffBoundsSpec.pre6 enc Try.prog Try.f4 Rows.backoffBoundsRow.domain false) (Rows.backoffBoundsSpec.post enc Try.prog Try.f4 false true false false) := by
  refine returnsInHanded_of_change (C := Try.checked) own started (by kernel_rfl) Try.func4
    (ChangeSpec.witness6 (enc := enc) (C := Try.checked) false ⟨#[], #[.int .i64 0, .int .i64 0, .int .i64 0, .int .i64 0, .int .i64 0], []⟩ 8 (by kernel_rfl) (by kernel_rfl) (by kernel_rfl) (by kernel_rfl)) ?_
  intro W base args ds gs before hval0 hW hcnd _
  have hval : ∀ (j : Nat) t v, Try.f4.params[j]? = some t → args[j]? = some v → Value.okWide Try.prog W .any base t v := hval0
  have hW' := hW
  obtain ⟨p, q, hA0, hV, rfl, hfz, hnd⟩ := hW
  have hA : DataW.TrodAll enc Try.prog W 0 (fun _ => true) true Try.f4.params.toList args.toList ds p := hA0
  rw [Try.params4] at hA hval
  obtain ⟨v0, vs0, d0, ds0, p0, q0, hargs, rfl, rfl, h0, r0⟩ := trodAll_cons hA
  obtain ⟨v1, vs1, d1, ds1, p1, q1, rfl, rfl, rfl, h1, r1⟩ := trodAll_cons r0
  obtain ⟨v2, vs2, d2, ds2, p2, q2, rfl, rfl, rfl, h2, r2⟩ := trodAll_cons r1
  obtain ⟨v3, vs3, d3, ds3, p3, q3, rfl, rfl, rfl, h3, r3⟩ := trodAll_cons r2
  obtain ⟨v4, vs4, d4, ds4, p4, q4, rfl, rfl, rfl, h4, r4⟩ := trodAll_cons r3
  obtain ⟨rfl, rfl, rfl⟩ := trodAll_nil r4
  obtain rfl : args = #[v0, v1, v2, v3, v4] := by cases args; simp_all
  obtain ⟨rfl, rfl⟩ := trodVars_none hV
  obtain ⟨a0, rfl, rfl, rfl, w0⟩ := open_int Try.underlying3 (hval 0 3 v0 rfl rfl) h0
  obtain ⟨a1, rfl, rfl, rfl, w1⟩ := open_int Try.underlying2 (hval 1 2 v1 rfl rfl) h1
  obtain ⟨a2, rfl, rfl, rfl, w2⟩ := open_int Try.underlying2 (hval 2 2 v2 rfl rfl) h2
  obtain ⟨a3, rfl, rfl, rfl, w3⟩ := open_int Try.underlying2 (hval 3 2 v3 rfl rfl) h3
  obtain ⟨a4, rfl, rfl, rfl, w4⟩ := open_int Try.underlying2 (hval 4 2 v4 rfl rfl) h4
  clear hA0 hval0
  simp only [List.append_nil] at hW'
  refine (walk a0 a1 a2 a3 a4 w0 w1 w2 w3 w4 W).mono fun e W' ⟨he, hg⟩ => ?_
  subst he
  exact ⟨_, rfl, post_of_same (pa := []) (pv := []) hW' (fun _ _ _ => (trodAll_cons_mk (shut_bool Try.underlying4 _) trodAll_mk0)) (fun sp _ => (trodAll_cons_mk (shut_int Try.underlying3 w0) (trodAll_cons_mk (shut_int Try.underlying2 w1) (trodAll_cons_mk (shut_int Try.underlying2 w2) (trodAll_cons_mk (shut_int Try.underlying2 w3) (trodAll_cons_mk (shut_int Try.underlying2 w4) trodAll_mk0)))))) (fun _ _ => rfl) rfl
    (hg.frame _) hg.2.1 (ok_one (by kernel_rfl) rfl (okWide_bool_mk Try.underlying4 _))⟩

theorem over : Rows.backoffBoundsRow.holds Try.pinned (OpenSpec.ofChange Rows.backoffBoundsSpec) :=
  OpenClaim.holds_of_wide 4 Try.f4 rfl rfl rfl rfl rfl rfl rfl ⟨rfl, rfl, rfl, rfl, rfl⟩ rfl rfl rfl rfl rfl (by kernel_rfl) Try.func4 (by kernel_rfl)
    (of_decide_eq_true (by kernel_rfl)) (by unfold Func.isWrapper; first | (rw [if_pos (by decide +kernel)]; kernel_rfl) | (rw [if_neg (by decide +kernel)]; exact ⟨rfl, rfl⟩))
    (fun os started H enc _ => lifted os started H enc)

/-- ████ THE STATEMENT ████ -/
theorem proved : Rows.BackoffBoundsSaid :=
  over
#print axioms proved
end Go.Proofs.Ytpgjdmgbddafnaa.backoffBounds
