/- The law qanat/qanatlaw20.RetryBounds returns true for all arguments of its types; no condition. -/
import Derived.Test.YtpgjdmgbddafnaaRetry
import Derived.WalkKit
import Derived.ProofKit
import Derived.OpenShut
import Derived.WideKeyArgs
namespace Go.Proofs.Ytpgjdmgbddafnaa.retryBounds
open Go.ChangeShapes Go.WideShapes Go.ChangeAt Go.RowKit
set_option linter.unusedVariables false
set_option linter.unusedSimpArgs false
theorem own : ownKnob Try.prog.godebug = none := by kernel_rfl
theorem laidOut : laidOutB Try.prog = true := by kernel_rfl
theorem fail_bounds (A d j : Int) (n : Int) (hA : 0 ≤ A) (hA2 : A ≤ 1125899906842624) (hj0 : 0 ≤ j) (hj : j ≤ 49) :
    A + dlyS n 3 1000 ≤ clockS A + waitS n 3 1000 j d ∧ clockS A + waitS n 3 1000 j d ≤ A + dlyS n 3 1000 + j ∧ 0 ≤ dlyS n 3 1000 ∧ dlyS n 3 1000 ≤ 1000 := by
  have hm : mayB 3 1000 j = true := by simp [mayB]; omega
  have h1 := waitS_bd n 3 1000 j d hm
  have h2 := dlyS_ge n 3 1000 (by decide)
  have hc : clockS A = A := by unfold clockS; omega
  omega

set_option maxRecDepth 100000 in
set_option maxHeartbeats 4000000 in
theorem walk (w : World) (a0 : Int) (w0 : (Lit.int .i64 a0).wf = true) (a1 : Int) (w1 : (Lit.int .i64 a1).wf = true) (a2 : Int) (w2 : (Lit.int .i64 a2).wf = true) (a3 : Int) (w3 : (Lit.int .i64 a3).wf = true) :
    Calls Try.prog 8 #[.int .i64 a0, .int .i64 a1, .int .i64 a2, .int .i64 a3] w fun e w' => e = .returned (.bool true) ∧ Below w.heap.size w w' := by
  have b2 : a2 ≤ 9223372036854775807 := (bounds_i64 w2).2
  have cj := bigS_bd a3 50 (by decide)
  have cn := bigS_bd a0 30 (by decide)
  have cw := bigS_bd a1 1099511627776 (by decide)
  have hm : mayB 3 1000 (bigS a3 50) = true := by simp [mayB]; omega
  go_enter Try.func8, Try.ntmps8
  go_wp2_with (go_at_call 23; refine (big_any _ _ _ (by omega) (by omega)).mono ?_; rintro e w' ⟨rfl, rfl⟩)
  refine (rnew_ok _ _ _ _ hm).mono ?_
  rintro e w1 ⟨rfl, h1, b1⟩
  generalize hr : w.heap.size = r at h1 b1 ⊢
  have HR := Lib.hid hr
  clear hr
  generalize bigS a3 50 = j at *
  go_wp2_with (first | (go_at_call 23; refine (big_any _ _ _ (by omega) (by omega)).mono ?_; rintro e w' ⟨rfl, rfl⟩) | (go_at_call 17; refine (mod_any _ _ _ (by omega) (by omega)).mono ?_; rintro e w' ⟨rfl, rfl⟩))
  generalize bigS a1 1099511627776 = A0 at *
  obtain ⟨k, hk⟩ : ∃ k : Nat, bigS a0 30 + 1 = k := ⟨(bigS a0 30 + 1).toNat, by omega⟩
  have hk2 : k ≤ 30 := by omega
  rw [show 1 + bigS a0 30 = (k : Int) by omega] at *
  clear hk cn
  have HM := Lib.hid hm
  clear hm
  go_loopw [12, 14] (fun a i wr => ∃ (q : Nat) (A : Int), q ≤ 2 ∧ i = .int .i64 q ∧ a = .int .i64 A ∧ 0 ≤ A ∧ A ≤ 1099511627776 + 1100 * 31 * q ∧ retryAt wr r 3 1000 j 0 0 ∧ Below r w wr) (fun _ i _ => 2 - (intOf i).toNat)
  case atStart => exact ⟨0, A0, by omega, rfl, rfl, by omega, by omega, h1, b1⟩
  case round =>
    obtain ⟨q, A, hq, rfl, rfl, hA0, hA1, h2, b2'⟩ := hrel
    by_cases hlt : q < 2
    · have hq1 : (q : Int) < 2 := by omega
      go_wp2_with fail
      go_loopw [12, 15] (fun a i wr => ∃ (n : Nat) (A : Int) (U : Int), n ≤ k ∧ i = .int .i64 (n + 1) ∧ a = .int .i64 A ∧ 0 ≤ A ∧ A ≤ 1099511627776 + 1100 * 31 * q + 1100 * n ∧ retryAt wr r 3 1000 j n U ∧ Below r w wr) (fun _ i _ => 40 - (intOf i).toNat)
      case atStart => exact ⟨0, A, 0, by omega, by go_num, rfl, by omega, by omega, h2, b2'⟩
      case round =>
        obtain ⟨n, A, U, hn, rfl, rfl, hA0, hA1, h3, b3⟩ := hrel
        have hb := fail_bounds A a2 j (n + 1) hA0 (by omega) (by omega) (by omega)
        have hr2 := lt_of_block h3
        by_cases hlt2 : n < k
        · go_wp2_with fail
          refine (fail_any _ _ _ _ _ _ _ _ _ h3 b2 (by omega) (by omega)).mono ?_
          rintro e w3 ⟨rfl, h4, b4⟩
          generalize clockS A + waitS (n + 1) 3 1000 j a2 = V at *
          have b5 : Below r w w3 := Keeps.below b3 b4 (by omega) (by intro x hx e; omega)
          clear b3 b4
          go_wp2_with fail
          refine (delay_any _ _ _ _).mono ?_
          rintro e w4 ⟨rfl, rfl⟩
          go_wp2_with fail
          refine (rfails_any _ _ _ _ _ _ _ h4).mono ?_
          rintro e w4 ⟨rfl, rfl⟩
          go_wp2_with fail
          go_roundw
          case rel => exact ⟨n + 1, V, V, by omega, by go_num, rfl, by omega, by omega, by rw [Int.natCast_add]; exact h4, b5⟩
          case measure => simp [intOf]; omega
        · obtain rfl : n = k := by omega
          go_wp2_with fail
          refine (rdone_any _ _ _ _ _ _ _ h3).mono ?_
          rintro e w3 ⟨rfl, h4, b4⟩
          have b5 : Below r w w3 := Keeps.below b3 b4 (by omega) (by intro x hx e; omega)
          clear b3 b4
          go_wp2_with fail
          refine (rfails_any _ _ _ _ _ _ _ h4).mono ?_
          rintro e w4 ⟨rfl, rfl⟩
          go_wp2_with fail
          refine (runtil_any _ _ _ _ _ _ _ h4).mono ?_
          rintro e w4 ⟨rfl, rfl⟩
          go_wp2_with fail
          refine (rready_any _ _ _ _ _ _ _ _ h4).mono ?_
          rintro e w4 ⟨rfl, rfl⟩
          go_wp2_with fail
          go_roundw
          case rel => exact ⟨q + 1, A, by omega, by go_num, rfl, by omega, by omega, h4, b5⟩
          case measure => simp [intOf]; omega
    · go_wp2_with fail
      refine (awake20 _).mono ?_
      rintro e w3 ⟨rfl, b3⟩
      go_wp2_with fail
      go_ret
      have hlt := lt_of_block h2
      have e := HR.out
      subst e
      exact ⟨rfl, b2'.trans (b3.mono (by omega))⟩

set_option maxRecDepth 100000 in
theorem lifted (os : Os) (started : os.Started) (H : Type) (enc : TypeId × Value → H) :
    ReturnsInHanded {} Try.checked os 8 .any (Rows.retryBoundsSpec.pre6 enc Try.prog Try.f8 Rows.retryBoundsRow.domain false) (Rows.retryBoundsSpec.post enc Try.prog Try.f8 false true false false) := by
  refine returnsInHanded_of_change (C := Try.checked) own started (by kernel_rfl) Try.func8
    (ChangeSpec.witness6 (enc := enc) (C := Try.checked) false ⟨#[], #[.int .i64 0, .int .i64 0, .int .i64 0, .int .i64 0], []⟩ 8 (by kernel_rfl) (by kernel_rfl) (by kernel_rfl) (by kernel_rfl)) ?_
  intro W base args ds gs before hval0 hW hcnd _
  have hval : ∀ (j : Nat) t v, Try.f8.params[j]? = some t → args[j]? = some v → Value.okWide Try.prog W .any base t v := hval0
  have hW' := hW
  obtain ⟨p, q, hA0, hV, rfl, hfz, hnd⟩ := hW
  have hA : DataW.TrodAll enc Try.prog W 0 (fun _ => true) true Try.f8.params.toList args.toList ds p := hA0
  rw [Try.params8] at hA hval
  obtain ⟨v0, vs0, d0, ds0, p0, q0, hargs, rfl, rfl, h0, r0⟩ := trodAll_cons hA
  obtain ⟨v1, vs1, d1, ds1, p1, q1, rfl, rfl, rfl, h1, r1⟩ := trodAll_cons r0
  obtain ⟨v2, vs2, d2, ds2, p2, q2, rfl, rfl, rfl, h2, r2⟩ := trodAll_cons r1
  obtain ⟨v3, vs3, d3, ds3, p3, q3, rfl, rfl, rfl, h3, r3⟩ := trodAll_cons r2
  obtain ⟨rfl, rfl, rfl⟩ := trodAll_nil r3
  obtain rfl : args = #[v0, v1, v2, v3] := by cases args; simp_all
  obtain ⟨rfl, rfl⟩ := trodVars_none hV
  obtain ⟨a0, rfl, rfl, rfl, w0⟩ := open_int Try.underlying3 (hval 0 3 v0 rfl rfl) h0
  obtain ⟨a1, rfl, rfl, rfl, w1⟩ := open_int Try.underlying2 (hval 1 2 v1 rfl rfl) h1
  obtain ⟨a2, rfl, rfl, rfl, w2⟩ := open_int Try.underlying2 (hval 2 2 v2 rfl rfl) h2
  obtain ⟨a3, rfl, rfl, rfl, w3⟩ := open_int Try.underlying2 (hval 3 2 v3 rfl rfl) h3
  clear hA0 hval0
  have hlt := hW'.lt
  refine (walk W a0 w0 a1 w1 a2 w2 a3 w3).mono fun e W' ⟨he, hb⟩ => ?_
  subst he
  exact ⟨_, rfl, post_of_below (pv := []) hW' (fun _ _ _ => (trodAll_cons_mk (shut_bool Try.underlying4 _) trodAll_mk0)) (fun sp hsp => (trodAll_cons_mk (shut_int Try.underlying3 w0) (trodAll_cons_mk (shut_int Try.underlying2 w1) (trodAll_cons_mk (shut_int Try.underlying2 w2) (trodAll_cons_mk (shut_int Try.underlying2 w3) trodAll_mk0))))) (fun _ _ => rfl) (by simp) hb (ok_one (by kernel_rfl) rfl (okWide_bool_mk Try.underlying4 _))⟩

theorem over : Rows.retryBoundsRow.holds Try.pinned (OpenSpec.ofChange Rows.retryBoundsSpec) :=
  OpenClaim.holds_of_wide 8 Try.f8 rfl rfl rfl rfl rfl rfl rfl ⟨rfl, rfl, rfl, rfl, rfl⟩ rfl rfl rfl rfl rfl (by kernel_rfl) Try.func8 (by kernel_rfl)
    (of_decide_eq_true (by kernel_rfl)) (by unfold Func.isWrapper; first | (rw [if_pos (by decide +kernel)]; kernel_rfl) | (rw [if_neg (by decide +kernel)]; exact ⟨rfl, rfl⟩))
    (fun os started H enc _ => lifted os started H enc)

theorem proved : Rows.RetryBoundsSaid := over
#print axioms proved
end Go.Proofs.Ytpgjdmgbddafnaa.retryBounds
