/- The law qanat/qanatlaw23.DrrNews returns true for all arguments of its types; no condition. -/
import Derived.Test.YtgfcfpoebmlppaaDrrRow
import Derived.WalkKit
import Derived.ProofKit
import Derived.OpenShut
import Derived.WideKeyArgs
namespace Go.Proofs.Ytgfcfpoebmlppaa.drrNews
open Go.ChangeShapes Go.WideShapes Go.ChangeAt Go.RowKit
set_option linter.unusedVariables false
set_option linter.unusedSimpArgs false
theorem own : ownKnob Try.prog.godebug = none := by kernel_rfl
theorem laidOut : laidOutB Try.prog = true := by kernel_rfl


set_option maxRecDepth 100000 in
set_option maxHeartbeats 3000000 in
theorem walk (w : World) (a0 : Int) (w0 : (Lit.int .i64 a0).wf = true) (a1 : Int) (w1 : (Lit.int .i64 a1).wf = true) :
    Calls Try.prog 5 #[.int .i64 a0, .int .i64 a1] w fun e w' => e = .returned (.bool true) ∧ Below w.heap.size w w' := by
  have hc : a0 < 1 ∨ ¬ a0 < 1 ∧ 64 < a0 ∨ ¬ a0 < 1 ∧ ¬ 64 < a0 ∧ a1 < 1 ∨ ¬ a0 < 1 ∧ ¬ 64 < a0 ∧ ¬ a1 < 1 ∧ 8 < a1 ∨ ¬ a0 < 1 ∧ ¬ 64 < a0 ∧ ¬ a1 < 1 ∧ ¬ 8 < a1 := by omega
  have hn0 : findS [] a0 = -1 := rfl
  have HN0 := Lib.hid hn0
  have hn1 : findS ([] ++ [(a1, a0)]) a0 = ((0 : Nat) : Int) := by simp [findS, List.findIdx?_cons]
  have HN1 := Lib.hid hn1
  clear hn0 hn1
  rcases hc with h0 | ⟨h0, h1⟩ | ⟨h0, h1, h2⟩ | ⟨h0, h1, h2, h3⟩ | ⟨h0, h1, h2, h3⟩
  rotate_left 4
  focus
    have hb := Lib.hid (show argB a0 a1 = true by simp only [argB, decide_eq_true_eq]; omega)
    have g0 : decide (1 ≤ a0) = true := decide_eq_true (by omega)
    have g1 : decide (a0 ≤ 64) = true := decide_eq_true (by omega)
    have g2 : decide (1 ≤ a1) = true := decide_eq_true (by omega)
    have g3 : decide (a1 ≤ 8) = true := decide_eq_true (by omega)
    go_enter Try.func5, Try.ntmps5
    go_wp2_with fail
    refine (dnew w).mono ?_
    rintro e w1 ⟨rfl, d1⟩
    obtain ⟨r, hr⟩ : ∃ r, w.heap.size = r := ⟨_, rfl⟩
    rw [hr] at d1 ⊢
    have HR := Lib.hid hr
    have D1 := Lib.hid d1
    clear hr d1
    go_wp2_with fail
    refine (dnext_none D1.out).mono ?_
    rintro e w2 ⟨rfl, rfl⟩
    go_wp2_with fail
    refine (dadd_ok a0 a1 D1.out hb.out HN0.out (by decide)).mono ?_
    rintro e w3 ⟨rfl, d3, _⟩
    have D3 := Lib.hid d3
    clear d3 D1
    go_wp2_with fail
    refine (ddel_ok 0 a0 D3.out HN1.out (by simp)).mono ?_
    rintro e w4 ⟨rfl, d4, _⟩
    have D4 := Lib.hid (show Dr w r w4 [] 0 (delTurn 0 0 false) 0 from d4)
    clear d4 D3
    go_wp2_with fail
    refine (ddel_none a0 D4.out HN0.out).mono ?_
    rintro e w5 ⟨rfl, d5, _⟩
    have D5 := Lib.hid d5
    clear d5 D4
    go_wp2_with fail
    refine (awake23 _).mono ?_
    rintro e w6 ⟨rfl, b6⟩
    have D6 := Lib.hid (D5.out.below b6)
    clear b6 D5
    go_wp2_with fail
    refine (dall D6.out).mono ?_
    rintro e w7 ⟨A, cap, rfl, hc1, hc2, hS, d7, _⟩
    have D7 := Lib.hid d7.low
    clear d7 hS D6
    go_wp2_with fail
    go_ret
    exact ⟨rfl, by rw [HR.out]; exact D7.out⟩
  all_goals
    have hb := Lib.hid (show argB a0 a1 = false by simp only [argB, decide_eq_false_iff_not]; omega)
    try have g0 : decide (1 ≤ a0) = true := decide_eq_true (by omega)
    try have g0 : decide (1 ≤ a0) = false := decide_eq_false (by omega)
    try have g1 : decide (a0 ≤ 64) = true := decide_eq_true (by omega)
    try have g1 : decide (a0 ≤ 64) = false := decide_eq_false (by omega)
    try have g2 : decide (1 ≤ a1) = true := decide_eq_true (by omega)
    try have g2 : decide (1 ≤ a1) = false := decide_eq_false (by omega)
    try have g3 : decide (a1 ≤ 8) = true := decide_eq_true (by omega)
    try have g3 : decide (a1 ≤ 8) = false := decide_eq_false (by omega)
    go_enter Try.func5, Try.ntmps5
    go_wp2_with fail
    refine (dnew w).mono ?_
    rintro e w1 ⟨rfl, d1⟩
    obtain ⟨r, hr⟩ : ∃ r, w.heap.size = r := ⟨_, rfl⟩
    rw [hr] at d1 ⊢
    have HR := Lib.hid hr
    have D1 := Lib.hid d1
    clear hr d1
    go_wp2_with fail
    refine (dnext_none D1.out).mono ?_
    rintro e w2 ⟨rfl, rfl⟩
    go_wp2_with fail
    refine (dadd_arg a0 a1 hb.out).mono ?_
    rintro e w3 ⟨rfl, rfl⟩
    go_wp2_with fail
    refine (ddel_none a0 D1.out HN0.out).mono ?_
    rintro e w4 ⟨rfl, d4, _⟩
    have D4 := Lib.hid d4
    clear d4 D1
    go_wp2_with fail
    refine (ddel_none a0 D4.out HN0.out).mono ?_
    rintro e w5 ⟨rfl, d5, _⟩
    have D5 := Lib.hid d5
    clear d5 D4
    go_wp2_with fail
    refine (awake23 _).mono ?_
    rintro e w6 ⟨rfl, b6⟩
    have D6 := Lib.hid (D5.out.below b6)
    clear b6 D5
    go_wp2_with fail
    refine (dall D6.out).mono ?_
    rintro e w7 ⟨A, cap, rfl, hc1, hc2, hS, d7, _⟩
    have D7 := Lib.hid d7.low
    clear d7 hS D6
    go_wp2_with fail
    go_ret
    exact ⟨rfl, by rw [HR.out]; exact D7.out⟩

set_option maxRecDepth 100000 in
theorem lifted (os : Os) (started : os.Started) (H : Type) (enc : TypeId × Value → H) :
    ReturnsInHanded {} Try.checked os 5 .any (Rows.drrNewsSpec.pre6 enc Try.prog Try.f5 Rows.drrNewsRow.domain false) (Rows.drrNewsSpec.post enc Try.prog Try.f5 false true false false) := by
  refine returnsInHanded_of_change (C := Try.checked) own started (by kernel_rfl) Try.func5
    (ChangeSpec.witness6 (enc := enc) (C := Try.checked) false ⟨#[], #[.int .i64 0, .int .i64 0], []⟩ 8 (by kernel_rfl) (by kernel_rfl) (by kernel_rfl) (by kernel_rfl)) ?_
  intro W base args ds gs before hval0 hW hcnd _
  have hval : ∀ (j : Nat) t v, Try.f5.params[j]? = some t → args[j]? = some v → Value.okWide Try.prog W .any base t v := hval0
  have hW' := hW
  obtain ⟨p, q, hA0, hV, rfl, hfz, hnd⟩ := hW
  have hA : DataW.TrodAll enc Try.prog W 0 (fun _ => true) true Try.f5.params.toList args.toList ds p := hA0
  rw [Try.params5] at hA hval
  obtain ⟨v0, vs0, d0, ds0, p0, q0, hargs, rfl, rfl, h0, r0⟩ := trodAll_cons hA
  obtain ⟨v1, vs1, d1, ds1, p1, q1, rfl, rfl, rfl, h1, r1⟩ := trodAll_cons r0
  obtain ⟨rfl, rfl, rfl⟩ := trodAll_nil r1
  obtain rfl : args = #[v0, v1] := by cases args; simp_all
  obtain ⟨rfl, rfl⟩ := trodVars_none hV
  obtain ⟨a0, rfl, rfl, rfl, w0⟩ := open_int Try.underlying3 (hval 0 3 v0 rfl rfl) h0
  obtain ⟨a1, rfl, rfl, rfl, w1⟩ := open_int Try.underlying3 (hval 1 3 v1 rfl rfl) h1
  clear hA0 hval0
  have hlt := hW'.lt
  refine (walk W a0 w0 a1 w1).mono fun e W' ⟨he, hb⟩ => ?_
  subst he
  exact ⟨_, rfl, post_of_below (pv := []) hW' (fun _ _ _ => (trodAll_cons_mk (shut_bool Try.underlying4 _) trodAll_mk0)) (fun sp hsp => (trodAll_cons_mk (shut_int Try.underlying3 w0) (trodAll_cons_mk (shut_int Try.underlying3 w1) trodAll_mk0))) (fun _ _ => rfl) (by simp) hb (ok_one (by kernel_rfl) rfl (okWide_bool_mk Try.underlying4 _))⟩

theorem over : Rows.drrNewsRow.holds Try.pinned (OpenSpec.ofChange Rows.drrNewsSpec) :=
  OpenClaim.holds_of_wide 5 Try.f5 rfl rfl rfl rfl rfl rfl rfl ⟨rfl, rfl, rfl, rfl, rfl⟩ rfl rfl rfl rfl rfl (by kernel_rfl) Try.func5 (by kernel_rfl)
    (of_decide_eq_true (by kernel_rfl)) (by unfold Func.isWrapper; first | (rw [if_pos (by decide +kernel)]; kernel_rfl) | (rw [if_neg (by decide +kernel)]; exact ⟨rfl, rfl⟩))
    (fun os started H enc _ => lifted os started H enc)

theorem proved : Rows.DrrNewsSaid := over
#print axioms proved
end Go.Proofs.Ytgfcfpoebmlppaa.drrNews
