/- The law qanat/qanatlaw30.BeatNews returns true for all arguments of its types; no condition. -/
import Derived.Test.YtfaohjgobdhbgaaBeatAwake
import Derived.WalkKit
import Derived.ProofKit
import Derived.OpenShut
import Derived.WideKeyArgs
namespace Go.Proofs.Ytfaohjgobdhbgaa.beatNews
open Go.ChangeShapes Go.WideShapes Go.ChangeAt Go.RowKit
set_option linter.unusedVariables false
set_option linter.unusedSimpArgs false
theorem own : ownKnob Try.prog.godebug = none := by kernel_rfl
theorem laidOut : laidOutB Try.prog = true := by kernel_rfl
def NewsIn (r x : Nat) (e d l : Int) (w0 w : World) : Prop := beatAt w r e d l ∧ rbeatAt w x e d l ∧ Below r w0 w
def NoneIn (w0 w : World) : Prop := Below w0.heap.size w0 w

set_option maxRecDepth 100000 in
set_option maxHeartbeats 1200000 in
theorem walk (w : World) (a0 : Int) (w0 : (Lit.int .i64 a0).wf = true) (a1 : Int) (w1 : (Lit.int .i64 a1).wf = true) (a2 : Int) (w2 : (Lit.int .i64 a2).wf = true) :
    Calls Try.prog 3 #[.int .i64 a0, .int .i64 a1, .int .i64 a2] w fun e w' => e = .returned (.bool true) ∧ Below w.heap.size w w' := by
  by_cases h : newS a0 a1 a2 = true
  · go_enter Try.func3, Try.ntmps3
    go_wp2_with fail
    refine (new_ok _ _ _ _ h).mono ?_
    rintro e w1 ⟨rfl, h1, b1⟩
    obtain ⟨r, hr⟩ : ∃ r, w.heap.size = r := ⟨_, rfl⟩
    rw [hr] at h1 b1 ⊢
    have HR := Lib.hid hr
    clear hr
    have hr1 := lt_of_block h1
    go_wp2_with fail
    refine (rnew_ok _ _ _ _ h).mono ?_
    rintro e w2 ⟨rfl, h2, b2⟩
    have h1' := beatAt_below h1 b2
    have b3 : Below r w w2 := b1.trans (b2.mono (by omega))
    generalize w1.heap.size = x at *
    clear h1 b1 b2 hr1
    go_wp2_with fail
    have hI : NewsIn r x a0 (a1 + a0) a2 w w2.drew := ⟨h1', h2, b3.drew⟩
    have hne : Nonempty (WIn (NewsIn r x a0 (a1 + a0) a2 w)) := ⟨⟨_, hI⟩⟩
    have z1 : ∀ y : WIn (NewsIn r x a0 (a1 + a0) a2 w), y.w.cell? ⟨x, 1, none⟩ = some (.int .i64 (a1 + a0)) := fun y => by simpa using cells_of y.ok.2.1 1
    have HZ := Lib.hid (show ∀ y : WIn (NewsIn r x a0 (a1 + a0) a2 w), beatAt y.w r a0 (a1 + a0) a2 from fun y => y.ok.1)
    have HA := Lib.hid (show ∀ (y : WIn (NewsIn r x a0 (a1 + a0) a2 w)) (w' : World), Below y.w.heap.size y.w w' → NewsIn r x a0 (a1 + a0) a2 w w' from fun y w' hb => ⟨beatAt_below y.ok.1 hb, rbeatAt_below y.ok.2.1 hb, y.ok.2.2.trans (hb.mono (by have := lt_of_block y.ok.1; omega))⟩)
    have HI := Lib.hid hI
    clear hI h1' h2 b3
    refine wp_region_quiet2 (NewsIn r x a0 (a1 + a0) a2 w) (by kernel_rfl) (by kernel_rfl) HI.out ?_
    repeat (refine wpQ_step (fun K hK => ?_); go_simp; first | (refine hK _ ?_; clear hK K) | (apply Exists.intro; refine ⟨fun _ => ?_, hK _ ?_⟩; (first | (go_at_call 9; exact (awake30 _).mono fun e w' ⟨he, hb⟩ => ⟨he, ⟨w', HA.out _ _ hb⟩, rfl⟩) | (go_at_call 10; exact (due_any _ _ _ _ _ (HZ.out _)).mono fun e w' ⟨he, hb⟩ => ⟨he, ⟨w', by rw [← hb]; exact WIn.ok _⟩, rfl⟩) | (go_at_call 11; exact (last_any _ _ _ _ _ (HZ.out _)).mono fun e w' ⟨he, hb⟩ => ⟨he, ⟨w', by rw [← hb]; exact WIn.ok _⟩, rfl⟩)); clear hK K))
    refine wpQ_nil ?_
    rintro ⟨W, y1, y2, y3⟩
    clear z1 HZ HA HI hne
    go_wp2_with fail
    go_ret
    have e := HR.out
    subst e
    exact ⟨rfl, y3⟩
  · have h' : newS a0 a1 a2 = false := by simpa using h
    go_enter Try.func3, Try.ntmps3
    go_wp2_with fail
    refine (new_no _ _ _ _ h').mono ?_
    rintro e w1 ⟨rfl, rfl⟩
    go_wp2_with fail
    refine (rnew_no _ _ _ _ h').mono ?_
    rintro e w1 ⟨rfl, rfl⟩
    go_wp2_with fail
    have hI : NoneIn w w.drew := (Below.refl _ _).drew
    have hne : Nonempty (WIn (NoneIn w)) := ⟨⟨_, hI⟩⟩
    have HA := Lib.hid (show ∀ (y : WIn (NoneIn w)) (w' : World), Below y.w.heap.size y.w w' → NoneIn w w' from fun y w' hb => Below.trans y.ok (hb.mono (Below.size y.ok)))
    refine wp_region_quiet2 (NoneIn w) (by kernel_rfl) (by kernel_rfl) hI ?_
    clear hI
    repeat (refine wpQ_step (fun K hK => ?_); go_simp; first | (refine hK _ ?_; clear hK K) | (apply Exists.intro; refine ⟨fun _ => ?_, hK _ ?_⟩; ((go_at_call 9; exact (awake30 _).mono fun e w' ⟨he, hb⟩ => ⟨he, ⟨w', HA.out _ _ hb⟩, rfl⟩)); clear hK K))
    refine wpQ_nil ?_
    rintro ⟨W, y1⟩
    clear HA hne
    go_wp2_with fail
    go_ret
    exact ⟨rfl, y1⟩

set_option maxRecDepth 100000 in
theorem lifted (os : Os) (started : os.Started) (H : Type) (enc : TypeId × Value → H) :
    ReturnsInHanded {} Try.checked os 3 .any (Rows.beatNewsSpec.pre6 enc Try.prog Try.f3 Rows.beatNewsRow.domain false) (Rows.beatNewsSpec.post enc Try.prog Try.f3 false true false false) := by
  refine returnsInHanded_of_change (C := Try.checked) own started (by kernel_rfl) Try.func3
    (ChangeSpec.witness6 (enc := enc) (C := Try.checked) false ⟨#[], #[.int .i64 0, .int .i64 0, .int .i64 0], []⟩ 8 (by kernel_rfl) (by kernel_rfl) (by kernel_rfl) (by kernel_rfl)) ?_
  intro W base args ds gs before hval0 hW hcnd _
  have hval : ∀ (j : Nat) t v, Try.f3.params[j]? = some t → args[j]? = some v → Value.okWide Try.prog W .any base t v := hval0
  have hW' := hW
  obtain ⟨p, q, hA0, hV, rfl, hfz, hnd⟩ := hW
  have hA : DataW.TrodAll enc Try.prog W 0 (fun _ => true) true Try.f3.params.toList args.toList ds p := hA0
  rw [Try.params3] at hA hval
  obtain ⟨v0, vs0, d0, ds0, p0, q0, hargs, rfl, rfl, h0, r0⟩ := trodAll_cons hA
  obtain ⟨v1, vs1, d1, ds1, p1, q1, rfl, rfl, rfl, h1, r1⟩ := trodAll_cons r0
  obtain ⟨v2, vs2, d2, ds2, p2, q2, rfl, rfl, rfl, h2, r2⟩ := trodAll_cons r1
  obtain ⟨rfl, rfl, rfl⟩ := trodAll_nil r2
  obtain rfl : args = #[v0, v1, v2] := by cases args; simp_all
  obtain ⟨rfl, rfl⟩ := trodVars_none hV
  obtain ⟨a0, rfl, rfl, rfl, w0⟩ := open_int Try.underlying2 (hval 0 2 v0 rfl rfl) h0
  obtain ⟨a1, rfl, rfl, rfl, w1⟩ := open_int Try.underlying2 (hval 1 2 v1 rfl rfl) h1
  obtain ⟨a2, rfl, rfl, rfl, w2⟩ := open_int Try.underlying2 (hval 2 2 v2 rfl rfl) h2
  clear hA0 hval0
  have hlt := hW'.lt
  refine (walk W a0 w0 a1 w1 a2 w2).mono fun e W' ⟨he, hb⟩ => ?_
  subst he
  exact ⟨_, rfl, post_of_below (pv := []) hW' (fun _ _ _ => (trodAll_cons_mk (shut_bool Try.underlying4 _) trodAll_mk0)) (fun sp hsp => (trodAll_cons_mk (shut_int Try.underlying2 w0) (trodAll_cons_mk (shut_int Try.underlying2 w1) (trodAll_cons_mk (shut_int Try.underlying2 w2) trodAll_mk0)))) (fun _ _ => rfl) (by simp) hb (ok_one (by kernel_rfl) rfl (okWide_bool_mk Try.underlying4 _))⟩

theorem over : Rows.beatNewsRow.holds Try.pinned (OpenSpec.ofChange Rows.beatNewsSpec) :=
  OpenClaim.holds_of_wide 3 Try.f3 rfl rfl rfl rfl rfl rfl rfl ⟨rfl, rfl, rfl, rfl, rfl⟩ rfl rfl rfl rfl rfl (by kernel_rfl) Try.func3 (by kernel_rfl)
    (of_decide_eq_true (by kernel_rfl)) (by unfold Func.isWrapper; first | (rw [if_pos (by decide +kernel)]; kernel_rfl) | (rw [if_neg (by decide +kernel)]; exact ⟨rfl, rfl⟩))
    (fun os started H enc _ => lifted os started H enc)

theorem proved : Rows.BeatNewsSaid := over
#print axioms proved
end Go.Proofs.Ytfaohjgobdhbgaa.beatNews
