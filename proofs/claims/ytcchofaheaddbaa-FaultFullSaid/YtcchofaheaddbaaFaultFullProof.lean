/- The law qanat/qanatlaw17.FaultFull returns true for all arguments of its types; no condition. -/
import Derived.Test.YtcchofaheaddbaaFaultMake
import Derived.WalkKit
import Derived.ProofKit
import Derived.OpenShut
import Derived.WideKeyArgs
namespace Go.Proofs.Ytcchofaheaddbaa.faultFull
open Go.ChangeShapes Go.WideShapes Go.ChangeAt Go.RowKit
set_option linter.unusedVariables false
set_option linter.unusedSimpArgs false
theorem own : ownKnob Try.prog.godebug = none := by kernel_rfl
theorem laidOut : laidOutB Try.prog = true := by kernel_rfl
theorem push_rep (j : Nat) : ∀ p : List Flt, p.length ≤ 1024 → (pushS p (List.replicate j ((3, 0) : Flt))).length = min (p.length + j) 1024 := by
  induction j with
  | zero => intro p hp; simp [pushS]; omega
  | succ j ih =>
    intro p hp
    have e : pushS p (List.replicate (j + 1) ((3, 0) : Flt)) = pushS (push1 p (3, 0)) (List.replicate j ((3, 0) : Flt)) := rfl
    rw [e, ih _ (push1_cap p _ hp)]
    have hm : mayF (3, 0) = true := by decide
    by_cases h : p.length < 1024
    · simp [push1, hm, h]; omega
    · simp [push1, h]; omega
theorem MkAt.keeps {S : Nat → Prop} {w w' : World} {g n i : Nat} (h : MkAt w g n i) (k : Keeps S w w') (hs : ¬ S g) : MkAt w' g n i := by
  obtain ⟨cs, hh, r⟩ := h
  exact ⟨cs, k.at_ hh hs, r⟩

set_option maxRecDepth 100000 in
set_option maxHeartbeats 900000 in
theorem walk (w : World) (a0 : Int) (w0 : (Lit.int .i64 a0).wf = true) (a1 : Int) (w1 : (Lit.int .i64 a1).wf = true) :
    Calls Try.prog 5 #[.int .i64 a0, .int .i64 a1] w fun e w' => e = .returned (.bool true) ∧ Below w.heap.size w w' := by
  have ck := bigS_bd a0 1025 (by decide)
  have cj := bigS_bd a1 1200 (by decide)
  go_enter Try.func5, Try.ntmps5
  go_wp2_with fail
  refine (new_any w).mono ?_
  rintro e w1 ⟨rfl, h1, b1⟩
  obtain ⟨r, hr⟩ : ∃ r, w.heap.size = r := ⟨_, rfl⟩
  rw [hr] at h1 b1 ⊢
  have HR := Lib.hid hr
  clear hr
  go_wp2_with (go_at_call 6; refine (mod_any _ _ _ (by omega) (by omega)).mono ?_; rintro e w' ⟨rfl, rfl⟩)
  obtain ⟨k, hk⟩ : ∃ k : Nat, bigS a0 1025 = k := ⟨(bigS a0 1025).toNat, by omega⟩
  obtain ⟨j, hj⟩ : ∃ j : Nat, bigS a1 1200 = j := ⟨(bigS a1 1200).toNat, by omega⟩
  have hk2 : k ≤ 1024 := by omega
  have hj2 : j < 1200 := by omega
  rw [hk, hj]
  clear hk hj ck cj
  refine (make1_any k w1 (by omega)).mono ?_
  rintro e w2 ⟨rfl, m2, b2⟩
  have hr1 := lt_of_block h1.1
  have h2 := planAt_below h1 b2
  have b3 : Below r w w2 := b1.trans (b2.mono (by omega))
  generalize w1.heap.size = g at *
  have hgr : g ≠ r := by omega
  have e1 := push_rep k [] (by decide)
  simp at e1
  have hp2 := lt_of_block h2.1
  go_wp2_with fail
  refine (push_any r (.slice none 0 0) _ [] (List.replicate k ((3, 0) : Flt)) w2 h2 (m2.rd (by unfold maxLen; omega)) (by simpa [Value.ownBlock] using hgr) (by simp [Value.ownBlock]) (by decide)).mono ?_
  rintro e w3 ⟨rfl, v3, h3, k3, o3⟩
  obtain ⟨F, hF⟩ : ∃ F, pushS [] (List.replicate k ((3, 0) : Flt)) = F := ⟨_, rfl⟩
  rw [hF] at e1 h3 ⊢
  have eF : F.length = k := by omega
  have ea : ((F.length : Int) - (([] : List Flt).length : Int)) = k := by simp [eF]
  rw [ea]
  clear hF ea e1
  have b4 : Below r w w3 := Keeps.below b3 k3 (by omega) (by intro x hx e; simp [Value.ownBlock] at e; omega)
  have ov : ∀ x, v3.ownBlock = some x → r < x := by
    intro x hx
    rcases o3 with h | ⟨g', h, hg'⟩
    · rw [h] at hx; simp [Value.ownBlock] at hx
    · rw [h] at hx; injection hx with hx; omega
  have H3 := Lib.hid h3
  have B4 := Lib.hid b4
  have OV := Lib.hid ov
  have EF := Lib.hid eF
  have hr3 := Lib.hid (lt_of_block h3.1)
  clear h1 b1 h2 b3 m2 b2 hr1 hgr hp2 k3 o3 h3 b4 ov eF
  go_wp2_with fail
  refine (make1_any j w3 (by omega)).mono ?_
  rintro e w4 ⟨rfl, m4, b5⟩
  have h4 := planAt_below H3.out b5
  have b6 : Below r w w4 := B4.out.trans (b5.mono (by have := hr3.out; omega))
  obtain ⟨g2, hg2⟩ : ∃ g2, w3.heap.size = g2 := ⟨_, rfl⟩
  rw [hg2] at m4 ⊢
  have hgr2 : g2 ≠ r := by have := hr3.out; omega
  have hov : ∀ x, v3.ownBlock = some x → x ≠ g2 := fun x hx => by have := H3.out.2.2.2 x hx; omega
  go_wp2_with fail
  refine (push_any r v3 _ F (List.replicate j ((3, 0) : Flt)) w4 h4 (m4.rd (by unfold maxLen; omega)) (by simpa [Value.ownBlock] using hgr2) (by intro x hx e; simp [Value.ownBlock] at e; exact hov x hx e.symm) (by rw [EF.out]; omega)).mono ?_
  rintro e w5 ⟨rfl, v5, h5, k5, o5⟩
  have e2 := push_rep j F (by rw [EF.out]; omega)
  obtain ⟨G, hG⟩ : ∃ G, pushS F (List.replicate j ((3, 0) : Flt)) = G := ⟨_, rfl⟩
  rw [hG] at e2 h5 ⊢
  rw [EF.out] at e2
  have eb : ((G.length : Int) - (F.length : Int)) = min (j : Int) (1024 - k) := by rw [EF.out, e2]; omega
  rw [eb]
  have b7 : Below r w w5 := Keeps.below b6 k5 (by have := lt_of_block h4.1; omega) (by intro x hx e; rcases e with e | e; (omega); (have := OV.out x e; omega))
  have H5 := Lib.hid h5
  have B7 := Lib.hid b7
  have E2 := Lib.hid e2
  have hr5 := Lib.hid (lt_of_block h5.1)
  clear h4 b6 m4 b5 hg2 hgr2 hov h5 k5 o5 e2 hG eb b7
  by_cases hc : (j : Int) ≤ 1024 - k
  · have em := Lib.hid (show min (j : Int) (1024 - k) = j by omega)
    rw [em.out]
    have hn := Lib.hid (show ((G.length : Int)) = k + j by rw [E2.out]; omega)
    go_wp2_with fail
    refine (awake17 _).mono ?_
    rintro e w6 ⟨rfl, b8⟩
    have h6 := planAt_below H5.out b8
    have b9 : Below r w w6 := B7.out.trans (b8.mono (by have := hr5.out; omega))
    go_wp2_with fail
    refine (len_any r v5 G w6 h6).mono ?_
    rintro e w7 ⟨rfl, rfl⟩
    rw [hn.out]
    go_wp2_with fail
    go_ret
    have e := HR.out
    subst e
    exact ⟨rfl, b9⟩
  · have em := Lib.hid (show min (j : Int) (1024 - k) = 1024 - k by omega)
    rw [em.out]
    have hn := Lib.hid (show ((G.length : Int)) = k + (1024 - k) by rw [E2.out]; omega)
    have htj : (1024 : Int) - k < j := by omega
    have htb : 0 ≤ (1024 : Int) - k ∧ (1024 : Int) - k ≤ 1024 := by omega
    clear hc em
    go_wp2_with fail
    refine (awake17 _).mono ?_
    rintro e w6 ⟨rfl, b8⟩
    have h6 := planAt_below H5.out b8
    have b9 : Below r w w6 := B7.out.trans (b8.mono (by have := hr5.out; omega))
    go_wp2_with fail
    refine (len_any r v5 G w6 h6).mono ?_
    rintro e w7 ⟨rfl, rfl⟩
    rw [hn.out]
    clear hn htj
    generalize (1024 : Int) - k = u at htb ⊢
    go_wp2_with fail
    all_goals go_ret
    have e := HR.out
    subst e
    exact ⟨ret_bool (by first | rfl | (simp; done) | (simp; omega)), b9⟩

set_option maxRecDepth 100000 in
theorem lifted (os : Os) (started : os.Started) (H : Type) (enc : TypeId × Value → H) :
    ReturnsInHanded {} Try.checked os 5 .any (Rows.faultFullSpec.pre6 enc Try.prog Try.f5 Rows.faultFullRow.domain false) (Rows.faultFullSpec.post enc Try.prog Try.f5 false true false false) := by
  refine returnsInHanded_of_change (C := Try.checked) own started (by kernel_rfl) Try.func5
    (ChangeSpec.witness6 (enc := enc) (C := Try.checked) false ⟨#[], #[.int .i64 0, .int .i64 0], []⟩ 8 (by kernel_rfl) (by kernel_rfl) (by kernel_rfl) (by kernel_rfl)) ?_
  intro W base args ds gs before hval0 hW hcnd _
  have hval : ∀ (j : Nat) t v, Try.f5.params[j]? = some t → args[j]? = some v → Value.okWide Try.prog W .any base t v := hval0
  have hW' := hW
  obtain ⟨p, q, hA0, hV, rfl, hfz, hnd⟩ := hW
  have hA : DataW.TrodAll enc Try.prog W 0 (fun _ => true) true Try.f5.params.toList args.toList ds p := hA0
  rw [Try.params5] at hA hval
  obtain ⟨v0, vs0, d0, ds0, p0, q0, hargs, rfl, rfl, h0, r0⟩ := trodAll_cons hA
  obtain ⟨v1, vs1, d1, ds1, p1, q1, rfl, rfl, rfl, h1, r1⟩ := trodAll_cons r0
  obtain ⟨rfl, rfl, rfl⟩ := trodAll_nil r1
  obtain rfl : args = #[v0, v1] := by cases args; simp_all
  obtain ⟨rfl, rfl⟩ := trodVars_none hV
  obtain ⟨a0, rfl, rfl, rfl, w0⟩ := open_int Try.underlying3 (hval 0 3 v0 rfl rfl) h0
  obtain ⟨a1, rfl, rfl, rfl, w1⟩ := open_int Try.underlying3 (hval 1 3 v1 rfl rfl) h1
  clear hA0 hval0
  have hlt := hW'.lt
  refine (walk W a0 w0 a1 w1).mono fun e W' ⟨he, hb⟩ => ?_
  subst he
  exact ⟨_, rfl, post_of_below (pv := []) hW' (fun _ _ _ => (trodAll_cons_mk (shut_bool Try.underlying4 _) trodAll_mk0)) (fun sp hsp => (trodAll_cons_mk (shut_int Try.underlying3 w0) (trodAll_cons_mk (shut_int Try.underlying3 w1) trodAll_mk0))) (fun _ _ => rfl) (by simp) hb (ok_one (by kernel_rfl) rfl (okWide_bool_mk Try.underlying4 _))⟩

theorem over : Rows.faultFullRow.holds Try.pinned (OpenSpec.ofChange Rows.faultFullSpec) :=
  OpenClaim.holds_of_wide 5 Try.f5 rfl rfl rfl rfl rfl rfl rfl ⟨rfl, rfl, rfl, rfl, rfl⟩ rfl rfl rfl rfl rfl (by kernel_rfl) Try.func5 (by kernel_rfl)
    (of_decide_eq_true (by kernel_rfl)) (by unfold Func.isWrapper; first | (rw [if_pos (by decide +kernel)]; kernel_rfl) | (rw [if_neg (by decide +kernel)]; exact ⟨rfl, rfl⟩))
    (fun os started H enc _ => lifted os started H enc)

theorem proved : Rows.FaultFullSaid := over
#print axioms proved
end Go.Proofs.Ytcchofaheaddbaa.faultFull
