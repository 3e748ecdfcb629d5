/- The law qanat/qanatlaw08.IndexOwn returns true for all arguments of its types; no condition. -/
import Derived.Test.YtkicnjbidbfajaaOwn
import Derived.Test.YtkicnjbidbfajaaArgs
import Derived.WalkKit
import Derived.ProofKit
import Derived.OpenShut
import Derived.WideKeyArgs
namespace Go.Proofs.Ytkicnjbidbfajaa.indexOwn
open Go.ChangeShapes Go.WideShapes Go.ChangeAt Go.RowKit
set_option linter.unusedVariables false
set_option linter.unusedSimpArgs false
theorem own : ownKnob Try.prog.godebug = none := by kernel_rfl
theorem laidOut : laidOutB Try.prog = true := by kernel_rfl
theorem ix_far {w0 w w' : World} {r : Nat} {X S : Nat → Prop} {l : List Rw} (h : Ix w0 r X w l) (k : Keeps S w w') (hS : ∀ x, S x → x < r) : Ix w' r X w' l := by
  obtain ⟨v, h1, h2, hx, h3, h4⟩ := h
  exact ⟨v, h1.keeps k (fun e => by have := hS r e; omega) (fun g hg e => by have := hS g e; have := (h2 g hg).1; omega), h2, hx, Below.refl _ _, h4⟩
theorem spoil_fresh {B : Nat} {v : Value} {l : List Rw} {w w' : World} (hF : Fr B w' v l) (hb : Below B w w') (hB : B ≤ w.heap.size) (hn : l.length ≤ 2000) :
    Calls Try.prog 17 #[v] w' fun e w'' => (∃ u, e = .returned u) ∧ Below B w w'' :=
  (spoil_any v l w' hF.1 hn).mono fun e w'' ⟨he, k⟩ => ⟨he, Keeps.below hb k (Nat.le_trans hB hb.size) (fun x hx e => by have := (hF.2 x e).1; omega)⟩
theorem after_none (l : List Rw) (k n : Int) (hn : n ≤ 0) : afterL l k n = [] := by
  have : cntN n (l.length - behind l k) = 0 := by unfold cntN; omega
  rw [afterL, this]; rfl
theorem after_len (l : List Rw) (k n : Int) : (afterL l k n).length ≤ l.length := by unfold afterL; simp; omega

set_option maxRecDepth 100000 in
set_option maxHeartbeats 3000000 in
theorem walk {H : Type} {enc : TypeId × Value → H} (w : World) {base : Nat} (v0 : Value) (d0 : DataW H) (p0 : List MemPlace) (o0 : Value.okWide Try.prog w .any base 22 v0) (h0 : DataW.Trod enc Try.prog w 0 (fun _ => true) true 22 v0 d0 p0) (l0 : ∀ x ∈ p0, x.block < w.heap.size) (a1 : Int) (w1 : (Lit.int .i64 a1).wf = true) :
    Calls Try.prog 3 #[v0, .int .i64 a1] w fun e w' => e = .returned (.bool true) ∧ Below w.heap.size w w' := by
  obtain ⟨n, a, hR, _⟩ := open_rows (P := Try.prog) Try.underlying22 Try.underlying26 (by kernel_rfl) (by kernel_rfl) (by rfl) (fun f hf => by simp at hf; subst hf; exact Try.underlying2) (fun f hf => by simp at hf; subst hf; exact Try.underlying9) o0 h0 l0
  obtain ⟨A, cap, rfl, hlc, hcm⟩ := hR.form
  unfold maxLen at hcm
  have HRs := Lib.hid hR
  have hal := hR.1
  clear hR h0 l0 o0
  by_cases hbig : 200 < n
  · have g1 : (200 : Int) < n := by omega
    go_enter Try.func3, Try.ntmps3
    go_wp2_with fail
    refine (awake08 _).mono ?_
    rintro e w5 ⟨rfl, b5⟩
    go_wp2_with fail
    go_ret
    exact ⟨rfl, b5⟩
  · have g1 : ¬ (200 : Int) < n := by omega
    go_enter Try.func3, Try.ntmps3
    go_wp2_with fail
    subst hal
    refine (own_any _ a 9 ⟨#[122]⟩ w HRs.out (by omega)).mono ?_
    rintro e w1 ⟨g, off, rfl, hg1, hg2, hS1, hb1⟩
    have HS1 := Lib.hid hS1
    have HB1 := Lib.hid hb1
    clear hS1 hb1
    go_wp2_with fail
    refine (inew _ a w1 (Rs.of (rows_part (m := [(9, ⟨#[122]⟩), (9, ⟨#[122]⟩), (9, ⟨#[122]⟩)]) (HS1.out.less (Nat.le_refl _) (Nat.le_refl _) (by omega)))) (by omega)).mono ?_
    rintro e w2 ⟨rfl, h2⟩
    have H2 := Lib.hid h2
    clear h2
    obtain ⟨r, hr⟩ : ∃ r, w1.heap.size = r := ⟨_, rfl⟩
    rw [hr] at H2 hg2 ⊢
    have HR := Lib.hid hr
    clear hr
    obtain ⟨L, hL⟩ : ∃ L, putAll a = L := ⟨_, rfl⟩
    have hLl := all_len a
    rw [hL] at H2 hLl
    clear hL
    have HS2 := Lib.hid (HS1.out.below (by rw [HR.out]; exact H2.out.low))
    have HB2 := Lib.hid (HB1.out.trans (H2.out.low.mono (by omega)))
    have HRs2 := Lib.hid (HRs.out.below HB2.out (Nat.le_refl _))
    clear HS1 HB1 HRs
    go_wp2_with fail
    refine (kept_any g off a 9 ⟨#[122]⟩ _ w2 HS2.out HRs2.out (by omega)).mono ?_
    rintro e w3 ⟨rfl, b3⟩
    have HI3 := Lib.hid (H2.out.below b3)
    have HS3 := Lib.hid (rows_part (m := [(9, ⟨#[122]⟩), (9, ⟨#[122]⟩), (9, ⟨#[122]⟩)]) (HS2.out.below b3))
    have HB3 := Lib.hid (HB2.out.trans (b3.mono HB2.out.size))
    clear b3 H2 HS2 HB2 HRs2
    go_wp2_with fail
    refine (iall HI3.out (by omega)).mono ?_
    rintro e w4 ⟨A4, c4, rfl, hF4, b4⟩
    have HI4 := Lib.hid (HI3.out.below b4)
    have HS4 := Lib.hid (HS3.out.below b4)
    have HB4 := Lib.hid (HB3.out.trans (b4.mono HB3.out.size))
    have HF4 := Lib.hid (hF4.less (B' := r) (by have := HI3.out.lt; omega))
    clear hF4 b4 HI3 HS3 HB3
    go_wp2_with fail
    refine (spoil_any _ a w4 HS4.out (by omega)).mono ?_
    rintro e w5 ⟨⟨u5, rfl⟩, k5⟩
    have HI5 := Lib.hid (ix_far HI4.out k5 (fun x hx => by simp [Value.ownBlock] at hx; omega))
    have HF5 := Lib.hid (show Sl w5 26 2 (.slice A4 L.length c4) L.length (rowCells L) from HF4.out.1.keeps k5 (fun x hx e => by have := (HF4.out.2 x hx).1; simp [Value.ownBlock] at e; omega))
    have HB5 := Lib.hid (Keeps.below HB4.out k5 (by have := HB4.out.size; omega) (fun x hx e => by simp [Value.ownBlock] at e; omega))
    clear k5 HI4 HF4 HB4 HS4
    go_wp2_with fail
    refine (iall HI5.out (by omega)).mono ?_
    rintro e w6 ⟨A6, c6, rfl, hF6, b6⟩
    have HF6 := Lib.hid hF6
    have HB6 := Lib.hid b6
    clear hF6 b6
    go_wp2_with fail
    refine (spoil_fresh HF6.out HB6.out (Nat.le_refl _) (by omega)).mono ?_
    rintro e w7 ⟨⟨u7, rfl⟩, b7⟩
    have HI7 := Lib.hid (HI5.out.below b7)
    have HF7 := Lib.hid (HF5.out.below b7)
    have HB7 := Lib.hid (HB5.out.trans (b7.mono HB5.out.size))
    clear b7 HF6 HB6 HI5 HF5 HB5
    go_wp2_with fail
    refine (iafter a1 5 HI7.out (by omega)).mono ?_
    rintro e w8 ⟨A8, c8, rfl, hF8, b8⟩
    have HF8 := Lib.hid hF8
    have HB8 := Lib.hid b8
    clear hF8 b8
    go_wp2_with fail
    refine (spoil_fresh HF8.out HB8.out (Nat.le_refl _) (by have := after_len L a1 5; omega)).mono ?_
    rintro e w9 ⟨⟨u9, rfl⟩, b9⟩
    have HI9 := Lib.hid (HI7.out.below b9)
    have HF9 := Lib.hid (HF7.out.below b9)
    have HB9 := Lib.hid (HB7.out.trans (b9.mono HB7.out.size))
    clear b9 HF8 HB8 HI7 HF7 HB7
    go_wp2_with fail
    refine (awake08 _).mono ?_
    rintro e w10 ⟨rfl, b10⟩
    have HI10 := Lib.hid (HI9.out.below b10)
    have HF10 := Lib.hid (HF9.out.below b10)
    have HB10 := Lib.hid (HB9.out.trans (b10.mono HB9.out.size))
    clear b10 HI9 HF9 HB9
    go_wp2_with fail
    refine (iall HI10.out (by omega)).mono ?_
    rintro e w11 ⟨A11, c11, rfl, hF11, b11⟩
    have HI11 := Lib.hid (HI10.out.below b11)
    have HF11 := Lib.hid (HF10.out.below b11)
    have HG11 := Lib.hid hF11.1
    have HB11 := Lib.hid (HB10.out.trans (b11.mono HB10.out.size))
    clear b11 hF11 HI10 HF10 HB10
    go_wp2_with fail
    refine (plain_row _ _ L.length L _ (Rs.of HG11.out) (Rs.of HF11.out) (by omega)).mono ?_
    rintro e w12 ⟨rfl, b12⟩
    have HI12 := Lib.hid (HI11.out.below b12)
    have HB12 := Lib.hid (HB11.out.trans (b12.mono HB11.out.size))
    clear b12 HI11 HF11 HG11 HB11
    go_wp2_with fail
    have ha0 := iafter a1 0 HI12.out (by omega)
    rw [after_none _ _ _ (by omega)] at ha0
    refine ha0.mono ?_
    rintro e w13 ⟨A13, c13, rfl, _, b13⟩
    have HI13 := Lib.hid (HI12.out.below b13)
    have HB13 := Lib.hid (HB12.out.trans (b13.mono HB12.out.size))
    clear b13 HI12 HB12 ha0
    go_wp2_with fail
    have ha0 := iafter a1 (-3) HI13.out (by omega)
    rw [after_none _ _ _ (by omega)] at ha0
    refine ha0.mono ?_
    rintro e w14 ⟨A14, c14, rfl, _, b14⟩
    have HB14 := Lib.hid (HB13.out.trans (b14.mono HB13.out.size))
    clear b14 HI13 HB13 ha0
    go_wp2_with fail
    go_ret
    exact ⟨rfl, HB14.out⟩

set_option maxRecDepth 100000 in
theorem lifted (os : Os) (started : os.Started) (H : Type) (enc : TypeId × Value → H) :
    ReturnsInHanded {} Try.checked os 3 .any (Rows.indexOwnSpec.pre6 enc Try.prog Try.f3 Rows.indexOwnRow.domain false) (Rows.indexOwnSpec.post enc Try.prog Try.f3 false true false false) := by
  refine returnsInHanded_of_change (C := Try.checked) own started (by kernel_rfl) Try.func3
    (ChangeSpec.witness6 (enc := enc) (C := Try.checked) false ⟨#[], #[.slice none 0 0, .int .i64 0], []⟩ 8 (by kernel_rfl) (by kernel_rfl) (by kernel_rfl) (by kernel_rfl)) ?_
  intro W base args ds gs before hval0 hW hcnd _
  have hval : ∀ (j : Nat) t v, Try.f3.params[j]? = some t → args[j]? = some v → Value.okWide Try.prog W .any base t v := hval0
  have hW' := hW
  obtain ⟨p, q, hA0, hV, rfl, hfz, hnd⟩ := hW
  have hA : DataW.TrodAll enc Try.prog W 0 (fun _ => true) true Try.f3.params.toList args.toList ds p := hA0
  rw [Try.params3] at hA hval
  obtain ⟨v0, vs0, d0, ds0, p0, q0, hargs, rfl, rfl, h0, r0⟩ := trodAll_cons hA
  obtain ⟨v1, vs1, d1, ds1, p1, q1, rfl, rfl, rfl, h1, r1⟩ := trodAll_cons r0
  obtain ⟨rfl, rfl, rfl⟩ := trodAll_nil r1
  obtain rfl : args = #[v0, v1] := by cases args; simp_all
  obtain ⟨rfl, rfl⟩ := trodVars_none hV
  obtain ⟨a1, rfl, rfl, rfl, w1⟩ := open_int Try.underlying2 (hval 1 2 v1 rfl rfl) h1
  clear hA0 hval0
  have hlt := hW'.lt
  refine (walk W v0 d0 p0 (hval 0 22 v0 rfl rfl) h0 (fun x hx => hlt x (by simp [hx])) a1 w1).mono fun e W' ⟨he, hb⟩ => ?_
  subst he
  exact ⟨_, rfl, post_of_below (pv := []) hW' (fun _ _ _ => (trodAll_cons_mk (shut_bool Try.underlying4 _) trodAll_mk0)) (fun sp hsp => (trodAll_cons_mk (WideElems.Trod_stays laidOut (by kernel_rfl) (of_decide_eq_true (by kernel_rfl)) h0 (fun x hx => hb.same (hlt x (by simp [hx]))) (fun x hx => hsp x (by simp [hx]))) (trodAll_cons_mk (shut_int Try.underlying2 w1) trodAll_mk0))) (fun _ _ => rfl) (by simp) hb (ok_one (by kernel_rfl) rfl (okWide_bool_mk Try.underlying4 _))⟩

theorem over : Rows.indexOwnRow.holds Try.pinned (OpenSpec.ofChange Rows.indexOwnSpec) :=
  OpenClaim.holds_of_wide 3 Try.f3 rfl rfl rfl rfl rfl rfl rfl ⟨rfl, rfl, rfl, rfl, rfl⟩ rfl rfl rfl rfl rfl (by kernel_rfl) Try.func3 (by kernel_rfl)
    (of_decide_eq_true (by kernel_rfl)) (by unfold Func.isWrapper; first | (rw [if_pos (by decide +kernel)]; kernel_rfl) | (rw [if_neg (by decide +kernel)]; exact ⟨rfl, rfl⟩))
    (fun os started H enc _ => lifted os started H enc)

theorem proved : Rows.IndexOwnSaid := over
#print axioms proved
end Go.Proofs.Ytkicnjbidbfajaa.indexOwn
