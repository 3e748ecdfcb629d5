/- The law qanat/qanatlaw09.TableApart returns true for all arguments of its types; no condition. -/
import Derived.Test.YtkicnjbidbfajaaPair
import Derived.Test.YtkicnjbidbfajaaArgs
import Derived.WalkKit
import Derived.ProofKit
import Derived.OpenShut
import Derived.WideKeyArgs
namespace Go.Proofs.Ytkicnjbidbfajaa.tableApart
open Go.ChangeShapes Go.WideShapes Go.ChangeAt Go.RowKit
set_option linter.unusedVariables false
set_option linter.unusedSimpArgs false
theorem own : ownKnob Try.prog.godebug = none := by kernel_rfl
theorem laidOut : laidOutB Try.prog = true := by kernel_rfl
theorem step_at (ls : Nat → List Rw) (k : Nat) (b : Int) (c : Bool) (d : ByteArray) (t : Nat) : stepL ls ⟨(k : Int), b, c, d⟩ t = if t = k then chg (ls k) ⟨(k : Int), b, c, d⟩ else ls t := by
  simp only [stepL, updT, Int.toNat_natCast]

set_option maxRecDepth 100000 in
set_option maxHeartbeats 3000000 in
theorem walk {H : Type} {enc : TypeId × Value → H} (w : World) {base : Nat} (v0 : Value) (d0 : DataW H) (p0 : List MemPlace) (o0 : Value.okWide Try.prog w .any base 61 v0) (h0 : DataW.Trod enc Try.prog w 0 (fun _ => true) true 61 v0 d0 p0) (l0 : ∀ x ∈ p0, x.block < w.heap.size) (a1 : Int) (w1 : (Lit.int .i64 a1).wf = true) :
    Calls Try.prog 8 #[v0, .int .i64 a1] w fun e w' => e = .returned (.bool true) ∧ Below w.heap.size w w' := by
  obtain ⟨m, F, hC, hs⟩ := open_cgs (P := Try.prog) Try.underlying61 Try.underlying65 (by kernel_rfl) (by kernel_rfl) (by rfl) (fun f hf => by simp at hf; subst hf; exact Try.underlying3) (fun f hf => by simp at hf; subst hf; exact Try.underlying2) (fun f hf => by simp at hf; subst hf; exact Try.underlying4) (fun f hf => by simp at hf; subst hf; exact Try.underlying9) o0 h0 l0
  obtain ⟨A, cap, rfl, hlc, hcm⟩ := hC.form
  unfold maxLen at hcm
  have HC := Lib.hid hC
  have HS := Lib.hid hs
  clear hC hs h0 l0 o0
  have hk4 := bigS_bd a1 4 (by decide)
  obtain ⟨k, hk⟩ : ∃ k : Nat, bigS a1 4 = k := ⟨(bigS a1 4).toNat, by omega⟩
  have hkb : k < 4 := by omega
  go_enter Try.func8, Try.ntmps8
  go_upto_region 2 with (go_at_call 21; refine (mod_any _ _ _ (by omega) (by omega)).mono ?_; rintro e w' ⟨rfl, rfl⟩)
  clear hk hk4
  go_wp2_with fail
  refine (tnew_ok 100 (fun _ => 0) 4 w (by omega) (by omega) (fun g _ => .inl (by omega))).mono ?_
  rintro e w1 ⟨rfl, f1, hf1, ⟨s1, P1, V1, hT1⟩, hb1⟩
  have HT1 := Lib.hid hT1.norm
  have HF1 := Lib.hid hf1
  have HB1 := Lib.hid hb1
  clear hT1 hf1 hb1
  go_wp2_with fail
  refine (tnew_ok 200 (fun g => if 100 ≤ f1 g ∧ f1 g < 100 + 2 + 4 then f1 g else 0) 4 w1 (by omega) (by omega) (fun g _ => .inl (by show (if 100 ≤ f1 g ∧ f1 g < 100 + 2 + 4 then f1 g else 0) < 200; split <;> omega))).mono ?_
  rintro e w2 ⟨rfl, f2, hf2, hT2, hb2⟩
  have hP : Pair w.heap.size f2 w.heap.size w1.heap.size w2 4 (fun _ => []) (fun _ => []) := by
    refine ⟨fun g hg => ?_, tse_keeps ⟨s1, P1, V1, HT1.out⟩ (S := fun _ => False) (Keeps.of_below hb2) hf2 (fun _ h => h.elim), hT2⟩
    rw [hf2 g (by have := HB1.out.size; omega)]
    show (if 100 ≤ f1 g ∧ f1 g < 100 + 2 + 4 then f1 g else 0) = 0
    rw [HF1.out g hg]; rfl
  have HP2 := Lib.hid hP
  have HB2 := Lib.hid (HB1.out.trans (hb2.mono HB1.out.size))
  clear hP hf2 hT2 hb2 HT1 HF1
  generalize w1.heap.size = rb at *
  go_wp2_with fail
  refine (changes_any _ m 4 60 F w2 (HC.out.below HB2.out) (fun i hi => HS.out i hi) (by omega) (by omega) (by omega)).mono ?_
  rintro e w3 ⟨A3, c3, q, F3, rfl, hq, hC3, hr3, hO3, hb3⟩
  have hbs := hb3.size
  have HP3 := Lib.hid (pair_below (pair_fresh HP2.out) hb3)
  have HB3 := Lib.hid (HB2.out.trans (hb3.mono HB2.out.size))
  have HC3 := Lib.hid hC3
  have HR3 := Lib.hid hr3
  obtain ⟨f3, hf3⟩ : ∃ f3 : Nat → Nat, (fun g => if w2.heap.size ≤ g then 0 else f2 g) = f3 := ⟨_, rfl⟩
  rw [hf3] at HP3
  have HO3 := Lib.hid (show ∀ g, (Value.slice A3 q c3).ownBlock = some g → g < w3.heap.size ∧ f3 g = 0 from fun g hg => ⟨(hO3 g hg).2, by rw [← hf3]; exact if_pos (hO3 g hg).1⟩)
  clear hC3 hr3 hO3 hb3 HP2 HB2 HC HS
  clear hf3
  obtain ⟨ra, hra⟩ : ∃ ra, w.heap.size = ra := ⟨_, rfl⟩
  rw [hra] at HP3 HB3 ⊢
  have HRA := Lib.hid hra
  clear hra
  go_wp2_with fail
  go_loopw [11] (fun s11 wr => ∃ (i : Nat) (f : Nat → Nat) (la lb : Nat → List Rw), i ≤ q ∧ s11 = .int .i64 i ∧ Pair ra f ra rb wr 4 la lb ∧ Cs wr (.slice A3 q c3) q F3 ∧ (∀ g, (Value.slice A3 q c3).ownBlock = some g → g < wr.heap.size ∧ f g = 0) ∧ Hid (la k = lb k ∧ (∀ t, t ≠ k → lb t = []) ∧ ∀ t, t < 4 → (la t).length ≤ i ∧ (lb t).length ≤ i) ∧ Below ra w wr) (fun s11 _ => q - (intOf s11).toNat)
  case atStart => exact ⟨0, f3, _, _, by omega, rfl, HP3.out, HC3.out, HO3.out, Lib.hid ⟨rfl, fun _ _ => rfl, fun _ _ => by simp⟩, HB3.out⟩
  case round =>
    clear HP3 HC3 HO3 HB3
    obtain ⟨i, f, la, lb, hi, rfl, hP, hC, hO, hL, hb⟩ := hrel
    have HP := Lib.hid hP
    have HC := Lib.hid hC
    have HO := Lib.hid hO
    have HB := Lib.hid hb
    have hrs := hb.size
    rw [HRA.out] at hrs
    clear hP hC hO hb
    by_cases hlt : i < q
    · obtain ⟨A', cap', hv', _, _, hat'⟩ := HC.out
      simp at hv'
      obtain ⟨rfl, rfl⟩ := hv'
      obtain ⟨gc, oc, rfl, hgc, hat⟩ := hat' (by omega)
      obtain ⟨y0, y1, y2, y3⟩ := hat i hlt
      have hfi := HR3.out i hlt
      have hO2 := (HO.out gc rfl).2
      obtain ⟨t, ht⟩ : ∃ t : Nat, (F3 i).tb = t := ⟨(F3 i).tb.toNat, by omega⟩
      have ht4 : t < 4 := by omega
      rw [ht] at y0
      have q1 : (0 : Int) ≤ i := by omega
      have q2 : (i : Int) < q := by omega
      have u1 : IntKind.i64.wrap ((i : Int) + 1) = (i : Int) + 1 := IntWalk.i64_in _ (by omega)
      have HAt := Lib.hid (show ∀ (w4 : World), Keeps (fun g => 102 ≤ f g) wr w4 → Cs w4 (.slice (some ⟨gc, oc, none⟩) q c3) q F3 ∧ (w4.cell? ⟨gc, oc + i * 4, none⟩ = some (.int .i64 t) ∧ w4.cell? ⟨gc, oc + i * 4 + 1, none⟩ = some (.int .i64 (F3 i).ky) ∧ w4.cell? ⟨gc, oc + i * 4 + 2, none⟩ = some (.bool (F3 i).gn) ∧ w4.cell? ⟨gc, oc + i * 4 + 3, none⟩ = some (.string (F3 i).vl)) from fun w4 k4 => by
        have hbk := k4.block gc hgc (by omega)
        exact ⟨HC.out.keeps k4 (fun g hg _ hs => by have := (HO.out g hg).2; omega), (World.cell?_of_block hbk).trans y0, (World.cell?_of_block hbk).trans y1, (World.cell?_of_block hbk).trans y2, (World.cell?_of_block hbk).trans y3⟩)
      clear hat hat' ht hfi
      generalize (F3 i).ky = a1' at *
      generalize (F3 i).gn = a2 at *
      generalize (F3 i).vl = a3 at *
      have hla : ∀ t, t < 4 → (la t).length ≤ 1200 := fun t ht => by have := (hL.out.2.2 t ht).1; omega
      have hlb : ∀ t, t < 4 → (lb t).length ≤ 1200 := fun t ht => by have := (hL.out.2.2 t ht).2; omega
      have HLA := Lib.hid hla
      have HLB := Lib.hid hlb
      clear hla hlb
      have HUA := Lib.hid (fun t ht => pair_up_a HP.out t ht)
      have HUB := Lib.hid (fun t ht => pair_up_b HP.out t ht)
      by_cases htk : t = k
      · subst htk
        go_wp2_with fail
        refine (pair_a t a1' a2 a3 HP.out ⟨by omega, by omega⟩ (by omega) hrs HLA.out).mono ?_
        rintro e w4 ⟨rfl, f4, hf4, hP4, hk4⟩
        have hb4 : Below ra w w4 := Keeps.below HB.out hk4 hrs (fun x hx e => by have := HP.out.1 x hx; omega)
        obtain ⟨hC4, z0, z1, z2, z3⟩ := HAt.out w4 hk4
        have HP4 := Lib.hid hP4
        have HC4 := Lib.hid hC4
        have HB4 := Lib.hid hb4
        have hs4 := hk4.size
        have HF4 := Lib.hid (hf4 gc hgc |>.trans hO2)
        clear hP4 hC4 hb4 hk4 hf4 y0 y1 y2 y3 HAt
        go_wp2_with fail
        refine (pair_b t a1' a2 a3 HP4.out ⟨by omega, by omega⟩ (by omega) (by omega) HLB.out).mono ?_
        rintro e w5 ⟨rfl, f5, hf5, hP5, hk5⟩
        have HP5 := Lib.hid hP5
        have HC5 := Lib.hid (HC4.out.keeps hk5 (fun g hg _ hs => by simp [Value.ownBlock] at hg; subst hg; have := HF4.out; omega))
        have HB5 := Lib.hid (Keeps.below HB4.out hk5 (by omega) (fun x hx e => by have := HP4.out.1 x hx; omega))
        have HO5 := Lib.hid (show ∀ g, (Value.slice (some ⟨gc, oc, none⟩) q c3).ownBlock = some g → g < w5.heap.size ∧ f5 g = 0 from fun g hg => by
          simp [Value.ownBlock] at hg; subst hg
          have := hk5.size
          exact ⟨by omega, by rw [hf5 gc (by omega)]; exact HF4.out⟩)
        have HL5 := Lib.hid (show stepL la ⟨(t : Int), a1', a2, a3⟩ t = stepL lb ⟨(t : Int), a1', a2, a3⟩ t ∧ (∀ s, s ≠ t → stepL lb ⟨(t : Int), a1', a2, a3⟩ s = []) ∧ ∀ s, s < 4 → (stepL la ⟨(t : Int), a1', a2, a3⟩ s).length ≤ i + 1 ∧ (stepL lb ⟨(t : Int), a1', a2, a3⟩ s).length ≤ i + 1 from by
          refine ⟨by rw [step_at, step_at, if_pos rfl, if_pos rfl, hL.out.1], fun s hs => by rw [step_at, if_neg hs]; exact hL.out.2.1 s hs, fun s hs => ?_⟩
          have h1 := step_len HUA.out ⟨(t : Int), a1', a2, a3⟩ s hs
          have h2 := step_len HUB.out ⟨(t : Int), a1', a2, a3⟩ s hs
          have h3 := hL.out.2.2 s hs
          exact ⟨by omega, by omega⟩)
        clear hP5 hk5 hf5 HP4 HC4 HB4 HF4 z0 z1 z2 z3
        go_wp2_with fail
        go_roundw
        case rel => exact ⟨i + 1, f5, _, _, by omega, by go_num, HP5.out, HC5.out, HO5.out, HL5, HB5.out⟩
        case measure => simp [intOf]; omega
      · have g1 : ((t : Int) == (k : Int)) = false := beq_eq_false_iff_ne.2 (by omega)
        go_wp2_with fail
        refine (pair_a t a1' a2 a3 HP.out ⟨by omega, by omega⟩ (by omega) hrs HLA.out).mono ?_
        rintro e w4 ⟨rfl, f4, hf4, hP4, hk4⟩
        have hb4 : Below ra w w4 := Keeps.below HB.out hk4 hrs (fun x hx e => by have := HP.out.1 x hx; omega)
        obtain ⟨hC4, z0, z1, z2, z3⟩ := HAt.out w4 hk4
        have HP4 := Lib.hid hP4
        have HC4 := Lib.hid hC4
        have HB4 := Lib.hid hb4
        have HO4 := Lib.hid (show ∀ g, (Value.slice (some ⟨gc, oc, none⟩) q c3).ownBlock = some g → g < w4.heap.size ∧ f4 g = 0 from fun g hg => by
          simp [Value.ownBlock] at hg; subst hg
          have := hk4.size
          exact ⟨by omega, by rw [hf4 gc hgc]; exact hO2⟩)
        have HL4 := Lib.hid (show stepL la ⟨(t : Int), a1', a2, a3⟩ k = lb k ∧ (∀ s, s ≠ k → lb s = []) ∧ ∀ s, s < 4 → (stepL la ⟨(t : Int), a1', a2, a3⟩ s).length ≤ i + 1 ∧ (lb s).length ≤ i + 1 from by
          refine ⟨by rw [step_at, if_neg (Ne.symm htk)]; exact hL.out.1, hL.out.2.1, fun s hs => ?_⟩
          have h1 := step_len HUA.out ⟨(t : Int), a1', a2, a3⟩ s hs
          have h3 := hL.out.2.2 s hs
          exact ⟨by omega, by omega⟩)
        clear hP4 hC4 hb4 hk4 hf4 y0 y1 y2 y3 HAt htk
        go_wp2_with fail
        go_roundw
        case rel => exact ⟨i + 1, f4, _, _, by omega, by go_num, HP4.out, HC4.out, HO4.out, HL4, HB4.out⟩
        case measure => simp [intOf]; omega
    · obtain rfl : i = q := by omega
      have q2 : ¬ (i : Int) < i := by omega
      clear HC HO
      have hkl := (hL.out.2.2 k hkb).1
      have HE := Lib.hid hL.out.1
      have HN := Lib.hid (hL.out.2.1 ((k + 1) % 4) (by omega))
      go_wp2_with fail
      refine (awake09 _).mono ?_
      rintro e w5 ⟨rfl, b5⟩
      have HP5 := Lib.hid (pair_below HP.out b5)
      have HB5 := Lib.hid (HB.out.trans (b5.mono hrs))
      clear b5 HP HB
      go_wp2_with fail
      refine (pair_rows_a k HP5.out hkb (by omega)).mono ?_
      rintro e w6 ⟨A6, c6, rfl, hF6, b6⟩
      have HP6 := Lib.hid (pair_below HP5.out b6)
      have HB6 := Lib.hid (HB5.out.trans (b6.mono (by have := HB5.out.size; rw [HRA.out] at this; exact this)))
      have HF6 := Lib.hid hF6.1
      clear b6 hF6 HP5 HB5
      go_wp2_with fail
      have hrb := pair_rows_b k HP6.out hkb (by rw [← HE.out]; omega)
      rw [← HE.out] at hrb
      refine hrb.mono ?_
      rintro e w7 ⟨A7, c7, rfl, hF7, b7⟩
      have HP7 := Lib.hid (pair_below HP6.out b7)
      have HB7 := Lib.hid (HB6.out.trans (b7.mono (by have := HB6.out.size; rw [HRA.out] at this; exact this)))
      have HF7 := Lib.hid hF7.1
      have HF8 := Lib.hid (HF6.out.below b7)
      clear b7 hF7 HP6 HB6 HF6 hrb
      go_wp2_with fail
      refine (plain_row _ _ (la k).length (la k) _ (Rs.of HF8.out) (Rs.of HF7.out) (by omega)).mono ?_
      rintro e w8 ⟨rfl, b8⟩
      have HP8 := Lib.hid (pair_below HP7.out b8)
      have HB8 := Lib.hid (HB7.out.trans (b8.mono (by have := HB7.out.size; rw [HRA.out] at this; exact this)))
      clear b8 HP7 HB7 HF7 HF8
      have e4 : ((k : Int) + 1) % 4 = (((k + 1) % 4 : Nat) : Int) := by omega
      have u4 : IntKind.i64.wrap ((k : Int) + 1) = (k : Int) + 1 := IntWalk.i64_in _ (by omega)
      have e5 : (0 : Int) ≤ (k : Int) + 1 := by omega
      go_wp2_with fail
      rw [e4]
      clear e4 e5
      go_wp2_with fail
      have hln := pair_len_b ((k + 1) % 4) HP8.out (by omega)
      rw [HN.out] at hln
      refine hln.mono ?_
      rintro e w9 ⟨rfl, rfl⟩
      go_wp2_with fail
      go_ret
      exact ⟨rfl, by rw [HRA.out]; exact HB8.out⟩

set_option maxRecDepth 100000 in
theorem lifted (os : Os) (started : os.Started) (H : Type) (enc : TypeId × Value → H) :
    ReturnsInHanded {} Try.checked os 8 .any (Rows.tableApartSpec.pre6 enc Try.prog Try.f8 Rows.tableApartRow.domain false) (Rows.tableApartSpec.post enc Try.prog Try.f8 false true false false) := by
  refine returnsInHanded_of_change (C := Try.checked) own started (by kernel_rfl) Try.func8
    (ChangeSpec.witness6 (enc := enc) (C := Try.checked) false ⟨#[], #[.slice none 0 0, .int .i64 0], []⟩ 8 (by kernel_rfl) (by kernel_rfl) (by kernel_rfl) (by kernel_rfl)) ?_
  intro W base args ds gs before hval0 hW hcnd _
  have hval : ∀ (j : Nat) t v, Try.f8.params[j]? = some t → args[j]? = some v → Value.okWide Try.prog W .any base t v := hval0
  have hW' := hW
  obtain ⟨p, q, hA0, hV, rfl, hfz, hnd⟩ := hW
  have hA : DataW.TrodAll enc Try.prog W 0 (fun _ => true) true Try.f8.params.toList args.toList ds p := hA0
  rw [Try.params8] at hA hval
  obtain ⟨v0, vs0, d0, ds0, p0, q0, hargs, rfl, rfl, h0, r0⟩ := trodAll_cons hA
  obtain ⟨v1, vs1, d1, ds1, p1, q1, rfl, rfl, rfl, h1, r1⟩ := trodAll_cons r0
  obtain ⟨rfl, rfl, rfl⟩ := trodAll_nil r1
  obtain rfl : args = #[v0, v1] := by cases args; simp_all
  obtain ⟨rfl, rfl⟩ := trodVars_none hV
  obtain ⟨a1, rfl, rfl, rfl, w1⟩ := open_int Try.underlying3 (hval 1 3 v1 rfl rfl) h1
  clear hA0 hval0
  have hlt := hW'.lt
  refine (walk W v0 d0 p0 (hval 0 61 v0 rfl rfl) h0 (fun x hx => hlt x (by simp [hx])) a1 w1).mono fun e W' ⟨he, hb⟩ => ?_
  subst he
  exact ⟨_, rfl, post_of_below (pv := []) hW' (fun _ _ _ => (trodAll_cons_mk (shut_bool Try.underlying4 _) trodAll_mk0)) (fun sp hsp => (trodAll_cons_mk (WideElems.Trod_stays laidOut (by kernel_rfl) (of_decide_eq_true (by kernel_rfl)) h0 (fun x hx => hb.same (hlt x (by simp [hx]))) (fun x hx => hsp x (by simp [hx]))) (trodAll_cons_mk (shut_int Try.underlying3 w1) trodAll_mk0))) (fun _ _ => rfl) (by simp) hb (ok_one (by kernel_rfl) rfl (okWide_bool_mk Try.underlying4 _))⟩

theorem over : Rows.tableApartRow.holds Try.pinned (OpenSpec.ofChange Rows.tableApartSpec) :=
  OpenClaim.holds_of_wide 8 Try.f8 rfl rfl rfl rfl rfl rfl rfl ⟨rfl, rfl, rfl, rfl, rfl⟩ rfl rfl rfl rfl rfl (by kernel_rfl) Try.func8 (by kernel_rfl)
    (of_decide_eq_true (by kernel_rfl)) (by unfold Func.isWrapper; first | (rw [if_pos (by decide +kernel)]; kernel_rfl) | (rw [if_neg (by decide +kernel)]; exact ⟨rfl, rfl⟩))
    (fun os started H enc _ => lifted os started H enc)

theorem proved : Rows.TableApartSaid := over
#print axioms proved
end Go.Proofs.Ytkicnjbidbfajaa.tableApart
