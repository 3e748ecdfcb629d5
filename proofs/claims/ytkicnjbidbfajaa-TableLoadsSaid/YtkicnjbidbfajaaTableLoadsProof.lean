/- The law qanat/qanatlaw09.TableLoads returns true for all arguments of its types; no condition. -/
import Derived.Test.YtkicnjbidbfajaaLoad
import Derived.Test.YtkicnjbidbfajaaArgs
import Derived.WalkKit
import Derived.ProofKit
import Derived.OpenShut
import Derived.WideKeyArgs
namespace Go.Proofs.Ytkicnjbidbfajaa.tableLoads
open Go.ChangeShapes Go.WideShapes Go.ChangeAt Go.RowKit
set_option linter.unusedVariables false
set_option linter.unusedSimpArgs false
theorem own : ownKnob Try.prog.godebug = none := by kernel_rfl
theorem laidOut : laidOutB Try.prog = true := by kernel_rfl
section
variable {tag : Nat} {f : Nat → Nat} {r n : Nat} {w : World} {ls : Nat → List Rw}
theorem trows_e (t : Nat) (h : TsE tag f r w n ls) (ht : t < n) (hl : (ls t).length ≤ 2000) : Calls Try.prog 36 #[.pointer (some ⟨r, 0, none⟩), .int .i64 t] w (ClonePost (ls t) w) := by
  obtain ⟨s, P, V, h⟩ := h; exact trows t h ht hl
theorem tapply_e (v : Value) (m : Nat) (F : Nat → Cg) (h : TsE tag f r w n ls) (hC : Cs w v m F) (hF : ∀ i, i < m → 0 ≤ (F i).tb ∧ (F i).tb < n) (hm : m ≤ 500) (hl : ∀ t, t < n → (ls t).length ≤ 1200) (hO : ∀ g, v.ownBlock = some g → f g < tag + 2 ∨ tag + 2 + n ≤ f g) :
    Calls Try.prog 35 #[.pointer (some ⟨r, 0, none⟩), v] w (ApplyPost tag f r n (applyN ls F m) w) := by
  obtain ⟨s, P, V, h⟩ := h; exact tapply v m F h hC hF hm hl hO
theorem tload_e (t : Nat) (v : Value) (a : List Rw) (h : TsE tag f r w n ls) (ht : t < n) (hn : n ≤ 8) (hR : Rs w v a.length a) (ha : a.length ≤ 1500) :
    Calls Try.prog 38 #[.pointer (some ⟨r, 0, none⟩), .int .i64 t, v] w (LoadPost tag f r n (updT ls t (putAll a)) w) := by
  obtain ⟨s, P, V, h⟩ := h; exact tload t v a h ht hn hR ha
theorem retag_e (h : TsE tag f r w n ls) (x : Nat) : TsE tag (fun g => if w.heap.size ≤ g then x else f g) r w n ls := by
  obtain ⟨s, P, V, h⟩ := h; exact ⟨s, P, V, h.retag x⟩
end
theorem apply_short (F : Nat → Cg) (m n : Nat) (hm : m ≤ 40) : ∀ t, t < n → (applyN (fun _ => []) F m t).length ≤ 40 := fun t ht => by
  have := apply_len (n := n) (ls := fun _ => []) (fun _ _ => List.Pairwise.nil) F m t ht
  simp at this
  omega
theorem hF_below {B : Nat} {v : Value} {l : List Rw} {w w' : World} (h : Fr B w v l) (hb : Below w.heap.size w w') : Fr B w' v l := ⟨h.1.below hb, fun g hg => ⟨(h.2 g hg).1, Nat.lt_of_lt_of_le (h.2 g hg).2 hb.size⟩⟩

set_option maxRecDepth 100000 in
set_option maxHeartbeats 3000000 in
theorem walk {H : Type} {enc : TypeId × Value → H} (w : World) {base : Nat} (v0 : Value) (d0 : DataW H) (p0 : List MemPlace) (o0 : Value.okWide Try.prog w .any base 61 v0) (h0 : DataW.Trod enc Try.prog w 0 (fun _ => true) true 61 v0 d0 p0) (l0 : ∀ x ∈ p0, x.block < w.heap.size) (v1 : Value) (d1 : DataW H) (p1 : List MemPlace) (o1 : Value.okWide Try.prog w .any base 22 v1) (h1 : DataW.Trod enc Try.prog w 0 (fun _ => true) true 22 v1 d1 p1) (l1 : ∀ x ∈ p1, x.block < w.heap.size) (a2 : Int) (w2 : (Lit.int .i64 a2).wf = true) :
    Calls Try.prog 9 #[v0, v1, .int .i64 a2] w fun e w' => e = .returned (.bool true) ∧ Below w.heap.size w w' := by
  obtain ⟨m, F, hC, hs⟩ := open_cgs (P := Try.prog) Try.underlying61 Try.underlying65 (by kernel_rfl) (by kernel_rfl) (by rfl) (fun f hf => by simp at hf; subst hf; exact Try.underlying3) (fun f hf => by simp at hf; subst hf; exact Try.underlying2) (fun f hf => by simp at hf; subst hf; exact Try.underlying4) (fun f hf => by simp at hf; subst hf; exact Try.underlying9) o0 h0 l0
  obtain ⟨A, cap, rfl, hlc, hcm⟩ := hC.form
  unfold maxLen at hcm
  have HC := Lib.hid hC
  have HS := Lib.hid hs
  clear hC hs h0 l0 o0
  obtain ⟨n, a, hR, _⟩ := open_rows (P := Try.prog) Try.underlying22 Try.underlying26 (by kernel_rfl) (by kernel_rfl) (by rfl) (fun f hf => by simp at hf; subst hf; exact Try.underlying2) (fun f hf => by simp at hf; subst hf; exact Try.underlying9) o1 h1 l1
  obtain ⟨A1, cap1, rfl, hlc1, hcm1⟩ := hR.form
  unfold maxLen at hcm1
  have HRs := Lib.hid hR
  have hal := hR.1
  clear hR h1 l1 o1
  have HN := Lib.hid (tnew_ok 100 (fun _ => 0) 3 w (by omega) (by omega) (fun g _ => .inl (by omega)))
  obtain ⟨r, hr⟩ : ∃ r, w.heap.size = r := ⟨_, rfl⟩
  unfold NewOk at HN
  rw [hr] at HN
  have HR := Lib.hid hr
  clear hr
  by_cases hbig : 200 < n
  · have g1 : (200 : Int) < n := by omega
    go_enter Try.func9, Try.ntmps9
    go_wp2_with fail
    refine HN.out.mono ?_
    rintro e w1 ⟨rfl, f1, hf1, hT1, hb1⟩
    have HB1 := Lib.hid hb1
    clear hf1 hT1 hb1 HN
    go_wp2_with fail
    refine (awake09 _).mono ?_
    rintro e w2 ⟨rfl, b2⟩
    have hbF : Below w.heap.size w w2 := by rw [HR.out]; exact HB1.out.trans (b2.mono HB1.out.size |> fun h => by rwa [HR.out] at h)
    go_wp2_with fail
    go_ret
    exact ⟨rfl, hbF⟩
  · have g1 : ¬ (200 : Int) < n := by omega
    subst hal
    have hk3 := bigS_bd a2 3 (by decide)
    obtain ⟨k, hk⟩ : ∃ k : Nat, bigS a2 3 = k := ⟨(bigS a2 3).toNat, by omega⟩
    have hkb : k < 3 := by omega
    have hMod := fun w' => mod_any a2 3 w' (by omega) (by omega)
    rw [hk] at hMod
    clear hk hk3
    have HMod := Lib.hid hMod
    clear hMod
    go_enter Try.func9, Try.ntmps9
    go_wp2_with fail
    refine HN.out.mono ?_
    rintro e w1 ⟨rfl, f1, hf1, hT1, hb1⟩
    have hrs : r ≤ w1.heap.size := by have := hb1.size; rw [HR.out] at this; exact this
    have HT1 := Lib.hid (retag_e hT1 0)
    have HF1 := Lib.hid (show ∀ g, g < r → (if w1.heap.size ≤ g then 0 else f1 g) = 0 from fun g hg => by rw [if_neg (by omega)]; exact hf1 g hg)
    have HB1 := Lib.hid hb1
    clear hf1 hT1 hb1 HN
    go_wp2_with fail
    refine (changes_any _ m 3 40 F w1 (HC.out.below (by rw [HR.out]; exact HB1.out)) (fun i hi => HS.out i hi) (by omega) (by omega) (by omega)).mono ?_
    rintro e w2 ⟨A2, c2, q, F2, rfl, hq, hC2, hr2, hO2, hb2⟩
    obtain ⟨f2, hf2⟩ : ∃ f2 : Nat → Nat, (fun g => if w1.heap.size ≤ g then 0 else f1 g) = f2 := ⟨_, rfl⟩
    have hf2' : ∀ g, (if w1.heap.size ≤ g then 0 else f1 g) = f2 g := fun g => congrFun hf2 g
    rw [hf2] at HT1
    have HT2 := Lib.hid (tse_below HT1.out hb2)
    have HF2 := Lib.hid (show ∀ g, g < r → f2 g = 0 from fun g hg => by rw [← hf2' g]; exact HF1.out g hg)
    have HB2 := Lib.hid (HB1.out.trans (hb2.mono hrs))
    have HO2 := Lib.hid (show ∀ g, (Value.slice A2 q c2).ownBlock = some g → f2 g = 0 from fun g hg => by rw [← hf2' g]; exact if_pos (hO2 g hg).1)
    have HC2 := Lib.hid hC2
    have HG2 := Lib.hid hr2
    have hs2 := hb2.size
    clear hf2 hf2' hC2 hr2 hO2 hb2 HT1 HF1 HB1 HC HS
    go_wp2_with fail
    refine (tapply_e _ q F2 HT2.out HC2.out HG2.out (by omega) (by simp) (fun g hg => .inl (by rw [HO2.out g hg]; omega))).mono ?_
    rintro e w3 ⟨rfl, f3, hf3, hT3, hk3⟩
    have hs3 := hk3.size
    have hLl := apply_short F2 q 3 hq
    obtain ⟨L, hL⟩ : ∃ L, applyN (fun _ => []) F2 q = L := ⟨_, rfl⟩
    rw [hL] at hT3 hLl
    clear hL
    have HLl := Lib.hid hLl
    obtain ⟨f4, hf4⟩ : ∃ f4 : Nat → Nat, (fun g => if w3.heap.size ≤ g then 0 else f3 g) = f4 := ⟨_, rfl⟩
    have hf4' : ∀ g, (if w3.heap.size ≤ g then 0 else f3 g) = f4 g := fun g => congrFun hf4 g
    have HT3 := Lib.hid (show TsE 100 f4 r w3 3 L from by rw [← hf4]; exact retag_e hT3 0)
    have HB3 := Lib.hid (Keeps.below HB2.out hk3 (by omega) (fun x hx e => by have := HF2.out x hx; omega))
    have HF3 := Lib.hid (show ∀ g, g < r → f4 g = 0 from fun g hg => by rw [← hf4' g, if_neg (by omega), hf3 g (by omega)]; exact HF2.out g hg)
    have HZ3 := Lib.hid (show ∀ g, w3.heap.size ≤ g → f4 g = 0 from fun g hg => by rw [← hf4' g]; exact if_pos hg)
    clear hf4 hf4' hLl hT3 hk3 hf3 HT2 HC2 HG2 HO2 HF2 HB2
    have u4 : IntKind.i64.wrap ((k : Int) + 1) = (k : Int) + 1 := IntWalk.i64_in _ (by omega)
    have e5 : (0 : Int) ≤ (k : Int) + 1 := by omega
    have e4 : ((k : Int) + 1) % 3 = (((k + 1) % 3 : Nat) : Int) := by omega
    have E4 := Lib.hid e4
    clear e4
    go_wp2_with fail
    refine (HMod.out _).mono ?_
    rintro e w4 ⟨rfl, rfl⟩
    go_wp2_with fail
    rw [E4.out]
    obtain ⟨k1, hk1⟩ : ∃ k1, (k + 1) % 3 = k1 := ⟨_, rfl⟩
    have hk1b : k1 < 3 := by omega
    have hk1n : k1 ≠ k := by omega
    rw [hk1] at E4 ⊢
    clear hk1
    refine (trows_e k1 HT3.out hk1b (by have := HLl.out k1 hk1b; omega)).mono ?_
    rintro e w5 ⟨A5, c5, rfl, hF5, hb5⟩
    have hs5 := hb5.size
    have HF5 := Lib.hid hF5
    have HN5 := Lib.hid (show ∀ x, (Value.slice A5 (L k1).length c5).ownBlock = some x → x < w5.heap.size from fun x hx => (hF5.2 x hx).2)
    have HT5 := Lib.hid (tse_below HT3.out hb5)
    have HB5 := Lib.hid (HB3.out.trans (hb5.mono (by omega)))
    clear hF5 hb5 HT3 HB3
    go_wp2_with fail
    have HRs5 := Lib.hid (HRs.out.below (by rw [← HR.out] at HB5; exact HB5.out) (Nat.le_refl _))
    refine (own_any _ a 1 ⟨#[111]⟩ w5 HRs5.out (by omega)).mono ?_
    rintro e w6 ⟨g, off, rfl, hg1, hg2, hS6, hb6⟩
    have hs6 := hb6.size
    have HS6 := Lib.hid hS6
    have HT6 := Lib.hid (tse_below HT5.out hb6)
    have HF6 := Lib.hid (hF_below HF5.out hb6)
    have HB6 := Lib.hid (HB5.out.trans (hb6.mono (by omega)))
    clear hS6 hb6 HT5 HF5 HB5 HRs5
    go_wp2_with fail
    refine (tload_e k _ a HT6.out hkb (by omega) (Rs.of (rows_part (m := [(1, ⟨#[111]⟩), (1, ⟨#[111]⟩), (1, ⟨#[111]⟩)]) (HS6.out.less (Nat.le_refl _) (Nat.le_refl _) (by omega)))) (by omega)).mono ?_
    rintro e w7 ⟨rfl, f7, hf7, hT7, hk7⟩
    have hs7 := hk7.size
    have HS7 := Lib.hid (HS6.out.keeps hk7 (fun x hx e => by simp [Value.ownBlock] at hx; subst hx; have := HZ3.out g (by omega); omega))
    have HF7 := Lib.hid (show Fr w3.heap.size w7 (.slice A5 (L k1).length c5) (L k1) from ⟨HF6.out.1.keeps hk7 (fun x hx e => by have := HZ3.out x (HF6.out.2 x hx).1; omega), fun x hx => ⟨(HF6.out.2 x hx).1, Nat.lt_of_lt_of_le (HF6.out.2 x hx).2 hs7⟩⟩)
    have HB7 := Lib.hid (Keeps.below HB6.out hk7 (by omega) (fun x hx e => by have := HF3.out x hx; omega))
    have HT7 := Lib.hid hT7
    have HG7 := Lib.hid (show f7 g = 0 from by rw [hf7 g hg2]; exact HZ3.out g (by omega))
    have HO7 := Lib.hid (show ∀ x, (Value.slice A5 (L k1).length c5).ownBlock = some x → x ≠ g from fun x hx e => by have := HN5.out x hx; omega)
    clear hk7 hf7 hT7 HS6 HT6 HF6 HB6 HF3 HZ3 HN5
    have hLen : (L k1).length ≤ 40 := HLl.out k1 hk1b
    go_wp2_with fail
    have HRs7 := Lib.hid (HRs.out.below (by rw [← HR.out] at HB7; exact HB7.out) (Nat.le_refl _))
    refine (kept_any g off a 1 ⟨#[111]⟩ _ w7 HS7.out HRs7.out (by omega)).mono ?_
    rintro e w8 ⟨rfl, b8⟩
    have hs8 := b8.size
    have HS8 := Lib.hid (rows_part (m := [(1, ⟨#[111]⟩), (1, ⟨#[111]⟩), (1, ⟨#[111]⟩)]) (HS7.out.below b8))
    have HT8 := Lib.hid (tse_below HT7.out b8)
    have HF8 := Lib.hid (hF_below HF7.out b8)
    have HB8 := Lib.hid (HB7.out.trans (b8.mono (by omega)))
    clear b8 HS7 HT7 HF7 HB7 HRs7
    go_wp2_with fail
    refine (spoil_any _ a w8 HS8.out (by omega)).mono ?_
    rintro e w9 ⟨⟨u9, rfl⟩, k9⟩
    have hs9 := k9.size
    have HT9 := Lib.hid (tse_keeps (f' := f7) HT8.out k9 (fun _ _ => rfl) (fun x hx _ => by simp [Value.ownBlock] at hx; subst hx; have := HG7.out; omega))
    have HF9 := Lib.hid (show Fr w3.heap.size w9 (.slice A5 (L k1).length c5) (L k1) from ⟨HF8.out.1.keeps k9 (fun x hx e => by simp [Value.ownBlock] at e; have := HO7.out x hx; omega), fun x hx => ⟨(HF8.out.2 x hx).1, Nat.lt_of_lt_of_le (HF8.out.2 x hx).2 hs9⟩⟩)
    have HB9 := Lib.hid (Keeps.below HB8.out k9 (by omega) (fun x hx e => by simp [Value.ownBlock] at e; omega))
    clear k9 HS8 HT8 HF8 HB8 HG7 HO7
    go_wp2_with fail
    refine (awake09 _).mono ?_
    rintro e w10 ⟨rfl, b10⟩
    have hs10 := b10.size
    have HT10 := Lib.hid (tse_below HT9.out b10)
    have HF10 := Lib.hid (hF_below HF9.out b10)
    have HB10 := Lib.hid (HB9.out.trans (b10.mono (by omega)))
    clear b10 HT9 HF9 HB9
    have hPl := all_len a
    obtain ⟨M, hM⟩ : ∃ M, putAll a = M := ⟨_, rfl⟩
    have HMk := Lib.hid (fun (w' : World) (hR' : Rs w' (.slice A1 a.length cap1) a.length a) => rmake_any _ a w' hR' (by omega))
    rw [hM] at HT10 hPl HMk
    have hu1 : updT L k M k = M := by simp [updT]
    have hu2 : updT L k M k1 = L k1 := by simp [updT, hk1n]
    clear hM
    go_wp2_with fail
    have hr11 := trows_e k HT10.out hkb (by rw [hu1]; omega)
    rw [hu1] at hr11
    refine hr11.mono ?_
    rintro e w11 ⟨A11, c11, rfl, hF11, b11⟩
    have hs11 := b11.size
    have HM11 := Lib.hid hF11.1
    have HT11 := Lib.hid (tse_below HT10.out b11)
    have HF11 := Lib.hid (hF_below HF10.out b11)
    have HB11 := Lib.hid (HB10.out.trans (b11.mono (by omega)))
    clear hF11 b11 hr11 HT10 HF10 HB10
    go_wp2_with fail
    refine (HMk.out w11 (HRs.out.below (by rw [← HR.out] at HB11; exact HB11.out) (Nat.le_refl _))).mono ?_
    rintro e w12 ⟨A12, c12, rfl, hF12, b12⟩
    have hs12 := b12.size
    have HN12 := Lib.hid hF12.1
    have HM12 := Lib.hid (HM11.out.below b12)
    have HT12 := Lib.hid (tse_below HT11.out b12)
    have HF12 := Lib.hid (hF_below HF11.out b12)
    have HB12 := Lib.hid (HB11.out.trans (b12.mono (by omega)))
    clear hF12 b12 HM11 HT11 HF11 HB11 HMk
    go_wp2_with fail
    refine (plain_row _ _ M.length M w12 (Rs.of HM12.out) (Rs.of HN12.out) (by omega)).mono ?_
    rintro e w13 ⟨rfl, b13⟩
    have hs13 := b13.size
    have HT13 := Lib.hid (tse_below HT12.out b13)
    have HF13 := Lib.hid (hF_below HF12.out b13)
    have HB13 := Lib.hid (HB12.out.trans (b13.mono (by omega)))
    clear b13 HM12 HN12 HT12 HF12 HB12
    go_wp2_with fail
    rw [E4.out]
    have hr14 := trows_e k1 HT13.out hk1b (by rw [hu2]; omega)
    rw [hu2] at hr14
    refine hr14.mono ?_
    rintro e w14 ⟨A14, c14, rfl, hF14, b14⟩
    have hs14 := b14.size
    have HM14 := Lib.hid hF14.1
    have HF14 := Lib.hid (hF_below HF13.out b14)
    have HB14 := Lib.hid (HB13.out.trans (b14.mono (by omega)))
    clear hF14 b14 hr14 HT13 HF13 HB13
    go_wp2_with fail
    refine (plain_row _ _ (L k1).length (L k1) w14 (Rs.of HM14.out) (Rs.of HF14.out.1) (by omega)).mono ?_
    rintro e w15 ⟨rfl, b15⟩
    have HB15 := Lib.hid (HB14.out.trans (b15.mono (by omega)))
    clear b15 HM14 HF14 HB14
    go_wp2_with fail
    go_ret
    exact ⟨rfl, by rw [HR.out]; exact HB15.out⟩

set_option maxRecDepth 100000 in
theorem lifted (os : Os) (started : os.Started) (H : Type) (enc : TypeId × Value → H) :
    ReturnsInHanded {} Try.checked os 9 .any (Rows.tableLoadsSpec.pre6 enc Try.prog Try.f9 Rows.tableLoadsRow.domain false) (Rows.tableLoadsSpec.post enc Try.prog Try.f9 false true false false) := by
  refine returnsInHanded_of_change (C := Try.checked) own started (by kernel_rfl) Try.func9
    (ChangeSpec.witness6 (enc := enc) (C := Try.checked) false ⟨#[], #[.slice none 0 0, .slice none 0 0, .int .i64 0], []⟩ 8 (by kernel_rfl) (by kernel_rfl) (by kernel_rfl) (by kernel_rfl)) ?_
  intro W base args ds gs before hval0 hW hcnd _
  have hval : ∀ (j : Nat) t v, Try.f9.params[j]? = some t → args[j]? = some v → Value.okWide Try.prog W .any base t v := hval0
  have hW' := hW
  obtain ⟨p, q, hA0, hV, rfl, hfz, hnd⟩ := hW
  have hA : DataW.TrodAll enc Try.prog W 0 (fun _ => true) true Try.f9.params.toList args.toList ds p := hA0
  rw [Try.params9] at hA hval
  obtain ⟨v0, vs0, d0, ds0, p0, q0, hargs, rfl, rfl, h0, r0⟩ := trodAll_cons hA
  obtain ⟨v1, vs1, d1, ds1, p1, q1, rfl, rfl, rfl, h1, r1⟩ := trodAll_cons r0
  obtain ⟨v2, vs2, d2, ds2, p2, q2, rfl, rfl, rfl, h2, r2⟩ := trodAll_cons r1
  obtain ⟨rfl, rfl, rfl⟩ := trodAll_nil r2
  obtain rfl : args = #[v0, v1, v2] := by cases args; simp_all
  obtain ⟨rfl, rfl⟩ := trodVars_none hV
  obtain ⟨a2, rfl, rfl, rfl, w2⟩ := open_int Try.underlying3 (hval 2 3 v2 rfl rfl) h2
  clear hA0 hval0
  have hlt := hW'.lt
  refine (walk W v0 d0 p0 (hval 0 61 v0 rfl rfl) h0 (fun x hx => hlt x (by simp [hx])) v1 d1 p1 (hval 1 22 v1 rfl rfl) h1 (fun x hx => hlt x (by simp [hx])) a2 w2).mono fun e W' ⟨he, hb⟩ => ?_
  subst he
  exact ⟨_, rfl, post_of_below (pv := []) hW' (fun _ _ _ => (trodAll_cons_mk (shut_bool Try.underlying4 _) trodAll_mk0)) (fun sp hsp => (trodAll_cons_mk (WideElems.Trod_stays laidOut (by kernel_rfl) (of_decide_eq_true (by kernel_rfl)) h0 (fun x hx => hb.same (hlt x (by simp [hx]))) (fun x hx => hsp x (by simp [hx]))) (trodAll_cons_mk (WideElems.Trod_stays laidOut (by kernel_rfl) (of_decide_eq_true (by kernel_rfl)) h1 (fun x hx => hb.same (hlt x (by simp [hx]))) (fun x hx => hsp x (by simp [hx]))) (trodAll_cons_mk (shut_int Try.underlying3 w2) trodAll_mk0)))) (fun _ _ => rfl) (by simp) hb (ok_one (by kernel_rfl) rfl (okWide_bool_mk Try.underlying4 _))⟩

theorem over : Rows.tableLoadsRow.holds Try.pinned (OpenSpec.ofChange Rows.tableLoadsSpec) :=
  OpenClaim.holds_of_wide 9 Try.f9 rfl rfl rfl rfl rfl rfl rfl ⟨rfl, rfl, rfl, rfl, rfl⟩ rfl rfl rfl rfl rfl (by kernel_rfl) Try.func9 (by kernel_rfl)
    (of_decide_eq_true (by kernel_rfl)) (by unfold Func.isWrapper; first | (rw [if_pos (by decide +kernel)]; kernel_rfl) | (rw [if_neg (by decide +kernel)]; exact ⟨rfl, rfl⟩))
    (fun os started H enc _ => lifted os started H enc)

theorem proved : Rows.TableLoadsSaid := over
#print axioms proved
end Go.Proofs.Ytkicnjbidbfajaa.tableLoads
