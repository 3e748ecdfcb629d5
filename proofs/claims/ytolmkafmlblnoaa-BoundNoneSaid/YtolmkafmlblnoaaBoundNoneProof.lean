/- The law qanat/qanatlaw33.BoundNone returns true for all arguments of its types; no condition. -/
import Derived.Test.YtolmkafmlblnoaaBoundJ
import Derived.WalkKit
import Derived.ProofKit
import Derived.OpenShut
import Derived.WideKeyArgs
namespace Go.Proofs.Ytolmkafmlblnoaa.boundNone
open Go.ChangeShapes Go.WideShapes Go.ChangeAt Go.RowKit
set_option linter.unusedVariables false
set_option linter.unusedSimpArgs false
theorem own : ownKnob Try.prog.godebug = none := by kernel_rfl
theorem laidOut : laidOutB Try.prog = true := by kernel_rfl
def NoneB (x y : Nat) (cs ls : Array Value) (w0 w : World) : Prop := Blk w x 23 cs ∧ Blk w y 25 ls ∧ Below x w0 w
theorem NoneB.below {x y : Nat} {cs ls : Array Value} {w0 w w' : World} (h : NoneB x y cs ls w0 w) (hb : Below w.heap.size w w') : NoneB x y cs ls w0 w' :=
  ⟨h.1.below hb h.1.lt, h.2.1.below hb h.2.1.lt, h.2.2.trans (hb.mono (Nat.le_trans (Nat.le_of_lt h.1.lt) (Nat.le_refl _)))⟩
def NoneRel (x y : Nat) (w0 w : World) : Prop := ∃ (a b c d e f g h i j u r q : Int) (t : Bool) (lc lf wt : Int), (mayC a b c d e f g h i j && mayL u r q lc lf wt) = false ∧ NoneB x y #[.int .i64 a, .int .i64 b, .int .i64 c, .int .i64 d, .int .i64 e, .int .i64 f, .int .i64 g, .int .i64 h, .int .i64 i, .int .i64 j] #[.int .i64 u, .int .i64 r, .int .i64 q, .bool t, .int .i64 lc, .int .i64 lf, .int .i64 wt] w0 w

set_option maxRecDepth 100000 in
set_option maxHeartbeats 3000000 in
theorem walk {H : Type} {enc : TypeId × Value → H} (w : World) {base : Nat} (v0 : Value) (d0 : DataW H) (p0 : List MemPlace) (o0 : Value.okWide Try.prog w .any base 23 v0) (h0 : DataW.Trod enc Try.prog w 0 (fun _ => true) true 23 v0 d0 p0) (l0 : ∀ x ∈ p0, x.block < w.heap.size) (v1 : Value) (d1 : DataW H) (p1 : List MemPlace) (o1 : Value.okWide Try.prog w .any base 25 v1) (h1 : DataW.Trod enc Try.prog w 0 (fun _ => true) true 25 v1 d1 p1) (l1 : ∀ x ∈ p1, x.block < w.heap.size) (a2 : Int) (w2 : (Lit.int .i64 a2).wf = true) :
    Calls Try.prog 5 #[v0, v1, .int .i64 a2] w fun e w' => e = .returned (.bool true) ∧ Below w.heap.size w w' := by
  obtain ⟨a, b, c, d, e, f, g, h, i, j, rfl⟩ := open_conf o0 h0
  obtain ⟨u, r, q, t, lc, lf, wt, rfl⟩ := open_load o1 h1
  clear h0 h1 l0 l1 o0 o1
  have ck := bigS_bd a2 8 (by decide)
  unfold confV loadV
  have HI0 := Lib.hid (CLIn.mk0 w #[.int .i64 a, .int .i64 b, .int .i64 c, .int .i64 d, .int .i64 e, .int .i64 f, .int .i64 g, .int .i64 h, .int .i64 i, .int .i64 j] #[.int .i64 u, .int .i64 r, .int .i64 q, .bool t, .int .i64 lc, .int .i64 lf, .int .i64 wt])
  go_enter Try.func5, Try.ntmps5
  go_wp2_with fail
  obtain ⟨x, hx⟩ : ∃ x, w.heap.size = x := ⟨_, rfl⟩
  have hI := HI0.out
  rw [hx] at hI ⊢
  have HX := Lib.hid hx
  have HI := Lib.hid hI
  clear hx HI0 hI
  refine (config_ex _ _ _ _ _ _ _ _ _ _ _).mono ?_
  rintro e' w1 ⟨ca, cb, cc, cd, ce, cf, cg, ch, ci, cj, hcm, rfl, b1⟩
  have HI1 := Lib.hid (HI.out.below b1)
  clear HI b1
  unfold confV
  go_upto_region 2 with (refine wpList_store_row rfl 23 (.tmp 3) (.tmp 9) rfl x _ rfl rfl 23 _ HI1.out.1 (by kernel_rfl) rfl (by simp [Value.oneCell']) ?_)
  obtain ⟨p1, p2, p3⟩ := HI1.out
  have HI2 := Lib.hid (show CLIn x #[.int .i64 ca, .int .i64 cb, .int .i64 cc, .int .i64 cd, .int .i64 ce, .int .i64 cf, .int .i64 cg, .int .i64 ch, .int .i64 ci, .int .i64 cj] #[.int .i64 u, .int .i64 r, .int .i64 q, .bool t, .int .i64 lc, .int .i64 lf, .int .i64 wt] w (w1.setRow x #[.int .i64 ca, .int .i64 cb, .int .i64 cc, .int .i64 cd, .int .i64 ce, .int .i64 cf, .int .i64 cg, .int .i64 ch, .int .i64 ci, .int .i64 cj]) from ⟨p1.row _, p2.rowFar (by omega) _, below_setRow p3 (Nat.le_refl _) _⟩)
  clear p1 p2 p3 HI1
  generalize World.setRow w1 _ _ = w2 at HI2 ⊢
  have z0 : w2.cell? ⟨x + 1, 0, none⟩ = some (.int .i64 u) := HI2.out.2.1.cell 0
  have z1 : w2.cell? ⟨x + 1, 1, none⟩ = some (.int .i64 r) := HI2.out.2.1.cell 1
  have z2 : w2.cell? ⟨x + 1, 2, none⟩ = some (.int .i64 q) := HI2.out.2.1.cell 2
  have z3 : w2.cell? ⟨x + 1, 3, none⟩ = some (.bool t) := HI2.out.2.1.cell 3
  have z4 : w2.cell? ⟨x + 1, 4, none⟩ = some (.int .i64 lc) := HI2.out.2.1.cell 4
  have z5 : w2.cell? ⟨x + 1, 5, none⟩ = some (.int .i64 lf) := HI2.out.2.1.cell 5
  have z6 : w2.cell? ⟨x + 1, 6, none⟩ = some (.int .i64 wt) := HI2.out.2.1.cell 6
  go_wp2_with fail
  refine (load_ex _ _ _ _ _ _ _ _).mono ?_
  rintro e' w3 ⟨yu, yr, yq, yt, yc, yf, yw, hlm, rfl, b3⟩
  have HI3 := Lib.hid (HI2.out.below b3)
  clear HI2 b3 z0 z1 z2 z3 z4 z5 z6
  unfold loadV
  go_upto_block 0 with (go_at_call 15; refine (mod_any _ _ _ (by omega) (by omega)).mono ?_; rintro e' w' ⟨rfl, rfl⟩)
  have HI4 := Lib.hid (show NoneB x w3.heap.size #[.int .i64 ca, .int .i64 cb, .int .i64 cc, .int .i64 cd, .int .i64 ce, .int .i64 cf, .int .i64 cg, .int .i64 ch, .int .i64 ci, .int .i64 cj] #[.int .i64 yu, .int .i64 yr, .int .i64 yq, .bool yt, .int .i64 yc, .int .i64 yf, .int .i64 yw] w (w3.alloc (.cells #[.int .i64 yu, .int .i64 yr, .int .i64 yq, .bool yt, .int .i64 yc, .int .i64 yf, .int .i64 yw] 25)) from ⟨HI3.out.1.alloc _, Blk.new _ _ _, HI3.out.2.2.alloc (Nat.le_of_lt HI3.out.1.lt) _⟩)
  have hxy := HI3.out.1.lt
  clear HI3
  generalize w3.heap.size = y at hxy HI4 ⊢
  generalize World.alloc w3 _ = w4 at HI4 ⊢
  go_cut [] (fun wx => NoneRel x y w wx)
  case first =>
    obtain ⟨g1, g2, g3⟩ := HI4.out
    have z0 : w4.cell? ⟨y, 0, none⟩ = some (.int .i64 yu) := g2.cell 0
    have z1 : w4.cell? ⟨y, 1, none⟩ = some (.int .i64 yr) := g2.cell 1
    have z2 : w4.cell? ⟨y, 2, none⟩ = some (.int .i64 yq) := g2.cell 2
    have z3 : w4.cell? ⟨y, 3, none⟩ = some (.bool yt) := g2.cell 3
    have z4 : w4.cell? ⟨y, 4, none⟩ = some (.int .i64 yc) := g2.cell 4
    have z5 : w4.cell? ⟨y, 5, none⟩ = some (.int .i64 yf) := g2.cell 5
    have z6 : w4.cell? ⟨y, 6, none⟩ = some (.int .i64 yw) := g2.cell 6
    have z7 : w4.cell? ⟨x, 0, none⟩ = some (.int .i64 ca) := g1.cell 0
    have fz := fun i => g2.frozen i
    have fx := fun i => g1.frozen i
    have hyl := g2.lt
    have hxl := g1.lt
    clear g1 g2 g3
    have hl := hlm
    simp only [mayL, decide_eq_true_eq] at hl
    generalize bigS a2 8 = kk at *
    have hk : kk = 0 ∨ kk = 1 ∨ kk = 2 ∨ kk = 3 ∨ kk = 4 ∨ kk = 5 ∨ kk = 6 ∨ kk = 7 := by omega
    rcases hk with rfl | rfl | rfl | rfl | rfl | rfl | rfl | rfl
    all_goals
      go_wp2_with fail
      go_meet
    all_goals obtain ⟨g1, g2, g3⟩ := HI4.out
    · exact ⟨ca, cb, cc, cd, ce, cf, cg, ch, ci, cj, (-1 - yu), yr, yq, yt, yc, yf, yw, by rw [hcm, Bool.true_and]; simp only [mayL]; rw [decide_eq_false_iff_not]; omega, g1.far (by simp; omega) _, g2.set_ 0 _, g3.setCell (by simp; omega) _⟩
    · exact ⟨ca, cb, cc, cd, ce, cf, cg, ch, ci, cj, yu, (1048577 + yr), yq, yt, yc, yf, yw, by rw [hcm, Bool.true_and]; simp only [mayL]; rw [decide_eq_false_iff_not]; omega, g1.far (by simp; omega) _, g2.set_ 1 _, g3.setCell (by simp; omega) _⟩
    · exact ⟨ca, cb, cc, cd, ce, cf, cg, ch, ci, cj, yu, yr, (-1), yt, yc, yf, yw, by rw [hcm, Bool.true_and]; simp only [mayL]; rw [decide_eq_false_iff_not]; omega, g1.far (by simp; omega) _, g2.set_ 2 _, g3.setCell (by simp; omega) _⟩
    · exact ⟨ca, cb, cc, cd, ce, cf, cg, ch, ci, cj, yu, yr, yq, yt, 1048577, yf, yw, by rw [hcm, Bool.true_and]; simp only [mayL]; rw [decide_eq_false_iff_not]; omega, g1.far (by simp; omega) _, g2.set_ 4 _, g3.setCell (by simp; omega) _⟩
    · exact ⟨ca, cb, cc, cd, ce, cf, cg, ch, ci, cj, yu, yr, yq, yt, yc, (-1 - yf), yw, by rw [hcm, Bool.true_and]; simp only [mayL]; rw [decide_eq_false_iff_not]; omega, g1.far (by simp; omega) _, g2.set_ 5 _, g3.setCell (by simp; omega) _⟩
    · exact ⟨ca, cb, cc, cd, ce, cf, cg, ch, ci, cj, yu, yr, yq, yt, yc, yf, 2147483649, by rw [hcm, Bool.true_and]; simp only [mayL]; rw [decide_eq_false_iff_not]; omega, g1.far (by simp; omega) _, g2.set_ 6 _, g3.setCell (by simp; omega) _⟩
    · exact ⟨ca, cb, cc, cd, ce, cf, cg, ch, ci, cj, yu, yr, yq, yt, yc, yf, (-1), by rw [hcm, Bool.true_and]; simp only [mayL]; rw [decide_eq_false_iff_not]; omega, g1.far (by simp; omega) _, g2.set_ 6 _, g3.setCell (by simp; omega) _⟩
    · exact ⟨0, cb, cc, cd, ce, cf, cg, ch, ci, cj, yu, yr, yq, yt, yc, yf, yw, by simp [mayC, inB], g1.set_ 0 _, g2.far (by simp; omega) _, g3.setCell (by simp) _⟩
  case rest =>
    clear HI4 hcm hlm ca cb cc cd ce cf cg ch ci cj yu yr yq yt yc yf yw
    obtain ⟨ca, cb, cc, cd, ce, cf, cg, ch, ci, cj, yu, yr, yq, yt, yc, yf, yw, hmay, hB⟩ := hcut
    have HB := Lib.hid hB
    have hyl := hB.2.1.lt
    have hxl := hB.1.lt
    clear hB
    have HR := Lib.hid (fun w => rounds_any ca cb cc cd ce cf cg ch ci cj yu yr yq yt yc yf yw w)
    rw [show roundsS ca cb cc cd ce cf cg ch ci cj yu yr yq yt yc yf yw = 0 by simp only [roundsS, hmay]; rfl] at HR
    have HL := Lib.hid (fun w => lag_any ca cb cc cd ce cf cg ch ci cj yu yr yq yt yc yf yw 3 w)
    rw [show lagS ca cb cc cd ce cf cg ch ci cj yu yr yq yt yc yf yw 3 = 0 by simp only [lagS, hmay]; rfl] at HL
    clear hmay
    go_wp2_with fail
    refine (awake33 _).mono ?_
    rintro e' w5 ⟨rfl, b5⟩
    have H5 := Lib.hid (HB.out.below b5)
    clear HB b5
    have e0 : w5.cell? ⟨x, 0, none⟩ = some (.int .i64 ca) := H5.out.1.cell 0
    have e1 : w5.cell? ⟨x, 1, none⟩ = some (.int .i64 cb) := H5.out.1.cell 1
    have e2 : w5.cell? ⟨x, 2, none⟩ = some (.int .i64 cc) := H5.out.1.cell 2
    have e3 : w5.cell? ⟨x, 3, none⟩ = some (.int .i64 cd) := H5.out.1.cell 3
    have e4 : w5.cell? ⟨x, 4, none⟩ = some (.int .i64 ce) := H5.out.1.cell 4
    have e5 : w5.cell? ⟨x, 5, none⟩ = some (.int .i64 cf) := H5.out.1.cell 5
    have e6 : w5.cell? ⟨x, 6, none⟩ = some (.int .i64 cg) := H5.out.1.cell 6
    have e7 : w5.cell? ⟨x, 7, none⟩ = some (.int .i64 ch) := H5.out.1.cell 7
    have e8 : w5.cell? ⟨x, 8, none⟩ = some (.int .i64 ci) := H5.out.1.cell 8
    have e9 : w5.cell? ⟨x, 9, none⟩ = some (.int .i64 cj) := H5.out.1.cell 9
    have f0 : w5.cell? ⟨y, 0, none⟩ = some (.int .i64 yu) := H5.out.2.1.cell 0
    have f1 : w5.cell? ⟨y, 1, none⟩ = some (.int .i64 yr) := H5.out.2.1.cell 1
    have f2 : w5.cell? ⟨y, 2, none⟩ = some (.int .i64 yq) := H5.out.2.1.cell 2
    have f3 : w5.cell? ⟨y, 3, none⟩ = some (.bool yt) := H5.out.2.1.cell 3
    have f4 : w5.cell? ⟨y, 4, none⟩ = some (.int .i64 yc) := H5.out.2.1.cell 4
    have f5 : w5.cell? ⟨y, 5, none⟩ = some (.int .i64 yf) := H5.out.2.1.cell 5
    have f6 : w5.cell? ⟨y, 6, none⟩ = some (.int .i64 yw) := H5.out.2.1.cell 6
    go_wp2_with fail
    refine (HR.out _).mono ?_
    rintro e' w6 ⟨rfl, b6⟩
    have H6 := Lib.hid (H5.out.below b6)
    clear H5 b6 e0 e1 e2 e3 e4 e5 e6 e7 e8 e9 f0 f1 f2 f3 f4 f5 f6
    have e0 : w6.cell? ⟨x, 0, none⟩ = some (.int .i64 ca) := H6.out.1.cell 0
    have e1 : w6.cell? ⟨x, 1, none⟩ = some (.int .i64 cb) := H6.out.1.cell 1
    have e2 : w6.cell? ⟨x, 2, none⟩ = some (.int .i64 cc) := H6.out.1.cell 2
    have e3 : w6.cell? ⟨x, 3, none⟩ = some (.int .i64 cd) := H6.out.1.cell 3
    have e4 : w6.cell? ⟨x, 4, none⟩ = some (.int .i64 ce) := H6.out.1.cell 4
    have e5 : w6.cell? ⟨x, 5, none⟩ = some (.int .i64 cf) := H6.out.1.cell 5
    have e6 : w6.cell? ⟨x, 6, none⟩ = some (.int .i64 cg) := H6.out.1.cell 6
    have e7 : w6.cell? ⟨x, 7, none⟩ = some (.int .i64 ch) := H6.out.1.cell 7
    have e8 : w6.cell? ⟨x, 8, none⟩ = some (.int .i64 ci) := H6.out.1.cell 8
    have e9 : w6.cell? ⟨x, 9, none⟩ = some (.int .i64 cj) := H6.out.1.cell 9
    have f0 : w6.cell? ⟨y, 0, none⟩ = some (.int .i64 yu) := H6.out.2.1.cell 0
    have f1 : w6.cell? ⟨y, 1, none⟩ = some (.int .i64 yr) := H6.out.2.1.cell 1
    have f2 : w6.cell? ⟨y, 2, none⟩ = some (.int .i64 yq) := H6.out.2.1.cell 2
    have f3 : w6.cell? ⟨y, 3, none⟩ = some (.bool yt) := H6.out.2.1.cell 3
    have f4 : w6.cell? ⟨y, 4, none⟩ = some (.int .i64 yc) := H6.out.2.1.cell 4
    have f5 : w6.cell? ⟨y, 5, none⟩ = some (.int .i64 yf) := H6.out.2.1.cell 5
    have f6 : w6.cell? ⟨y, 6, none⟩ = some (.int .i64 yw) := H6.out.2.1.cell 6
    go_wp2_with fail
    refine (HL.out _).mono ?_
    rintro e' w7 ⟨rfl, b7⟩
    have H7 := Lib.hid (H6.out.below b7)
    clear H6 b7 e0 e1 e2 e3 e4 e5 e6 e7 e8 e9 f0 f1 f2 f3 f4 f5 f6
    go_wp2_with fail
    go_ret
    exact ⟨rfl, by first | exact H7.out.2.2 | (rw [HX.out]; exact H7.out.2.2)⟩

set_option maxRecDepth 100000 in
theorem lifted (os : Os) (started : os.Started) (H : Type) (enc : TypeId × Value → H) :
    ReturnsInHanded {} Try.checked os 5 .any (Rows.boundNoneSpec.pre6 enc Try.prog Try.f5 Rows.boundNoneRow.domain false) (Rows.boundNoneSpec.post enc Try.prog Try.f5 false true false false) := by
  refine returnsInHanded_of_change (C := Try.checked) own started (by kernel_rfl) Try.func5
    (ChangeSpec.witness6 (enc := enc) (C := Try.checked) false ⟨#[], #[.agg #[.int .i64 0, .int .i64 0, .int .i64 0, .int .i64 0, .int .i64 0, .int .i64 0, .int .i64 0, .int .i64 0, .int .i64 0, .int .i64 0], .agg #[.int .i64 0, .int .i64 0, .int .i64 0, .bool false, .int .i64 0, .int .i64 0, .int .i64 0], .int .i64 0], []⟩ 8 (by kernel_rfl) (by kernel_rfl) (by kernel_rfl) (by kernel_rfl)) ?_
  intro W base args ds gs before hval0 hW hcnd _
  have hval : ∀ (j : Nat) t v, Try.f5.params[j]? = some t → args[j]? = some v → Value.okWide Try.prog W .any base t v := hval0
  have hW' := hW
  obtain ⟨p, q, hA0, hV, rfl, hfz, hnd⟩ := hW
  have hA : DataW.TrodAll enc Try.prog W 0 (fun _ => true) true Try.f5.params.toList args.toList ds p := hA0
  rw [Try.params5] at hA hval
  obtain ⟨v0, vs0, d0, ds0, p0, q0, hargs, rfl, rfl, h0, r0⟩ := trodAll_cons hA
  obtain ⟨v1, vs1, d1, ds1, p1, q1, rfl, rfl, rfl, h1, r1⟩ := trodAll_cons r0
  obtain ⟨v2, vs2, d2, ds2, p2, q2, rfl, rfl, rfl, h2, r2⟩ := trodAll_cons r1
  obtain ⟨rfl, rfl, rfl⟩ := trodAll_nil r2
  obtain rfl : args = #[v0, v1, v2] := by cases args; simp_all
  obtain ⟨rfl, rfl⟩ := trodVars_none hV
  obtain ⟨a2, rfl, rfl, rfl, w2⟩ := open_int Try.underlying3 (hval 2 3 v2 rfl rfl) h2
  clear hA0 hval0
  have hlt := hW'.lt
  refine (walk W v0 d0 p0 (hval 0 23 v0 rfl rfl) h0 (fun x hx => hlt x (by simp [hx])) v1 d1 p1 (hval 1 25 v1 rfl rfl) h1 (fun x hx => hlt x (by simp [hx])) a2 w2).mono fun e W' ⟨he, hb⟩ => ?_
  subst he
  exact ⟨_, rfl, post_of_below (pv := []) hW' (fun _ _ _ => (trodAll_cons_mk (shut_bool Try.underlying4 _) trodAll_mk0)) (fun sp hsp => (trodAll_cons_mk (WideElems.Trod_stays laidOut (by kernel_rfl) (of_decide_eq_true (by kernel_rfl)) h0 (fun x hx => hb.same (hlt x (by simp [hx]))) (fun x hx => hsp x (by simp [hx]))) (trodAll_cons_mk (WideElems.Trod_stays laidOut (by kernel_rfl) (of_decide_eq_true (by kernel_rfl)) h1 (fun x hx => hb.same (hlt x (by simp [hx]))) (fun x hx => hsp x (by simp [hx]))) (trodAll_cons_mk (shut_int Try.underlying3 w2) trodAll_mk0)))) (fun _ _ => rfl) (by simp) hb (ok_one (by kernel_rfl) rfl (okWide_bool_mk Try.underlying4 _))⟩

theorem over : Rows.boundNoneRow.holds Try.pinned (OpenSpec.ofChange Rows.boundNoneSpec) :=
  OpenClaim.holds_of_wide 5 Try.f5 rfl rfl rfl rfl rfl rfl rfl ⟨rfl, rfl, rfl, rfl, rfl⟩ rfl rfl rfl rfl rfl (by kernel_rfl) Try.func5 (by kernel_rfl)
    (of_decide_eq_true (by kernel_rfl)) (by unfold Func.isWrapper; first | (rw [if_pos (by decide +kernel)]; kernel_rfl) | (rw [if_neg (by decide +kernel)]; exact ⟨rfl, rfl⟩))
    (fun os started H enc _ => lifted os started H enc)

theorem proved : Rows.BoundNoneSaid := over
#print axioms proved
end Go.Proofs.Ytolmkafmlblnoaa.boundNone
