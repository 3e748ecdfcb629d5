/- The law qanat/qanatlaw17.FaultMays returns true for all arguments of its types; no condition. -/
import Derived.Test.YtcchofaheaddbaaFaultAwake
import Derived.WalkKit
import Derived.ProofKit
import Derived.OpenShut
import Derived.WideKeyArgs
import Derived.Lib.SmallJoins
namespace Go.Proofs.Ytcchofaheaddbaa.faultMays
open Go.ChangeShapes Go.WideShapes Go.ChangeAt Go.RowKit
set_option linter.unusedVariables false
set_option linter.unusedSimpArgs false
theorem own : ownKnob Try.prog.godebug = none := by kernel_rfl
theorem laidOut : laidOutB Try.prog = true := by kernel_rfl
def MyIn (x y : Nat) (f g : Flt) (w0 w : World) : Prop := Blk w x 23 #[.int .i64 f.1, .int .i64 f.2] ∧ Blk w y 23 #[.int .i64 g.1, .int .i64 g.2] ∧ Below w0.heap.size w0 w
theorem MyIn.below {x y : Nat} {f g : Flt} {w0 w w' : World} (h : MyIn x y f g w0 w) (hb : Below w.heap.size w w') : MyIn x y f g w0 w' := ⟨h.1.below hb h.1.lt, h.2.1.below hb h.2.1.lt, h.2.2.trans (hb.mono h.2.2.size)⟩
theorem may_ab (a b : Int) (w : World) : Calls Try.prog 8 #[.agg #[.int .i64 a, .int .i64 b]] w fun e w' => e = .returned (.bool (mayF (a, b))) ∧ Below w.heap.size w w' := may_any (a, b) w
theorem rmay_ab (a b : Int) (w : World) : Calls Try.prog 9 #[.agg #[.int .i64 a, .int .i64 b]] w fun e w' => e = .returned (.bool (mayF (a, b))) ∧ Below w.heap.size w w' := rmay_any (a, b) w

set_option maxRecDepth 100000 in
set_option maxHeartbeats 800000 in
theorem walk {H : Type} {enc : TypeId × Value → H} (w : World) {base : Nat} (v0 : Value) (d0 : DataW H) (p0 : List MemPlace) (o0 : Value.okWide Try.prog w .any base 23 v0) (h0 : DataW.Trod enc Try.prog w 0 (fun _ => true) true 23 v0 d0 p0) (l0 : ∀ x ∈ p0, x.block < w.heap.size) (a1 : Int) (w1 : (Lit.int .i64 a1).wf = true) :
    Calls Try.prog 3 #[v0, .int .i64 a1] w fun e w' => e = .returned (.bool true) ∧ Below w.heap.size w w' := by
  obtain ⟨c0, c1, y0, y1, m, rfl, rfl, rfl, hy0, hy1⟩ := Go.Joins.open_agg2 Try.underlying23 (by kernel_rfl) (by kernel_rfl) o0 h0
  obtain ⟨a, e0, _, wa⟩ := DataW.trod_int Try.underlying3 hy0
  obtain ⟨b, e1, _, wb⟩ := DataW.trod_int Try.underlying3 hy1
  simp at e0 e1
  subst e0 e1
  clear h0 l0 o0 hy0 hy1
  have ck := bigS_bd a 5 (by decide)
  have cm := bigS_bd a1 3 (by decide)
  go_enter Try.func3, Try.ntmps3
  go_wp2_with (go_at_call 6; refine (mod_any _ _ _ (by omega) (by omega)).mono ?_; rintro e w' ⟨rfl, rfl⟩)
  have hI : MyIn w.heap.size (w.heap.size + 1) (a, b) (bigS a 5, bigS a1 3 - 1) w (((w.alloc (.cells #[.int .i64 a, .int .i64 b] 23)).alloc (.cells #[.int .i64 (bigS a 5), .int .i64 (bigS a1 3 - 1)] 23)).drew) :=
    ⟨(Below.heap_alloc _ _ _ (by simp)).trans (heap_alloc_new w _), by have e := heap_alloc_new (w.alloc (.cells #[.int .i64 a, .int .i64 b] 23)) (.cells #[.int .i64 (bigS a 5), .int .i64 (bigS a1 3 - 1)] 23); rw [World.size_alloc] at e; exact e, (((Below.refl _ _).alloc (Nat.le_refl _) _).alloc (by simp) _).drew⟩
  generalize hW : (w.alloc (.cells #[.int .i64 a, .int .i64 b] 23)).alloc (.cells #[.int .i64 (bigS a 5), .int .i64 (bigS a1 3 - 1)] 23) = W at *
  obtain ⟨x, hx⟩ : ∃ x, w.heap.size = x := ⟨_, rfl⟩
  rw [hx] at hI ⊢
  have HX := Lib.hid hx
  clear hx hW
  generalize bigS a 5 = k at *
  generalize bigS a1 3 - 1 = m at *
  have hne : Nonempty (WIn (MyIn x (x + 1) (a, b) (k, m) w)) := ⟨⟨_, hI⟩⟩
  have z0 : ∀ y : WIn (MyIn x (x + 1) (a, b) (k, m) w), y.w.cell? ⟨x, 0, none⟩ = some (.int .i64 a) := fun y => y.ok.1.cell 0
  have z1 : ∀ y : WIn (MyIn x (x + 1) (a, b) (k, m) w), y.w.cell? ⟨x, 1, none⟩ = some (.int .i64 b) := fun y => y.ok.1.cell 1
  have z2 : ∀ y : WIn (MyIn x (x + 1) (a, b) (k, m) w), y.w.cell? ⟨x + 1, 0, none⟩ = some (.int .i64 k) := fun y => y.ok.2.1.cell 0
  have z3 : ∀ y : WIn (MyIn x (x + 1) (a, b) (k, m) w), y.w.cell? ⟨x + 1, 1, none⟩ = some (.int .i64 m) := fun y => y.ok.2.1.cell 1
  have HA := Lib.hid (show ∀ (y : WIn (MyIn x (x + 1) (a, b) (k, m) w)) (w' : World), Below y.w.heap.size y.w w' → MyIn x (x + 1) (a, b) (k, m) w w' from fun y w' hb => y.ok.below hb)
  have HI := Lib.hid hI
  clear hI
  refine wp_region_quiet2 (MyIn x (x + 1) (a, b) (k, m) w) (by kernel_rfl) (by kernel_rfl) HI.out ?_
  repeat (refine wpQ_step (fun K hK => ?_); go_simp; first | (refine hK _ ?_; clear hK K) | (apply Exists.intro; refine ⟨fun _ => ?_, hK _ ?_⟩; (first | (go_at_call 7; exact (awake17 _).mono fun e w' ⟨he, hb⟩ => ⟨he, ⟨w', HA.out _ _ hb⟩, rfl⟩) | (go_at_call 8; exact (may_ab _ _ _).mono fun e w' ⟨he, hb⟩ => ⟨he, ⟨w', HA.out _ _ hb⟩, rfl⟩) | (go_at_call 9; exact (rmay_ab _ _ _).mono fun e w' ⟨he, hb⟩ => ⟨he, ⟨w', HA.out _ _ hb⟩, rfl⟩)); clear hK K))
  refine wpQ_nil ?_
  intro Y
  obtain ⟨y1, y2, y3⟩ := Y.ok
  clear z0 z1 z2 z3 HA HI hne y1 y2
  generalize Y.w = W2 at *
  go_wp2_with fail
  go_ret
  rw [HX.out] at y3
  exact ⟨rfl, by rw [HX.out]; exact y3⟩

set_option maxRecDepth 100000 in
theorem lifted (os : Os) (started : os.Started) (H : Type) (enc : TypeId × Value → H) :
    ReturnsInHanded {} Try.checked os 3 .any (Rows.faultMaysSpec.pre6 enc Try.prog Try.f3 Rows.faultMaysRow.domain false) (Rows.faultMaysSpec.post enc Try.prog Try.f3 false true false false) := by
  refine returnsInHanded_of_change (C := Try.checked) own started (by kernel_rfl) Try.func3
    (ChangeSpec.witness6 (enc := enc) (C := Try.checked) false ⟨#[], #[.agg #[.int .i64 0, .int .i64 0], .int .i64 0], []⟩ 8 (by kernel_rfl) (by kernel_rfl) (by kernel_rfl) (by kernel_rfl)) ?_
  intro W base args ds gs before hval0 hW hcnd _
  have hval : ∀ (j : Nat) t v, Try.f3.params[j]? = some t → args[j]? = some v → Value.okWide Try.prog W .any base t v := hval0
  have hW' := hW
  obtain ⟨p, q, hA0, hV, rfl, hfz, hnd⟩ := hW
  have hA : DataW.TrodAll enc Try.prog W 0 (fun _ => true) true Try.f3.params.toList args.toList ds p := hA0
  rw [Try.params3] at hA hval
  obtain ⟨v0, vs0, d0, ds0, p0, q0, hargs, rfl, rfl, h0, r0⟩ := trodAll_cons hA
  obtain ⟨v1, vs1, d1, ds1, p1, q1, rfl, rfl, rfl, h1, r1⟩ := trodAll_cons r0
  obtain ⟨rfl, rfl, rfl⟩ := trodAll_nil r1
  obtain rfl : args = #[v0, v1] := by cases args; simp_all
  obtain ⟨rfl, rfl⟩ := trodVars_none hV
  obtain ⟨a1, rfl, rfl, rfl, w1⟩ := open_int Try.underlying3 (hval 1 3 v1 rfl rfl) h1
  clear hA0 hval0
  have hlt := hW'.lt
  refine (walk W v0 d0 p0 (hval 0 23 v0 rfl rfl) h0 (fun x hx => hlt x (by simp [hx])) a1 w1).mono fun e W' ⟨he, hb⟩ => ?_
  subst he
  exact ⟨_, rfl, post_of_below (pv := []) hW' (fun _ _ _ => (trodAll_cons_mk (shut_bool Try.underlying4 _) trodAll_mk0)) (fun sp hsp => (trodAll_cons_mk (WideElems.Trod_stays laidOut (by kernel_rfl) (of_decide_eq_true (by kernel_rfl)) h0 (fun x hx => hb.same (hlt x (by simp [hx]))) (fun x hx => hsp x (by simp [hx]))) (trodAll_cons_mk (shut_int Try.underlying3 w1) trodAll_mk0))) (fun _ _ => rfl) (by simp) hb (ok_one (by kernel_rfl) rfl (okWide_bool_mk Try.underlying4 _))⟩

theorem over : Rows.faultMaysRow.holds Try.pinned (OpenSpec.ofChange Rows.faultMaysSpec) :=
  OpenClaim.holds_of_wide 3 Try.f3 rfl rfl rfl rfl rfl rfl rfl ⟨rfl, rfl, rfl, rfl, rfl⟩ rfl rfl rfl rfl rfl (by kernel_rfl) Try.func3 (by kernel_rfl)
    (of_decide_eq_true (by kernel_rfl)) (by unfold Func.isWrapper; first | (rw [if_pos (by decide +kernel)]; kernel_rfl) | (rw [if_neg (by decide +kernel)]; exact ⟨rfl, rfl⟩))
    (fun os started H enc _ => lifted os started H enc)

theorem proved : Rows.FaultMaysSaid := over
#print axioms proved
end Go.Proofs.Ytcchofaheaddbaa.faultMays
