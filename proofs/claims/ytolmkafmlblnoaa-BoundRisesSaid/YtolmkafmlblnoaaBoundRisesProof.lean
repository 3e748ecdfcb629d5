/- The law qanat/qanatlaw33.BoundRises returns true for all arguments of its types; no condition. -/
import Derived.Test.YtolmkafmlblnoaaBoundJ
import Derived.WalkKit
import Derived.ProofKit
import Derived.OpenShut
import Derived.WideKeyArgs
namespace Go.Proofs.Ytolmkafmlblnoaa.boundRises
open Go.ChangeShapes Go.WideShapes Go.ChangeAt Go.RowKit
set_option linter.unusedVariables false
set_option linter.unusedSimpArgs false
theorem own : ownKnob Try.prog.godebug = none := by kernel_rfl
theorem laidOut : laidOutB Try.prog = true := by kernel_rfl
set_option linter.unusedSectionVars false
def RiseB (x y : Nat) (cs ls ms : Array Value) (w0 w : World) : Prop := Blk w x 23 cs ∧ Blk w y 25 ls ∧ Blk w (y + 1) 25 ms ∧ Below x w0 w
theorem RiseB.below {x y : Nat} {cs ls ms : Array Value} {w0 w w' : World} (h : RiseB x y cs ls ms w0 w) (hb : Below w.heap.size w w') : RiseB x y cs ls ms w0 w' :=
  ⟨h.1.below hb h.1.lt, h.2.1.below hb h.2.1.lt, h.2.2.1.below hb h.2.2.1.lt, h.2.2.2.trans (hb.mono (Nat.le_of_lt h.1.lt))⟩
theorem RiseB.drew {x y : Nat} {cs ls ms : Array Value} {w0 w : World} (h : RiseB x y cs ls ms w0 w) : RiseB x y cs ls ms w0 w.drew := ⟨h.1, h.2.1, h.2.2.1, h.2.2.2.drew⟩
/-- the second load has not less of anything, and more of something, or is the first -/
def Rise (cp ji U R Q : Int) (T : Bool) (C F W U2 R2 Q2 : Int) (T2 : Bool) (C2 F2 W2 : Int) : Prop :=
  mayL U R Q C F W = true ∧ mayL U2 R2 Q2 C2 F2 W2 = true ∧ workS U R Q T C ≤ workS U2 R2 Q2 T2 C2 ∧ waitsS cp ji F W ≤ waitsS cp ji F2 W2 ∧
  ((U2 = U ∧ R2 = R ∧ Q2 = Q ∧ T2 = T ∧ C2 = C ∧ F2 = F ∧ W2 = W) ∨ (¬ (U2 = U ∧ R2 = R ∧ Q2 = Q ∧ T2 = T ∧ C2 = C ∧ F2 = F ∧ W2 = W) ∧ workS U R Q T C + waitsS cp ji F W < workS U2 R2 Q2 T2 C2 + waitsS cp ji F2 W2))
def RiseRel (x y : Nat) (cs : Array Value) (cp ji U R Q : Int) (T : Bool) (C F W : Int) (w0 w : World) : Prop :=
  ∃ (U2 R2 Q2 : Int) (T2 : Bool) (C2 F2 W2 : Int), Rise cp ji U R Q T C F W U2 R2 Q2 T2 C2 F2 W2 ∧ RiseB x y cs #[.int .i64 U, .int .i64 R, .int .i64 Q, .bool T, .int .i64 C, .int .i64 F, .int .i64 W] #[.int .i64 U2, .int .i64 R2, .int .i64 Q2, .bool T2, .int .i64 C2, .int .i64 F2, .int .i64 W2] w0 w
section
variable {g cp ji U R Q C F W N : Int} {T : Bool} (k0 : 0 ≤ U ∧ U ≤ 524288) (k1 : 0 ≤ R ∧ R ≤ 524288) (k2 : 0 ≤ Q ∧ Q ≤ 524288) (k3 : 0 ≤ C ∧ C ≤ 524288) (k4 : 0 ≤ F ∧ F ≤ 524288) (k5 : 0 ≤ W ∧ W ≤ 1073741824) (kn : 0 ≤ N ∧ N ≤ 1000 - 1) (hb : 1 ≤ g ∧ g ≤ 1073741824 ∧ g ≤ cp ∧ cp ≤ 1073741824 ∧ 0 ≤ ji ∧ ji ≤ 1073741824)
include k0 k1 k2 k3 k4 k5 kn hb
theorem rise_0 : Rise cp ji U R Q T C F W (U + (1 + N)) R Q T C F W := by
  refine ⟨by simp only [mayL, decide_eq_true_eq]; omega, by simp only [mayL, decide_eq_true_eq]; omega, by unfold workS; omega, by unfold waitsS; omega, .inr ⟨by omega, by unfold workS; omega⟩⟩
theorem rise_1 : Rise cp ji U R Q T C F W U (R + (1 + N)) Q T C F W := by
  refine ⟨by simp only [mayL, decide_eq_true_eq]; omega, by simp only [mayL, decide_eq_true_eq]; omega, by unfold workS; omega, by unfold waitsS; omega, .inr ⟨by omega, by unfold workS; omega⟩⟩
theorem rise_2 : Rise cp ji U R Q T C F W U R (Q + (1 + N)) T C F W := by
  refine ⟨by simp only [mayL, decide_eq_true_eq]; omega, by simp only [mayL, decide_eq_true_eq]; omega, by unfold workS; omega, by unfold waitsS; omega, .inr ⟨by omega, by unfold workS; omega⟩⟩
theorem rise_3 : Rise cp ji U R Q T C F W U R Q T (C + (1 + N)) F W := by
  refine ⟨by simp only [mayL, decide_eq_true_eq]; omega, by simp only [mayL, decide_eq_true_eq]; omega, by unfold workS; omega, by unfold waitsS; omega, .inr ⟨by omega, by unfold workS; omega⟩⟩
theorem rise_4 : Rise cp ji U R Q T C F W U R Q T C (F + (1 + N)) W := by
  have e : (F + (1 + N)) * (2 + cp + ji) = F * (2 + cp + ji) + (1 + N) * (2 + cp + ji) := Int.add_mul ..
  have p : 0 < (1 + N) * (2 + cp + ji) := Int.mul_pos (by omega) (by omega)
  refine ⟨by simp only [mayL, decide_eq_true_eq]; omega, by simp only [mayL, decide_eq_true_eq]; omega, by unfold workS; omega, by unfold waitsS; rw [e]; omega, .inr ⟨by omega, by unfold waitsS; rw [e]; omega⟩⟩
theorem rise_5 : Rise cp ji U R Q T C F W U R Q T C F (W + (1 + N)) := by
  refine ⟨by simp only [mayL, decide_eq_true_eq]; omega, by simp only [mayL, decide_eq_true_eq]; omega, by unfold workS; omega, by unfold waitsS; omega, .inr ⟨by omega, by unfold waitsS; omega⟩⟩
theorem rise_6 : Rise cp ji U R Q T C F W U R Q true C F W := by
  refine ⟨by simp only [mayL, decide_eq_true_eq]; omega, by simp only [mayL, decide_eq_true_eq]; omega, by unfold workS; cases T <;> simp <;> omega, by unfold waitsS; omega, ?_⟩
  cases T with
  | true => exact .inl ⟨rfl, rfl, rfl, rfl, rfl, rfl, rfl⟩
  | false => exact .inr ⟨by simp, by unfold workS; simp; omega⟩
end
set_option linter.unusedSectionVars false
theorem rise_nums {a b c d e f g cp ji ev U R Q C F W U2 R2 Q2 C2 F2 W2 K : Int} {T T2 : Bool} (hc : mayC a b c d e f g cp ji ev = true) (h : Rise cp ji U R Q T C F W U2 R2 Q2 T2 C2 F2 W2) (hk : 0 ≤ K ∧ K ≤ 20 - 1) :
    0 ≤ roundsS a b c d e f g cp ji ev U R Q T C F W ∧ roundsS a b c d e f g cp ji ev U R Q T C F W ≤ roundsS a b c d e f g cp ji ev U2 R2 Q2 T2 C2 F2 W2 ∧ roundsS a b c d e f g cp ji ev U2 R2 Q2 T2 C2 F2 W2 ≤ 4611686018427387904 ∧
    lagS a b c d e f g cp ji ev U R Q T C F W 3 ≤ lagS a b c d e f g cp ji ev U2 R2 Q2 T2 C2 F2 W2 3 ∧ costS K ≤ costS (K + 1) ∧
    lagS a b c d e f g cp ji ev U R Q T C F W K ≤ lagS a b c d e f g cp ji ev U R Q T C F W (K + 1) ∧ roundsS a b c d e f g cp ji ev U R Q T C F W - ev - 3 < lagS a b c d e f g cp ji ev U R Q T C F W K ∧
    ((U2 = U ∧ R2 = R ∧ Q2 = Q ∧ T2 = T ∧ C2 = C ∧ F2 = F ∧ W2 = W) ∨ (¬ (U2 = U ∧ R2 = R ∧ Q2 = Q ∧ T2 = T ∧ C2 = C ∧ F2 = F ∧ W2 = W) ∧ roundsS a b c d e f g cp ji ev U R Q T C F W < roundsS a b c d e f g cp ji ev U2 R2 Q2 T2 C2 F2 W2)) := by
  obtain ⟨m1, m2, hw, hv, hd⟩ := h
  obtain ⟨b0, b1, b2, b3, b4⟩ := mayC_bd hc
  have w1 := work_bd T m1
  have w2 := work_bd T2 m2
  have v1 := waits_bd m1 b2
  have v2 := waits_bd m2 b2
  have hk0 : costS K ≤ costS (K + 1) := by unfold costS; omega
  have hk1 := cost_bd K
  have hk2 := cost_bd (K + 1)
  have hk3 := cost_bd 3
  simp only [roundsS, lagS, uS, hc, m1, m2, Bool.and_self, if_true]
  generalize workS U R Q T C = A1 at *
  generalize workS U2 R2 Q2 T2 C2 = A2 at *
  generalize waitsS cp ji F W = V1 at *
  generalize waitsS cp ji F2 W2 = V2 at *
  generalize costS K = c0 at *
  generalize costS (K + 1) = c1 at *
  generalize costS 3 = c3 at *
  refine ⟨by omega, by omega, by omega, by omega, hk0, by omega, by omega, hd.imp id fun ⟨p, q⟩ => ⟨p, by omega⟩⟩
theorem ite7 {α : Type} {p1 p2 p3 p4 p5 p6 p7 : Prop} [Decidable p1] [Decidable p2] [Decidable p3] [Decidable p4] [Decidable p5] [Decidable p6] [Decidable p7] (A B : α) (h : ¬ (p1 ∧ p2 ∧ p3 ∧ p4 ∧ p5 ∧ p6 ∧ p7)) :
    (if p1 then if p2 then if p3 then if p4 then if p5 then if p6 then if p7 then A else B else B else B else B else B else B else B) = B := by
  repeat' split
  all_goals first | rfl | exact absurd (by simp only [*, and_self]) h

set_option maxRecDepth 100000 in
set_option maxHeartbeats 3000000 in
theorem walk {H : Type} {enc : TypeId × Value → H} (w : World) {base : Nat} (v0 : Value) (d0 : DataW H) (p0 : List MemPlace) (o0 : Value.okWide Try.prog w .any base 23 v0) (h0 : DataW.Trod enc Try.prog w 0 (fun _ => true) true 23 v0 d0 p0) (l0 : ∀ x ∈ p0, x.block < w.heap.size) (v1 : Value) (d1 : DataW H) (p1 : List MemPlace) (o1 : Value.okWide Try.prog w .any base 25 v1) (h1 : DataW.Trod enc Try.prog w 0 (fun _ => true) true 25 v1 d1 p1) (l1 : ∀ x ∈ p1, x.block < w.heap.size) (a2 : Int) (w2 : (Lit.int .i64 a2).wf = true) (a3 : Int) (w3 : (Lit.int .i64 a3).wf = true) :
    Calls Try.prog 4 #[v0, v1, .int .i64 a2, .int .i64 a3] w fun e w' => e = .returned (.bool true) ∧ Below w.heap.size w w' := by
  obtain ⟨a, b, c, d, e, f, g, h, i, j, rfl⟩ := open_conf o0 h0
  obtain ⟨u, r, q, t, lc, lf, wt, rfl⟩ := open_load o1 h1
  clear h0 h1 l0 l1 o0 o1
  have ck := bigS_bd a2 7 (by decide)
  have cn := bigS_bd a3 1000 (by decide)
  have cm := bigS_bd a3 20 (by decide)
  unfold confV loadV
  have HI0 := Lib.hid (CLIn.mk0 w #[.int .i64 a, .int .i64 b, .int .i64 c, .int .i64 d, .int .i64 e, .int .i64 f, .int .i64 g, .int .i64 h, .int .i64 i, .int .i64 j] #[.int .i64 u, .int .i64 r, .int .i64 q, .bool t, .int .i64 lc, .int .i64 lf, .int .i64 wt])
  go_enter Try.func4, Try.ntmps4
  go_wp2_with fail
  obtain ⟨x, hx⟩ : ∃ x, w.heap.size = x := ⟨_, rfl⟩
  have hI := HI0.out
  rw [hx] at hI ⊢
  have HX := Lib.hid hx
  have HI := Lib.hid hI
  clear hx HI0 hI
  refine (config_ex _ _ _ _ _ _ _ _ _ _ _).mono ?_
  rintro e' w1 ⟨ca, cb, cc, cd, ce, cf, cg, ch, ci, cj, hcm, rfl, b1⟩
  have HI1 := Lib.hid (HI.out.below b1)
  clear HI b1
  unfold confV
  go_upto_region 2 with (refine wpList_store_row rfl 23 (.tmp 4) (.tmp 14) rfl x _ rfl rfl 23 _ HI1.out.1 (by kernel_rfl) rfl (by simp [Value.oneCell']) ?_)
  obtain ⟨p1, p2, p3⟩ := HI1.out
  have HI2 := Lib.hid (show CLIn x #[.int .i64 ca, .int .i64 cb, .int .i64 cc, .int .i64 cd, .int .i64 ce, .int .i64 cf, .int .i64 cg, .int .i64 ch, .int .i64 ci, .int .i64 cj] #[.int .i64 u, .int .i64 r, .int .i64 q, .bool t, .int .i64 lc, .int .i64 lf, .int .i64 wt] w (w1.setRow x #[.int .i64 ca, .int .i64 cb, .int .i64 cc, .int .i64 cd, .int .i64 ce, .int .i64 cf, .int .i64 cg, .int .i64 ch, .int .i64 ci, .int .i64 cj]) from ⟨p1.row _, p2.rowFar (by omega) _, below_setRow p3 (Nat.le_refl _) _⟩)
  clear p1 p2 p3 HI1
  generalize World.setRow w1 _ _ = w2 at HI2 ⊢
  have z0 : w2.cell? ⟨x + 1, 0, none⟩ = some (.int .i64 u) := HI2.out.2.1.cell 0
  have z1 : w2.cell? ⟨x + 1, 1, none⟩ = some (.int .i64 r) := HI2.out.2.1.cell 1
  have z2 : w2.cell? ⟨x + 1, 2, none⟩ = some (.int .i64 q) := HI2.out.2.1.cell 2
  have z3 : w2.cell? ⟨x + 1, 3, none⟩ = some (.bool t) := HI2.out.2.1.cell 3
  have z4 : w2.cell? ⟨x + 1, 4, none⟩ = some (.int .i64 lc) := HI2.out.2.1.cell 4
  have z5 : w2.cell? ⟨x + 1, 5, none⟩ = some (.int .i64 lf) := HI2.out.2.1.cell 5
  have z6 : w2.cell? ⟨x + 1, 6, none⟩ = some (.int .i64 wt) := HI2.out.2.1.cell 6
  go_wp2_with fail
  refine (load_ex _ _ _ _ _ _ _ _).mono ?_
  rintro e' w3 ⟨yu, yr, yq, yt, yc, yf, yw, hlm, rfl, b3⟩
  have HI3 := Lib.hid (HI2.out.below b3)
  clear HI2 b3 z0 z1 z2 z3 z4 z5 z6
  unfold loadV
  have hl := hlm
  simp only [mayL, decide_eq_true_eq] at hl
  obtain ⟨hl0, hl1, hl2, hl3, hl4, hl5⟩ := hl
  go_upto_region 5 with fail
  have HI4 := Lib.hid (show RiseB x w3.heap.size #[.int .i64 ca, .int .i64 cb, .int .i64 cc, .int .i64 cd, .int .i64 ce, .int .i64 cf, .int .i64 cg, .int .i64 ch, .int .i64 ci, .int .i64 cj] #[.int .i64 (yu / 2), .int .i64 (yr / 2), .int .i64 (yq / 2), .bool yt, .int .i64 (yc / 2), .int .i64 (yf / 2), .int .i64 (yw / 2)] #[.int .i64 (yu / 2), .int .i64 (yr / 2), .int .i64 (yq / 2), .bool yt, .int .i64 (yc / 2), .int .i64 (yf / 2), .int .i64 (yw / 2)] w ((w3.alloc (.cells #[.int .i64 (yu / 2), .int .i64 (yr / 2), .int .i64 (yq / 2), .bool yt, .int .i64 (yc / 2), .int .i64 (yf / 2), .int .i64 (yw / 2)] 25)).alloc (.cells #[.int .i64 (yu / 2), .int .i64 (yr / 2), .int .i64 (yq / 2), .bool yt, .int .i64 (yc / 2), .int .i64 (yf / 2), .int .i64 (yw / 2)] 25)) from ⟨(HI3.out.1.alloc _).alloc _, (Blk.new _ _ _).alloc _, alloc2_new _ _ _, (HI3.out.2.2.alloc (Nat.le_of_lt HI3.out.1.lt) _).alloc (by have := HI3.out.1.lt; simp; omega) _⟩)
  have hxy := HI3.out.1.lt
  clear HI3 hlm
  generalize w3.heap.size = y at hxy HI4 ⊢
  generalize World.alloc (World.alloc w3 _) _ = w4 at HI4 ⊢
  have k0 : 0 ≤ yu / 2 ∧ yu / 2 ≤ 524288 := by omega
  have k1 : 0 ≤ yr / 2 ∧ yr / 2 ≤ 524288 := by omega
  have k2 : 0 ≤ yq / 2 ∧ yq / 2 ≤ 524288 := by omega
  have k3 : 0 ≤ yc / 2 ∧ yc / 2 ≤ 524288 := by omega
  have k4 : 0 ≤ yf / 2 ∧ yf / 2 ≤ 524288 := by omega
  have k5 : 0 ≤ yw / 2 ∧ yw / 2 ≤ 1073741824 := by omega
  generalize yu / 2 = U at *
  generalize yr / 2 = R at *
  generalize yq / 2 = Q at *
  generalize yc / 2 = CC at *
  generalize yf / 2 = FF at *
  generalize yw / 2 = WW at *
  clear hl0 hl1 hl2 hl3 hl4 hl5
  go_upto_block 0 with (go_at_call 15; refine (mod_any _ _ _ (by omega) (by omega)).mono ?_; rintro e' w' ⟨rfl, rfl⟩)
  have hcb := mayC_bd hcm
  have hbb := hcb.2.2.1
  simp only [mayB, decide_eq_true_eq] at hbb
  go_cut [] (fun wx => RiseRel x y #[.int .i64 ca, .int .i64 cb, .int .i64 cc, .int .i64 cd, .int .i64 ce, .int .i64 cf, .int .i64 cg, .int .i64 ch, .int .i64 ci, .int .i64 cj] ch ci U R Q yt CC FF WW w wx)
  case first =>
    obtain ⟨g1, g2, g3, g4⟩ := HI4.out
    have z0 : w4.cell? ⟨y + 1, 0, none⟩ = some (.int .i64 U) := g3.cell 0
    have z1 : w4.cell? ⟨y + 1, 1, none⟩ = some (.int .i64 R) := g3.cell 1
    have z2 : w4.cell? ⟨y + 1, 2, none⟩ = some (.int .i64 Q) := g3.cell 2
    have z3 : w4.cell? ⟨y + 1, 3, none⟩ = some (.bool yt) := g3.cell 3
    have z4 : w4.cell? ⟨y + 1, 4, none⟩ = some (.int .i64 CC) := g3.cell 4
    have z5 : w4.cell? ⟨y + 1, 5, none⟩ = some (.int .i64 FF) := g3.cell 5
    have z6 : w4.cell? ⟨y + 1, 6, none⟩ = some (.int .i64 WW) := g3.cell 6
    have fz := fun i => g3.frozen i
    have hyl := g3.lt
    have GB := Lib.hid HI4.out
    clear g1 g2 g3 g4 HI4
    generalize bigS a2 7 = kk at *
    generalize bigS a3 1000 = N at *
    have hk : kk = 0 ∨ kk = 1 ∨ kk = 2 ∨ kk = 3 ∨ kk = 4 ∨ kk = 5 ∨ kk = 6 := by omega
    rcases hk with rfl | rfl | rfl | rfl | rfl | rfl | rfl
    all_goals
      go_wp2_with fail
      go_meet
    all_goals obtain ⟨g1, g2, g3, g4⟩ := GB.out
    · exact ⟨(U + (1 + N)), R, Q, yt, CC, FF, WW, rise_0 k0 k1 k2 k3 k4 k5 cn hbb, g1.far (by simp; omega) _, g2.far (by simp) _, g3.set_ 0 _, g4.setCell (by simp; omega) _⟩
    · exact ⟨U, (R + (1 + N)), Q, yt, CC, FF, WW, rise_1 k0 k1 k2 k3 k4 k5 cn hbb, g1.far (by simp; omega) _, g2.far (by simp) _, g3.set_ 1 _, g4.setCell (by simp; omega) _⟩
    · exact ⟨U, R, (Q + (1 + N)), yt, CC, FF, WW, rise_2 k0 k1 k2 k3 k4 k5 cn hbb, g1.far (by simp; omega) _, g2.far (by simp) _, g3.set_ 2 _, g4.setCell (by simp; omega) _⟩
    · exact ⟨U, R, Q, yt, (CC + (1 + N)), FF, WW, rise_3 k0 k1 k2 k3 k4 k5 cn hbb, g1.far (by simp; omega) _, g2.far (by simp) _, g3.set_ 4 _, g4.setCell (by simp; omega) _⟩
    · exact ⟨U, R, Q, yt, CC, (FF + (1 + N)), WW, rise_4 k0 k1 k2 k3 k4 k5 cn hbb, g1.far (by simp; omega) _, g2.far (by simp) _, g3.set_ 5 _, g4.setCell (by simp; omega) _⟩
    · exact ⟨U, R, Q, yt, CC, FF, (WW + (1 + N)), rise_5 k0 k1 k2 k3 k4 k5 cn hbb, g1.far (by simp; omega) _, g2.far (by simp) _, g3.set_ 6 _, g4.setCell (by simp; omega) _⟩
    · exact ⟨U, R, Q, true, CC, FF, WW, rise_6 k0 k1 k2 k3 k4 k5 cn hbb, g1.far (by simp; omega) _, g2.far (by simp) _, g3.set_ 3 _, g4.setCell (by simp; omega) _⟩
  case rest =>
    clear HI4 k0 k1 k2 k3 k4 k5
    obtain ⟨U2, R2, Q2, T2, C2, F2, W2, hrise, hB⟩ := hcut
    have HB := Lib.hid hB.drew
    have hnum := rise_nums hcm hrise cm
    clear hB hrise hbb ck cn
    have hkb : 0 ≤ bigS a3 20 ∧ bigS a3 20 ≤ 19 := by omega
    have hcj : 1 ≤ cj ∧ cj ≤ 1073741824 := hcb.2.2.2
    clear hcb hcm cm
    go_wp2_with fail
    refine (mod_any _ _ _ (by omega) (by omega)).mono ?_
    rintro e' w5 ⟨rfl, rfl⟩
    go_wp2_with fail
    have HR1 := Lib.hid (show ∀ w, Calls Try.prog 8 #[.agg #[.int .i64 ca, .int .i64 cb, .int .i64 cc, .int .i64 cd, .int .i64 ce, .int .i64 cf, .int .i64 cg, .int .i64 ch, .int .i64 ci, .int .i64 cj], .agg #[.int .i64 U, .int .i64 R, .int .i64 Q, .bool yt, .int .i64 CC, .int .i64 FF, .int .i64 WW]] w fun e w' => e = .returned (.int .i64 (roundsS ca cb cc cd ce cf cg ch ci cj U R Q yt CC FF WW)) ∧ Below w.heap.size w w' from fun w => rounds_any ca cb cc cd ce cf cg ch ci cj U R Q yt CC FF WW w)
    have HR2 := Lib.hid (show ∀ w, Calls Try.prog 8 #[.agg #[.int .i64 ca, .int .i64 cb, .int .i64 cc, .int .i64 cd, .int .i64 ce, .int .i64 cf, .int .i64 cg, .int .i64 ch, .int .i64 ci, .int .i64 cj], .agg #[.int .i64 U2, .int .i64 R2, .int .i64 Q2, .bool T2, .int .i64 C2, .int .i64 F2, .int .i64 W2]] w fun e w' => e = .returned (.int .i64 (roundsS ca cb cc cd ce cf cg ch ci cj U2 R2 Q2 T2 C2 F2 W2)) ∧ Below w.heap.size w w' from fun w => rounds_any ca cb cc cd ce cf cg ch ci cj U2 R2 Q2 T2 C2 F2 W2 w)
    have HA1 := Lib.hid (show ∀ w, Calls Try.prog 10 #[.agg #[.int .i64 ca, .int .i64 cb, .int .i64 cc, .int .i64 cd, .int .i64 ce, .int .i64 cf, .int .i64 cg, .int .i64 ch, .int .i64 ci, .int .i64 cj], .agg #[.int .i64 U, .int .i64 R, .int .i64 Q, .bool yt, .int .i64 CC, .int .i64 FF, .int .i64 WW], .int .i64 3] w fun e w' => e = .returned (.int .i64 (lagS ca cb cc cd ce cf cg ch ci cj U R Q yt CC FF WW 3)) ∧ Below w.heap.size w w' from fun w => lag_any ca cb cc cd ce cf cg ch ci cj U R Q yt CC FF WW 3 w)
    have HA2 := Lib.hid (show ∀ w, Calls Try.prog 10 #[.agg #[.int .i64 ca, .int .i64 cb, .int .i64 cc, .int .i64 cd, .int .i64 ce, .int .i64 cf, .int .i64 cg, .int .i64 ch, .int .i64 ci, .int .i64 cj], .agg #[.int .i64 U2, .int .i64 R2, .int .i64 Q2, .bool T2, .int .i64 C2, .int .i64 F2, .int .i64 W2], .int .i64 3] w fun e w' => e = .returned (.int .i64 (lagS ca cb cc cd ce cf cg ch ci cj U2 R2 Q2 T2 C2 F2 W2 3)) ∧ Below w.heap.size w w' from fun w => lag_any ca cb cc cd ce cf cg ch ci cj U2 R2 Q2 T2 C2 F2 W2 3 w)
    have HB0 := Lib.hid (show ∀ w, Calls Try.prog 10 #[.agg #[.int .i64 ca, .int .i64 cb, .int .i64 cc, .int .i64 cd, .int .i64 ce, .int .i64 cf, .int .i64 cg, .int .i64 ch, .int .i64 ci, .int .i64 cj], .agg #[.int .i64 U, .int .i64 R, .int .i64 Q, .bool yt, .int .i64 CC, .int .i64 FF, .int .i64 WW], .int .i64 (bigS a3 20)] w fun e w' => e = .returned (.int .i64 (lagS ca cb cc cd ce cf cg ch ci cj U R Q yt CC FF WW (bigS a3 20))) ∧ Below w.heap.size w w' from fun w => lag_any ca cb cc cd ce cf cg ch ci cj U R Q yt CC FF WW (bigS a3 20) w)
    have HB1 := Lib.hid (show ∀ w, Calls Try.prog 10 #[.agg #[.int .i64 ca, .int .i64 cb, .int .i64 cc, .int .i64 cd, .int .i64 ce, .int .i64 cf, .int .i64 cg, .int .i64 ch, .int .i64 ci, .int .i64 cj], .agg #[.int .i64 U, .int .i64 R, .int .i64 Q, .bool yt, .int .i64 CC, .int .i64 FF, .int .i64 WW], .int .i64 (bigS a3 20 + 1)] w fun e w' => e = .returned (.int .i64 (lagS ca cb cc cd ce cf cg ch ci cj U R Q yt CC FF WW (bigS a3 20 + 1))) ∧ Below w.heap.size w w' from fun w => lag_any ca cb cc cd ce cf cg ch ci cj U R Q yt CC FF WW (bigS a3 20 + 1) w)
    have HC0 := Lib.hid (show ∀ w, Calls Try.prog 13 #[.int .i64 (bigS a3 20)] w fun e w' => e = .returned (.int .i64 (costS (bigS a3 20))) ∧ Below w.heap.size w w' from fun w => cost_any (bigS a3 20) w)
    have HC1 := Lib.hid (show ∀ w, Calls Try.prog 13 #[.int .i64 (bigS a3 20 + 1)] w fun e w' => e = .returned (.int .i64 (costS (bigS a3 20 + 1))) ∧ Below w.heap.size w w' from fun w => cost_any (bigS a3 20 + 1) w)
    generalize roundsS ca cb cc cd ce cf cg ch ci cj U R Q yt CC FF WW = r1 at *
    generalize roundsS ca cb cc cd ce cf cg ch ci cj U2 R2 Q2 T2 C2 F2 W2 = r2 at *
    generalize lagS ca cb cc cd ce cf cg ch ci cj U R Q yt CC FF WW 3 = a1 at *
    generalize lagS ca cb cc cd ce cf cg ch ci cj U2 R2 Q2 T2 C2 F2 W2 3 = q2' at *
    generalize lagS ca cb cc cd ce cf cg ch ci cj U R Q yt CC FF WW (bigS a3 20) = b0 at *
    generalize lagS ca cb cc cd ce cf cg ch ci cj U R Q yt CC FF WW (bigS a3 20 + 1) = b1 at *
    generalize costS (bigS a3 20) = c0 at *
    generalize costS (bigS a3 20 + 1) = c1 at *
    generalize bigS a3 20 = K at *
    obtain ⟨n0, n1, n2, n3, n4, n5, n6, n7⟩ := hnum
    have hlast := Lib.hid n6
    have u1 : IntKind.i64.wrap (r2 - r1) = r2 - r1 := IntWalk.i64_in _ (by omega)
    have u2 : IntKind.i64.wrap (K + 1) = K + 1 := IntWalk.i64_in _ (by omega)
    have u3 : IntKind.i64.wrap (r1 - cj) = r1 - cj := IntWalk.i64_in _ (by omega)
    have u4 : IntKind.i64.wrap (r1 - cj - 3) = r1 - cj - 3 := IntWalk.i64_in _ (by omega)
    have u5 : decide (r1 - cj - 3 < b0) = true := decide_eq_true (by omega)
    have u0 : IntKind.i64.wrap 0 = 0 := by decide
    have u6 : decide (0 ≤ r2 - r1) = true := decide_eq_true (by omega)
    have u7 : decide (q2' ≥ a1) = true := decide_eq_true (by omega)
    clear n6
    have hne : Nonempty (WIn (RiseB x y #[.int .i64 ca, .int .i64 cb, .int .i64 cc, .int .i64 cd, .int .i64 ce, .int .i64 cf, .int .i64 cg, .int .i64 ch, .int .i64 ci, .int .i64 cj] #[.int .i64 U, .int .i64 R, .int .i64 Q, .bool yt, .int .i64 CC, .int .i64 FF, .int .i64 WW] #[.int .i64 U2, .int .i64 R2, .int .i64 Q2, .bool T2, .int .i64 C2, .int .i64 F2, .int .i64 W2] w)) := ⟨⟨_, HB.out⟩⟩
    have e0 : ∀ z : WIn (RiseB x y #[.int .i64 ca, .int .i64 cb, .int .i64 cc, .int .i64 cd, .int .i64 ce, .int .i64 cf, .int .i64 cg, .int .i64 ch, .int .i64 ci, .int .i64 cj] #[.int .i64 U, .int .i64 R, .int .i64 Q, .bool yt, .int .i64 CC, .int .i64 FF, .int .i64 WW] #[.int .i64 U2, .int .i64 R2, .int .i64 Q2, .bool T2, .int .i64 C2, .int .i64 F2, .int .i64 W2] w), z.w.cell? ⟨x, 0, none⟩ = some (.int .i64 ca) := fun z => z.ok.1.cell 0
    have e1 : ∀ z : WIn (RiseB x y #[.int .i64 ca, .int .i64 cb, .int .i64 cc, .int .i64 cd, .int .i64 ce, .int .i64 cf, .int .i64 cg, .int .i64 ch, .int .i64 ci, .int .i64 cj] #[.int .i64 U, .int .i64 R, .int .i64 Q, .bool yt, .int .i64 CC, .int .i64 FF, .int .i64 WW] #[.int .i64 U2, .int .i64 R2, .int .i64 Q2, .bool T2, .int .i64 C2, .int .i64 F2, .int .i64 W2] w), z.w.cell? ⟨x, 1, none⟩ = some (.int .i64 cb) := fun z => z.ok.1.cell 1
    have e2 : ∀ z : WIn (RiseB x y #[.int .i64 ca, .int .i64 cb, .int .i64 cc, .int .i64 cd, .int .i64 ce, .int .i64 cf, .int .i64 cg, .int .i64 ch, .int .i64 ci, .int .i64 cj] #[.int .i64 U, .int .i64 R, .int .i64 Q, .bool yt, .int .i64 CC, .int .i64 FF, .int .i64 WW] #[.int .i64 U2, .int .i64 R2, .int .i64 Q2, .bool T2, .int .i64 C2, .int .i64 F2, .int .i64 W2] w), z.w.cell? ⟨x, 2, none⟩ = some (.int .i64 cc) := fun z => z.ok.1.cell 2
    have e3 : ∀ z : WIn (RiseB x y #[.int .i64 ca, .int .i64 cb, .int .i64 cc, .int .i64 cd, .int .i64 ce, .int .i64 cf, .int .i64 cg, .int .i64 ch, .int .i64 ci, .int .i64 cj] #[.int .i64 U, .int .i64 R, .int .i64 Q, .bool yt, .int .i64 CC, .int .i64 FF, .int .i64 WW] #[.int .i64 U2, .int .i64 R2, .int .i64 Q2, .bool T2, .int .i64 C2, .int .i64 F2, .int .i64 W2] w), z.w.cell? ⟨x, 3, none⟩ = some (.int .i64 cd) := fun z => z.ok.1.cell 3
    have e4 : ∀ z : WIn (RiseB x y #[.int .i64 ca, .int .i64 cb, .int .i64 cc, .int .i64 cd, .int .i64 ce, .int .i64 cf, .int .i64 cg, .int .i64 ch, .int .i64 ci, .int .i64 cj] #[.int .i64 U, .int .i64 R, .int .i64 Q, .bool yt, .int .i64 CC, .int .i64 FF, .int .i64 WW] #[.int .i64 U2, .int .i64 R2, .int .i64 Q2, .bool T2, .int .i64 C2, .int .i64 F2, .int .i64 W2] w), z.w.cell? ⟨x, 4, none⟩ = some (.int .i64 ce) := fun z => z.ok.1.cell 4
    have e5 : ∀ z : WIn (RiseB x y #[.int .i64 ca, .int .i64 cb, .int .i64 cc, .int .i64 cd, .int .i64 ce, .int .i64 cf, .int .i64 cg, .int .i64 ch, .int .i64 ci, .int .i64 cj] #[.int .i64 U, .int .i64 R, .int .i64 Q, .bool yt, .int .i64 CC, .int .i64 FF, .int .i64 WW] #[.int .i64 U2, .int .i64 R2, .int .i64 Q2, .bool T2, .int .i64 C2, .int .i64 F2, .int .i64 W2] w), z.w.cell? ⟨x, 5, none⟩ = some (.int .i64 cf) := fun z => z.ok.1.cell 5
    have e6 : ∀ z : WIn (RiseB x y #[.int .i64 ca, .int .i64 cb, .int .i64 cc, .int .i64 cd, .int .i64 ce, .int .i64 cf, .int .i64 cg, .int .i64 ch, .int .i64 ci, .int .i64 cj] #[.int .i64 U, .int .i64 R, .int .i64 Q, .bool yt, .int .i64 CC, .int .i64 FF, .int .i64 WW] #[.int .i64 U2, .int .i64 R2, .int .i64 Q2, .bool T2, .int .i64 C2, .int .i64 F2, .int .i64 W2] w), z.w.cell? ⟨x, 6, none⟩ = some (.int .i64 cg) := fun z => z.ok.1.cell 6
    have e7 : ∀ z : WIn (RiseB x y #[.int .i64 ca, .int .i64 cb, .int .i64 cc, .int .i64 cd, .int .i64 ce, .int .i64 cf, .int .i64 cg, .int .i64 ch, .int .i64 ci, .int .i64 cj] #[.int .i64 U, .int .i64 R, .int .i64 Q, .bool yt, .int .i64 CC, .int .i64 FF, .int .i64 WW] #[.int .i64 U2, .int .i64 R2, .int .i64 Q2, .bool T2, .int .i64 C2, .int .i64 F2, .int .i64 W2] w), z.w.cell? ⟨x, 7, none⟩ = some (.int .i64 ch) := fun z => z.ok.1.cell 7
    have e8 : ∀ z : WIn (RiseB x y #[.int .i64 ca, .int .i64 cb, .int .i64 cc, .int .i64 cd, .int .i64 ce, .int .i64 cf, .int .i64 cg, .int .i64 ch, .int .i64 ci, .int .i64 cj] #[.int .i64 U, .int .i64 R, .int .i64 Q, .bool yt, .int .i64 CC, .int .i64 FF, .int .i64 WW] #[.int .i64 U2, .int .i64 R2, .int .i64 Q2, .bool T2, .int .i64 C2, .int .i64 F2, .int .i64 W2] w), z.w.cell? ⟨x, 8, none⟩ = some (.int .i64 ci) := fun z => z.ok.1.cell 8
    have e9 : ∀ z : WIn (RiseB x y #[.int .i64 ca, .int .i64 cb, .int .i64 cc, .int .i64 cd, .int .i64 ce, .int .i64 cf, .int .i64 cg, .int .i64 ch, .int .i64 ci, .int .i64 cj] #[.int .i64 U, .int .i64 R, .int .i64 Q, .bool yt, .int .i64 CC, .int .i64 FF, .int .i64 WW] #[.int .i64 U2, .int .i64 R2, .int .i64 Q2, .bool T2, .int .i64 C2, .int .i64 F2, .int .i64 W2] w), z.w.cell? ⟨x, 9, none⟩ = some (.int .i64 cj) := fun z => z.ok.1.cell 9
    have f0 : ∀ z : WIn (RiseB x y #[.int .i64 ca, .int .i64 cb, .int .i64 cc, .int .i64 cd, .int .i64 ce, .int .i64 cf, .int .i64 cg, .int .i64 ch, .int .i64 ci, .int .i64 cj] #[.int .i64 U, .int .i64 R, .int .i64 Q, .bool yt, .int .i64 CC, .int .i64 FF, .int .i64 WW] #[.int .i64 U2, .int .i64 R2, .int .i64 Q2, .bool T2, .int .i64 C2, .int .i64 F2, .int .i64 W2] w), z.w.cell? ⟨y, 0, none⟩ = some (.int .i64 U) := fun z => z.ok.2.1.cell 0
    have f1 : ∀ z : WIn (RiseB x y #[.int .i64 ca, .int .i64 cb, .int .i64 cc, .int .i64 cd, .int .i64 ce, .int .i64 cf, .int .i64 cg, .int .i64 ch, .int .i64 ci, .int .i64 cj] #[.int .i64 U, .int .i64 R, .int .i64 Q, .bool yt, .int .i64 CC, .int .i64 FF, .int .i64 WW] #[.int .i64 U2, .int .i64 R2, .int .i64 Q2, .bool T2, .int .i64 C2, .int .i64 F2, .int .i64 W2] w), z.w.cell? ⟨y, 1, none⟩ = some (.int .i64 R) := fun z => z.ok.2.1.cell 1
    have f2 : ∀ z : WIn (RiseB x y #[.int .i64 ca, .int .i64 cb, .int .i64 cc, .int .i64 cd, .int .i64 ce, .int .i64 cf, .int .i64 cg, .int .i64 ch, .int .i64 ci, .int .i64 cj] #[.int .i64 U, .int .i64 R, .int .i64 Q, .bool yt, .int .i64 CC, .int .i64 FF, .int .i64 WW] #[.int .i64 U2, .int .i64 R2, .int .i64 Q2, .bool T2, .int .i64 C2, .int .i64 F2, .int .i64 W2] w), z.w.cell? ⟨y, 2, none⟩ = some (.int .i64 Q) := fun z => z.ok.2.1.cell 2
    have f3 : ∀ z : WIn (RiseB x y #[.int .i64 ca, .int .i64 cb, .int .i64 cc, .int .i64 cd, .int .i64 ce, .int .i64 cf, .int .i64 cg, .int .i64 ch, .int .i64 ci, .int .i64 cj] #[.int .i64 U, .int .i64 R, .int .i64 Q, .bool yt, .int .i64 CC, .int .i64 FF, .int .i64 WW] #[.int .i64 U2, .int .i64 R2, .int .i64 Q2, .bool T2, .int .i64 C2, .int .i64 F2, .int .i64 W2] w), z.w.cell? ⟨y, 3, none⟩ = some (.bool yt) := fun z => z.ok.2.1.cell 3
    have f4 : ∀ z : WIn (RiseB x y #[.int .i64 ca, .int .i64 cb, .int .i64 cc, .int .i64 cd, .int .i64 ce, .int .i64 cf, .int .i64 cg, .int .i64 ch, .int .i64 ci, .int .i64 cj] #[.int .i64 U, .int .i64 R, .int .i64 Q, .bool yt, .int .i64 CC, .int .i64 FF, .int .i64 WW] #[.int .i64 U2, .int .i64 R2, .int .i64 Q2, .bool T2, .int .i64 C2, .int .i64 F2, .int .i64 W2] w), z.w.cell? ⟨y, 4, none⟩ = some (.int .i64 CC) := fun z => z.ok.2.1.cell 4
    have f5 : ∀ z : WIn (RiseB x y #[.int .i64 ca, .int .i64 cb, .int .i64 cc, .int .i64 cd, .int .i64 ce, .int .i64 cf, .int .i64 cg, .int .i64 ch, .int .i64 ci, .int .i64 cj] #[.int .i64 U, .int .i64 R, .int .i64 Q, .bool yt, .int .i64 CC, .int .i64 FF, .int .i64 WW] #[.int .i64 U2, .int .i64 R2, .int .i64 Q2, .bool T2, .int .i64 C2, .int .i64 F2, .int .i64 W2] w), z.w.cell? ⟨y, 5, none⟩ = some (.int .i64 FF) := fun z => z.ok.2.1.cell 5
    have f6 : ∀ z : WIn (RiseB x y #[.int .i64 ca, .int .i64 cb, .int .i64 cc, .int .i64 cd, .int .i64 ce, .int .i64 cf, .int .i64 cg, .int .i64 ch, .int .i64 ci, .int .i64 cj] #[.int .i64 U, .int .i64 R, .int .i64 Q, .bool yt, .int .i64 CC, .int .i64 FF, .int .i64 WW] #[.int .i64 U2, .int .i64 R2, .int .i64 Q2, .bool T2, .int .i64 C2, .int .i64 F2, .int .i64 W2] w), z.w.cell? ⟨y, 6, none⟩ = some (.int .i64 WW) := fun z => z.ok.2.1.cell 6
    have h0 : ∀ z : WIn (RiseB x y #[.int .i64 ca, .int .i64 cb, .int .i64 cc, .int .i64 cd, .int .i64 ce, .int .i64 cf, .int .i64 cg, .int .i64 ch, .int .i64 ci, .int .i64 cj] #[.int .i64 U, .int .i64 R, .int .i64 Q, .bool yt, .int .i64 CC, .int .i64 FF, .int .i64 WW] #[.int .i64 U2, .int .i64 R2, .int .i64 Q2, .bool T2, .int .i64 C2, .int .i64 F2, .int .i64 W2] w), z.w.cell? ⟨y + 1, 0, none⟩ = some (.int .i64 U2) := fun z => z.ok.2.2.1.cell 0
    have h1 : ∀ z : WIn (RiseB x y #[.int .i64 ca, .int .i64 cb, .int .i64 cc, .int .i64 cd, .int .i64 ce, .int .i64 cf, .int .i64 cg, .int .i64 ch, .int .i64 ci, .int .i64 cj] #[.int .i64 U, .int .i64 R, .int .i64 Q, .bool yt, .int .i64 CC, .int .i64 FF, .int .i64 WW] #[.int .i64 U2, .int .i64 R2, .int .i64 Q2, .bool T2, .int .i64 C2, .int .i64 F2, .int .i64 W2] w), z.w.cell? ⟨y + 1, 1, none⟩ = some (.int .i64 R2) := fun z => z.ok.2.2.1.cell 1
    have h2 : ∀ z : WIn (RiseB x y #[.int .i64 ca, .int .i64 cb, .int .i64 cc, .int .i64 cd, .int .i64 ce, .int .i64 cf, .int .i64 cg, .int .i64 ch, .int .i64 ci, .int .i64 cj] #[.int .i64 U, .int .i64 R, .int .i64 Q, .bool yt, .int .i64 CC, .int .i64 FF, .int .i64 WW] #[.int .i64 U2, .int .i64 R2, .int .i64 Q2, .bool T2, .int .i64 C2, .int .i64 F2, .int .i64 W2] w), z.w.cell? ⟨y + 1, 2, none⟩ = some (.int .i64 Q2) := fun z => z.ok.2.2.1.cell 2
    have h3 : ∀ z : WIn (RiseB x y #[.int .i64 ca, .int .i64 cb, .int .i64 cc, .int .i64 cd, .int .i64 ce, .int .i64 cf, .int .i64 cg, .int .i64 ch, .int .i64 ci, .int .i64 cj] #[.int .i64 U, .int .i64 R, .int .i64 Q, .bool yt, .int .i64 CC, .int .i64 FF, .int .i64 WW] #[.int .i64 U2, .int .i64 R2, .int .i64 Q2, .bool T2, .int .i64 C2, .int .i64 F2, .int .i64 W2] w), z.w.cell? ⟨y + 1, 3, none⟩ = some (.bool T2) := fun z => z.ok.2.2.1.cell 3
    have h4 : ∀ z : WIn (RiseB x y #[.int .i64 ca, .int .i64 cb, .int .i64 cc, .int .i64 cd, .int .i64 ce, .int .i64 cf, .int .i64 cg, .int .i64 ch, .int .i64 ci, .int .i64 cj] #[.int .i64 U, .int .i64 R, .int .i64 Q, .bool yt, .int .i64 CC, .int .i64 FF, .int .i64 WW] #[.int .i64 U2, .int .i64 R2, .int .i64 Q2, .bool T2, .int .i64 C2, .int .i64 F2, .int .i64 W2] w), z.w.cell? ⟨y + 1, 4, none⟩ = some (.int .i64 C2) := fun z => z.ok.2.2.1.cell 4
    have h5 : ∀ z : WIn (RiseB x y #[.int .i64 ca, .int .i64 cb, .int .i64 cc, .int .i64 cd, .int .i64 ce, .int .i64 cf, .int .i64 cg, .int .i64 ch, .int .i64 ci, .int .i64 cj] #[.int .i64 U, .int .i64 R, .int .i64 Q, .bool yt, .int .i64 CC, .int .i64 FF, .int .i64 WW] #[.int .i64 U2, .int .i64 R2, .int .i64 Q2, .bool T2, .int .i64 C2, .int .i64 F2, .int .i64 W2] w), z.w.cell? ⟨y + 1, 5, none⟩ = some (.int .i64 F2) := fun z => z.ok.2.2.1.cell 5
    have h6 : ∀ z : WIn (RiseB x y #[.int .i64 ca, .int .i64 cb, .int .i64 cc, .int .i64 cd, .int .i64 ce, .int .i64 cf, .int .i64 cg, .int .i64 ch, .int .i64 ci, .int .i64 cj] #[.int .i64 U, .int .i64 R, .int .i64 Q, .bool yt, .int .i64 CC, .int .i64 FF, .int .i64 WW] #[.int .i64 U2, .int .i64 R2, .int .i64 Q2, .bool T2, .int .i64 C2, .int .i64 F2, .int .i64 W2] w), z.w.cell? ⟨y + 1, 6, none⟩ = some (.int .i64 W2) := fun z => z.ok.2.2.1.cell 6
    refine wp_region_quiet2 (RiseB x y #[.int .i64 ca, .int .i64 cb, .int .i64 cc, .int .i64 cd, .int .i64 ce, .int .i64 cf, .int .i64 cg, .int .i64 ch, .int .i64 ci, .int .i64 cj] #[.int .i64 U, .int .i64 R, .int .i64 Q, .bool yt, .int .i64 CC, .int .i64 FF, .int .i64 WW] #[.int .i64 U2, .int .i64 R2, .int .i64 Q2, .bool T2, .int .i64 C2, .int .i64 F2, .int .i64 W2] w) (by kernel_rfl) (by kernel_rfl) HB.out ?_
    simp only [List.append_eq, List.cons_append, List.nil_append]
    rcases n7 with ⟨rfl, rfl, rfl, rfl, rfl, rfl, rfl⟩ | ⟨hne2, n8⟩
    · repeat (refine wpQ_step (fun K hK => ?_); go_simp; first | (refine hK _ ?_; clear hK K) | (apply Exists.intro; refine ⟨fun _ => ?_, hK _ ?_⟩; (first | (go_at_call 12; (with_reducible refine (awake33 _).mono ?_); exact fun e w' ⟨he, hb⟩ => ⟨he, ⟨w', RiseB.below (WIn.ok _) hb⟩, rfl⟩) | (go_at_call 8; (with_reducible refine (HR1.out _).mono ?_); exact fun e w' ⟨he, hb⟩ => ⟨he, ⟨w', RiseB.below (WIn.ok _) hb⟩, rfl⟩) | (go_at_call 8; (with_reducible refine (HR2.out _).mono ?_); exact fun e w' ⟨he, hb⟩ => ⟨he, ⟨w', RiseB.below (WIn.ok _) hb⟩, rfl⟩) | (go_at_call 10; (with_reducible refine (HA1.out _).mono ?_); exact fun e w' ⟨he, hb⟩ => ⟨he, ⟨w', RiseB.below (WIn.ok _) hb⟩, rfl⟩) | (go_at_call 10; (with_reducible refine (HA2.out _).mono ?_); exact fun e w' ⟨he, hb⟩ => ⟨he, ⟨w', RiseB.below (WIn.ok _) hb⟩, rfl⟩) | (go_at_call 10; (with_reducible refine (HB0.out _).mono ?_); exact fun e w' ⟨he, hb⟩ => ⟨he, ⟨w', RiseB.below (WIn.ok _) hb⟩, rfl⟩) | (go_at_call 10; (with_reducible refine (HB1.out _).mono ?_); exact fun e w' ⟨he, hb⟩ => ⟨he, ⟨w', RiseB.below (WIn.ok _) hb⟩, rfl⟩) | (go_at_call 13; (with_reducible refine (HC0.out _).mono ?_); exact fun e w' ⟨he, hb⟩ => ⟨he, ⟨w', RiseB.below (WIn.ok _) hb⟩, rfl⟩) | (go_at_call 13; (with_reducible refine (HC1.out _).mono ?_); exact fun e w' ⟨he, hb⟩ => ⟨he, ⟨w', RiseB.below (WIn.ok _) hb⟩, rfl⟩)); clear hK K))
      refine wpQ_nil ?_
      intro Y
      have y1 := Y.ok
      clear e0 e1 e2 e3 e4 e5 e6 e7 e8 e9 f0 f1 f2 f3 f4 f5 f6 h0 h1 h2 h3 h4 h5 h6 hne HB
      generalize Y.w = W9 at *
      clear Y
      have hb := Lib.hid y1.2.2.2
      clear y1
      go_wp2_with fail
      go_ret
      exact ⟨rfl, by first | exact hb.out | (rw [HX.out]; exact hb.out)⟩
    · have n9 : decide (r1 < r2) = true := decide_eq_true n8
      repeat (refine wpQ_step (fun K hK => ?_); go_simp; first | (refine hK _ ?_; clear hK K) | (apply Exists.intro; refine ⟨fun _ => ?_, hK _ ?_⟩; (first | (go_at_call 12; (with_reducible refine (awake33 _).mono ?_); exact fun e w' ⟨he, hb⟩ => ⟨he, ⟨w', RiseB.below (WIn.ok _) hb⟩, rfl⟩) | (go_at_call 8; (with_reducible refine (HR1.out _).mono ?_); exact fun e w' ⟨he, hb⟩ => ⟨he, ⟨w', RiseB.below (WIn.ok _) hb⟩, rfl⟩) | (go_at_call 8; (with_reducible refine (HR2.out _).mono ?_); exact fun e w' ⟨he, hb⟩ => ⟨he, ⟨w', RiseB.below (WIn.ok _) hb⟩, rfl⟩) | (go_at_call 10; (with_reducible refine (HA1.out _).mono ?_); exact fun e w' ⟨he, hb⟩ => ⟨he, ⟨w', RiseB.below (WIn.ok _) hb⟩, rfl⟩) | (go_at_call 10; (with_reducible refine (HA2.out _).mono ?_); exact fun e w' ⟨he, hb⟩ => ⟨he, ⟨w', RiseB.below (WIn.ok _) hb⟩, rfl⟩) | (go_at_call 10; (with_reducible refine (HB0.out _).mono ?_); exact fun e w' ⟨he, hb⟩ => ⟨he, ⟨w', RiseB.below (WIn.ok _) hb⟩, rfl⟩) | (go_at_call 10; (with_reducible refine (HB1.out _).mono ?_); exact fun e w' ⟨he, hb⟩ => ⟨he, ⟨w', RiseB.below (WIn.ok _) hb⟩, rfl⟩) | (go_at_call 13; (with_reducible refine (HC0.out _).mono ?_); exact fun e w' ⟨he, hb⟩ => ⟨he, ⟨w', RiseB.below (WIn.ok _) hb⟩, rfl⟩) | (go_at_call 13; (with_reducible refine (HC1.out _).mono ?_); exact fun e w' ⟨he, hb⟩ => ⟨he, ⟨w', RiseB.below (WIn.ok _) hb⟩, rfl⟩)); clear hK K) | (refine ⟨.bool false, fun _ => ?_, hK _ ?_⟩; (rw [ite7 _ _ hne2]; exact ⟨rfl, rfl⟩); clear hK K))
      refine wpQ_nil ?_
      intro Y
      have y1 := Y.ok
      clear e0 e1 e2 e3 e4 e5 e6 e7 e8 e9 f0 f1 f2 f3 f4 f5 f6 h0 h1 h2 h3 h4 h5 h6 hne HB
      generalize Y.w = W9 at *
      clear Y
      have hb := Lib.hid y1.2.2.2
      clear y1
      go_wp2_with fail
      go_ret
      exact ⟨rfl, by first | exact hb.out | (rw [HX.out]; exact hb.out)⟩

set_option maxRecDepth 100000 in
theorem lifted (os : Os) (started : os.Started) (H : Type) (enc : TypeId × Value → H) :
    ReturnsInHanded {} Try.checked os 4 .any (Rows.boundRisesSpec.pre6 enc Try.prog Try.f4 Rows.boundRisesRow.domain false) (Rows.boundRisesSpec.post enc Try.prog Try.f4 false true false false) := by
  refine returnsInHanded_of_change (C := Try.checked) own started (by kernel_rfl) Try.func4
    (ChangeSpec.witness6 (enc := enc) (C := Try.checked) false ⟨#[], #[.agg #[.int .i64 0, .int .i64 0, .int .i64 0, .int .i64 0, .int .i64 0, .int .i64 0, .int .i64 0, .int .i64 0, .int .i64 0, .int .i64 0], .agg #[.int .i64 0, .int .i64 0, .int .i64 0, .bool false, .int .i64 0, .int .i64 0, .int .i64 0], .int .i64 0, .int .i64 0], []⟩ 8 (by kernel_rfl) (by kernel_rfl) (by kernel_rfl) (by kernel_rfl)) ?_
  intro W base args ds gs before hval0 hW hcnd _
  have hval : ∀ (j : Nat) t v, Try.f4.params[j]? = some t → args[j]? = some v → Value.okWide Try.prog W .any base t v := hval0
  have hW' := hW
  obtain ⟨p, q, hA0, hV, rfl, hfz, hnd⟩ := hW
  have hA : DataW.TrodAll enc Try.prog W 0 (fun _ => true) true Try.f4.params.toList args.toList ds p := hA0
  rw [Try.params4] at hA hval
  obtain ⟨v0, vs0, d0, ds0, p0, q0, hargs, rfl, rfl, h0, r0⟩ := trodAll_cons hA
  obtain ⟨v1, vs1, d1, ds1, p1, q1, rfl, rfl, rfl, h1, r1⟩ := trodAll_cons r0
  obtain ⟨v2, vs2, d2, ds2, p2, q2, rfl, rfl, rfl, h2, r2⟩ := trodAll_cons r1
  obtain ⟨v3, vs3, d3, ds3, p3, q3, rfl, rfl, rfl, h3, r3⟩ := trodAll_cons r2
  obtain ⟨rfl, rfl, rfl⟩ := trodAll_nil r3
  obtain rfl : args = #[v0, v1, v2, v3] := by cases args; simp_all
  obtain ⟨rfl, rfl⟩ := trodVars_none hV
  obtain ⟨a2, rfl, rfl, rfl, w2⟩ := open_int Try.underlying3 (hval 2 3 v2 rfl rfl) h2
  obtain ⟨a3, rfl, rfl, rfl, w3⟩ := open_int Try.underlying3 (hval 3 3 v3 rfl rfl) h3
  clear hA0 hval0
  have hlt := hW'.lt
  refine (walk W v0 d0 p0 (hval 0 23 v0 rfl rfl) h0 (fun x hx => hlt x (by simp [hx])) v1 d1 p1 (hval 1 25 v1 rfl rfl) h1 (fun x hx => hlt x (by simp [hx])) a2 w2 a3 w3).mono fun e W' ⟨he, hb⟩ => ?_
  subst he
  exact ⟨_, rfl, post_of_below (pv := []) hW' (fun _ _ _ => (trodAll_cons_mk (shut_bool Try.underlying4 _) trodAll_mk0)) (fun sp hsp => (trodAll_cons_mk (WideElems.Trod_stays laidOut (by kernel_rfl) (of_decide_eq_true (by kernel_rfl)) h0 (fun x hx => hb.same (hlt x (by simp [hx]))) (fun x hx => hsp x (by simp [hx]))) (trodAll_cons_mk (WideElems.Trod_stays laidOut (by kernel_rfl) (of_decide_eq_true (by kernel_rfl)) h1 (fun x hx => hb.same (hlt x (by simp [hx]))) (fun x hx => hsp x (by simp [hx]))) (trodAll_cons_mk (shut_int Try.underlying3 w2) (trodAll_cons_mk (shut_int Try.underlying3 w3) trodAll_mk0))))) (fun _ _ => rfl) (by simp) hb (ok_one (by kernel_rfl) rfl (okWide_bool_mk Try.underlying4 _))⟩

theorem over : Rows.boundRisesRow.holds Try.pinned (OpenSpec.ofChange Rows.boundRisesSpec) :=
  OpenClaim.holds_of_wide 4 Try.f4 rfl rfl rfl rfl rfl rfl rfl ⟨rfl, rfl, rfl, rfl, rfl⟩ rfl rfl rfl rfl rfl (by kernel_rfl) Try.func4 (by kernel_rfl)
    (of_decide_eq_true (by kernel_rfl)) (by unfold Func.isWrapper; first | (rw [if_pos (by decide +kernel)]; kernel_rfl) | (rw [if_neg (by decide +kernel)]; exact ⟨rfl, rfl⟩))
    (fun os started H enc _ => lifted os started H enc)

theorem proved : Rows.BoundRisesSaid := over
#print axioms proved
end Go.Proofs.Ytolmkafmlblnoaa.boundRises
