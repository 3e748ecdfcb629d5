/- The law qanat/qanatlaw20.RetryPlays returns true for all arguments of its types; no condition. -/
import Derived.Test.YtpgjdmgbddafnaaRetry
import Derived.Test.YtpgjdmgbddafnaaStage
import Derived.WalkKit
import Derived.ProofKit
import Derived.OpenShut
import Derived.WideKeyArgs
namespace Go.Proofs.Ytpgjdmgbddafnaa.retryPlays
open Go.ChangeShapes Go.WideShapes Go.ChangeAt Go.RowKit
set_option linter.unusedVariables false
set_option linter.unusedSimpArgs false
theorem own : ownKnob Try.prog.godebug = none := by kernel_rfl
theorem laidOut : laidOutB Try.prog = true := by kernel_rfl
def PC (r x ob t : Nat) (B M j f u U : Int) (cs : Array Value) (w0 : World) (k : Nat) (w : World) : Prop :=
  retryAt w r B M j (if k = 0 then f else f + 1) (if k = 0 then u else U) ∧ rretryAt w x B M j (if k ≤ 1 then f else f + 1) (if k ≤ 1 then u else U) ∧ Blk w ob t cs ∧ Below r w0 w
def EI (r x : Nat) (B M j f u : Int) (w0 w : World) : Prop := retryAt w r B M j f u ∧ rretryAt w x B M j f u ∧ Below r w0 w
def EJ (r x ob t : Nat) (B M j f u : Int) (cs : Array Value) (w0 w : World) : Prop := retryAt w r B M j f u ∧ rretryAt w x B M j f u ∧ Below r w0 w ∧ Blk w ob t cs

set_option maxRecDepth 100000 in
set_option maxHeartbeats 4000000 in
theorem walk {H : Type} {enc : TypeId × Value → H} (w : World) {base : Nat} (a0 : Int) (w0 : (Lit.int .i64 a0).wf = true) (a1 : Int) (w1 : (Lit.int .i64 a1).wf = true) (a2 : Int) (w2 : (Lit.int .i64 a2).wf = true) (v3 : Value) (d3 : DataW H) (p3 : List MemPlace) (o3 : Value.okWide Try.prog w .any base 38 v3) (h3 : DataW.Trod enc Try.prog w 0 (fun _ => true) true 38 v3 d3 p3) (l3 : ∀ x ∈ p3, x.block < w.heap.size) :
    Calls Try.prog 7 #[.int .i64 a0, .int .i64 a1, .int .i64 a2, v3] w fun e w' => e = .returned (.bool true) ∧ Below w.heap.size w w' := by
  obtain ⟨A, len, cap, F, rfl, hlc, hcm, hat⟩ := open_int_structs (P := Try.prog) Try.underlying38 Try.underlying44 (by kernel_rfl) (by kernel_rfl) (fun j f hf => by rcases j with _ | _ | _ | j <;> simp at hf <;> subst hf <;> first | exact Try.underlying3 | exact Try.underlying2) o3 h3 l3 (by decide)
  unfold maxLen at hcm
  have cj := bigS_bd a2 100 (by decide)
  have cm := bigS_bd a1 5000 (by decide)
  have cb := bigS_bd a0 50 (by decide)
  have hm : mayB (1 + bigS a0 50) (1 + bigS a0 50 + bigS a1 5000) (bigS a2 100) = true := by simp [mayB]; omega
  have HM := Lib.hid hm
  have HAT := Lib.hid hat
  clear hm hat h3 l3 o3
  go_enter Try.func7, Try.ntmps7
  go_wp2_with (go_at_call 23; refine (big_any _ _ _ (by omega) (by omega)).mono ?_; rintro e w' ⟨rfl, rfl⟩)
  refine (rnew_ok _ _ _ _ HM.out).mono ?_
  rintro e w1 ⟨rfl, hr1, b1⟩
  generalize hr : w.heap.size = r at hr1 b1 ⊢
  have hrlt := lt_of_block hr1
  generalize bigS a0 50 = b at *
  generalize bigS a1 5000 = m at *
  generalize bigS a2 100 = j at *
  have HR := Lib.hid hr
  clear hr
  go_wp2_with fail
  have hx1 : rretryAt (w1.alloc (.cells #[.int .i64 (1 + b), .int .i64 (1 + b + m), .int .i64 j, .int .i64 0, .int .i64 0] 42)) w1.heap.size (1 + b) (1 + b + m) j 0 0 := heap_alloc_new w1 _
  have hr2 : retryAt (w1.alloc (.cells #[.int .i64 (1 + b), .int .i64 (1 + b + m), .int .i64 j, .int .i64 0, .int .i64 0] 42)) r (1 + b) (1 + b + m) j 0 0 := (Below.heap_alloc w1 _ r hrlt).trans hr1
  have b2 : Below r w (w1.alloc (.cells #[.int .i64 (1 + b), .int .i64 (1 + b + m), .int .i64 j, .int .i64 0, .int .i64 0] 42)) := b1.alloc (by omega) _
  generalize w1.alloc (.cells #[.int .i64 (1 + b), .int .i64 (1 + b + m), .int .i64 j, .int .i64 0, .int .i64 0] 42) = w2 at *
  generalize hxr : w1.heap.size = x at *
  have hrx : r < x := by omega
  clear hxr hr1 b1 hrlt
  go_loopw [15] (fun i wr => ∃ (q : Nat) (f u : Int), q ≤ len ∧ q ≤ 60 ∧ i = .int .i64 q ∧ 0 ≤ f ∧ f ≤ q ∧ 0 ≤ u ∧ u ≤ 1125902054326272 ∧ retryAt wr r (1 + b) (1 + b + m) j f u ∧ rretryAt wr x (1 + b) (1 + b + m) j f u ∧ Below r w wr) (fun i _ => 60 - (intOf i).toNat)
  case atStart => exact ⟨0, 0, 0, by omega, by omega, rfl, by omega, by omega, by omega, by omega, hr2, hx1, b2⟩
  case round =>
    obtain ⟨q, f, u, hq, hq60, rfl, hf0, hf1, hu0, hu1, h1, h2, b3⟩ := hrel
    by_cases hlt : q < len ∧ q < 60
    · obtain ⟨bl, off, rfl, hbl, hcell⟩ := HAT.out (by omega)
      have k0 := (hcell q hlt.1 0 (by decide)).1
      have k1 := (hcell q hlt.1 1 (by decide)).1
      have k2 := (hcell q hlt.1 2 (by decide)).1
      have g2 := bounds_i64 (hcell q hlt.1 2 (by decide)).2
      have hbr : bl < r := by have := HR.out; omega
      have e0 : wr.cell? ⟨bl, off + q * 3, none⟩ = some (.int .i64 (F q 0)) := (b3.cell hbr).trans k0
      have e1 : wr.cell? ⟨bl, off + q * 3 + 1, none⟩ = some (.int .i64 (F q 1)) := (b3.cell hbr).trans k1
      have e2 : wr.cell? ⟨bl, off + q * 3 + 2, none⟩ = some (.int .i64 (F q 2)) := (b3.cell hbr).trans k2
      have hq1 : (q : Int) < len := by omega
      have hq2 : (q : Int) < 60 := by omega
      clear k0 k1 k2 hcell HAT
      have HQ := Lib.hid hlt
      clear hlt
      generalize F q 0 = o0 at *
      generalize F q 1 = o1 at *
      generalize F q 2 = o2 at *
      clear F
      go_wp2_with fail
      refine (mod_any _ _ _ (by omega) (by omega)).mono ?_
      rintro e w' ⟨rfl, rfl⟩
      have hrlt := lt_of_block h1
      have hxlt := lt_of_block h2
      have h1' : retryAt (wr.alloc (.cells #[.int .i64 o0, .int .i64 o1, .int .i64 o2] 44)) r (1 + b) (1 + b + m) j f u := (Below.heap_alloc wr _ r hrlt).trans h1
      have h2' : rretryAt (wr.alloc (.cells #[.int .i64 o0, .int .i64 o1, .int .i64 o2] 44)) x (1 + b) (1 + b + m) j f u := (Below.heap_alloc wr _ x hxlt).trans h2
      have h3' : Blk (wr.alloc (.cells #[.int .i64 o0, .int .i64 o1, .int .i64 o2] 44)) wr.heap.size 44 #[.int .i64 o0, .int .i64 o1, .int .i64 o2] := heap_alloc_new wr _
      have b3' : Below r w (wr.alloc (.cells #[.int .i64 o0, .int .i64 o1, .int .i64 o2] 44)) := b3.alloc (by omega) _
      generalize wr.alloc (.cells #[.int .i64 o0, .int .i64 o1, .int .i64 o2] 44) = W at *
      generalize hob : wr.heap.size = ob at *
      have hne1 : ob ≠ r := by omega
      have hne2 : ob ≠ x := by omega
      have hne3 : r ≠ x := by omega
      have v0 : W.cell? ⟨ob, 0, none⟩ = some (.int .i64 o0) := h3'.cell 0
      have v1 : W.cell? ⟨ob, 1, none⟩ = some (.int .i64 o1) := h3'.cell 1
      have v2 : W.cell? ⟨ob, 2, none⟩ = some (.int .i64 o2) := h3'.cell 2
      have hsz : ob < W.heap.size := h3'.lt
      clear e0 e1 e2 hob h1 h2 b3 hrlt hxlt
      have c7 := bigS_bd o0 7 (by decide)
      generalize bigS o0 7 = kk at *
      have hs : ∀ t u' : Int, 0 ≤ u' → u' ≤ 1125902054326272 → IntKind.i64.wrap (u' - 1) = u' - 1 := fun t u' _ _ => IntWalk.i64_in _ (by omega)
      by_cases k4 : kk < 4
      · go_wp2_with fail
        have hC : PC r x ob 44 (1 + b) (1 + b + m) j f u (clockS o1 + waitS (f + 1) (1 + b) (1 + b + m) j o2) #[.int .i64 o0, .int .i64 o1, .int .i64 o2] w 0 W.drew := ⟨h1', h2', h3', b3'.drew⟩
        generalize hU : clockS o1 + waitS (f + 1) (1 + b) (1 + b + m) j o2 = U at *
        have HU := Lib.hid hU
        have hU0 : 0 ≤ U ∧ U ≤ 1125902054326272 := by
          have := waitS_range (f + 1) (1 + b) (1 + b + m) j o2
          have : 0 ≤ clockS o1 ∧ clockS o1 ≤ 1125899906842624 := by unfold clockS; omega
          omega
        have hne : Nonempty (WSt (PC r x ob 44 (1 + b) (1 + b + m) j f u U #[.int .i64 o0, .int .i64 o1, .int .i64 o2] w)) := ⟨⟨0, _, hC⟩⟩
        have z1 : ∀ y : WSt (PC r x ob 44 (1 + b) (1 + b + m) j f u U #[.int .i64 o0, .int .i64 o1, .int .i64 o2] w), y.w.cell? ⟨ob, 1, none⟩ = some (.int .i64 o1) := fun y => y.ok.2.2.1.cell 1
        have z2 : ∀ y : WSt (PC r x ob 44 (1 + b) (1 + b + m) j f u U #[.int .i64 o0, .int .i64 o1, .int .i64 o2] w), y.w.cell? ⟨ob, 2, none⟩ = some (.int .i64 o2) := fun y => y.ok.2.2.1.cell 2
        have HC := Lib.hid hC
        clear hC h1' h2' h3' b3' hU v0 v1 v2
        refine wp_region_stage (PC r x ob 44 (1 + b) (1 + b + m) j f u U #[.int .i64 o0, .int .i64 o1, .int .i64 o2] w) [5, 11] 12 (by kernel_rfl) (by kernel_rfl) (by kernel_rfl) HC.out ?_
        simp only [List.take_succ_cons, List.take_zero, List.drop_succ_cons, List.drop_zero]
        iterate 5 (refine stage_pure (by rfl) (fun K hK => ?_); go_simp; refine hK _ ?_; clear hK K)
        refine stage_eff 0 (by rfl) (by rfl) (by rfl) (.int .i64 U) ?_ ?_
        · intro y
          go_simp
          obtain ⟨W1, y1, y2, y3, y4⟩ := y
          have hyr := lt_of_block y1
          refine (fail_any r _ _ _ _ _ _ _ W1 y1 (by omega) hf0 (by omega)).mono ?_
          rintro e W2 ⟨rfl, n1, n2⟩
          exact ⟨congrArg _ (congrArg _ HU.out), by have e := HU.out; simp only [if_true] at n1; rw [e] at n1; exact n1, n2.at_ y2 (Ne.symm hne3), n2.at_ y3 hne1, Keeps.below y4 n2 (by omega) (by intro v hv e; omega)⟩
        iterate 5 (refine stage_pure (by rfl) (fun K hK => ?_); go_simp; refine hK _ ?_; clear hK K)
        refine stage_eff 1 (by rfl) (by rfl) (by rfl) (.int .i64 U) ?_ ?_
        · intro y
          go_simp
          obtain ⟨W1, y1, y2, y3, y4⟩ := y
          have hyr := lt_of_block y1
          refine (rfail_any x _ _ _ _ _ _ _ W1 y2 (by omega) hf0 (by omega)).mono ?_
          rintro e W2 ⟨rfl, n1, n2⟩
          exact ⟨congrArg _ (congrArg _ HU.out), n2.at_ y1 hne3, by have e := HU.out; simp at n1; rw [e] at n1; exact n1, n2.at_ y3 hne2, Keeps.below y4 n2 (by omega) (by intro v hv e; omega)⟩
        refine wpStage_nil ?_
        rintro ⟨W1, y1, y2, y3, y4⟩
        clear z1 z2 HC hne HU
        simp at y1 y2
        have y5 := trivial
        go_wp2_with fail
        have hI : EI r x (1 + b) (1 + b + m) j (f + 1) U w W1.drew := ⟨y1, y2, y4.drew⟩
        have hne : Nonempty (WIn (EI r x (1 + b) (1 + b + m) j (f + 1) U w)) := ⟨⟨_, hI⟩⟩
        have z5 : ∀ y : WIn (EI r x (1 + b) (1 + b + m) j (f + 1) U w), retryAt y.w r (1 + b) (1 + b + m) j (f + 1) U := fun y => y.ok.1
        have Z5 := Lib.hid z5
        clear z5
        have z3 : ∀ y : WIn (EI r x (1 + b) (1 + b + m) j (f + 1) U w), y.w.cell? ⟨x, 3, none⟩ = some (.int .i64 (f + 1)) := fun y => by simpa using cells_of y.ok.2.1 3
        have z4 : ∀ y : WIn (EI r x (1 + b) (1 + b + m) j (f + 1) U w), y.w.cell? ⟨x, 4, none⟩ = some (.int .i64 U) := fun y => by simpa using cells_of y.ok.2.1 4
        have u1 : IntKind.i64.wrap (U - 1) = U - 1 := IntWalk.i64_in _ (by omega)
        have u2 : decide ((U : Int) ≤ U - 1) = false := decide_eq_false (by omega)
        have HI := Lib.hid hI
        clear hI
        refine wp_region_quiet_in (EI r x (1 + b) (1 + b + m) j (f + 1) U w) (by kernel_rfl) (by kernel_rfl) HI.out ?_
        repeat quiet_step (first | (go_at_call 21; exact (rfails_any _ _ _ _ _ _ _ (Z5.out _)).mono fun e w' ⟨he, hb⟩ => ⟨he, ⟨w', by rw [← hb]; exact WIn.ok _⟩, rfl⟩) | (go_at_call 20; exact (runtil_any _ _ _ _ _ _ _ (Z5.out _)).mono fun e w' ⟨he, hb⟩ => ⟨he, ⟨w', by rw [← hb]; exact WIn.ok _⟩, rfl⟩) | (go_at_call 22; exact (rready_any _ _ _ _ _ _ _ _ (Z5.out _)).mono fun e w' ⟨he, hb⟩ => ⟨he, ⟨w', by rw [← hb]; exact WIn.ok _⟩, rfl⟩))
        refine wpQuiet_nil ?_
        rintro ⟨W5, y1, y2, y4⟩
        clear z3 z4 Z5 hne HI y5
        go_wp2_with fail
        go_roundw
        case rel => exact ⟨q + 1, (f + 1), U, by omega, by omega, by go_num, by omega, by omega, by omega, by omega, y1, y2, y4⟩
        case measure => first | (simp [intOf]; omega) | simp [intOf]
      · have hsx : x < W.heap.size := lt_of_block h2'
        have hsr : r < W.heap.size := lt_of_block h1'
        by_cases k5 : kk = 4
        · subst k5
          go_wp2_with fail
          refine (rdone_any _ _ _ _ _ _ _ h1').mono ?_
          rintro e W0 ⟨rfl, y1, n2⟩
          have y2' := n2.at_ h2' (Ne.symm hne3)
          have y4' : Below r w W0 := Keeps.below b3' n2 (by omega) (by intro v hv e; omega)
          clear n2 h1' h2' h3' b3' v0 v1 v2
          have hsr0 := Lib.hid (lt_of_block y1)
          go_wp2_with fail
          refine (rrdone_any _ _ _ _ _ _ _ y2').mono ?_
          rintro e W1 ⟨rfl, y2, n3⟩
          have y1 := n3.at_ y1 hne3
          have y4 : Below r w W1 := Keeps.below y4' n3 (by have := hsr0.out; omega) (by intro v hv e; omega)
          clear n3 y2' y4'
          have y5 := trivial
          go_wp2_with fail
          have hI : EI r x (1 + b) (1 + b + m) j 0 0 w W1.drew := ⟨y1, y2, y4.drew⟩
          have hne : Nonempty (WIn (EI r x (1 + b) (1 + b + m) j 0 0 w)) := ⟨⟨_, hI⟩⟩
          have z5 : ∀ y : WIn (EI r x (1 + b) (1 + b + m) j 0 0 w), retryAt y.w r (1 + b) (1 + b + m) j 0 0 := fun y => y.ok.1
          have Z5 := Lib.hid z5
          clear z5
          have z3 : ∀ y : WIn (EI r x (1 + b) (1 + b + m) j 0 0 w), y.w.cell? ⟨x, 3, none⟩ = some (.int .i64 0) := fun y => by simpa using cells_of y.ok.2.1 3
          have z4 : ∀ y : WIn (EI r x (1 + b) (1 + b + m) j 0 0 w), y.w.cell? ⟨x, 4, none⟩ = some (.int .i64 0) := fun y => by simpa using cells_of y.ok.2.1 4
          have u1 : IntKind.i64.wrap (0 - 1) = 0 - 1 := IntWalk.i64_in _ (by omega)
          have u2 : decide ((0 : Int) ≤ 0 - 1) = false := decide_eq_false (by omega)
          have HI := Lib.hid hI
          clear hI
          refine wp_region_quiet_in (EI r x (1 + b) (1 + b + m) j 0 0 w) (by kernel_rfl) (by kernel_rfl) HI.out ?_
          repeat quiet_step (first | (go_at_call 21; exact (rfails_any _ _ _ _ _ _ _ (Z5.out _)).mono fun e w' ⟨he, hb⟩ => ⟨he, ⟨w', by rw [← hb]; exact WIn.ok _⟩, rfl⟩) | (go_at_call 20; exact (runtil_any _ _ _ _ _ _ _ (Z5.out _)).mono fun e w' ⟨he, hb⟩ => ⟨he, ⟨w', by rw [← hb]; exact WIn.ok _⟩, rfl⟩) | (go_at_call 22; exact (rready_any _ _ _ _ _ _ _ _ (Z5.out _)).mono fun e w' ⟨he, hb⟩ => ⟨he, ⟨w', by rw [← hb]; exact WIn.ok _⟩, rfl⟩))
          refine wpQuiet_nil ?_
          rintro ⟨W5, y1, y2, y4⟩
          clear z3 z4 Z5 hne HI y5
          go_wp2_with fail
          go_roundw
          case rel => exact ⟨q + 1, 0, 0, by omega, by omega, by go_num, by omega, by omega, by omega, by omega, y1, y2, y4⟩
          case measure => first | (simp [intOf]; omega) | simp [intOf]
        · have k5' : (kk == 4) = false := beq_eq_false_iff_ne.2 k5
          clear k5
          go_wp2_with fail
          have hI : EJ r x ob 44 (1 + b) (1 + b + m) j f u #[.int .i64 o0, .int .i64 o1, .int .i64 o2] w W.drew := ⟨h1', h2', b3'.drew, h3'⟩
          have hne : Nonempty (WIn (EJ r x ob 44 (1 + b) (1 + b + m) j f u #[.int .i64 o0, .int .i64 o1, .int .i64 o2] w)) := ⟨⟨_, hI⟩⟩
          have z1 : ∀ y : WIn (EJ r x ob 44 (1 + b) (1 + b + m) j f u #[.int .i64 o0, .int .i64 o1, .int .i64 o2] w), y.w.cell? ⟨ob, 1, none⟩ = some (.int .i64 o1) := fun y => y.ok.2.2.2.cell 1
          have z4 : ∀ y : WIn (EJ r x ob 44 (1 + b) (1 + b + m) j f u #[.int .i64 o0, .int .i64 o1, .int .i64 o2] w), y.w.cell? ⟨x, 4, none⟩ = some (.int .i64 u) := fun y => by simpa using cells_of y.ok.2.1 4
          have z5 : ∀ y : WIn (EJ r x ob 44 (1 + b) (1 + b + m) j f u #[.int .i64 o0, .int .i64 o1, .int .i64 o2] w), retryAt y.w r (1 + b) (1 + b + m) j f u := fun y => y.ok.1
          have Z5 := Lib.hid z5
          have HI := Lib.hid hI
          clear hI z5 h1' h2' b3' h3' v0 v1 v2
          refine wp_region_quiet_in (EJ r x ob 44 (1 + b) (1 + b + m) j f u #[.int .i64 o0, .int .i64 o1, .int .i64 o2] w) (by kernel_rfl) (by kernel_rfl) HI.out ?_
          repeat quiet_step ((go_at_call 22; exact (rready_any _ _ _ _ _ _ _ _ (Z5.out _)).mono fun e w' ⟨he, hb⟩ => ⟨he, ⟨w', by rw [← hb]; exact WIn.ok _⟩, rfl⟩))
          refine wpQuiet_nil ?_
          rintro ⟨W1, y1, y2, y4, y5⟩
          clear z1 z4 Z5 hne HI
          go_wp2_with fail
          have hI : EI r x (1 + b) (1 + b + m) j f u w W1.drew := ⟨y1, y2, y4.drew⟩
          have hne : Nonempty (WIn (EI r x (1 + b) (1 + b + m) j f u w)) := ⟨⟨_, hI⟩⟩
          have z5 : ∀ y : WIn (EI r x (1 + b) (1 + b + m) j f u w), retryAt y.w r (1 + b) (1 + b + m) j f u := fun y => y.ok.1
          have Z5 := Lib.hid z5
          clear z5
          have z3 : ∀ y : WIn (EI r x (1 + b) (1 + b + m) j f u w), y.w.cell? ⟨x, 3, none⟩ = some (.int .i64 f) := fun y => by simpa using cells_of y.ok.2.1 3
          have z4 : ∀ y : WIn (EI r x (1 + b) (1 + b + m) j f u w), y.w.cell? ⟨x, 4, none⟩ = some (.int .i64 u) := fun y => by simpa using cells_of y.ok.2.1 4
          have u1 : IntKind.i64.wrap (u - 1) = u - 1 := IntWalk.i64_in _ (by omega)
          have u2 : decide ((u : Int) ≤ u - 1) = false := decide_eq_false (by omega)
          have HI := Lib.hid hI
          clear hI
          refine wp_region_quiet_in (EI r x (1 + b) (1 + b + m) j f u w) (by kernel_rfl) (by kernel_rfl) HI.out ?_
          repeat quiet_step (first | (go_at_call 21; exact (rfails_any _ _ _ _ _ _ _ (Z5.out _)).mono fun e w' ⟨he, hb⟩ => ⟨he, ⟨w', by rw [← hb]; exact WIn.ok _⟩, rfl⟩) | (go_at_call 20; exact (runtil_any _ _ _ _ _ _ _ (Z5.out _)).mono fun e w' ⟨he, hb⟩ => ⟨he, ⟨w', by rw [← hb]; exact WIn.ok _⟩, rfl⟩) | (go_at_call 22; exact (rready_any _ _ _ _ _ _ _ _ (Z5.out _)).mono fun e w' ⟨he, hb⟩ => ⟨he, ⟨w', by rw [← hb]; exact WIn.ok _⟩, rfl⟩))
          refine wpQuiet_nil ?_
          rintro ⟨W5, y1, y2, y4⟩
          clear z3 z4 Z5 hne HI y5
          go_wp2_with fail
          go_roundw
          case rel => exact ⟨q + 1, f, u, by omega, by omega, by go_num, by omega, by omega, by omega, by omega, y1, y2, y4⟩
          case measure => first | (simp [intOf]; omega) | simp [intOf]
    · have hlt' : ¬ q < len ∨ ¬ q < 60 := by omega
      clear hlt HAT
      have hq3 : q < len → ¬ q < 60 := by omega
      by_cases hq4 : q < len
      · have hq5 : ¬ (q : Int) < 60 := by omega
        go_wp2_with fail
        refine (awake20 _).mono ?_
        rintro e w3 ⟨rfl, b4⟩
        go_wp2_with fail
        go_ret
        have hlt := lt_of_block h1
        have e := HR.out
        subst e
        exact ⟨rfl, b3.trans (b4.mono (by omega))⟩
      · have hq5 : ¬ (q : Int) < len := by omega
        go_wp2_with fail
        refine (awake20 _).mono ?_
        rintro e w3 ⟨rfl, b4⟩
        go_wp2_with fail
        go_ret
        have hlt := lt_of_block h1
        have e := HR.out
        subst e
        exact ⟨rfl, b3.trans (b4.mono (by omega))⟩

set_option maxRecDepth 100000 in
theorem lifted (os : Os) (started : os.Started) (H : Type) (enc : TypeId × Value → H) :
    ReturnsInHanded {} Try.checked os 7 .any (Rows.retryPlaysSpec.pre6 enc Try.prog Try.f7 Rows.retryPlaysRow.domain false) (Rows.retryPlaysSpec.post enc Try.prog Try.f7 false true false false) := by
  refine returnsInHanded_of_change (C := Try.checked) own started (by kernel_rfl) Try.func7
    (ChangeSpec.witness6 (enc := enc) (C := Try.checked) false ⟨#[], #[.int .i64 0, .int .i64 0, .int .i64 0, .slice none 0 0], []⟩ 8 (by kernel_rfl) (by kernel_rfl) (by kernel_rfl) (by kernel_rfl)) ?_
  intro W base args ds gs before hval0 hW hcnd _
  have hval : ∀ (j : Nat) t v, Try.f7.params[j]? = some t → args[j]? = some v → Value.okWide Try.prog W .any base t v := hval0
  have hW' := hW
  obtain ⟨p, q, hA0, hV, rfl, hfz, hnd⟩ := hW
  have hA : DataW.TrodAll enc Try.prog W 0 (fun _ => true) true Try.f7.params.toList args.toList ds p := hA0
  rw [Try.params7] at hA hval
  obtain ⟨v0, vs0, d0, ds0, p0, q0, hargs, rfl, rfl, h0, r0⟩ := trodAll_cons hA
  obtain ⟨v1, vs1, d1, ds1, p1, q1, rfl, rfl, rfl, h1, r1⟩ := trodAll_cons r0
  obtain ⟨v2, vs2, d2, ds2, p2, q2, rfl, rfl, rfl, h2, r2⟩ := trodAll_cons r1
  obtain ⟨v3, vs3, d3, ds3, p3, q3, rfl, rfl, rfl, h3, r3⟩ := trodAll_cons r2
  obtain ⟨rfl, rfl, rfl⟩ := trodAll_nil r3
  obtain rfl : args = #[v0, v1, v2, v3] := by cases args; simp_all
  obtain ⟨rfl, rfl⟩ := trodVars_none hV
  obtain ⟨a0, rfl, rfl, rfl, w0⟩ := open_int Try.underlying2 (hval 0 2 v0 rfl rfl) h0
  obtain ⟨a1, rfl, rfl, rfl, w1⟩ := open_int Try.underlying2 (hval 1 2 v1 rfl rfl) h1
  obtain ⟨a2, rfl, rfl, rfl, w2⟩ := open_int Try.underlying2 (hval 2 2 v2 rfl rfl) h2
  clear hA0 hval0
  have hlt := hW'.lt
  refine (walk W a0 w0 a1 w1 a2 w2 v3 d3 p3 (hval 3 38 v3 rfl rfl) h3 (fun x hx => hlt x (by simp [hx]))).mono fun e W' ⟨he, hb⟩ => ?_
  subst he
  exact ⟨_, rfl, post_of_below (pv := []) hW' (fun _ _ _ => (trodAll_cons_mk (shut_bool Try.underlying4 _) trodAll_mk0)) (fun sp hsp => (trodAll_cons_mk (shut_int Try.underlying2 w0) (trodAll_cons_mk (shut_int Try.underlying2 w1) (trodAll_cons_mk (shut_int Try.underlying2 w2) (trodAll_cons_mk (WideElems.Trod_stays laidOut (by kernel_rfl) (of_decide_eq_true (by kernel_rfl)) h3 (fun x hx => hb.same (hlt x (by simp [hx]))) (fun x hx => hsp x (by simp [hx]))) trodAll_mk0))))) (fun _ _ => rfl) (by simp) hb (ok_one (by kernel_rfl) rfl (okWide_bool_mk Try.underlying4 _))⟩

theorem over : Rows.retryPlaysRow.holds Try.pinned (OpenSpec.ofChange Rows.retryPlaysSpec) :=
  OpenClaim.holds_of_wide 7 Try.f7 rfl rfl rfl rfl rfl rfl rfl ⟨rfl, rfl, rfl, rfl, rfl⟩ rfl rfl rfl rfl rfl (by kernel_rfl) Try.func7 (by kernel_rfl)
    (of_decide_eq_true (by kernel_rfl)) (by unfold Func.isWrapper; first | (rw [if_pos (by decide +kernel)]; kernel_rfl) | (rw [if_neg (by decide +kernel)]; exact ⟨rfl, rfl⟩))
    (fun os started H enc _ => lifted os started H enc)

theorem proved : Rows.RetryPlaysSaid := over
#print axioms proved
end Go.Proofs.Ytpgjdmgbddafnaa.retryPlays
