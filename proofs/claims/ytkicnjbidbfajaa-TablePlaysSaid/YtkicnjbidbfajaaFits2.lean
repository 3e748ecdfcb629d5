/- Package table: Fits. -/
import Derived.Test.YtkicnjbidbfajaaFits
import Derived.Test.YtkicnjbidbfajaaIntArr
import Derived.Carry
import Derived.Deep.OwnRows
namespace Go.Proofs.Ytkicnjbidbfajaa
open Go.ChangeShapes Go.WideShapes Go.ChangeAt Go.RowKit Go.Deep
set_option linter.unusedVariables false
set_option linter.unusedSimpArgs false
theorem wpList_lookup_mp {w : World} {ops : Array Oper} {rest : List Oper} {o : Oper} {a : Act} {Q : Exit → Act → World → Prop} (hgd : o.guard = none) (m x : Operand) (hop : o.op = .lookup 99 m x true)
    {b j : Nat} {M : Int → Int → Option Bool} (h : Mp w b j M) (t k : Int) (ht : (Lit.int .i64 t).wf = true) (hk : (Lit.int .i64 k).wf = true) (hm : a.eval m = .map (some b)) (hx : a.eval x = .agg #[.int .i64 t, .int .i64 k])
    (hK : wpList Try.prog ops Q rest (a.put o.dst (.tuple #[.bool ((M t k).getD false), .bool (M t k).isSome])) w) : wpList Try.prog ops Q (o :: rest) a w :=
  wpList_plain hgd fun K hK' => by
    have hr := h.look t k ht hk
    unfold Oper.wp
    simp [execOp, hop, hm, hx, hr, Result.andThen]
    exact hK' _ _ hK
theorem wpList_put_mp {w : World} {ops : Array Oper} {rest : List Oper} {o : Oper} {a : Act} {Q : Exit → Act → World → Prop} (hgd : o.guard = none) (m x y : Operand) (hop : o.op = .mapUpdate 99 m x y)
    {b j : Nat} {M : Int → Int → Option Bool} (h : Mp w b j M) (hj : j ≤ 10000) (t k : Int) (v : Bool) (ht : (Lit.int .i64 t).wf = true) (hk : (Lit.int .i64 k).wf = true) (hm : a.eval m = .map (some b)) (hx : a.eval x = .agg #[.int .i64 t, .int .i64 k]) (hy : a.eval y = .bool v)
    (hK : ∀ w', Mp w' b (j + 1) (putM M t k v) → Keeps (· = b) w w' → wpList Try.prog ops Q rest (a.put o.dst undef) w') : wpList Try.prog ops Q (o :: rest) a w :=
  wpList_plain hgd fun K hK' => by
    obtain ⟨w', hr, h1, h2⟩ := h.put hj t k v ht hk
    unfold Oper.wp
    simp [execOp, hop, hm, hx, hy, hr, Result.andThen]
    exact hK' _ _ (hK w' h1 h2)
theorem IntArr.of_made {w : World} {g n : Nat} (h : Blk w g 3 (madeCells #[.int .i64 0] n)) : IntArr w g n (fun _ => 0) :=
  ⟨_, h, by simp [madeCells], fun j hj => by simp [madeCells, hj, Nat.mod_one]⟩
def fitsB (ls : Nat → List Rw) (F : Nat → Cg) (n m : Nat) : Bool := decide (inR F n m ∧ ∀ t, t < n → (applyN ls F m t).length ≤ 1000)
def FInv (ls : Nat → List Rw) (F : Nat → Cg) (n mb gN j : Nat) (w wr : World) : Prop :=
  ∃ M, Mp wr mb j M ∧ MInv M ls (applyN ls F j) n ∧ IntArr wr gN n (fun t => (applyN ls F j t).length) ∧ Below w.heap.size w wr
section
variable {tag : Nat} {f f' : Nat → Nat} {r n : Nat} {w w' : World} {ls : Nat → List Rw} {sv : Value} {P : Nat → Nat} {V : Nat → Value}
theorem tfits_no (v : Value) (m : Nat) (F : Nat → Cg) (h : Ts tag f r w n ls sv P V) (hC : Cs w v m F) (hF : ¬ inR F n m) (hm : m ≤ 500) :
    Calls Try.prog 40 #[.pointer (some ⟨r, 0, none⟩), v] w fun e w' => e = .returned (.bool false) ∧ Below w.heap.size w w' := by
  have ha := tallg v m F h hC (by omega)
  rw [decide_eq_false hF] at ha
  have HA := Lib.hid ha
  clear ha h hC hF
  go_enter Try.func40, Try.ntmps40
  go_wp2_with fail
  refine HA.out.mono ?_
  rintro e w1 ⟨rfl, b1⟩
  go_wp2_with fail
  go_ret
  exact ⟨rfl, b1⟩
set_option maxRecDepth 100000 in
set_option maxHeartbeats 1000000 in
theorem tfits_in (v : Value) (m : Nat) (F : Nat → Cg) (h : Ts tag f r w n ls sv P V) (hC : Cs w v m F) (hF : inR F n m) (hW : ∀ i, i < m → (Lit.int .i64 (F i).ky).wf = true) (hm : m ≤ 500) (h0 : 0 < n) (hn : n ≤ 8) (hl : ∀ t, t < n → (ls t).length ≤ 1200) :
    Calls Try.prog 40 #[.pointer (some ⟨r, 0, none⟩), v] w fun e w' => e = .returned (.bool (decide (∀ t, t < n → (applyN ls F m t).length ≤ 1000))) ∧ Below w.heap.size w w' := by
  have ha := tallg v m F h hC (by omega)
  rw [decide_eq_true hF] at ha
  have HA := Lib.hid ha
  have HC0 := Lib.hid hC
  obtain ⟨A, cap, rfl, h1, h2, h3⟩ := hC
  unfold maxLen at h2
  obtain ⟨gs, os, cs, rfl, hs1, hs2, _⟩ := h.at_ 0 h0
  unfold maxLen at hs2
  have H := Lib.hid h
  have HF := Lib.hid hF
  have HW := Lib.hid hW
  have HL := Lib.hid hl
  have c0 := h.blk.cell 0
  simp at c0
  have hrl := h.blk.lt
  have hmk := run_make_row' (P := Try.prog) 98 3 (.int .i64 0) 8 Try.underlying98 infoInt rfl .i64 .i64 n (by omega) (by omega)
  have hmm := @run_makeMap Try.prog
  clear ha h hF h3 hW hl
  go_enter Try.func40, Try.ntmps40
  go_wp2_with fail
  refine HA.out.mono ?_
  rintro e w1 ⟨rfl, b1⟩
  have y0 := (b1.cell (p := ⟨r, 0, none⟩) hrl).trans c0
  have hA0 := IntArr.of_made (heap_alloc_new w1 (.cells (madeCells #[.int .i64 0] n) 3))
  have hs1' := b1.size
  have HB1 := Lib.hid (b1.alloc hs1' (.cells (madeCells #[.int .i64 0] n) 3))
  have HA0 := Lib.hid hA0
  obtain ⟨gN, hgN⟩ : ∃ gN, w1.heap.size = gN := ⟨_, rfl⟩
  clear HA c0 b1 hA0
  go_upto_region 4 with fail
  rw [hgN] at HA0 hs1'
  clear hgN
  have y1 : (w1.alloc (.cells (madeCells #[.int .i64 0] n) 3)).cell? ⟨r, 0, none⟩ = some (.slice (some ⟨gs, os, none⟩) n cs) := (H.out.below HB1.out).blk.cell 0
  clear y0 hmk
  generalize World.alloc w1 _ = w2 at *
  go_wp2_with fail
  go_loopw [6, 7, 31] (fun s6 s7 s31 wr => ∃ t : Nat, t ≤ n ∧ s31 = .int .i64 t ∧ IntArr wr gN n (fun s => if s < t then (ls s).length else 0) ∧ Below w.heap.size w wr) (fun _ _ s31 _ => n - (intOf s31).toNat)
  case atStart => exact ⟨0, by omega, rfl, HA0.out.same (fun i _ => by simp), HB1.out⟩
  case round =>
    clear HA0 HB1 y1
    obtain ⟨t, ht, rfl, hI, hb⟩ := hrel
    by_cases hlt : t < n
    · obtain ⟨gs', os', cs', hv, _, _, hat⟩ := (H.out.below hb).at_ t hlt
      simp at hv
      obtain ⟨⟨rfl, rfl⟩, rfl⟩ := hv
      have q1 : (0 : Int) ≤ t := by omega
      have q2 : (t : Int) < n := by omega
      have u1 : IntKind.i64.wrap ((t : Int) + 1) = (t : Int) + 1 := IntWalk.i64_in _ (by omega)
      have HI := Lib.hid hI
      have HB := Lib.hid hb
      clear hI hb
      go_wp2_with fail
      have hb3 : Below w.heap.size w (wr.alloc (.cells #[.pointer (some ⟨P t, 0, none⟩)] 92)) := HB.out.alloc HB.out.size _
      refine (ilen ((H.out.below hb3).index t hlt)).mono ?_
      rintro e w4 ⟨rfl, rfl⟩
      have hI3 := HI.out.below ((Below.refl _ _).alloc (Nat.le_refl _) (.cells #[.pointer (some ⟨P t, 0, none⟩)] 92))
      have HI3 := Lib.hid hI3
      have HB3 := Lib.hid hb3
      have x0 := hI3.cell hlt
      have fz := fun j => hI3.frozen j
      clear hI3 hb3 HI HB hat
      generalize World.alloc wr _ = w4 at *
      have HF1 := Lib.hid (HI3.out.set_ (f' := fun s => if s < t + 1 then (ls s).length else 0) t ((ls t).length : Int) (fun i _ hne => by
        by_cases e : i < t
        · simp [e, show i < t + 1 by omega]
        · simp [e, show ¬ i < t + 1 by omega]) (by simp))
      have HF2 := Lib.hid (HB3.out.setCell (p := ⟨gN, t, none⟩) hs1' (.int .i64 (ls t).length))
      clear HI3 HB3
      go_wp2_with fail
      go_roundw
      case rel => exact ⟨t + 1, by omega, by go_num, HF1.out, HF2.out⟩
      case measure => simp [intOf]; omega
    · obtain rfl : n = t := by omega
      have q2 : ¬ (n : Int) < n := by omega
      have HI := Lib.hid (hI.same (f' := fun s => ((applyN ls F 0 s).length : Int)) (fun i hi => by simp [applyN, hi]))
      have HB := Lib.hid hb
      have HM := Lib.hid (mp_made wr)
      have HA3 := Lib.hid (hI.lt)
      clear hI hb
      go_upto_region 10 with fail
      have hmb : w.heap.size ≤ wr.heap.size := HB.out.size
      have HI2 := Lib.hid (HI.out.below ((Below.refl _ _).alloc (Nat.le_refl _) (.map #[] 0)))
      have HB2 := Lib.hid (HB.out.alloc hmb (.map #[] 0))
      have hne : gN ≠ wr.heap.size := by have := HA3.out; omega
      clear HI HB HA3
      have HI3 := Lib.hid (show FInv ls F n wr.heap.size gN 0 w (wr.alloc (.map #[] 0)) from ⟨_, HM.out, fun _ _ _ => rfl, HI2.out, HB2.out⟩)
      clear HI2 HB2 HM hmm
      obtain ⟨mb, hmbe⟩ : ∃ mb, wr.heap.size = mb := ⟨_, rfl⟩
      rw [hmbe] at HI3 hne hmb ⊢
      clear hmbe
      generalize World.alloc wr _ = w5 at *
      go_wp2_with fail
      go_loopw [10, 11, 12, 13, 46, 83, 96] (fun s10 s11 s12 s13 s46 s83 s96 wr => ∃ j : Nat, j ≤ m ∧ s46 = .int .i64 j ∧ FInv ls F n mb gN j w wr) (fun _ _ _ _ s46 _ _ _ => m - (intOf s46).toNat)
      case atStart => exact ⟨0, by omega, rfl, HI3.out⟩
      case round =>
        clear HI3
        obtain ⟨j, hj, rfl, hinv⟩ := hrel
        by_cases hlt : j < m
        · obtain ⟨M, hM, hMI, hI, hb⟩ := hinv
          obtain ⟨A', cap', hv', _, _, hat'⟩ := HC0.out.below hb
          simp at hv'
          obtain ⟨rfl, rfl⟩ := hv'
          obtain ⟨gc, oc, rfl, hgc, hat⟩ := hat' (by omega)
          obtain ⟨y0, y1, y2, y3⟩ := hat j hlt
          have hfj := HF.out j hlt
          obtain ⟨t, ht⟩ : ∃ t : Nat, (F j).tb = t := ⟨(F j).tb.toNat, by omega⟩
          have htn : t < n := by omega
          have hst : applyN ls F (j + 1) = updT (applyN ls F j) t (chg (applyN ls F j t) (F j)) := by simp only [applyN, stepL, ht, Int.toNat_natCast]
          have hwk := HW.out j hlt
          rw [ht] at y0
          have hcf : F j = ⟨(t : Int), (F j).ky, (F j).gn, (F j).vl⟩ := by rw [← ht]
          have hUA : ∀ s, s < n → Up (applyN ls F j s) := apply_up (fun s hs => H.out.up s hs) F j
          have hLA : (applyN ls F j t).length ≤ 1700 := by
            have h1 := apply_len (n := n) (fun s hs => H.out.up s hs) F j t htn
            have h2 := HL.out t htn
            omega
          obtain ⟨L, hL⟩ : ∃ L, applyN ls F j = L := ⟨_, rfl⟩
          rw [hcf, hL] at hst
          rw [hL] at hMI hI hUA hLA
          have HST := Lib.hid hst
          have q1 : (0 : Int) ≤ j := by omega
          have q3 : (j : Int) < m := by omega
          have q4 : (0 : Int) ≤ t := by omega
          have q5 : (t : Int) < n := by omega
          have u1 : IntKind.i64.wrap ((j : Int) + 1) = (j : Int) + 1 := IntWalk.i64_in _ (by omega)
          have HMI := Lib.hid hMI
          have HUA := Lib.hid hUA
          have HM := Lib.hid hM
          have HI := Lib.hid hI
          have HB := Lib.hid hb
          have hwt : (Lit.int .i64 (t : Int)).wf = true := wf64 (by omega) (by omega)
          have HWT := Lib.hid hwt
          have HWK := Lib.hid hwk
          clear hat hat' hfj ht hst hcf hL hM hMI hI hb hUA hwt hwk
          generalize (F j).ky = a1 at *
          generalize (F j).gn = a2 at *
          generalize (F j).vl = a3 at *
          go_upto_region 14 with fail
          have hb1 : Below wr.heap.size wr ((wr.alloc (.cells #[.int .i64 t, .int .i64 a1, .bool a2, .string a3] 65)).alloc (.cells #[.int .i64 t, .int .i64 a1] 101)) := ((Below.refl _ _).alloc (Nat.le_refl _) _).alloc (by simp) _
          have hC1 := (Below.heap_alloc (wr.alloc (.cells #[.int .i64 t, .int .i64 a1, .bool a2, .string a3] 65)) (.cells #[.int .i64 t, .int .i64 a1] 101) wr.heap.size (by simp)).trans (heap_alloc_new wr (.cells #[.int .i64 t, .int .i64 a1, .bool a2, .string a3] 65))
          have hP1 := heap_alloc_new (wr.alloc (.cells #[.int .i64 t, .int .i64 a1, .bool a2, .string a3] 65)) (.cells #[.int .i64 t, .int .i64 a1] 101)
          have hz1 : (wr.alloc (.cells #[.int .i64 t, .int .i64 a1, .bool a2, .string a3] 65)).heap.size = wr.heap.size + 1 := by simp
          rw [hz1] at hP1
          have hM1 := HM.out.keeps (Keeps.of_below (S := fun _ => False) hb1) (fun h => h)
          have hI1 := HI.out.below hb1
          have hBw := HB.out.size
          have hB1 := HB.out.trans (hb1.mono hBw)
          have hgl := HI.out.lt
          have hml : mb < wr.heap.size := by obtain ⟨D, h, _⟩ := HM.out; exact h.lt
          obtain ⟨cb, hcb⟩ : ∃ cb, wr.heap.size = cb := ⟨_, rfl⟩
          rw [hcb] at hC1 hP1 hBw hgl hml ⊢
          have HC1 : Hid (Blk ((wr.alloc (.cells #[.int .i64 t, .int .i64 a1, .bool a2, .string a3] 65)).alloc (.cells #[.int .i64 t, .int .i64 a1] 101)) cb 65 #[.int .i64 t, .int .i64 a1, .bool a2, .string a3]) := Lib.hid hC1
          have HP1 : Hid (Blk ((wr.alloc (.cells #[.int .i64 t, .int .i64 a1, .bool a2, .string a3] 65)).alloc (.cells #[.int .i64 t, .int .i64 a1] 101)) (cb + 1) 101 #[.int .i64 t, .int .i64 a1]) := Lib.hid hP1
          have HM1 := Lib.hid hM1
          have HI1 := Lib.hid hI1
          have HB1 := Lib.hid hB1
          clear hcb hz1 hC1 hP1 hM1 hI1 hB1 hb1 HM HI HB y0 y1 y2 y3
          generalize World.alloc (World.alloc wr _) _ = w6 at *
          have p0 := HP1.out.cell 0
          have p1 := HP1.out.cell 1
          simp at p0 p1
          have hmv := HMI.out t a1 htn
          go_upto_if 62 with (at_lookup; refine wpList_lookup_mp (by rfl) (.tmp 56) (.tmp 57) (by rfl) HM1.out t a1 HWT.out HWK.out (by rfl) (by rfl) ?_)
          obtain ⟨o, ho⟩ : ∃ o, M t a1 = o := ⟨_, rfl⟩
          obtain ⟨was, hwas⟩ : ∃ was, has (L t) a1 = was := ⟨_, rfl⟩
          rw [ho, hwas] at hmv
          rw [ho]
          have HWas := Lib.hid hwas
          clear ho hwas p0 p1
          go_cut [12] (fun s12 wx => s12 = .bool was ∧ Below w6.heap.size w6 wx)
          case first =>
            cases o with
            | some x =>
              obtain rfl : x = was := hmv
              go_wp2_with fail
              go_meet
              case rel => exact ⟨rfl, Below.refl _ _⟩
            | none =>
              have hgw : has (ls t) a1 = was := hmv
              have hT6 := H.out.below HB1.out
              obtain ⟨gs', os', cs', hv, _, _, hat6⟩ := hT6.at_ t htn
              simp at hv
              obtain ⟨⟨rfl, rfl⟩, rfl⟩ := hv
              have hS0 : ApS r gs (os + t) (P t) cb (.slice (some ⟨gs, os, none⟩) n cs) #[.int .i64 t, .int .i64 a1, .bool a2, .string a3] w6.drew := ⟨hT6.blk, ⟨hat6, (hT6.fs gs rfl).2⟩, HC1.out⟩
              have hne2 : Nonempty (WIn (ApS r gs (os + t) (P t) cb (.slice (some ⟨gs, os, none⟩) n cs) #[.int .i64 t, .int .i64 a1, .bool a2, .string a3])) := ⟨⟨_, hS0⟩⟩
              have z0 : ∀ y : WIn (ApS r gs (os + t) (P t) cb (.slice (some ⟨gs, os, none⟩) n cs) #[.int .i64 t, .int .i64 a1, .bool a2, .string a3]), y.w.cell? ⟨r, 0, none⟩ = some (.slice (some ⟨gs, os, none⟩) n cs) := fun y => y.ok.1.cell 0
              have z1 : ∀ y : WIn (ApS r gs (os + t) (P t) cb (.slice (some ⟨gs, os, none⟩) n cs) #[.int .i64 t, .int .i64 a1, .bool a2, .string a3]), y.w.cell? ⟨gs, os + t, none⟩ = some (.pointer (some ⟨P t, 0, none⟩)) := fun y => y.ok.2.1.1
              have z2 : ∀ y : WIn (ApS r gs (os + t) (P t) cb (.slice (some ⟨gs, os, none⟩) n cs) #[.int .i64 t, .int .i64 a1, .bool a2, .string a3]), y.w.cell? ⟨cb, 0, none⟩ = some (.int .i64 t) := fun y => y.ok.2.2.cell 0
              have z3 : ∀ y : WIn (ApS r gs (os + t) (P t) cb (.slice (some ⟨gs, os, none⟩) n cs) #[.int .i64 t, .int .i64 a1, .bool a2, .string a3]), y.w.cell? ⟨cb, 1, none⟩ = some (.int .i64 a1) := fun y => y.ok.2.2.cell 1
              have HS0 := Lib.hid hS0
              have HG := Lib.hid (iget a1 ((hT6.below (w' := w6.drew) ⟨rfl, rfl, rfl, Nat.le_refl _, fun _ _ => rfl⟩).index t htn) (by have := HL.out t htn; omega))
              rw [hgw] at HG
              clear hS0 hT6 hat6 hgw hmv
              go_upto_region 16 with fail
              refine wp_region_noPanic ?_
              refine wp_region_held_drew (S := fun w' => ApS r gs (os + t) (P t) cb (.slice (some ⟨gs, os, none⟩) n cs) #[.int .i64 t, .int .i64 a1, .bool a2, .string a3] w') (by kernel_rfl) HS0.out (fun hHeld => ?_)
              (refine takeE (i := 0) rfl (by kernel_rfl) (by kernel_rfl) (by kernel_rfl) (fun _ _ _ _ h => h) hHeld (fun K hK => ?_); go_simp; refine hK _ ?_; clear hK K)
              (refine takeE (i := 1) rfl (by kernel_rfl) (by kernel_rfl) (by kernel_rfl) (fun _ _ _ _ h => h) hHeld (fun K hK => ?_); go_simp; refine hK _ ?_; clear hK K)
              (refine takeE (i := 2) rfl (by kernel_rfl) (by kernel_rfl) (by kernel_rfl) (fun _ _ _ _ h => h) hHeld (fun K hK => ?_); go_simp; refine hK _ ?_; clear hK K)
              (refine takeE (i := 3) rfl (by kernel_rfl) (by kernel_rfl) (by kernel_rfl) (fun _ _ _ _ h => h) hHeld (fun K hK => ?_); go_simp; refine hK _ ?_; clear hK K)
              (refine takeE (i := 4) rfl (by kernel_rfl) (by kernel_rfl) (by kernel_rfl) (fun _ _ _ _ h => h) hHeld (fun K hK => ?_); go_simp; refine hK _ ?_; clear hK K)
              (refine takeE (i := 5) rfl (by kernel_rfl) (by kernel_rfl) (by kernel_rfl) (fun _ _ _ _ h => h) hHeld (fun K hK => ?_); go_simp; refine hK _ ?_; clear hK K)
              (refine takeE (i := 6) rfl (by kernel_rfl) (by kernel_rfl) (by kernel_rfl) (fun _ _ _ _ h => h) hHeld (fun K hK => ?_); go_simp; refine hK _ ?_; clear hK K)
              (refine takeE (i := 7) rfl (by kernel_rfl) (by kernel_rfl) (by kernel_rfl) (fun _ _ _ _ h => h) hHeld (fun K hK => ?_); go_simp; refine hK _ ?_; clear hK K)
              (refine takeE (i := 8) rfl (by kernel_rfl) (by kernel_rfl) (by kernel_rfl) (fun _ _ _ _ h => h) hHeld (fun K hK => ?_); go_simp; refine hK _ ?_; clear hK K)
              (refine takeE (i := 9) rfl (by kernel_rfl) (by kernel_rfl) (by kernel_rfl) (fun _ _ _ _ h => h) hHeld (fun K hK => ?_); go_simp; refine hK _ ?_; clear hK K)
              (refine takeE (i := 10) rfl (by kernel_rfl) (by kernel_rfl) (by kernel_rfl) (fun _ _ _ _ h => h) hHeld (fun K hK => ?_); go_simp; refine hK _ ?_; clear hK K)
              refine wpAnyH_ready (rs := [11]) (by kernel_rfl) (by simp) ?_
              refine AllReadyH.cons rfl (fun K hK => ?_) AllReadyH.nil
              go_simp
              refine HG.out.mono ?_
              rintro e w7 ⟨rfl, _, hb7⟩
              have hb7' : Below w6.heap.size w6 w7 := (Below.drew (Below.refl _ _)).trans hb7
              refine hK.out _ _ (hHeld.keeps (Keeps.of_below (S := fun _ => False) hb7) (fun h => h) (fun h => h) (fun h => h)) (fun hHeld => ?_)
              clear hK K
              have HB7 := Lib.hid hb7'
              clear hb7 hb7'
              (refine takeE (i := 12) rfl (by kernel_rfl) (by kernel_rfl) (by kernel_rfl) (fun _ _ _ _ h => h) hHeld (fun K hK => ?_); go_simp; refine hK _ ?_; clear hK K)
              (refine takeE (i := 13) rfl (by kernel_rfl) (by kernel_rfl) (by kernel_rfl) (fun _ _ _ _ h => h) hHeld (fun K hK => ?_); go_simp; refine hK _ ?_; clear hK K)
              (refine takeE (i := 14) rfl (by kernel_rfl) (by kernel_rfl) (by kernel_rfl) (fun _ _ _ _ h => h) hHeld (fun K hK => ?_); go_simp; refine hK _ ?_; clear hK K)
              (refine takeE (i := 15) rfl (by kernel_rfl) (by kernel_rfl) (by kernel_rfl) (fun _ _ _ _ h => h) hHeld (fun K hK => ?_); go_simp; refine hK _ ?_; clear hK K)
              refine wpAnyH_done (by kernel_rfl) ?_ _
              refine NoPanic.normal ?_
              clear hHeld z0 z1 z2 z3 hne2 HS0 HG
              go_wp2_with fail
              go_meet
              case rel => exact ⟨rfl, HB7.out⟩
          case rest =>
            obtain ⟨rfl, hbx⟩ := hcut
            have hMx := HM1.out.keeps (Keeps.of_below (S := fun _ => False) hbx) (fun h => h)
            have hCx := HC1.out.below hbx HC1.out.lt
            have hPx := HP1.out.below hbx HP1.out.lt
            have hIx := HI1.out.below hbx
            have hBx := HB1.out.trans (hbx.mono HB1.out.size)
            have hclt := HC1.out.lt
            have HMx := Lib.hid hMx
            have HCx := Lib.hid hCx
            have HIx := Lib.hid hIx
            have HBx := Lib.hid hBx
            have p0 := hPx.cell 0
            have p1 := hPx.cell 1
            have x2 := hCx.cell 2
            simp at p0 p1 x2
            clear hMx hCx hPx hIx hBx HM1 HC1 HP1 HI1 HB1 hmv hclt hbx
            go_upto_region 18 with (at_mapUpdate; refine wpList_put_mp (by rfl) (.tmp 78) (.tmp 79) (.tmp 82) (by rfl) HMx.out (by omega) t a1 (!a2) HWT.out HWK.out (by rfl) (by rfl) (by rfl) ?_; intro w8 hM8 hK8)
            have hC8 : Blk w8 cb 65 #[.int .i64 t, .int .i64 a1, .bool a2, .string a3] := hK8.at_ HCx.out (by omega)
            have hI8 := HIx.out.keeps hK8 hne
            have hB8 : Below w.heap.size w w8 := Keeps.below HBx.out hK8 HBx.out.size (fun x hx e => by omega)
            have hMI8 := minv_step HMI.out HUA.out a1 a2 a3 htn
            rw [← HST.out] at hMI8
            have hcnt : ((applyN ls F (j + 1) t).length : Int) = (L t).length + dN was a2 := by
              rw [HST.out]
              simp only [updT, if_true]
              rw [chg_count (HUA.out t htn), HWas.out]
            have hoth : ∀ s, s ≠ t → applyN ls F (j + 1) s = L s := fun s hs => by rw [HST.out]; simp only [updT, if_neg hs]
            have z0 := hC8.cell 0
            have z2 := hC8.cell 2
            simp at z0 z2
            have x0 := hI8.cell htn
            have fz := fun i => hI8.frozen i
            have HM8 := Lib.hid hM8
            have HMI8 := Lib.hid hMI8
            have HI8 := Lib.hid hI8
            have HB8 := Lib.hid hB8
            have HCn := Lib.hid hcnt
            have HOt := Lib.hid hoth
            have hgB : w.heap.size ≤ gN := hs1'
            clear hM8 hMI8 hI8 hB8 hcnt hoth hC8 hK8 p0 p1 x2 HMx HCx HIx HBx HMI HUA HST
            have hfin : ∀ (x : Int), x = (L t).length + dN was a2 → FInv ls F n mb gN (j + 1) w (w8.setCell ⟨gN, t, none⟩ (.int .i64 x)) := fun x hx => by
              have k : Keeps (· = gN) w8 (w8.setCell ⟨gN, t, none⟩ (.int .i64 x)) := (Keeps.refl (· = gN) w8).setCell (p := ⟨gN, t, none⟩) rfl _
              refine ⟨_, HM8.out.keeps k (fun e => hne e.symm), HMI8.out, HI8.out.set_ t x (fun i hi hn => by show ((applyN ls F (j + 1) i).length : Int) = (L i).length; rw [HOt.out i hn]) (by show ((applyN ls F (j + 1) t).length : Int) = x; rw [HCn.out, hx]), HB8.out.setCell (p := ⟨gN, t, none⟩) hgB _⟩
            have hsame : dN was a2 = 0 → FInv ls F n mb gN (j + 1) w w8 := fun h0 => ⟨_, HM8.out, HMI8.out, HI8.out.same (fun i hi => by
              show ((applyN ls F (j + 1) i).length : Int) = (L i).length
              by_cases e : i = t
              · rw [e, HCn.out, h0]; omega
              · rw [HOt.out i e]), HB8.out⟩
            have HFin := Lib.hid hfin
            have HSame := Lib.hid hsame
            clear hfin hsame HM8 HMI8 HI8 HB8 HCn HOt
            have u3 : IntKind.i64.wrap (((L t).length : Int) + 1) = ((L t).length : Int) + 1 := IntWalk.i64_in _ (by omega)
            have u4 : IntKind.i64.wrap (((L t).length : Int) - 1) = ((L t).length : Int) - 1 := IntWalk.i64_in _ (by omega)
            generalize (L t).length = N at *
            clear HWas
            cases was <;> cases a2
            · go_wp2_with fail
              go_roundw
              case rel => exact ⟨j + 1, by omega, by go_num, HFin.out _ (by simp [dN])⟩
              case measure => simp [intOf]; omega
            · go_wp2_with fail
              go_roundw
              case rel => exact ⟨j + 1, by omega, by go_num, HSame.out (by simp [dN])⟩
              case measure => simp [intOf]; omega
            · go_wp2_with fail
              go_roundw
              case rel => exact ⟨j + 1, by omega, by go_num, HSame.out (by simp [dN])⟩
              case measure => simp [intOf]; omega
            · go_wp2_with fail
              go_roundw
              case rel => exact ⟨j + 1, by omega, by go_num, HFin.out _ (by simp [dN]; omega)⟩
              case measure => simp [intOf]; omega
        · obtain rfl : m = j := by omega
          obtain ⟨M, _, _, hI, hb⟩ := hinv
          have q3 : ¬ (m : Int) < m := by omega
          have HI := Lib.hid hI
          have HB := Lib.hid hb
          have hbd : ∀ t, t < n → (applyN ls F m t).length ≤ 1700 := fun t ht => by
            have h1 := apply_len (n := n) (fun s hs => H.out.up s hs) F m t ht
            have h2 := HL.out t ht
            omega
          obtain ⟨L, hL⟩ : ∃ L, applyN ls F m = L := ⟨_, rfl⟩
          rw [hL] at HI hbd
          have HE := Lib.hid hL
          clear hL hI hb HL HW HF HC0 H
          go_wp2_with fail
          go_loopw [15, 114] (fun s15 s114 wq => ∃ t : Nat, t ≤ n ∧ s114 = .int .i64 t ∧ Hid (∀ s, s < t → (L s).length ≤ 1000) ∧ wq = wr) (fun _ s114 _ => n - (intOf s114).toNat)
          case atStart => exact ⟨0, by omega, rfl, Lib.hid (fun s hs => by omega), rfl⟩
          case round =>
            obtain ⟨t, ht, rfl, hS, rfl⟩ := hrel
            by_cases hlt2 : t < n
            · have q4 : (0 : Int) ≤ t := by omega
              have q5 : (t : Int) < n := by omega
              have x0 := HI.out.cell hlt2
              have u1 : IntKind.i64.wrap ((t : Int) + 1) = (t : Int) + 1 := IntWalk.i64_in _ (by omega)
              by_cases hbig : (L t).length ≤ 1000
              · have HS2 := Lib.hid (show ∀ s, s < t + 1 → (L s).length ≤ 1000 from fun s hs => by
                  by_cases e : s = t
                  · rw [e]; exact hbig
                  · exact hS.out s (by omega))
                have g1 : ¬ ((1000 : Int) < (L t).length) := by omega
                go_wp2_with fail
                go_roundw
                case rel => exact ⟨t + 1, by omega, by go_num, HS2, trivial⟩
                case measure => simp [intOf]; omega
              · have HD := Lib.hid (show decide (∀ t, t < n → (applyN ls F m t).length ≤ 1000) = false by rw [HE.out]; exact decide_eq_false fun h => hbig (h t hlt2))
                have g1 : (1000 : Int) < (L t).length := by omega
                go_wp2_with fail
                go_ret
                exact ⟨by rw [HD.out]; rfl, HB.out⟩
            · obtain rfl : n = t := by omega
              have HD := Lib.hid (show decide (∀ t, t < n → (applyN ls F m t).length ≤ 1000) = true by rw [HE.out]; exact decide_eq_true fun t ht => hS.out t ht)
              have q5 : ¬ (n : Int) < n := by omega
              go_wp2_with fail
              go_ret
              exact ⟨by rw [HD.out]; rfl, HB.out⟩
theorem tfits (v : Value) (m : Nat) (F : Nat → Cg) (h : Ts tag f r w n ls sv P V) (hC : Cs w v m F) (hW : ∀ i, i < m → (Lit.int .i64 (F i).ky).wf = true) (hm : m ≤ 500) (h0 : 0 < n) (hn : n ≤ 8) (hl : ∀ t, t < n → (ls t).length ≤ 1200) :
    Calls Try.prog 40 #[.pointer (some ⟨r, 0, none⟩), v] w fun e w' => e = .returned (.bool (fitsB ls F n m)) ∧ Below w.heap.size w w' := by
  by_cases hF : inR F n m
  · have e : fitsB ls F n m = decide (∀ t, t < n → (applyN ls F m t).length ≤ 1000) := by
      unfold fitsB
      simp [hF]
    rw [e]
    exact tfits_in v m F h hC hF hW hm h0 hn hl
  · have e : fitsB ls F n m = false := by
      unfold fitsB
      simp [hF]
    rw [e]
    exact tfits_no v m F h hC hF hm
end
end Go.Proofs.Ytkicnjbidbfajaa
