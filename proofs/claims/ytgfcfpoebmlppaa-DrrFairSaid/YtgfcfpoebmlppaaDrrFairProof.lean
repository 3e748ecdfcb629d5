/- The law qanat/qanatlaw23.DrrFair returns true for all arguments of its types; no condition. -/
import Derived.Test.YtgfcfpoebmlppaaDrrLaw
import Derived.Test.YtgfcfpoebmlppaaArgs
import Derived.WalkKit
import Derived.ProofKit
import Derived.OpenShut
import Derived.WideKeyArgs
namespace Go.Proofs.Ytgfcfpoebmlppaa.drrFair
open Go.ChangeShapes Go.WideShapes Go.ChangeAt Go.RowKit
set_option linter.unusedVariables false
set_option linter.unusedSimpArgs false
theorem own : ownKnob Try.prog.godebug = none := by kernel_rfl
theorem laidOut : laidOutB Try.prog = true := by kernel_rfl
/-- the argument: a box that holds a slice of ints -/
def ArgIn (w : World) (b : Nat) (A : Option Addr) (len cap : Nat) (F : Nat → Int) : Prop := w.cell? ⟨b, 0, none⟩ = some (.slice A len cap) ∧ (0 < len → ∃ g off, A = some ⟨g, off, none⟩ ∧ g < b ∧ ∀ i, i < len → w.cell? ⟨g, off + i, none⟩ = some (.int .i64 (F i)))
theorem ArgIn.below {w w' : World} {b r : Nat} {A : Option Addr} {len cap : Nat} {F : Nat → Int} (h : ArgIn w b A len cap F) (hb : Below r w w') (hr : b < r) : ArgIn w' b A len cap F := by
  refine ⟨(hb.cell (p := ⟨b, 0, none⟩) hr).trans h.1, fun hl => ?_⟩
  obtain ⟨g, off, rfl, hg, hc⟩ := h.2 hl
  exact ⟨g, off, rfl, hg, fun i hi => (hb.cell (p := ⟨g, off + i, none⟩) (by show g < r; omega)).trans (hc i hi)⟩
theorem seen_bd {W : Nat → Int} {n rd k : Nat} {o : Int} (hW : ∀ j, j < n → 1 ≤ W j ∧ W j ≤ 8) (hk : k < n) (ho : 0 ≤ o ∧ o ≤ W k) (hc : cnt W n rd k o ≤ 200) (j : Nat) (hj : j < n) : 0 ≤ seenF W rd k o j ∧ seenF W rd k o j ≤ 2000 := by
  have h0 := psum_mono hW k (by omega)
  have hT := psum_mono hW n (Nat.le_refl _)
  have h1 : (rd : Int) * 1 ≤ (rd : Int) * psum W n := Int.mul_le_mul_of_nonneg_left (by omega) (by omega)
  have hr : (rd : Int) ≤ 200 := by unfold cnt at hc; omega
  have hw := hW j hj
  have hk8 := hW k hk
  have h2 : (rd : Int) * W j ≤ (rd : Int) * 8 := Int.mul_le_mul_of_nonneg_left hw.2 (by omega)
  have h3 : 0 ≤ (rd : Int) * W j := Int.mul_nonneg (by omega) (by omega)
  unfold seenF
  split
  · omega
  · split <;> omega

set_option maxRecDepth 100000 in
set_option maxHeartbeats 3000000 in
theorem walk {H : Type} {enc : TypeId × Value → H} (w : World) {base : Nat} (v0 : Value) (d0 : DataW H) (p0 : List MemPlace) (o0 : Value.okWide Try.prog w .any base 24 v0) (h0 : DataW.Trod enc Try.prog w 0 (fun _ => true) true 24 v0 d0 p0) (l0 : ∀ x ∈ p0, x.block < w.heap.size) (a1 : Int) (w1 : (Lit.int .i64 a1).wf = true) :
    Calls Try.prog 3 #[v0, .int .i64 a1] w fun e w' => e = .returned (.bool true) ∧ Below w.heap.size w w' := by
  obtain ⟨cs, rfl, hsz, hf⟩ := open_agg_any Try.underlying24 (by kernel_rfl) (by kernel_rfl) o0 h0
  obtain ⟨u0, y0, n0, e0, t0⟩ := hf 0 _ rfl
  obtain ⟨A, len, cap, F, rfl, hlc, hcm, hat⟩ := trod_ints Try.underlying22 Try.underlying3 (by kernel_rfl) t0
  obtain rfl : cs = #[.slice A len cap] := by
    refine Array.ext_getElem? fun k => ?_
    rcases k with _ | k
    · exact e0
    · rw [Array.getElem?_eq_none (by simp at hsz; omega), Array.getElem?_eq_none (by simp)]
  clear h0 l0 o0 hf t0 e0 hsz
  unfold maxLen at hcm
  have hArg : ArgIn (w.alloc (.cells #[.slice A len cap] 24)) w.heap.size A len cap F := by
    refine ⟨by rw [cells_of (heap_alloc_new w _)]; rfl, fun hl => ?_⟩
    obtain ⟨g, off, rfl, hg, hc⟩ := hat hl
    exact ⟨g, off, rfl, hg, fun i hi => (World.cell?_alloc_lt w _ ⟨g, off + i, none⟩ hg).trans (hc i hi).1⟩
  have HA := Lib.hid hArg
  have HBw := Lib.hid ((Below.refl w.heap.size w).alloc (Nat.le_refl _) (.cells #[.slice A len cap] 24))
  clear hArg hat
  obtain ⟨i0, hi0, hz0, hz1, hz2⟩ := info_parts info3
  go_enter Try.func3, Try.ntmps3
  go_wp2_with fail
  refine (dnew _).mono ?_
  rintro e w1 ⟨rfl, d1⟩
  obtain ⟨b, hb⟩ : ∃ b, w.heap.size = b := ⟨_, rfl⟩
  rw [World.size_alloc] at d1 ⊢
  rw [hb] at HA HBw d1 ⊢
  have HBs := Lib.hid hb
  clear hb
  have HA1 := Lib.hid (HA.out.below d1.low (Nat.lt_succ_self b))
  have HB1 := Lib.hid (HBw.out.trans (d1.low.mono (Nat.le_succ b)))
  generalize World.alloc w _ = W0 at *
  have D1 := Lib.hid d1
  have c0 := HA1.out.1
  clear d1 HA HBw
  go_upto_region 2 with fail
  go_cut [6] (fun s6 wx => ∃ n : Nat, s6 = .int .i64 n ∧ n ≤ len ∧ n ≤ 9 ∧ (0 < len → 0 < n) ∧ wx = w1)
  case first =>
    go_wp2_with fail
    all_goals go_meet
    all_goals first | exact ⟨len, rfl, by omega, by omega, by omega, rfl⟩ | exact ⟨9, rfl, by omega, by omega, by omega, rfl⟩
  case rest =>
    obtain ⟨n, rfl, hn1, hn2, hn3, rfl⟩ := hcut
    rcases Nat.eq_zero_or_pos n with rfl | hn0
    · have D2 := Lib.hid D1.out.low
      clear hn3 D1 HA1
      go_wp2_with fail
      refine (awake23 _).mono ?_
      rintro e w2 ⟨rfl, b2⟩
      go_wp2_with fail
      go_ret
      exact ⟨rfl, by rw [HBs.out]; exact HB1.out.trans (b2.mono (by rw [← HBs.out]; exact HB1.out.size))⟩
    · have hz : ((n : Int) == 0) = false := beq_eq_false_iff_ne.2 (by omega)
      obtain ⟨W, hW⟩ : ∃ W : Nat → Int, ∀ j, W j = 1 + bigS (F j) 8 := ⟨_, fun _ => rfl⟩
      have hWb : ∀ j, j < n → 1 ≤ W j ∧ W j ≤ 8 := fun j _ => by have := bigS_bd (F j) 8 (by decide); rw [hW]; omega
      have HWW := Lib.hid hW
      have HWB := Lib.hid hWb
      clear hW hWb
      go_upto_region 7 with (refine wpList_make_full _ rfl _ _ _ rfl wc.heap.size 3 i0 _ 1 Try.underlying22 hi0 hz0 hz1 _ _ _ _ n rfl rfl rfl rfl (by rw [hz2]; omega) (by unfold maxLen; omega) (Nat.le_refl _) ?_; intro w2 hown hgr)
      obtain ⟨gw, hgw, hgb, hIW⟩ := IntArr.of_own hn0 hown (fun j hj => madeCells_at n j hj)
      simp at hgw
      have b2 : Below wc.heap.size wc w2 := (Below.refl _ _).grown hgr (Nat.le_refl _) (by simp)
      subst hgw
      have hdl := D1.out.lt
      have D2 := Lib.hid ((D1.out.more (fun x => x = wc.heap.size) (fun x hx => .inr (by omega))).below b2)
      have A2 := Lib.hid (HA1.out.below b2 (by omega))
      generalize hgz : wc.heap.size = gw at *
      have HI2 := Lib.hid hIW
      clear hIW hown hgr hgb c0 D1 HA1
      have L2 := Lib.hid (HB1.out.trans (b2.mono (by rw [← HBs.out]; have := HB1.out.size; omega)))
      clear HB1 b2 hgz
      have hgr : b + 1 < gw := by omega
      go_wp2_with fail
      go_loopw [7, 9] (fun s7 s9 wr => ∃ q : Nat, q ≤ n ∧ s9 = .int .i64 q ∧ s7 = .int .i64 (psum W q) ∧ Dr W0 (b + 1) (fun x => x = gw) wr (mems W q) 0 false 0 ∧ IntArr wr gw n (fun j => if j < q then W j else 0) ∧ ArgIn wr b A len cap F ∧ Below b w wr) (fun _ s9 _ => n - (intOf s9).toNat)
      case atStart => exact ⟨0, by omega, rfl, rfl, D2.out, HI2.out.same (by simp), A2.out, L2.out⟩
      case round =>
        clear D2 HI2 A2 L2
        obtain ⟨q, hq, rfl, rfl, hD, hI, hA, hL⟩ := hrel
        by_cases hlt : q < n
        · obtain ⟨g, off, rfl, hgb, hcell⟩ := hA.2 (by omega)
          have c0 := hA.1
          have c1 := hcell q (by omega)
          have c2 := hI.cell hlt
          have fz := fun j => hI.frozen j
          have hq1 : (q : Int) < n := by omega
          have hq2 : (q : Int) < len := by omega
          have hq3 : (0 : Int) ≤ q := by omega
          have hWq := HWB.out q hlt
          have hWe := HWW.out q
          have hps := psum_mono HWB.out q (by omega)
          have hgl := hI.lt
          have HD := Lib.hid hD
          have HI := Lib.hid hI
          have HA := Lib.hid hA
          have HL := Lib.hid hL
          clear hD hI hA hL hcell
          have hk := bigS_bd (F q) 8 (by decide)
          have ne1 : g ≠ gw := by omega
          have ne2 : b ≠ gw := by omega
          go_upto_region 11 with (go_at_call 9; refine (mod_any _ _ _ (by omega) (by omega)).mono ?_; rintro e w' ⟨rfl, rfl⟩)
          rw [← hWe]
          have k1 : Keeps (· = gw) wr (wr.setCell ⟨gw, q, none⟩ (.int .i64 (W q))) := (Keeps.refl (· = gw) wr).setCell (p := ⟨gw, q, none⟩) rfl _
          have D5 := Lib.hid (HD.out.other k1 (fun x hx => ⟨hx, by omega⟩))
          have I5 := Lib.hid (show IntArr (wr.setCell ⟨gw, q, none⟩ (.int .i64 (W q))) gw n (fun j => if j < q + 1 then W j else 0) from HI.out.set_ q (W q) (fun i hi hne => by
            have : (i < q + 1) = (i < q) := by apply propext; omega
            simp only [this]) (by simp))
          have A5 := Lib.hid (HA.out.below ((Below.refl (b + 1) wr).setCell (p := ⟨gw, q, none⟩) (by show b + 1 ≤ gw; omega) (.int .i64 (W q))) (Nat.lt_succ_self b))
          have L5 := Lib.hid (HL.out.setCell (p := ⟨gw, q, none⟩) (by show b ≤ gw; omega) (.int .i64 (W q)))
          clear HD HI HA HL k1 c0 c1 c2 fz hgl
          generalize World.setCell wr _ _ = w5 at *
          have c2 : w5.cell? ⟨gw, q, none⟩ = some (.int .i64 (W q)) := by rw [I5.out.cell hlt]; simp
          have ha : argB ((q : Int) + 1) (W q) = true := by simp only [argB, decide_eq_true_eq]; omega
          have HAr := Lib.hid ha
          clear ha
          have u1 : IntKind.i64.wrap ((q : Int) + 1) = (q : Int) + 1 := IntWalk.i64_in _ (by omega)
          clear hWe
          go_wp2_with fail
          refine (dadd_ok _ (W q) D5.out HAr.out (mems_find W q _ (by omega)) (by rw [mems_len]; omega) (fun x hx => by rw [hx]; exact I5.out.lt)).mono ?_
          rintro e w6 ⟨rfl, d6, k6⟩
          rw [← mems_succ] at d6
          have D6 := Lib.hid d6
          have I6 := Lib.hid (I5.out.keeps k6 (fun h => h.2 rfl))
          have kb : Below (b + 1) w5 w6 := ⟨k6.os, k6.tape, k6.output, k6.size, fun k hk => k6.block k (by have := I5.out.lt; omega) (fun h => by omega)⟩
          have A6 := Lib.hid (A5.out.below kb (Nat.lt_succ_self b))
          have L6 := Lib.hid (L5.out.trans (kb.mono (Nat.le_succ b)))
          clear d6 k6 kb D5 I5 A5 L5 c2
          go_wp2_with fail
          go_roundw
          case rel => exact ⟨q + 1, by omega, by go_num, by simp only [psum] <;> first | rfl | skip, D6.out, I6.out, A6.out, L6.out⟩
          case measure => simp [intOf]; omega
        · obtain rfl : q = n := by omega
          have hq1 : ¬ (q : Int) < q := by omega
          have HD := Lib.hid hD
          have HI := Lib.hid (show IntArr wr gw q W from hI.same (fun i hi => by simp [hi]))
          have HL := Lib.hid hL
          clear hD hI hA hL hlt hq hn1 hn3 hq1 HWW
          have hq0 : 0 < q := hn0
          have hpn := psum_mono HWB.out q (Nat.le_refl _)
          have hgw := HI.out.lt
          go_upto_region 15 with (refine wpList_make_full _ rfl _ _ _ rfl wr.heap.size 3 i0 _ 1 Try.underlying22 hi0 hz0 hz1 _ _ _ _ q rfl rfl rfl rfl (by rw [hz2]; omega) (by unfold maxLen; omega) (Nat.le_refl _) ?_; intro w3 hown hgr3)
          obtain ⟨gl, hgl, hgb, hIL⟩ := IntArr.of_own hn0 hown (fun j hj => madeCells_at q j hj)
          simp at hgl
          have b3 : Below wr.heap.size wr w3 := (Below.refl _ _).grown hgr3 (Nat.le_refl _) (by simp)
          subst hgl
          have D3 := Lib.hid ((HD.out.more (fun x => x = gw ∨ x = wr.heap.size) (fun x hx => by omega)).below b3)
          have I3 := Lib.hid (HI.out.below b3)
          have L3 := Lib.hid (HL.out.trans (b3.mono (by rw [← HBs.out]; have := HL.out.size; omega)))
          have hlo := hIL.lt
          generalize hgz : wr.heap.size = gl at *
          have J3 := Lib.hid hIL
          clear hIL hown hgr3 hgb HD HI HL b3 hgz
          go_upto_region 16 with (refine wpList_make_full _ rfl _ _ _ rfl w3.heap.size 3 i0 _ 1 Try.underlying22 hi0 hz0 hz1 _ _ _ _ q rfl rfl rfl rfl (by rw [hz2]; omega) (by unfold maxLen; omega) (Nat.le_refl _) ?_; intro w4 hown hgr4)
          obtain ⟨gs, hgs, hgb, hIS⟩ := IntArr.of_own hn0 hown (fun j hj => madeCells_at q j hj)
          simp at hgs
          have b4 : Below w3.heap.size w3 w4 := (Below.refl _ _).grown hgr4 (Nat.le_refl _) (by simp)
          subst hgs
          have D4 := Lib.hid ((D3.out.more (fun x => x = gw ∨ x = gl ∨ x = w3.heap.size) (fun x hx => by omega)).below b4)
          have I4 := Lib.hid (I3.out.below b4)
          have J4 := Lib.hid (J3.out.below b4)
          have L4 := Lib.hid (L3.out.trans (b4.mono (by rw [← HBs.out]; have := L3.out.size; omega)))
          generalize hgz : w3.heap.size = gs at *
          have S4 := Lib.hid hIS
          clear hIS hown hgr4 hgb D3 I3 J3 L3 b4 hgz
          obtain ⟨m, hm⟩ : ∃ m, bigS a1 200 = m := ⟨_, rfl⟩
          have hmb : 0 ≤ m ∧ m < 200 := by have := bigS_bd a1 200 (by decide); omega
          go_upto_region 17 with (go_at_call 9; refine (mod_any _ _ _ (by omega) (by omega)).mono ?_; rintro e w' ⟨rfl, rfl⟩)
          go_wp2_with fail
          go_loopw [13] (fun s13 wr => ∃ (rd k at_ : Nat) (o left : Int) (turn : Bool), St W q rd k o at_ turn left ∧ s13 = .int .i64 (cnt W q rd k o + 1) ∧ cnt W q rd k o ≤ m ∧ 0 ≤ cnt W q rd k o ∧ Dr W0 (b + 1) (fun x => x = gw ∨ x = gl ∨ x = gs) wr (mems W q) at_ turn left ∧ IntArr wr gw q W ∧ IntArr wr gl q (lastF W q rd k o) ∧ IntArr wr gs q (seenF W rd k o) ∧ Below b w wr) (fun s13 _ => (m + 1 - intOf s13).toNat)
          case atStart => exact ⟨0, 0, 0, 0, 0, false, ⟨hq0, .inr ⟨rfl, rfl, rfl, rfl, rfl, rfl⟩⟩, by simp [cnt, psum], by simp [cnt, psum]; omega, by simp [cnt, psum], D4.out, I4.out, J4.out.same (fun j hj => by simp [lastF]), S4.out.same (fun j hj => by simp [seenF]), L4.out⟩
          case round =>
            clear D4 I4 J4 S4 L4
            obtain ⟨rd, k, at_, o, left, turn, hSt, rfl, hc, hc0, hD, hI, hJ, hS, hL⟩ := hrel
            have HD := Lib.hid hD
            have HI := Lib.hid hI
            have HJ := Lib.hid hJ
            have HS := Lib.hid hS
            have HL := Lib.hid hL
            clear hD hI hJ hS hL
            by_cases hlt : cnt W q rd k o + 1 ≤ m
            · obtain ⟨rd', k', o', hNx, hk', ho1, ho2, e1, e2, e3⟩ := st_next HWB.out hSt
              have hkq := hSt.kn
              have hso : (1 ≤ o ∧ o ≤ W k) ∨ rd = 0 ∧ k = 0 ∧ o = 0 := by
                rcases hSt.run with ⟨_, _, _, h1, h2⟩ | ⟨_, _, _, h1, h2, h3⟩
                · exact .inl ⟨h1, h2⟩
                · exact .inr ⟨h1, h2, h3⟩
              have hgap := gap HWB.out hNx hkq hso
              have hcs := cnt_step hNx
              have hse := fun j hj => seen_step hNx hkq j hj
              have hla := fun j hj => last_step HWB.out hNx hkq (hso.imp And.left id) ho1 j hj
              have hre := round_end HWB.out (rd := rd') hk' ⟨ho1, ho2⟩
              have hWk := HWB.out k' hk'
              have hwk := HWB.out k hkq
              have hss := seen_bd (W := W) (n := q) (rd := rd) (k := k) (o := o) HWB.out hkq (by omega) (by omega) k' hk'
              rw [← hcs] at hlt ⊢
              have hc1 : 1 ≤ cnt W q rd' k' o' := by omega
              have HSB := Lib.hid (seen_bd HWB.out (rd := rd') hk' ⟨Int.le_trans (by decide) ho1, ho2⟩ (by omega))
              have SN := Lib.hid (show St W q rd' k' o' k' true (W k' - o') from ⟨hk', .inl ⟨rfl, rfl, rfl, ho1, ho2⟩⟩)
              have HSE := Lib.hid hse
              have HLA := Lib.hid hla
              have HRE := Lib.hid hre
              clear hse hla hre hSt hNx hc hc0 hcs hso
              go_wp2_with fail
              refine (dnext HD.out (by rw [mems_len]; omega)).mono ?_
              rintro e w5 ⟨rfl, d5, k5⟩
              rw [e1, e2] at d5
              rw [e3]
              have D5 := Lib.hid d5
              have I5 := Lib.hid (HI.out.keeps k5 (by omega))
              have J5 := Lib.hid (HJ.out.keeps k5 (by omega))
              have S5 := Lib.hid (HS.out.keeps k5 (by omega))
              have L5 := Lib.hid (Keeps.below HL.out k5 (by rw [← HBs.out]; exact HL.out.size) (fun x hx => by omega))
              clear d5 k5 HD HI HJ HS HL e1 e2 e3
              have t1 : ¬ ((k' : Int) + 1 < 1) := by omega
              have t2 : ¬ ((q : Int) < (k' : Int) + 1) := by omega
              have u1 : IntKind.i64.wrap ((k' : Int) + 1 - 1) = k' := by rw [Int.add_sub_cancel]; exact IntWalk.i64_in _ (by omega)
              have c0 := I5.out.cell hk'
              have c1 := J5.out.cell hk'
              have c2 := S5.out.cell hk'
              have f1 := fun j => J5.out.frozen j
              have f2 := fun j => S5.out.frozen j
              have fl := J5.out.lt
              have fs := S5.out.lt
              have ne1 : gs ≠ gl := by omega
              have ne2 : gl ≠ gs := by omega
              obtain ⟨c, hcd⟩ : ∃ c, c = cnt W q rd' k' o' := ⟨_, rfl⟩
              obtain ⟨T, hTd⟩ : ∃ T, T = psum W q := ⟨_, rfl⟩
              obtain ⟨L, hLd⟩ : ∃ L, L = lastF W q rd k o k' := ⟨_, rfl⟩
              obtain ⟨s, hsd⟩ : ∃ s, s = seenF W rd k o k' := ⟨_, rfl⟩
              have t3 : ¬ (T - W k' < c - L - 1) := by omega
              have u2 : IntKind.i64.wrap (c - L) = c - L := IntWalk.i64_in _ (by omega)
              have u3 : IntKind.i64.wrap (c - L - 1) = c - L - 1 := IntWalk.i64_in _ (by omega)
              have u4 : IntKind.i64.wrap (T - W k') = T - W k' := IntWalk.i64_in _ (by omega)
              have u5 : IntKind.i64.wrap (s + 1) = s + 1 := IntWalk.i64_in _ (by omega)
              have i1 : (0 : Int) ≤ k' := by omega
              have i2 : (k' : Int) < q := by omega
              have i3 : (T == 0) = false := beq_eq_false_iff_ne.2 (by omega)
              subst hcd hTd hLd hsd
              go_upto_region 24 with fail
              go_quiet (fail)
              go_upto_region 28 with fail
              have I6 := (I5.out.drewN nq).far (p := ⟨gl, k', none⟩) (by show gw ≠ gl; omega) (.int .i64 (cnt W q rd' k' o'))
              have J6 := (J5.out.drewN nq).set_ k' (cnt W q rd' k' o') (f' := lastF W q rd' k' o') (fun i hi hne => by rw [HLA.out i hi, if_neg hne]) (by rw [HLA.out k' hk', if_pos rfl])
              have S6 := (S5.out.drewN nq).far (p := ⟨gl, k', none⟩) (by show gs ≠ gl; omega) (.int .i64 (cnt W q rd' k' o'))
              have k6 : Keeps (fun x => x = gl ∨ x = gs) (w5.drewN nq) (((w5.drewN nq).setCell ⟨gl, k', none⟩ (.int .i64 (cnt W q rd' k' o'))).setCell ⟨gs, k', none⟩ (.int .i64 (seenF W rd k o k' + 1))) := ((Keeps.refl _ _).setCell (p := ⟨gl, k', none⟩) (.inl rfl) _).setCell (p := ⟨gs, k', none⟩) (.inr rfl) _
              have I7 := Lib.hid (I6.far (p := ⟨gs, k', none⟩) (by show gw ≠ gs; omega) (.int .i64 (seenF W rd k o k' + 1)))
              have J7 := Lib.hid (J6.far (p := ⟨gs, k', none⟩) (by show gl ≠ gs; omega) (.int .i64 (seenF W rd k o k' + 1)))
              have S7 := Lib.hid (S6.set_ k' (seenF W rd k o k' + 1) (f' := seenF W rd' k' o') (fun i hi hne => by rw [HSE.out i hi, if_neg hne]; omega) (by rw [HSE.out k' hk', if_pos rfl]))
              have D7 := Lib.hid ((D5.out.drewN nq).other k6 (fun x hx => ⟨.inr hx, by omega⟩))
              have L7 := Lib.hid (Keeps.below (L5.out.trans ⟨rfl, rfl, rfl, Nat.le_refl _, fun _ _ => rfl⟩ : Below b w (w5.drewN nq)) k6 (by rw [← HBs.out]; exact L5.out.size) (fun x hx => by omega))
              clear I5 J5 S5 D5 L5 I6 J6 S6 k6 c0 c1 c2 f1 f2 fl fs u2 u3 u4 u5 hss hgap
              generalize World.setCell _ ⟨gs, k', none⟩ _ = w7 at *
              rcases HRE.out with ⟨r1, r2, r3, r4, r5⟩ | hne
              · have hr0 : (cnt W q rd' k' o' % psum W q == 0) = true := beq_iff_eq.2 r3
                have R4 := Lib.hid r4
                have R5 := Lib.hid r5
                clear r3 r4 r5 r1 r2
                go_upto_region 30 with fail
                go_loopw [17] (fun s17 wx => ∃ j : Nat, j ≤ q ∧ s17 = .int .i64 j ∧ IntArr wx gw q W ∧ IntArr wx gl q (lastF W q rd' k' o') ∧ IntArr wx gs q (seenF W rd' k' o') ∧ Dr W0 (b + 1) (fun x => x = gw ∨ x = gl ∨ x = gs) wx (mems W q) k' true (W k' - o') ∧ Below b w wx) (fun s17 _ => q - (intOf s17).toNat)
                case atStart => exact ⟨0, by omega, rfl, I7.out, J7.out, S7.out, D7.out, L7.out⟩
                case round =>
                  clear I7 J7 S7 D7 L7
                  obtain ⟨j, hj, rfl, i7, j7, s7, d7, l7⟩ := hrel
                  have I7 := Lib.hid i7
                  have J7 := Lib.hid j7
                  have S7 := Lib.hid s7
                  have D7 := Lib.hid d7
                  have L7 := Lib.hid l7
                  clear i7 j7 s7 d7 l7
                  by_cases hjl : j < q
                  · have hjq : (j : Int) < q := by omega
                    have hj0 : (0 : Int) ≤ j := by omega
                    have c0 := I7.out.cell hjl
                    have c1 := S7.out.cell hjl
                    rw [R5.out j hjl] at c1
                    have r4 := R4.out
                    have hsb := HSB.out j hjl
                    rw [R5.out j hjl] at hsb
                    have u2 : IntKind.i64.wrap (W j * ((rd' : Int) + 1)) = W j * ((rd' : Int) + 1) := IntWalk.i64_in _ (by omega)
                    have i4 : (0 : Int) ≤ (rd' : Int) + 1 := by omega
                    go_wp2_with fail
                    go_quiet (fail)
                    go_wp2_with fail
                    go_roundw
                    case rel => exact ⟨j + 1, by omega, by go_num, I7.out.drewN _, J7.out.drewN _, S7.out.drewN _, D7.out.drewN _, L7.out.trans ⟨rfl, rfl, rfl, Nat.le_refl _, fun _ _ => rfl⟩⟩
                    case measure => simp [intOf]; omega
                  · have hjq : ¬ (j : Int) < q := by omega
                    have uc : IntKind.i64.wrap (cnt W q rd' k' o' + 1) = cnt W q rd' k' o' + 1 := IntWalk.i64_in _ (by omega)
                    go_wp2_with fail
                    go_roundw
                    case rel => exact ⟨rd', k', k', o', W k' - o', true, SN.out, rfl, hlt, by omega, D7.out, I7.out, J7.out, S7.out, L7.out⟩
                    case measure => simp [intOf]; omega
              · have hr0 : (cnt W q rd' k' o' % psum W q == 0) = false := beq_eq_false_iff_ne.2 hne
                have uc : IntKind.i64.wrap (cnt W q rd' k' o' + 1) = cnt W q rd' k' o' + 1 := IntWalk.i64_in _ (by omega)
                clear hne
                go_wp2_with fail
                go_roundw
                case rel => exact ⟨rd', k', k', o', W k' - o', true, SN.out, rfl, hlt, by omega, D7.out, I7.out, J7.out, S7.out, L7.out⟩
                case measure => simp [intOf]; omega
            · have hz1 : ¬ cnt W q rd k o + 1 ≤ m := hlt
              clear hSt hc hc0 HD HI HJ HS
              go_wp2_with fail
              refine (awake23 _).mono ?_
              rintro e w5 ⟨rfl, b5⟩
              go_wp2_with fail
              go_ret
              exact ⟨rfl, by rw [HBs.out]; exact HL.out.trans (b5.mono (by rw [← HBs.out]; exact HL.out.size))⟩

set_option maxRecDepth 100000 in
theorem lifted (os : Os) (started : os.Started) (H : Type) (enc : TypeId × Value → H) :
    ReturnsInHanded {} Try.checked os 3 .any (Rows.drrFairSpec.pre6 enc Try.prog Try.f3 Rows.drrFairRow.domain false) (Rows.drrFairSpec.post enc Try.prog Try.f3 false true false false) := by
  refine returnsInHanded_of_change (C := Try.checked) own started (by kernel_rfl) Try.func3
    (ChangeSpec.witness6 (enc := enc) (C := Try.checked) false ⟨#[], #[.agg #[.slice none 0 0], .int .i64 0], []⟩ 8 (by kernel_rfl) (by kernel_rfl) (by kernel_rfl) (by kernel_rfl)) ?_
  intro W base args ds gs before hval0 hW hcnd _
  have hval : ∀ (j : Nat) t v, Try.f3.params[j]? = some t → args[j]? = some v → Value.okWide Try.prog W .any base t v := hval0
  have hW' := hW
  obtain ⟨p, q, hA0, hV, rfl, hfz, hnd⟩ := hW
  have hA : DataW.TrodAll enc Try.prog W 0 (fun _ => true) true Try.f3.params.toList args.toList ds p := hA0
  rw [Try.params3] at hA hval
  obtain ⟨v0, vs0, d0, ds0, p0, q0, hargs, rfl, rfl, h0, r0⟩ := trodAll_cons hA
  obtain ⟨v1, vs1, d1, ds1, p1, q1, rfl, rfl, rfl, h1, r1⟩ := trodAll_cons r0
  obtain ⟨rfl, rfl, rfl⟩ := trodAll_nil r1
  obtain rfl : args = #[v0, v1] := by cases args; simp_all
  obtain ⟨rfl, rfl⟩ := trodVars_none hV
  obtain ⟨a1, rfl, rfl, rfl, w1⟩ := open_int Try.underlying3 (hval 1 3 v1 rfl rfl) h1
  clear hA0 hval0
  have hlt := hW'.lt
  refine (walk W v0 d0 p0 (hval 0 24 v0 rfl rfl) h0 (fun x hx => hlt x (by simp [hx])) a1 w1).mono fun e W' ⟨he, hb⟩ => ?_
  subst he
  exact ⟨_, rfl, post_of_below (pv := []) hW' (fun _ _ _ => (trodAll_cons_mk (shut_bool Try.underlying4 _) trodAll_mk0)) (fun sp hsp => (trodAll_cons_mk (WideElems.Trod_stays laidOut (by kernel_rfl) (of_decide_eq_true (by kernel_rfl)) h0 (fun x hx => hb.same (hlt x (by simp [hx]))) (fun x hx => hsp x (by simp [hx]))) (trodAll_cons_mk (shut_int Try.underlying3 w1) trodAll_mk0))) (fun _ _ => rfl) (by simp) hb (ok_one (by kernel_rfl) rfl (okWide_bool_mk Try.underlying4 _))⟩

theorem over : Rows.drrFairRow.holds Try.pinned (OpenSpec.ofChange Rows.drrFairSpec) :=
  OpenClaim.holds_of_wide 3 Try.f3 rfl rfl rfl rfl rfl rfl rfl ⟨rfl, rfl, rfl, rfl, rfl⟩ rfl rfl rfl rfl rfl (by kernel_rfl) Try.func3 (by kernel_rfl)
    (of_decide_eq_true (by kernel_rfl)) (by unfold Func.isWrapper; first | (rw [if_pos (by decide +kernel)]; kernel_rfl) | (rw [if_neg (by decide +kernel)]; exact ⟨rfl, rfl⟩))
    (fun os started H enc _ => lifted os started H enc)

theorem proved : Rows.DrrFairSaid := over
#print axioms proved
end Go.Proofs.Ytgfcfpoebmlppaa.drrFair
