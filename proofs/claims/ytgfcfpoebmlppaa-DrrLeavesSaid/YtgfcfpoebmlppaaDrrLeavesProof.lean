/- The law qanat/qanatlaw23.DrrLeaves returns true for all arguments of its types; no condition. -/
import Derived.Test.YtgfcfpoebmlppaaDrrLaw2
import Derived.Test.YtgfcfpoebmlppaaArgs
import Derived.WalkKit
import Derived.ProofKit
import Derived.OpenShut
import Derived.WideKeyArgs
namespace Go.Proofs.Ytgfcfpoebmlppaa.drrLeaves
open Go.ChangeShapes Go.WideShapes Go.ChangeAt Go.RowKit
set_option linter.unusedVariables false
set_option linter.unusedSimpArgs false
theorem own : ownKnob Try.prog.godebug = none := by kernel_rfl
theorem laidOut : laidOutB Try.prog = true := by kernel_rfl
/-- the argument: a box that holds a slice of ints -/
def ArgIn (w : World) (b : Nat) (A : Option Addr) (len cap : Nat) (F : Nat → Int) : Prop := w.cell? ⟨b, 0, none⟩ = some (.slice A len cap) ∧ (0 < len → ∃ g off, A = some ⟨g, off, none⟩ ∧ g < b ∧ ∀ i, i < len → w.cell? ⟨g, off + i, none⟩ = some (.int .i64 (F i)))
theorem ArgIn.below {w w' : World} {b r : Nat} {A : Option Addr} {len cap : Nat} {F : Nat → Int} (h : ArgIn w b A len cap F) (hb : Below r w w') (hr : b < r) : ArgIn w' b A len cap F := by
  refine ⟨(hb.cell (p := ⟨b, 0, none⟩) hr).trans h.1, fun hl => ?_⟩
  obtain ⟨g, off, rfl, hg, hc⟩ := h.2 hl
  exact ⟨g, off, rfl, hg, fun i hi => (hb.cell (p := ⟨g, off + i, none⟩) (by show g < r; omega)).trans (hc i hi)⟩

set_option maxRecDepth 100000 in
set_option maxHeartbeats 3000000 in
theorem walk {H : Type} {enc : TypeId × Value → H} (w : World) {base : Nat} (v0 : Value) (d0 : DataW H) (p0 : List MemPlace) (o0 : Value.okWide Try.prog w .any base 24 v0) (h0 : DataW.Trod enc Try.prog w 0 (fun _ => true) true 24 v0 d0 p0) (l0 : ∀ x ∈ p0, x.block < w.heap.size) (a1 : Int) (w1 : (Lit.int .i64 a1).wf = true) (a2 : Int) (w2 : (Lit.int .i64 a2).wf = true) :
    Calls Try.prog 6 #[v0, .int .i64 a1, .int .i64 a2] w fun e w' => e = .returned (.bool true) ∧ Below w.heap.size w w' := by
  obtain ⟨cs, rfl, hsz, hf⟩ := open_agg_any Try.underlying24 (by kernel_rfl) (by kernel_rfl) o0 h0
  obtain ⟨u0, y0, n0, e0, t0⟩ := hf 0 _ rfl
  obtain ⟨A, len, cap, F, rfl, hlc, hcm, hat⟩ := trod_ints Try.underlying22 Try.underlying3 (by kernel_rfl) t0
  obtain rfl : cs = #[.slice A len cap] := by
    refine Array.ext_getElem? fun k => ?_
    rcases k with _ | k
    · exact e0
    · rw [Array.getElem?_eq_none (by simp at hsz; omega), Array.getElem?_eq_none (by simp)]
  clear h0 l0 o0 hf t0 e0 hsz
  unfold maxLen at hcm
  have hArg : ArgIn (w.alloc (.cells #[.slice A len cap] 24)) w.heap.size A len cap F := by
    refine ⟨by rw [cells_of (heap_alloc_new w _)]; rfl, fun hl => ?_⟩
    obtain ⟨g, off, rfl, hg, hc⟩ := hat hl
    exact ⟨g, off, rfl, hg, fun i hi => (World.cell?_alloc_lt w _ ⟨g, off + i, none⟩ hg).trans (hc i hi).1⟩
  have HA := Lib.hid hArg
  have HBw := Lib.hid ((Below.refl w.heap.size w).alloc (Nat.le_refl _) (.cells #[.slice A len cap] 24))
  clear hArg hat
  obtain ⟨i0, hi0, hz0, hz1, hz2⟩ := info_parts info3
  go_enter Try.func6, Try.ntmps6
  go_wp2_with fail
  refine (dnew _).mono ?_
  rintro e w1 ⟨rfl, d1⟩
  obtain ⟨b, hb⟩ : ∃ b, w.heap.size = b := ⟨_, rfl⟩
  rw [World.size_alloc] at d1 ⊢
  rw [hb] at HA HBw d1 ⊢
  have HBs := Lib.hid hb
  clear hb
  have HA1 := Lib.hid (HA.out.below d1.low (Nat.lt_succ_self b))
  have HB1 := Lib.hid (HBw.out.trans (d1.low.mono (Nat.le_succ b)))
  generalize World.alloc w _ = W0 at *
  have D1 := Lib.hid d1
  have c0 := HA1.out.1
  clear d1 HA HBw
  go_upto_region 2 with fail
  go_cut [8] (fun s8 wx => ∃ n : Nat, s8 = .int .i64 n ∧ n ≤ len ∧ n ≤ 9 ∧ wx = w1)
  case first =>
    go_wp2_with fail
    all_goals go_meet
    all_goals first | exact ⟨len, rfl, by omega, by omega, rfl⟩ | exact ⟨9, rfl, by omega, by omega, rfl⟩
  case rest =>
    obtain ⟨n, rfl, hn1, hn2, rfl⟩ := hcut
    rcases Nat.lt_or_ge n 2 with hn0 | hn0
    · have D2 := Lib.hid D1.out.low
      have hz : (n : Int) < 2 := by omega
      clear D1 HA1
      go_wp2_with fail
      refine (awake23 _).mono ?_
      rintro e w2 ⟨rfl, b2⟩
      go_wp2_with fail
      go_ret
      exact ⟨rfl, by rw [HBs.out]; exact HB1.out.trans (b2.mono (by rw [← HBs.out]; exact HB1.out.size))⟩
    · have hz : ¬ (n : Int) < 2 := by omega
      obtain ⟨W, hW⟩ : ∃ W : Nat → Int, ∀ j, W j = 1 + bigS (F j) 8 := ⟨_, fun _ => rfl⟩
      have hWb : ∀ j, j < n → 1 ≤ W j ∧ W j ≤ 8 := fun j _ => by have := bigS_bd (F j) 8 (by decide); rw [hW]; omega
      have HWW := Lib.hid hW
      have HWB := Lib.hid hWb
      clear hW hWb
      go_wp2_with fail
      go_loopw [9, 10] (fun s9 s10 wr => ∃ q : Nat, q ≤ n ∧ s10 = .int .i64 q ∧ s9 = .int .i64 (psum W q) ∧ Dr W0 (b + 1) (fun _ => False) wr (mems W q) 0 false 0 ∧ ArgIn wr b A len cap F ∧ Below b w wr) (fun _ s10 _ => n - (intOf s10).toNat)
      case atStart => exact ⟨0, by omega, rfl, rfl, D1.out, HA1.out, HB1.out⟩
      case round =>
        clear D1 HA1 HB1
        obtain ⟨q, hq, rfl, rfl, hD, hA, hL⟩ := hrel
        by_cases hlt : q < n
        · obtain ⟨g, off, rfl, hgb, hcell⟩ := hA.2 (by omega)
          have c0 := hA.1
          have c1 := hcell q (by omega)
          have hq1 : (q : Int) < n := by omega
          have hq2 : (q : Int) < len := by omega
          have hq3 : (0 : Int) ≤ q := by omega
          have hWq := HWB.out q hlt
          have hWe := HWW.out q
          have hps := psum_mono HWB.out q (by omega)
          have HD := Lib.hid hD
          have HA := Lib.hid hA
          have HL := Lib.hid hL
          clear hD hA hL hcell
          have hk := bigS_bd (F q) 8 (by decide)
          go_upto_region 10 with (go_at_call 9; refine (mod_any _ _ _ (by omega) (by omega)).mono ?_; rintro e w' ⟨rfl, rfl⟩)
          rw [← hWe]
          clear c0 c1 hWe
          have ha : argB ((q : Int) + 1) (W q) = true := by simp only [argB, decide_eq_true_eq]; omega
          have HAr := Lib.hid ha
          clear ha
          have u1 : IntKind.i64.wrap ((q : Int) + 1) = (q : Int) + 1 := IntWalk.i64_in _ (by omega)
          go_wp2_with fail
          refine (dadd_ok _ (W q) HD.out HAr.out (mems_find W q _ (by omega)) (by rw [mems_len]; omega) (fun x hx => hx.elim)).mono ?_
          rintro e w6 ⟨rfl, d6, k6⟩
          rw [← mems_succ] at d6
          have D6 := Lib.hid d6
          have hdl := HD.out.lt
          have kb : Below (b + 1) wr w6 := ⟨k6.os, k6.tape, k6.output, k6.size, fun k hk => k6.block k (by omega) (fun h => by omega)⟩
          have A6 := Lib.hid (HA.out.below kb (Nat.lt_succ_self b))
          have L6 := Lib.hid (HL.out.trans (kb.mono (Nat.le_succ b)))
          clear d6 k6 kb HD HA HL
          go_wp2_with fail
          go_roundw
          case rel => exact ⟨q + 1, by omega, by go_num, by simp only [psum] <;> first | rfl | skip, D6.out, A6.out, L6.out⟩
          case measure => simp [intOf]; omega
        · obtain rfl : q = n := by omega
          have hq1 : ¬ (q : Int) < q := by omega
          have HD := Lib.hid hD
          have HA := Lib.hid hA
          have HL := Lib.hid hL
          clear hD hA hL hlt hq
          have hpn := psum_mono HWB.out q (Nat.le_refl _)
          have hq2 : 2 ≤ q := hn0
          obtain ⟨T, hTd⟩ : ∃ T, psum W q = T := ⟨_, rfl⟩
          have HTD := Lib.hid hTd
          rw [hTd] at hpn ⊢
          clear hTd
          have hmb := bigS_bd a2 (2 * T) (by omega)
          have v1 : IntKind.i64.wrap (2 * T) = 2 * T := IntWalk.i64_in _ (by omega)
          go_wp2_with fail
          go_loopw [12] (fun s12 wr => ∃ (i : Nat) (rd k at_ : Nat) (o left : Int) (turn : Bool), St W q rd k o at_ turn left ∧ s12 = .int .i64 i ∧ (i : Int) ≤ bigS a2 (2 * T) ∧ Dr W0 (b + 1) (fun _ => False) wr (mems W q) at_ turn left ∧ ArgIn wr b A len cap F ∧ Below b w wr) (fun s12 _ => (bigS a2 (2 * T) - intOf s12).toNat)
          case atStart => exact ⟨0, 0, 0, 0, 0, 0, false, ⟨by omega, .inr ⟨rfl, rfl, rfl, rfl, rfl, rfl⟩⟩, rfl, by omega, HD.out, HA.out, HL.out⟩
          case round =>
            clear HD HA HL
            obtain ⟨i, rd, k, at_, o, left, turn, hSt, rfl, hi, hD, hA, hL⟩ := hrel
            have HS := Lib.hid hSt
            have HD := Lib.hid hD
            have HA := Lib.hid hA
            have HL := Lib.hid hL
            clear hSt hD hA hL
            by_cases hlt : (i : Int) < bigS a2 (2 * T)
            · have u1 : IntKind.i64.wrap ((i : Int) + 1) = (i : Int) + 1 := IntWalk.i64_in _ (by omega)
              go_wp2_with fail
              refine (mod_any _ _ _ (by omega) (by omega)).mono ?_
              rintro e w' ⟨rfl, rfl⟩
              go_wp2_with fail
              refine (dnext HD.out (by rw [mems_len]; omega)).mono ?_
              rintro e w5 ⟨rfl, d5, k5⟩
              obtain ⟨rd', k', o', hNx, hk', ho1, ho2, e1, e2, e3⟩ := st_next HWB.out HS.out
              rw [e1, e2] at d5
              have D5 := Lib.hid d5
              have hdl := HD.out.lt
              have kb : Below (b + 1) wr w5 := ⟨k5.os, k5.tape, k5.output, k5.size, fun k hk => k5.block k (by omega) (fun h => by omega)⟩
              have A5 := Lib.hid (HA.out.below kb (Nat.lt_succ_self b))
              have L5 := Lib.hid (HL.out.trans (kb.mono (Nat.le_succ b)))
              clear d5 k5 kb HD HA HL e1 e2 e3 hNx
              go_wp2_with fail
              go_roundw
              case rel => exact ⟨i + 1, rd', k', k', o', W k' - o', true, ⟨hk', .inl ⟨rfl, rfl, rfl, ho1, ho2⟩⟩, by go_num, by omega, D5.out, A5.out, L5.out⟩
              case measure => simp [intOf]; omega
            · go_wp2_with fail
              refine (mod_any _ _ _ (by omega) (by omega)).mono ?_
              rintro e w' ⟨rfl, rfl⟩
              go_upto_region 17 with fail
              clear hlt hi hmb
              have hgb := bigS_bd a1 (q : Int) (by omega)
              obtain ⟨p, hp⟩ : ∃ p : Nat, bigS a1 (q : Int) = p := ⟨(bigS a1 (q : Int)).toNat, by omega⟩
              have hpq : p < q := by omega
              have HPD := Lib.hid hp
              go_upto_region 18 with (go_at_call 9; refine (mod_any _ _ _ (by omega) (by omega)).mono ?_; rintro e w' ⟨rfl, rfl⟩)
              clear hp hgb
              go_wp2_with fail
              refine (ddel_ok p _ HD.out (by rw [Int.add_comm]; exact mems_find_at W q p hpq) (by rw [mems_len]; exact hpq)).mono ?_
              rintro e w5 ⟨rfl, d5, k5⟩
              obtain ⟨k0, o0, ho0, ho1, hst⟩ := st_out HWB.out hq2 hpq HS.out
              have HS5 := Lib.hid hst
              have D5 := Lib.hid d5
              have hdl := HD.out.lt
              have kb : Below (b + 1) wr w5 := ⟨k5.os, k5.tape, k5.output, k5.size, fun k hk => k5.block k (by omega) (fun h => by omega)⟩
              have A5 := Lib.hid (HA.out.below kb (Nat.lt_succ_self b))
              have L5 := Lib.hid (HL.out.trans (kb.mono (Nat.le_succ b)))
              clear d5 k5 kb HD HA HL hst HS
              clear hdl
              obtain ⟨g, off, rfl, hgb, hcell⟩ := A5.out.2 (by omega)
              have c0 := A5.out.1
              have c1 := hcell p (by omega)
              have hp1 : (p : Int) < len := by omega
              have hp2 : (0 : Int) ≤ p := by omega
              have u1 : IntKind.i64.wrap (1 + (p : Int) - 1) = p := by rw [show 1 + (p : Int) - 1 = p by omega]; exact IntWalk.i64_in _ (by omega)
              have hWp := HWB.out p hpq
              have hWe := HWW.out p
              have hk := bigS_bd (F p) 8 (by decide)
              go_upto_region 21 with (go_at_call 9; refine (mod_any _ _ _ (by omega) (by omega)).mono ?_; rintro e w' ⟨rfl, rfl⟩)
              rw [← hWe]
              clear hWe hk c0 c1 hcell hgb hp1 hp2 u1 A5
              have v2 : IntKind.i64.wrap ((q : Int) + 1) = (q : Int) + 1 := IntWalk.i64_in _ (by omega)
              have hdl := D5.out.lt
              go_upto_region 22 with (refine wpList_make_full _ rfl _ _ _ rfl w5.heap.size 3 i0 _ 1 Try.underlying22 hi0 hz0 hz1 _ _ _ _ (q + 1) rfl rfl rfl rfl (by rw [hz2]; omega) (by unfold maxLen; omega) (Nat.le_refl _) ?_; intro w6 hown hgr)
              obtain ⟨gs, hgs, hgb, hIS⟩ := IntArr.of_own (Nat.succ_pos q) hown (fun j hj => madeCells_at (q + 1) j hj)
              simp at hgs
              have b6 : Below w5.heap.size w5 w6 := (Below.refl _ _).grown hgr (Nat.le_refl _) (by simp)
              subst hgs
              have D6 := Lib.hid ((D5.out.more (fun x => x = w5.heap.size) (fun x hx => .inr (by omega))).below b6)
              have L6 := Lib.hid (L5.out.trans (b6.mono (by rw [← HBs.out]; have := L5.out.size; omega)))
              generalize hgz : w5.heap.size = gs at *
              have I6 := Lib.hid hIS
              clear hIS hown hgr hgb D5 L5 b6 hgz
              have HWO := Lib.hid (out_bd (q := p) HWB.out)
              have HTO := Lib.hid (show psum (outW W p) (q - 1) = T - W p by rw [psum_out_all hpq, HTD.out])
              have hto := psum_mono HWO.out (q - 1) (Nat.le_refl _)
              rw [HTO.out] at hto
              go_upto_region 24 with fail
              obtain ⟨V, hV⟩ : ∃ V, outW W p = V := ⟨_, rfl⟩
              obtain ⟨n', hn'⟩ : ∃ n', q - 1 = n' := ⟨_, rfl⟩
              rw [hV] at ho1 HS5 HWO HTO
              rw [hn'] at HS5 HWO HTO hto
              obtain ⟨at0, hat0⟩ : ∃ x, delAt p at_ = x := ⟨_, rfl⟩
              obtain ⟨tn0, htn0⟩ : ∃ x, delTurn p at_ turn = x := ⟨_, rfl⟩
              rw [hat0, htn0] at HS5 D6
              have hN0 : 1 ≤ n' := by omega
              have HOL := Lib.hid (show ((mems W q).eraseIdx p).length = n' by rw [out_len W q p hpq]; exact hn')
              have HOG := Lib.hid (show ∀ j, j < n' → ((mems W q).eraseIdx p).getD j (0, 0) = (V j, outId p j) from fun j hj => by rw [← hV]; exact out_get W q p hpq j (by omega))
              have HNX := Lib.hid (show ∀ rd k rd' k' o o', Nx V n' rd k o rd' k' o' → k < n' → outId p k' = outId p k ∨ outId p k' = nxId q p (outId p k) from fun rd k rd' k' o o' h hk => nx_id hq2 hpq (by rw [hn']; exact h) (by omega))
              generalize (mems W q).eraseIdx p = ms at *
              clear hat0 htn0 hV
              go_loopw [16, 17] (fun s16 s17 wr => ∃ (i rd k at_ : Nat) (o left x : Int) (turn : Bool) (f : Nat → Int), St2 V n' rd k o at_ turn left ∧ s17 = .int .i64 i ∧ s16 = .int .i64 x ∧ (i : Int) ≤ 3 * T ∧ cnt V n' rd k o = cnt V n' 0 k0 o0 + i ∧ (x = 0 ∨ x = outId p k) ∧ (∀ y, 0 ≤ f y ∧ f y ≤ i) ∧ (∀ j, j < n' → f (if j < p then j + 1 else j + 2) = seenF V rd k o j - seenF V 0 k0 o0 j) ∧ 0 ≤ o ∧ o ≤ V k ∧ Dr W0 (b + 1) (fun x => x = gs) wr ms at_ turn left ∧ IntArr wr gs (q + 1) f ∧ Below b w wr) (fun _ s17 _ => (3 * T - intOf s17).toNat)
              case atStart => exact ⟨0, 0, k0, at0, o0, left, 0, tn0, fun _ => 0, HS5.out, rfl, rfl, by omega, by simp, .inl rfl, fun _ => by simp, fun j hj => by simp, ho0, ho1, D6.out, I6.out, L6.out⟩
              case round =>
                have hK0 := HS5.out.kn
                clear D6 I6 L6 HS5
                obtain ⟨i, rd, k, at_, o, left, x, turn, f, hSt, rfl, rfl, hi3, hcn, hx, hf, hse, ho2, ho3, hD, hI, hL⟩ := hrel
                have HD := Lib.hid hD
                have HI := Lib.hid hI
                have HL := Lib.hid hL
                have HF := Lib.hid hf
                have HSE := Lib.hid hse
                clear hD hI hL hf hse
                by_cases hlt : (i : Int) < 3 * T
                · obtain ⟨rd', k', o', hNx, hk', ho1', ho2', e1, e2, e3⟩ := st2_next HOL.out HOG.out HWO.out hSt
                  have hx2 := HNX.out rd k rd' k' o o' hNx hSt.kn
                  have HX := Lib.hid hx
                  have HX2 := Lib.hid hx2
                  have HCN := Lib.hid (hcn ▸ cnt_step hNx : cnt V n' rd' k' o' = cnt V n' 0 k0 o0 + i + 1)
                  have HSS := Lib.hid (fun j hj => seen_step hNx hSt.kn j hj)
                  have SN := Lib.hid (show St2 V n' rd' k' o' k' true (V k' - o') from ⟨hk', .inl ⟨rfl, rfl, rfl, ho1', ho2'⟩⟩)
                  have hid0 : 0 ≤ x ∧ x ≤ q := by
                    rcases hx with rfl | rfl
                    · omega
                    · have := hSt.kn; unfold outId; split <;> omega
                  obtain ⟨m, hm⟩ : ∃ m : Nat, (if k' < p then k' + 1 else k' + 2) = m := ⟨_, rfl⟩
                  have hmo : outId p k' = (m : Int) := by rw [← hm]; unfold outId; split <;> simp
                  have hmb : 1 ≤ m ∧ m ≤ q ∧ m ≠ 1 + p := by rw [← hm]; split <;> omega
                  rw [hmo] at e3 hx2
                  clear hNx hSt hcn hx
                  go_wp2_with fail
                  refine (dnext HD.out (by rw [HOL.out]; omega)).mono ?_
                  rintro e w5 ⟨rfl, d5, k5⟩
                  rw [e1, e2] at d5
                  rw [e3]
                  have D5 := Lib.hid d5
                  have I5 := Lib.hid (HI.out.keeps k5 (by have := HI.out.lt; omega))
                  have L5 := Lib.hid (Keeps.below HL.out k5 (by rw [← HBs.out]; exact HL.out.size) (fun x hx => by omega))
                  clear d5 k5 HD HI HL e1 e2 e3
                  have t0 : ¬ ((m : Int) < 1) := by omega
                  have t1 : ¬ ((q : Int) < (m : Int)) := by omega
                  have t2 : ((m : Int) == 1 + (p : Int)) = false := beq_eq_false_iff_ne.2 (by omega)
                  have hxm : 0 ≤ x % q ∧ x % q < q := ⟨Int.emod_nonneg _ (by omega), Int.emod_lt_of_pos _ (by omega)⟩
                  go_upto_region 29 with fail
                  go_upto_if 117 with fail
                  go_cut [20] (fun s20 wx => s20 = .int .i64 (nxId q p x) ∧ wx = w5)
                  case first =>
                    by_cases hn : x % q + 1 = (p : Int) + 1
                    · have g1 : (x % q + 1 == 1 + (p : Int)) = true := beq_iff_eq.2 (by omega)
                      have hm2 : 0 ≤ ((p : Int) + 1) % q ∧ ((p : Int) + 1) % q < q := ⟨Int.emod_nonneg _ (by omega), Int.emod_lt_of_pos _ (by omega)⟩
                      go_wp2_with fail
                      go_meet
                      case rel => exact ⟨by simp only [nxId]; rw [if_pos hn, hn], rfl⟩
                    · have g1 : (x % q + 1 == 1 + (p : Int)) = false := beq_eq_false_iff_ne.2 (by omega)
                      go_wp2_with fail
                      go_meet
                      case rel => exact ⟨by simp only [nxId]; rw [if_neg hn], rfl⟩
                  case rest =>
                    obtain ⟨rfl, rfl⟩ := hcut
                    clear hxm
                    obtain ⟨y, hy⟩ : ∃ y, nxId q p x = y := ⟨_, rfl⟩
                    rw [hy]
                    have h3 : ¬ (0 : Int) < x ∨ 0 < x ∧ x = m ∨ 0 < x ∧ y = m ∧ x ≠ m := by
                      rcases HX.out with hx | hx
                      · exact .inl (by omega)
                      · have hx0 : (0 : Int) < x := by rw [hx]; unfold outId; split <;> omega
                        rcases hx2 with h2 | h2
                        · exact .inr (.inl ⟨hx0, by rw [h2, hx]⟩)
                        · by_cases g2 : x = (m : Int)
                          · exact .inr (.inl ⟨hx0, g2⟩)
                          · exact .inr (.inr ⟨hx0, by rw [h2, ← hx, hy], g2⟩)
                    clear hx2 HX hy
                    have hfm := HF.out m
                    have hm1 : m < q + 1 := by omega
                    have c0 := I5.out.cell hm1
                    have fz := fun j => I5.out.frozen j
                    have u2 : IntKind.i64.wrap (f m + 1) = f m + 1 := IntWalk.i64_in _ (by omega)
                    have i1 : (0 : Int) ≤ m := by omega
                    have i2 : (m : Int) < (q : Int) + 1 := by omega
                    have u3 : IntKind.i64.wrap ((i : Int) + 1) = (i : Int) + 1 := IntWalk.i64_in _ (by omega)
                    have I6 := Lib.hid (I5.out.set_ m (f m + 1) (f' := fun z => if z = m then f m + 1 else f z) (fun z hz hne => by simp only [if_neg hne]) (by simp only [if_true]))
                    have D6 := Lib.hid (D5.out.other (Keeps.setCell (Keeps.refl (fun x => x = gs) wc) (p := ⟨gs, m, none⟩) rfl (.int .i64 (f m + 1))) (fun x hx => ⟨hx, by have := I5.out.lt; have := D5.out.lt; omega⟩))
                    have L6 := Lib.hid (L5.out.setCell (p := ⟨gs, m, none⟩) (by show b ≤ gs; omega) (.int .i64 (f m + 1)))
                    have HR := Lib.hid (show ∀ w7, wc.setCell ⟨gs, m, none⟩ (.int .i64 (f m + 1)) = w7 → ∃ (i' rd k at_ : Nat) (o left x : Int) (turn : Bool) (f : Nat → Int), St2 V n' rd k o at_ turn left ∧ Value.int .i64 ((i : Int) + 1) = .int .i64 i' ∧ Value.int .i64 (m : Int) = .int .i64 x ∧ (i' : Int) ≤ 3 * T ∧ cnt V n' rd k o = cnt V n' 0 k0 o0 + i' ∧ (x = 0 ∨ x = outId p k) ∧ (∀ y, 0 ≤ f y ∧ f y ≤ i') ∧ (∀ j, j < n' → f (if j < p then j + 1 else j + 2) = seenF V rd k o j - seenF V 0 k0 o0 j) ∧ 0 ≤ o ∧ o ≤ V k ∧ Dr W0 (b + 1) (fun x => x = gs) w7 ms at_ turn left ∧ IntArr w7 gs (q + 1) f ∧ Below b w w7 from by
                      rintro w7 rfl
                      refine ⟨i + 1, rd', k', k', o', V k' - o', m, true, _, SN.out, rfl, rfl, by omega, by rw [HCN.out]; omega, .inr hmo.symm, fun z => ?_, fun j hj => ?_, by omega, ho2', D6.out, I6.out, L6.out⟩
                      · have := HF.out z
                        split <;> omega
                      · rw [HSS.out j hj]
                        have e := HSE.out j hj
                        by_cases g : j = k'
                        · subst g
                          rw [hm] at e ⊢
                          rw [if_pos rfl, if_pos rfl]; omega
                        · rw [if_neg g, if_neg (by rw [← hm]; split <;> split <;> omega)]; omega)
                    clear D6 I6 L6 SN HCN HSS HSE HF
                    rcases h3 with h3 | ⟨h3, rfl⟩ | ⟨h3, rfl, h4⟩
                    · go_upto_region 25 with fail
                      go_wp2_with fail
                      go_roundw
                      case rel => exact HR.out _ rfl
                      case measure => simp [intOf]; omega
                    · have h6 : 0 < m := by omega
                      go_upto_region 25 with fail
                      go_wp2_with fail
                      go_roundw
                      case rel => exact HR.out _ rfl
                      case measure => simp [intOf]; omega
                    · have h5 : ((m : Int) == x) = false := beq_eq_false_iff_ne.2 (Ne.symm h4)
                      go_upto_region 25 with fail
                      go_wp2_with fail
                      go_roundw
                      case rel => exact HR.out _ rfl
                      case measure => simp [intOf]; omega
                · have hii : (i : Int) = 3 * T := by omega
                  have HSQ := Lib.hid (fun j hj => HTO.out ▸ seen2_end HWO.out hSt.kn hK0 ⟨ho2, ho3⟩ ⟨ho0, ho1⟩ (by rw [HTO.out]; omega) (hii ▸ hcn) j hj)
                  have HQ := Lib.hid (show ∀ j : Nat, 1 ≤ j → j < q + 1 → j ≠ p + 1 → 3 * T / (T - W p) - 1 ≤ f j from fun j h1 h2 h3 => by
                    by_cases hjp : j < p + 1
                    · have e := HSE.out (j - 1) (by omega)
                      rw [if_pos (by omega), show j - 1 + 1 = j by omega] at e
                      rw [e]; exact HSQ.out (j - 1) (by omega)
                    · have e := HSE.out (j - 2) (by omega)
                      rw [if_neg (by omega), show j - 2 + 2 = j by omega] at e
                      rw [e]; exact HSQ.out (j - 2) (by omega))
                  have hq0 : 0 ≤ 3 * T / (T - W p) ∧ 3 * T / (T - W p) ≤ 3 * T := ⟨Int.ediv_nonneg (by omega) (by omega), Int.ediv_le_self _ (by omega)⟩
                  clear hSt hcn hx HSE HSQ HD
                  go_upto_region 37 with fail
                  go_loopw [21] (fun s21 wx => ∃ j : Nat, 1 ≤ j ∧ j ≤ q + 1 ∧ s21 = .int .i64 j ∧ IntArr wx gs (q + 1) f ∧ Below b w wx) (fun s21 _ => q + 1 - (intOf s21).toNat)
                  case atStart => exact ⟨1, by omega, by omega, rfl, HI.out, HL.out⟩
                  case round =>
                    clear HI HL
                    obtain ⟨j, hj1, hj2, rfl, hI, hL⟩ := hrel
                    have HI := Lib.hid hI
                    have HL := Lib.hid hL
                    clear hI hL
                    by_cases hjq : (j : Int) ≤ q
                    · have u3 : IntKind.i64.wrap ((j : Int) + 1) = (j : Int) + 1 := IntWalk.i64_in _ (by omega)
                      by_cases hjp : (j : Int) = 1 + (p : Int)
                      · rw [hjp] at u3 ⊢
                        go_upto_region 39 with fail
                        go_quiet (fail)
                        go_wp2_with fail
                        go_roundw
                        case rel => exact ⟨j + 1, by omega, by omega, by go_num, HI.out.drewN _, HL.out.trans ⟨rfl, rfl, rfl, Nat.le_refl _, fun _ _ => rfl⟩⟩
                        case measure => simp [intOf]; omega
                      · have hj1' : j < q + 1 := by omega
                        have c0 := HI.out.cell hj1'
                        have hf := HF.out j
                        have hfq := HQ.out j hj1 hj1' (by omega)
                        have u4 : IntKind.i64.wrap (3 * T) = 3 * T := IntWalk.i64_in _ (by omega)
                        have u5 : IntKind.i64.wrap (T - W p) = T - W p := IntWalk.i64_in _ (by omega)
                        have u6 : IntKind.i64.wrap (3 * T / (T - W p)) = 3 * T / (T - W p) := IntWalk.i64_in _ (by omega)
                        have u7 : IntKind.i64.wrap (3 * T / (T - W p) - 1) = 3 * T / (T - W p) - 1 := IntWalk.i64_in _ (by omega)
                        have i1 : (0 : Int) ≤ j := by omega
                        have i2 : (j : Int) < (q : Int) + 1 := by omega
                        have i3 : (T - W p == 0) = false := beq_eq_false_iff_ne.2 (by omega)
                        have i4 : ¬ f j < 3 * T / (T - W p) - 1 := by omega
                        have g1 : ((j : Int) != 1 + (p : Int)) = true := bne_iff_ne.2 hjp
                        have g2 : ((j : Int) == 1 + (p : Int)) = false := beq_eq_false_iff_ne.2 hjp
                        go_upto_region 39 with fail
                        go_quiet (fail)
                        go_wp2_with fail
                        go_roundw
                        case rel => exact ⟨j + 1, by omega, by omega, by go_num, HI.out.drewN _, HL.out.trans ⟨rfl, rfl, rfl, Nat.le_refl _, fun _ _ => rfl⟩⟩
                        case measure => simp [intOf]; omega
                    · go_wp2_with fail
                      refine (awake23 _).mono ?_
                      rintro e w5 ⟨rfl, b5⟩
                      go_wp2_with fail
                      go_ret
                      exact ⟨rfl, by rw [HBs.out]; exact HL.out.trans (b5.mono (by rw [← HBs.out]; exact HL.out.size))⟩

set_option maxRecDepth 100000 in
theorem lifted (os : Os) (started : os.Started) (H : Type) (enc : TypeId × Value → H) :
    ReturnsInHanded {} Try.checked os 6 .any (Rows.drrLeavesSpec.pre6 enc Try.prog Try.f6 Rows.drrLeavesRow.domain false) (Rows.drrLeavesSpec.post enc Try.prog Try.f6 false true false false) := by
  refine returnsInHanded_of_change (C := Try.checked) own started (by kernel_rfl) Try.func6
    (ChangeSpec.witness6 (enc := enc) (C := Try.checked) false ⟨#[], #[.agg #[.slice none 0 0], .int .i64 0, .int .i64 0], []⟩ 8 (by kernel_rfl) (by kernel_rfl) (by kernel_rfl) (by kernel_rfl)) ?_
  intro W base args ds gs before hval0 hW hcnd _
  have hval : ∀ (j : Nat) t v, Try.f6.params[j]? = some t → args[j]? = some v → Value.okWide Try.prog W .any base t v := hval0
  have hW' := hW
  obtain ⟨p, q, hA0, hV, rfl, hfz, hnd⟩ := hW
  have hA : DataW.TrodAll enc Try.prog W 0 (fun _ => true) true Try.f6.params.toList args.toList ds p := hA0
  rw [Try.params6] at hA hval
  obtain ⟨v0, vs0, d0, ds0, p0, q0, hargs, rfl, rfl, h0, r0⟩ := trodAll_cons hA
  obtain ⟨v1, vs1, d1, ds1, p1, q1, rfl, rfl, rfl, h1, r1⟩ := trodAll_cons r0
  obtain ⟨v2, vs2, d2, ds2, p2, q2, rfl, rfl, rfl, h2, r2⟩ := trodAll_cons r1
  obtain ⟨rfl, rfl, rfl⟩ := trodAll_nil r2
  obtain rfl : args = #[v0, v1, v2] := by cases args; simp_all
  obtain ⟨rfl, rfl⟩ := trodVars_none hV
  obtain ⟨a1, rfl, rfl, rfl, w1⟩ := open_int Try.underlying3 (hval 1 3 v1 rfl rfl) h1
  obtain ⟨a2, rfl, rfl, rfl, w2⟩ := open_int Try.underlying3 (hval 2 3 v2 rfl rfl) h2
  clear hA0 hval0
  have hlt := hW'.lt
  refine (walk W v0 d0 p0 (hval 0 24 v0 rfl rfl) h0 (fun x hx => hlt x (by simp [hx])) a1 w1 a2 w2).mono fun e W' ⟨he, hb⟩ => ?_
  subst he
  exact ⟨_, rfl, post_of_below (pv := []) hW' (fun _ _ _ => (trodAll_cons_mk (shut_bool Try.underlying4 _) trodAll_mk0)) (fun sp hsp => (trodAll_cons_mk (WideElems.Trod_stays laidOut (by kernel_rfl) (of_decide_eq_true (by kernel_rfl)) h0 (fun x hx => hb.same (hlt x (by simp [hx]))) (fun x hx => hsp x (by simp [hx]))) (trodAll_cons_mk (shut_int Try.underlying3 w1) (trodAll_cons_mk (shut_int Try.underlying3 w2) trodAll_mk0)))) (fun _ _ => rfl) (by simp) hb (ok_one (by kernel_rfl) rfl (okWide_bool_mk Try.underlying4 _))⟩

theorem over : Rows.drrLeavesRow.holds Try.pinned (OpenSpec.ofChange Rows.drrLeavesSpec) :=
  OpenClaim.holds_of_wide 6 Try.f6 rfl rfl rfl rfl rfl rfl rfl ⟨rfl, rfl, rfl, rfl, rfl⟩ rfl rfl rfl rfl rfl (by kernel_rfl) Try.func6 (by kernel_rfl)
    (of_decide_eq_true (by kernel_rfl)) (by unfold Func.isWrapper; first | (rw [if_pos (by decide +kernel)]; kernel_rfl) | (rw [if_neg (by decide +kernel)]; exact ⟨rfl, rfl⟩))
    (fun os started H enc _ => lifted os started H enc)

theorem proved : Rows.DrrLeavesSaid := over
#print axioms proved
end Go.Proofs.Ytgfcfpoebmlppaa.drrLeaves
