/- The law qanat/qanatlaw09.TablePlays returns true for all arguments of its types; no condition. -/
import Derived.Test.YtkicnjbidbfajaaTwo09
import Derived.Test.YtkicnjbidbfajaaArgs
import Derived.WalkKit
import Derived.ProofKit
import Derived.OpenShut
import Derived.WideKeyArgs
import Derived.ChangeMaps5
namespace Go.Proofs.Ytkicnjbidbfajaa.tablePlays
open Go.ChangeShapes Go.WideShapes Go.ChangeAt Go.RowKit
open Go.ChangeMaps (open_string shut_string)
set_option linter.unusedVariables false
set_option linter.unusedSimpArgs false
theorem own : ownKnob Try.prog.godebug = none := by kernel_rfl
theorem laidOut : laidOutB Try.prog = true := by kernel_rfl


set_option maxRecDepth 100000 in
set_option maxHeartbeats 3000000 in
theorem walk {H : Type} {enc : TypeId × Value → H} (w : World) {base : Nat} (a0 : Int) (w0 : (Lit.int .i64 a0).wf = true) (v1 : Value) (d1 : DataW H) (p1 : List MemPlace) (o1 : Value.okWide Try.prog w .any base 73 v1) (h1 : DataW.Trod enc Try.prog w 0 (fun _ => true) true 73 v1 d1 p1) (l1 : ∀ x ∈ p1, x.block < w.heap.size) (a2 : Int) (w2 : (Lit.int .i64 a2).wf = true) (a3 : Int) (w3 : (Lit.int .i64 a3).wf = true) :
    Calls Try.prog 11 #[.int .i64 a0, v1, .int .i64 a2, .int .i64 a3] w fun e w' => e = .returned (.bool true) ∧ Below w.heap.size w w' := by
  obtain ⟨A0, len, cap0, V, G, rfl, hlc, hcm, hat⟩ := open_nested (P := Try.prog) (fun u y => Cw w u y) Try.underlying73 (by kernel_rfl) (fun u fuel x hx => cgs_of_trod Try.underlying61 Try.underlying65 (by kernel_rfl) (by kernel_rfl) (by rfl) (fun f hf => by simp at hf; subst hf; exact Try.underlying3) (fun f hf => by simp at hf; subst hf; exact Try.underlying2) (fun f hf => by simp at hf; subst hf; exact Try.underlying4) (fun f hf => by simp at hf; subst hf; exact Try.underlying9) hx) o1 h1
  unfold maxLen at hcm
  have HAT := Lib.hid hat
  clear hat h1 l1 o1
  have m8 := bigS_bd a0 8 (by decide)
  obtain ⟨n, hn⟩ : ∃ n : Nat, 1 + bigS a0 8 = n := ⟨(1 + bigS a0 8).toNat, by omega⟩
  have hn1 : 1 ≤ n := by omega
  have hn2 : n ≤ 8 := by omega
  have u0 : IntKind.i64.wrap (1 + bigS a0 8) = 1 + bigS a0 8 := IntWalk.i64_in _ (by omega)
  have HN := Lib.hid hn
  clear hn
  go_enter Try.func11, Try.ntmps11
  go_upto_region 2 with (go_at_call 21; refine (mod_any _ _ _ (by omega) (by omega)).mono ?_; rintro e w' ⟨rfl, rfl⟩)
  rw [HN.out]
  clear HN u0 m8
  go_wp2_with fail
  refine (tnew_ok 100 (fun _ => 0) n w (by omega) (by omega) (fun g _ => .inl (by omega))).mono ?_
  rintro e w1 ⟨rfl, f1, hf1, hT1, hb1⟩
  have HT1 := Lib.hid hT1
  have HF1 := Lib.hid hf1
  have HB1 := Lib.hid hb1
  clear hT1 hf1 hb1
  go_wp2_with fail
  refine (rset_new n w1 (by omega) (by omega)).mono ?_
  rintro e w2 ⟨rb, gT, rfl, hR, hb2⟩
  have HT := Lib.hid (tw_first (w0 := w) HT1.out (fun g hg => HF1.out g hg) HB1.out hR hb2)
  clear hR hb2 HT1 HF1 HB1
  obtain ⟨f0, hf0⟩ : ∃ f0 : Nat → Nat, (fun g => if w1.heap.size ≤ g then if w2.heap.size ≤ g then 0 else 50 else f1 g) = f0 := ⟨_, rfl⟩
  rw [hf0] at HT
  clear hf0
  obtain ⟨r, hr⟩ : ∃ r, w.heap.size = r := ⟨_, rfl⟩
  rw [hr] at HT ⊢
  have HR := Lib.hid hr
  clear hr
  go_wp2_with fail
  go_loopw [13, 14, 15] (fun s13 s14 s15 wr => ∃ (i : Nat) (f : Nat → Nat) (ls : Nat → List Rw), i ≤ len ∧ i ≤ 20 ∧ s13 = .int .i64 i ∧ Tw w n r rb gT f ls ls wr ∧ Hid (∀ t, t < n → (ls t).length ≤ 20 * i)) (fun s13 _ _ _ => 20 - (intOf s13).toNat)
  case atStart => exact ⟨0, f0, _, by omega, by omega, rfl, HT.out, Lib.hid (fun t _ => by simp)⟩
  case round =>
    clear HT
    obtain ⟨i, f, ls, hi1, hi2, rfl, hT, hL⟩ := hrel
    have u1 : IntKind.i64.wrap ((i : Int) + 1) = (i : Int) + 1 := IntWalk.i64_in _ (by omega)
    have HT := Lib.hid hT
    clear hT
    by_cases hlt : i < len ∧ i < 20
    · obtain ⟨b, off, rfl, hb, hcell⟩ := HAT.out (by omega)
      obtain ⟨k0, hcs, hcw⟩ := hcell i hlt.1
      obtain ⟨m, hm⟩ : ∃ m, min (G i).1 20 = m := ⟨_, rfl⟩
      have hmn : m ≤ (G i).1 ∧ m ≤ 20 ∧ (m = (G i).1 ∨ m = 20 ∧ 20 ≤ (G i).1) := by omega
      obtain ⟨Ai, ci, hV, hci, hcm2, hown⟩ := hcs
      have HCs := Lib.hid (show Cs w (.slice Ai m ci) m (G i).2 from Cs.take (n := (G i).1) ⟨Ai, ci, rfl, hci, hcm2, hown⟩ hmn.1)
      have HWf := Lib.hid (fun j (hj : j < m) => hcw j (by omega))
      rw [hV] at k0
      unfold maxLen at hcm2
      generalize (G i).2 = F at *
      generalize (G i).1 = m0 at *
      have hmi : (if (20 : Int) < (m0 : Int) then 20 else (m0 : Int)) = (m : Int) := by split <;> omega
      have q1 : (i : Int) < len := by omega
      have q2 : (i : Int) < 20 := by omega
      have q3 : (0 : Int) ≤ i := by omega
      have HQ := Lib.hid hlt
      have HMI := Lib.hid hmi
      have HM := Lib.hid hmn
      clear hlt hcell hcw hV hown hm hmi
      go_upto_region 9 with fail
      have hS0 : Below wr.heap.size wr wr.drew := (Below.refl _ _).drew
      have hne : Nonempty (WIn (Below wr.heap.size wr)) := ⟨⟨_, hS0⟩⟩
      have z0 : ∀ y : WIn (Below wr.heap.size wr), y.w.cell? ⟨b, off + i, none⟩ = some (.slice Ai m0 ci) := fun y => (y.ok.cell (p := ⟨b, off + i, none⟩) (Nat.lt_of_lt_of_le hb HT.out.low.size)).trans ((HT.out.low.cell (p := ⟨b, off + i, none⟩) hb).trans k0)
      have HS0 := Lib.hid hS0
      clear hS0 k0
      refine wp_region_noPanic ?_
      refine wp_region_held_drew (S := Below wr.heap.size wr) (by kernel_rfl) HS0.out (fun hHeld => ?_)
      (refine takeE (i := 0) rfl (by kernel_rfl) (by kernel_rfl) (by kernel_rfl) (fun _ _ _ _ h => h) hHeld (fun K hK => ?_); go_simp; refine hK _ ?_; clear hK K)
      (refine takeE (i := 1) rfl (by kernel_rfl) (by kernel_rfl) (by kernel_rfl) (fun _ _ _ _ h => h) hHeld (fun K hK => ?_); go_simp; refine hK _ ?_; clear hK K)
      (refine takeE (i := 2) rfl (by kernel_rfl) (by kernel_rfl) (by kernel_rfl) (fun _ _ _ _ h => h) hHeld (fun K hK => ?_); go_simp; refine hK _ ?_; clear hK K)
      (refine takeE (i := 3) rfl (by kernel_rfl) (by kernel_rfl) (by kernel_rfl) (fun _ _ _ _ h => h) hHeld (fun K hK => ?_); go_simp; refine hK _ ?_; clear hK K)
      (refine takeE (i := 4) rfl (by kernel_rfl) (by kernel_rfl) (by kernel_rfl) (fun _ _ _ _ h => h) hHeld (fun K hK => ?_); go_simp; refine hK _ ?_; clear hK K)
      (refine takeE (i := 5) rfl (by kernel_rfl) (by kernel_rfl) (by kernel_rfl) (fun _ _ _ _ h => h) hHeld (fun K hK => ?_); go_simp; refine hK _ ?_; clear hK K)
      (refine takeE (i := 6) rfl (by kernel_rfl) (by kernel_rfl) (by kernel_rfl) (fun _ _ _ _ h => h) hHeld (fun K hK => ?_); go_simp; refine hK _ ?_; clear hK K)
      (refine takeE (i := 7) rfl (by kernel_rfl) (by kernel_rfl) (by kernel_rfl) (fun _ _ _ _ h => h) hHeld (fun K hK => ?_); go_simp; refine hK _ ?_; clear hK K)
      (refine takeE (i := 8) rfl (by kernel_rfl) (by kernel_rfl) (by kernel_rfl) (fun _ _ _ _ h => h) hHeld (fun K hK => ?_); go_simp; refine hK _ ?_; clear hK K)
      (refine takeE (i := 9) rfl (by kernel_rfl) (by kernel_rfl) (by kernel_rfl) (fun _ _ _ _ h => h) hHeld (fun K hK => ?_); go_simp; refine hK _ ?_; clear hK K)

      simp only [HMI.out]
      have p0 : (0 : Int) ≤ m := by omega
      have p1 : (m : Int) ≤ ci := by have := HM.out; omega
      have p2 : m ≤ ci := by have := HM.out; omega
      (refine takeE (i := 10) rfl (by kernel_rfl) (by kernel_rfl) (by kernel_rfl) (fun _ _ _ _ h => h) hHeld (fun K hK => ?_); go_simp; refine hK _ ?_; clear hK K)
      (refine takeE (i := 11) rfl (by kernel_rfl) (by kernel_rfl) (by kernel_rfl) (fun _ _ _ _ h => h) hHeld (fun K hK => ?_); go_simp; refine hK _ ?_; clear hK K)
      refine wpAnyH_done (by kernel_rfl) ?_ _
      refine NoPanic.normal ?_
      clear hHeld z0 hne HS0 p0 p1 p2 hmn HMI
      have HT2 := Lib.hid (HT.out.below (Below.refl wr.heap.size wr).drew)
      have HCs2 := Lib.hid (HCs.out.below HT2.out.low)
      have HOw := Lib.hid (show 0 < m → ∀ g, (Value.slice Ai m ci).ownBlock = some g → g < wr.drew.heap.size ∧ f g = 0 from fun hp g hg => by
        obtain ⟨A', c', hv, _, _, h3⟩ := HCs.out
        simp at hv
        obtain ⟨rfl, rfl⟩ := hv
        obtain ⟨g', off', rfl, hg', _⟩ := h3 hp
        simp [Value.ownBlock] at hg
        subst hg
        exact ⟨Nat.lt_of_lt_of_le hg' HT2.out.low.size, HT2.out.old _ hg'⟩)
      have hm20 : m ≤ 20 := HM.out.2.1
      clear HT HCs HM
      generalize World.drew wr = W at *
      go_upto_if 55 with fail
      go_cut [14] (fun s14 wx => ∃ (A : Option Addr) (q c : Nat) (F : Nat → Cg) (f : Nat → Nat), s14 = .slice A q c ∧ q ≤ 20 ∧ Tw w n r rb gT f ls ls wx ∧ Cs wx (.slice A q c) q F ∧ Hid (∀ j, j < q → (Lit.int .i64 (F j).ky).wf = true) ∧ Hid (0 < q → ∀ g, (Value.slice A q c).ownBlock = some g → g < wx.heap.size ∧ f g = 0))
      case first =>
        by_cases h5 : (i : Int) % 5 = 4
        · have g1 : ((i : Int) % 5 == 4) = true := beq_iff_eq.2 h5
          clear h5
          go_wp2_with fail
          go_meet
          case rel => exact ⟨Ai, m, ci, F, f, rfl, hm20, HT2.out, HCs2.out, Lib.hid (fun j hj => (HWf.out j hj).2), HOw⟩
        · have g1 : ((i : Int) % 5 == 4) = false := beq_eq_false_iff_ne.2 h5
          clear h5
          go_wp2_with fail
          refine (changes_key _ m n 20 F W HCs2.out (fun j hj => (HWf.out j hj).1) (by omega) (by omega) (by omega)).mono ?_
          rintro e w3 ⟨A3, c3, q, F3, rfl, hq, hC3, hr3, hO3, hb3⟩
          have HC3 := Lib.hid hC3
          have HR3 := Lib.hid hr3
          have HT3 := Lib.hid (HT2.out.below hb3)
          have HO3 := Lib.hid (show 0 < q → ∀ g, (Value.slice A3 q c3).ownBlock = some g → g < w3.heap.size ∧ f g = 0 from fun _ g hg => ⟨(hO3 g hg).2, HT2.out.fresh g (hO3 g hg).1⟩)
          clear hC3 hr3 hO3 hb3
          go_wp2_with fail
          go_meet
          case rel => exact ⟨A3, q, c3, F3, f, rfl, hq, HT3.out, HC3.out, Lib.hid (fun j hj => (HR3.out j hj).2.2), HO3⟩
      case rest =>
        clear HT2 HCs2 HOw hm20 HWf
        obtain ⟨A, q, c, F2, f2, rfl, hq, hT, hC, hW, hO⟩ := hcut
        have HT := Lib.hid hT
        have HC := Lib.hid hC
        clear hT hC
        have hl12 : ∀ t, t < n → (ls t).length ≤ 1200 := fun t ht => by have := hL.out t ht; omega
        have HL12 := Lib.hid hl12
        clear hl12
        obtain ⟨sv, P, Vv, hTs⟩ := HT.out.T
        have HFt := Lib.hid (tfits (.slice A q c) q F2 hTs HC.out hW.out (by omega) (by omega) hn2 HL12.out)
        clear hTs
        go_wp2_with fail
        refine HFt.out.mono ?_
        rintro e w4 ⟨rfl, b4⟩
        have HT4 := Lib.hid (HT.out.below b4)
        have HC4 := Lib.hid (HC.out.below b4)
        have HO4 := Lib.hid (show 0 < q → ∀ g, (Value.slice A q c).ownBlock = some g → g < w4.heap.size ∧ f2 g = 0 from fun hp g hg => ⟨Nat.lt_of_lt_of_le (hO.out hp g hg).1 b4.size, (hO.out hp g hg).2⟩)
        clear b4 HT HC hO HFt
        obtain ⟨U4, hR4⟩ := HT4.out.R
        have HFt := Lib.hid (rfits (.slice A q c) q F2 hR4 HC4.out (by omega) (by omega) hn2 HL12.out)
        clear hR4
        go_wp2_with fail
        refine HFt.out.mono ?_
        rintro e w5 ⟨rfl, b5⟩
        have HT5 := Lib.hid (HT4.out.below b5)
        have HC5 := Lib.hid (HC4.out.below b5)
        have HO5 := Lib.hid (show 0 < q → ∀ g, (Value.slice A q c).ownBlock = some g → g < w5.heap.size ∧ f2 g = 0 from fun hp g hg => ⟨Nat.lt_of_lt_of_le (HO4.out hp g hg).1 b5.size, (HO4.out hp g hg).2⟩)
        clear b5 HT4 HC4 HO4 HFt
        generalize fitsB ls F2 n q = fb at *
        have hal : ∀ (lx : Nat → List Rw) (fx : Nat → Nat) (wx : World), Tw w n r rb gT fx lx lx wx → (∀ t, t < n → (lx t).length ≤ 2000) → Calls Try.prog 42 #[.pointer (some ⟨r, 0, none⟩), .pointer (some ⟨rb, 0, none⟩)] wx fun e w' => e = .returned (.bool true) ∧ Below wx.heap.size wx w' := fun lx fx wx hx hl => by
          obtain ⟨_, _, _, h1⟩ := hx.T
          obtain ⟨_, h2⟩ := hx.R
          exact alike_any h1 h2 (by omega) hn2 hl
        have HAl := Lib.hid hal
        clear hal
        go_wp2_with fail
        refine (HAl.out ls f2 w5 HT5.out (fun t ht => by have := HL12.out t ht; omega)).mono ?_
        rintro e w6 ⟨rfl, b6⟩
        have HT6 := Lib.hid (HT5.out.below b6)
        have HC6 := Lib.hid (HC5.out.below b6)
        have HO6 := Lib.hid (show 0 < q → ∀ g, (Value.slice A q c).ownBlock = some g → g < w6.heap.size ∧ f2 g = 0 from fun hp g hg => ⟨Nat.lt_of_lt_of_le (HO5.out hp g hg).1 b6.size, (HO5.out hp g hg).2⟩)
        clear b6 HT5 HC5 HO5
        have HUp6 := Lib.hid (fun t ht => HT6.out.up t ht)
        by_cases hF : inR F2 n q
        · have HF := Lib.hid hF
          clear hF
          go_wp2_with fail
          refine (tw_apply (.slice A q c) q F2 HT6.out HC6.out HO6.out HF.out (by omega) hn2 HL12.out).mono ?_
          rintro e w7 ⟨rfl, f7, t7, c7, o7⟩
          have HT7 := Lib.hid t7
          have HC7 := Lib.hid c7
          have HO7 := Lib.hid o7
          clear t7 c7 o7 HT6 HC6 HO6
          go_wp2_with fail
          refine (tw_rapply (.slice A q c) q F2 HT7.out HC7.out HO7.out HF.out (by omega) (by omega) hn2 HL12.out).mono ?_
          rintro e w8 ⟨rfl, f8, t8, c8, o8⟩
          have HT8 := Lib.hid t8
          clear t8 c8 o8 HT7 HC7 HO7
          have HLn := Lib.hid (show ∀ t, t < n → (applyN ls F2 q t).length ≤ 20 * (i + 1) from fun t ht => by have h1 := apply_len HUp6.out F2 q t ht; have h2 := hL.out t ht; omega)
          generalize applyN ls F2 q = ls2 at *
          go_wp2_with fail
          refine (HAl.out ls2 f8 w8 HT8.out (fun t ht => by have := HLn.out t ht; omega)).mono ?_
          rintro e w9 ⟨rfl, b9⟩
          have HT9 := Lib.hid (HT8.out.below b9)
          clear b9 HT8
          have htn : i % n < n := Nat.mod_lt _ (by omega)
          have hmod : (i : Int) % (n : Int) = ((i % n : Nat) : Int) := (Int.natCast_emod i n).symm
          have HMd := Lib.hid hmod
          clear hmod
          go_upto_region 15 with fail
          rw [HMd.out]
          clear HMd
          generalize i % n = t at *
          obtain ⟨sv9, P9, V9, hTs⟩ := HT9.out.T
          have hup := HT9.out.up t htn
          have HUp := Lib.hid hup
          have HAf := Lib.hid (tafter t a2 a3 hTs htn (by have := HLn.out t htn; omega))
          clear hTs hup
          have HAl0 := Lib.hid (show (afterL (ls2 t) a2 a3).length ≤ (ls2 t).length by unfold afterL; simp; omega)
          go_wp2_with fail
          refine HAf.out.mono ?_
          rintro e w10 ⟨A10, c10, rfl, hF10, b10⟩
          have HT10 := Lib.hid (HT9.out.below b10)
          have HF10 := Lib.hid hF10.1
          clear hF10 b10 HT9 HAf
          obtain ⟨U10, hR10⟩ := HT10.out.R
          have HRw := Lib.hid (rrows t hR10 hn2 htn (by have := HLn.out t htn; omega))
          clear hR10
          go_wp2_with fail
          refine HRw.out.mono ?_
          rintro e w11 ⟨A11, c11, rfl, hF11, b11⟩
          have HT11 := Lib.hid (HT10.out.below b11)
          have HG11 := Lib.hid (HF10.out.below b11)
          have HF11 := Lib.hid hF11.1
          clear hF11 b11 HT10 HF10 HRw
          go_wp2_with fail
          refine (rafter_any _ (ls2 t) a2 a3 w11 HF11.out HUp.out (by have := HLn.out t htn; omega)).mono ?_
          rintro e w12 ⟨A12, c12, rfl, hF12, b12⟩
          have HT12 := Lib.hid (HT11.out.below b12)
          have HG12 := Lib.hid (HG11.out.below b12)
          have HF12 := Lib.hid hF12.1
          clear hF12 b12 HT11 HG11 HF11
          go_wp2_with fail
          refine (plain_row _ _ _ _ w12 (Rs.of HG12.out) (Rs.of HF12.out) (by have := HLn.out t htn; have := HAl0.out; omega)).mono ?_
          rintro e w13 ⟨rfl, b13⟩
          have HT13 := Lib.hid (HT12.out.below b13)
          clear b13 HT12 HG12 HF12
          go_wp2_with fail
          go_roundw
          case rel => exact ⟨i + 1, f8, ls2, by have := HQ.out; omega, by have := HQ.out; omega, by go_num, HT13.out, HLn⟩
          case measure => have := HQ.out; simp [intOf]; omega
        · have HF := Lib.hid hF
          clear hF
          obtain ⟨sv6, P6, V6, hTs⟩ := HT6.out.T
          have HAp := Lib.hid (tapply_no (.slice A q c) q F2 hTs HC6.out HF.out (by omega))
          clear hTs
          go_wp2_with fail
          refine HAp.out.mono ?_
          rintro e w7 ⟨rfl, b7⟩
          have HT7 := Lib.hid (HT6.out.below b7)
          have HC7 := Lib.hid (HC6.out.below b7)
          clear b7 HAp HT6 HC6 HO6
          obtain ⟨U7, hR7⟩ := HT7.out.R
          have HAp := Lib.hid (rapply_no (.slice A q c) q F2 hR7 HC7.out HF.out (by omega) hn2)
          clear hR7
          go_wp2_with fail
          refine HAp.out.mono ?_
          rintro e w8 ⟨rfl, rfl⟩
          clear HAp HC7
          go_wp2_with fail
          refine (HAl.out ls f2 _ HT7.out (fun t ht => by have := HL12.out t ht; omega)).mono ?_
          rintro e w9 ⟨rfl, b9⟩
          have HT9 := Lib.hid (HT7.out.below b9)
          have HLn := Lib.hid (show ∀ t, t < n → (ls t).length ≤ 20 * (i + 1) from fun t ht => by have := hL.out t ht; omega)
          clear b9 HT7
          have htn : i % n < n := Nat.mod_lt _ (by omega)
          have hmod : (i : Int) % (n : Int) = ((i % n : Nat) : Int) := (Int.natCast_emod i n).symm
          have HMd := Lib.hid hmod
          clear hmod
          go_upto_region 15 with fail
          rw [HMd.out]
          clear HMd
          generalize i % n = t at *
          obtain ⟨sv9, P9, V9, hTs⟩ := HT9.out.T
          have hup := HT9.out.up t htn
          have HUp := Lib.hid hup
          have HAf := Lib.hid (tafter t a2 a3 hTs htn (by have := HLn.out t htn; omega))
          clear hTs hup
          have HAl0 := Lib.hid (show (afterL (ls t) a2 a3).length ≤ (ls t).length by unfold afterL; simp; omega)
          go_wp2_with fail
          refine HAf.out.mono ?_
          rintro e w10 ⟨A10, c10, rfl, hF10, b10⟩
          have HT10 := Lib.hid (HT9.out.below b10)
          have HF10 := Lib.hid hF10.1
          clear hF10 b10 HT9 HAf
          obtain ⟨U10, hR10⟩ := HT10.out.R
          have HRw := Lib.hid (rrows t hR10 hn2 htn (by have := HLn.out t htn; omega))
          clear hR10
          go_wp2_with fail
          refine HRw.out.mono ?_
          rintro e w11 ⟨A11, c11, rfl, hF11, b11⟩
          have HT11 := Lib.hid (HT10.out.below b11)
          have HG11 := Lib.hid (HF10.out.below b11)
          have HF11 := Lib.hid hF11.1
          clear hF11 b11 HT10 HF10 HRw
          go_wp2_with fail
          refine (rafter_any _ (ls t) a2 a3 w11 HF11.out HUp.out (by have := HLn.out t htn; omega)).mono ?_
          rintro e w12 ⟨A12, c12, rfl, hF12, b12⟩
          have HT12 := Lib.hid (HT11.out.below b12)
          have HG12 := Lib.hid (HG11.out.below b12)
          have HF12 := Lib.hid hF12.1
          clear hF12 b12 HT11 HG11 HF11
          go_wp2_with fail
          refine (plain_row _ _ _ _ w12 (Rs.of HG12.out) (Rs.of HF12.out) (by have := HLn.out t htn; have := HAl0.out; omega)).mono ?_
          rintro e w13 ⟨rfl, b13⟩
          have HT13 := Lib.hid (HT12.out.below b13)
          clear b13 HT12 HG12 HF12
          go_wp2_with fail
          go_roundw
          case rel => exact ⟨i + 1, f2, ls, by have := HQ.out; omega, by have := HQ.out; omega, by go_num, HT13.out, HLn⟩
          case measure => have := HQ.out; simp [intOf]; omega
    · have hex : (¬ (i : Int) < len) ∨ ((i : Int) < len ∧ ¬ (i : Int) < 20) := by omega
      clear hlt
      have hno : ∀ (fx : Nat → Nat) (wx : World) (x : Int), Tw w n r rb gT fx ls ls wx → ¬ (0 ≤ x ∧ x < n) → Calls Try.prog 44 #[.pointer (some ⟨r, 0, none⟩), .int .i64 x, .int .i64 0, .int .i64 9] wx fun e w' => e = .returned (.slice none 0 0) ∧ wx = w' := fun fx wx x hx h => by
        obtain ⟨_, _, _, h1⟩ := hx.T
        exact tafter_no x 0 9 h1 h
      have HNo := Lib.hid hno
      clear hno
      rcases hex with g1 | ⟨g1, g2⟩
      all_goals
        go_wp2_with fail
        refine (awake09 _).mono ?_
        rintro e w3 ⟨rfl, b3⟩
        have HT3 := Lib.hid (HT.out.below b3)
        clear b3
        go_wp2_with fail
        refine (HNo.out f w3 (-1) HT3.out (by omega)).mono ?_
        rintro e w4 ⟨rfl, rfl⟩
        go_wp2_with fail
        refine (HNo.out f _ n HT3.out (by omega)).mono ?_
        rintro e w4 ⟨rfl, rfl⟩
        go_wp2_with fail
        go_ret
        exact ⟨rfl, HT3.out.low⟩

set_option maxRecDepth 100000 in
theorem lifted (os : Os) (started : os.Started) (H : Type) (enc : TypeId × Value → H) :
    ReturnsInHanded {} Try.checked os 11 .any (Rows.tablePlaysSpec.pre6 enc Try.prog Try.f11 Rows.tablePlaysRow.domain false) (Rows.tablePlaysSpec.post enc Try.prog Try.f11 false true false false) := by
  refine returnsInHanded_of_change (C := Try.checked) own started (by kernel_rfl) Try.func11
    (ChangeSpec.witness6 (enc := enc) (C := Try.checked) false ⟨#[], #[.int .i64 0, .slice none 0 0, .int .i64 0, .int .i64 0], []⟩ 8 (by kernel_rfl) (by kernel_rfl) (by kernel_rfl) (by kernel_rfl)) ?_
  intro W base args ds gs before hval0 hW hcnd _
  have hval : ∀ (j : Nat) t v, Try.f11.params[j]? = some t → args[j]? = some v → Value.okWide Try.prog W .any base t v := hval0
  have hW' := hW
  obtain ⟨p, q, hA0, hV, rfl, hfz, hnd⟩ := hW
  have hA : DataW.TrodAll enc Try.prog W 0 (fun _ => true) true Try.f11.params.toList args.toList ds p := hA0
  rw [Try.params11] at hA hval
  obtain ⟨v0, vs0, d0, ds0, p0, q0, hargs, rfl, rfl, h0, r0⟩ := trodAll_cons hA
  obtain ⟨v1, vs1, d1, ds1, p1, q1, rfl, rfl, rfl, h1, r1⟩ := trodAll_cons r0
  obtain ⟨v2, vs2, d2, ds2, p2, q2, rfl, rfl, rfl, h2, r2⟩ := trodAll_cons r1
  obtain ⟨v3, vs3, d3, ds3, p3, q3, rfl, rfl, rfl, h3, r3⟩ := trodAll_cons r2
  obtain ⟨rfl, rfl, rfl⟩ := trodAll_nil r3
  obtain rfl : args = #[v0, v1, v2, v3] := by cases args; simp_all
  obtain ⟨rfl, rfl⟩ := trodVars_none hV
  obtain ⟨a0, rfl, rfl, rfl, w0⟩ := open_int Try.underlying3 (hval 0 3 v0 rfl rfl) h0
  obtain ⟨a2, rfl, rfl, rfl, w2⟩ := open_int Try.underlying2 (hval 2 2 v2 rfl rfl) h2
  obtain ⟨a3, rfl, rfl, rfl, w3⟩ := open_int Try.underlying3 (hval 3 3 v3 rfl rfl) h3
  clear hA0 hval0
  have hlt := hW'.lt
  refine (walk W a0 w0 v1 d1 p1 (hval 1 73 v1 rfl rfl) h1 (fun x hx => hlt x (by simp [hx])) a2 w2 a3 w3).mono fun e W' ⟨he, hb⟩ => ?_
  subst he
  exact ⟨_, rfl, post_of_below (pv := []) hW' (fun _ _ _ => (trodAll_cons_mk (shut_bool Try.underlying4 _) trodAll_mk0)) (fun sp hsp => (trodAll_cons_mk (shut_int Try.underlying3 w0) (trodAll_cons_mk (WideElems.Trod_stays laidOut (by kernel_rfl) (of_decide_eq_true (by kernel_rfl)) h1 (fun x hx => hb.same (hlt x (by simp [hx]))) (fun x hx => hsp x (by simp [hx]))) (trodAll_cons_mk (shut_int Try.underlying2 w2) (trodAll_cons_mk (shut_int Try.underlying3 w3) trodAll_mk0))))) (fun _ _ => rfl) (by simp) hb (ok_one (by kernel_rfl) rfl (okWide_bool_mk Try.underlying4 _))⟩

theorem over : Rows.tablePlaysRow.holds Try.pinned (OpenSpec.ofChange Rows.tablePlaysSpec) :=
  OpenClaim.holds_of_wide 11 Try.f11 rfl rfl rfl rfl rfl rfl rfl ⟨rfl, rfl, rfl, rfl, rfl⟩ rfl rfl rfl rfl rfl (by kernel_rfl) Try.func11 (by kernel_rfl)
    (of_decide_eq_true (by kernel_rfl)) (by unfold Func.isWrapper; first | (rw [if_pos (by decide +kernel)]; kernel_rfl) | (rw [if_neg (by decide +kernel)]; exact ⟨rfl, rfl⟩))
    (fun os started H enc _ => lifted os started H enc)

theorem proved : Rows.TablePlaysSaid := over
#print axioms proved
end Go.Proofs.Ytkicnjbidbfajaa.tablePlays
