/- The document's set of tables: Apply. -/
import Derived.Test.YtkicnjbidbfajaaRefSet2
namespace Go.Proofs.Ytkicnjbidbfajaa
open Go.ChangeShapes Go.WideShapes Go.ChangeAt Go.RowKit
set_option linter.unusedVariables false
set_option linter.unusedSimpArgs false
/-- in which the set and a change of the list are to be read -/
def ApR (rb gT gc p n : Nat) (k : Int) (s : ByteArray) (w : World) : Prop :=
  Blk w rb 95 #[.slice (some ⟨gT, 0, none⟩) n n] ∧ gT < w.heap.size ∧ (w.cell? ⟨gc, p + 1, none⟩ = some (.int .i64 k) ∧ w.cell? ⟨gc, p + 3, none⟩ = some (.string s) ∧ gc < w.heap.size)
theorem ApR.keeps {rb gT gc p n : Nat} {k : Int} {s : ByteArray} {S : Nat → Prop} {w w' : World} (h : ApR rb gT gc p n k s w) (kk : Keeps S w w') (h1 : ¬ S rb) (h3 : ¬ S gc) : ApR rb gT gc p n k s w' :=
  ⟨kk.at_ h.1 h1, Nat.lt_of_lt_of_le h.2.1 kk.size, (World.cell?_of_block (kk.block gc h.2.2.2.2 h3)).trans h.2.2.1, (World.cell?_of_block (kk.block gc h.2.2.2.2 h3)).trans h.2.2.2.1, Nat.lt_of_lt_of_le h.2.2.2.2 kk.size⟩
section
variable {Z : Nat → Prop} {rb gT n : Nat} {w w' : World} {ls : Nat → List Rw} {U : Nat → Value}
def RApply (Z : Nat → Prop) (rb gT n : Nat) (ls' : Nat → List Rw) (w : World) (e : Ending) (w' : World) : Prop :=
  e = .returned (.bool true) ∧ ∃ U', Rf (fun g => Z g ∨ w.heap.size ≤ g) rb gT w' n ls' U' ∧ Keeps (· = gT) w w'
theorem rapply_no (v : Value) (m : Nat) (F : Nat → Cg) (h : Rf Z rb gT w n ls U) (hC : Cs w v m F) (hF : ¬ inR F n m) (hm : m ≤ 500) (hn : n ≤ 8) :
    Calls Try.prog 43 #[.pointer (some ⟨rb, 0, none⟩), v] w fun e w' => e = .returned (.bool false) ∧ w' = w := by
  obtain ⟨A, cap, rfl, h1, h2, h3⟩ := hC
  unfold maxLen at h2
  have H := Lib.hid h
  have HF := Lib.hid hF
  have HC := Lib.hid h3
  clear h hF h3
  go_enter Try.func43, Try.ntmps43
  go_wp2_with fail
  go_loopw [5] (fun s5 wr => ∃ j : Nat, j ≤ m ∧ s5 = .int .i64 j ∧ Hid (inR F n j) ∧ w = wr) (fun s5 _ => m - (intOf s5).toNat)
  case atStart => exact ⟨0, by omega, rfl, Lib.hid (fun i hi => by omega), rfl⟩
  case round =>
    obtain ⟨j, hj, rfl, hI, rfl⟩ := hrel
    by_cases hlt : j < m
    · obtain ⟨g, off, rfl, hg, hat⟩ := HC.out (by omega)
      obtain ⟨y0, _, _, _⟩ := hat j hlt
      have q1 : (0 : Int) ≤ j := by omega
      have q2 : (j : Int) < m := by omega
      have u1 : IntKind.i64.wrap ((j : Int) + 1) = (j : Int) + 1 := IntWalk.i64_in _ (by omega)
      have HY := Lib.hid (show 0 ≤ (F j).tb ∧ (F j).tb < n → inR F n (j + 1) from fun h i hi => by
        by_cases e : i = j
        · rw [e]; exact h
        · exact hI.out i (by omega))
      clear hat
      generalize (F j).tb = a0 at *
      by_cases hin : 0 ≤ a0 ∧ a0 < n
      · have q3 : decide (0 ≤ a0 ∧ a0 < n) = true := decide_eq_true hin
        have HI2 := Lib.hid (HY.out hin)
        clear hin
        go_wp2_with fail
        refine (ris a0 H.out hn).mono ?_
        rintro e w2 ⟨rfl, rfl⟩
        rw [q3]
        clear y0
        go_wp2_with fail
        go_roundw
        case rel => exact ⟨j + 1, by omega, by go_num, HI2, by first | rfl | trivial⟩
        case measure => simp [intOf]; omega
      · have q3 : decide (0 ≤ a0 ∧ a0 < n) = false := decide_eq_false hin
        clear hin
        go_wp2_with fail
        refine (ris a0 H.out hn).mono ?_
        rintro e w2 ⟨rfl, rfl⟩
        rw [q3]
        clear y0
        go_wp2_with fail
        go_ret
        exact ⟨rfl, rfl⟩
    · exact (HF.out (by obtain rfl : m = j := by omega
                        exact hI.out)).elim
set_option maxRecDepth 100000 in
set_option maxHeartbeats 1000000 in
theorem rapply (v : Value) (m : Nat) (F : Nat → Cg) (h : Rf Z rb gT w n ls U) (hC : Cs w v m F) (hF : inR F n m) (hm : m ≤ 500) (h0 : 0 < n) (hn : n ≤ 8) (hl : ∀ t, t < n → (ls t).length ≤ 1200) (hO : 0 < m → ∀ g, v.ownBlock = some g → g ≠ gT) :
    Calls Try.prog 43 #[.pointer (some ⟨rb, 0, none⟩), v] w (RApply Z rb gT n (applyN ls F m) w) := by
  have HC0 := Lib.hid hC
  obtain ⟨A, cap, rfl, h1, h2, h3⟩ := hC
  unfold maxLen at h2
  have H := Lib.hid h
  have HF := Lib.hid hF
  have HL := Lib.hid hl
  have HO := Lib.hid hO
  have HC := Lib.hid h3
  clear h hF hl hO h3
  go_enter Try.func43, Try.ntmps43
  go_wp2_with fail
  go_loopw [5] (fun s5 wr => ∃ j : Nat, j ≤ m ∧ s5 = .int .i64 j ∧ w = wr) (fun s5 _ => m - (intOf s5).toNat)
  case atStart => exact ⟨0, by omega, rfl, rfl⟩
  case round =>
    obtain ⟨j, hj, rfl, rfl⟩ := hrel
    by_cases hlt : j < m
    · obtain ⟨g, off, rfl, hg, hat⟩ := HC.out (by omega)
      obtain ⟨y0, _, _, _⟩ := hat j hlt
      have hfj := HF.out j hlt
      have q1 : (0 : Int) ≤ j := by omega
      have q2 : (j : Int) < m := by omega
      have u1 : IntKind.i64.wrap ((j : Int) + 1) = (j : Int) + 1 := IntWalk.i64_in _ (by omega)
      have q3 : decide (0 ≤ (F j).tb ∧ (F j).tb < n) = true := decide_eq_true hfj
      clear hat hfj
      generalize (F j).tb = a0 at *
      go_wp2_with fail
      refine (ris a0 H.out hn).mono ?_
      rintro e w2 ⟨rfl, rfl⟩
      rw [q3]
      clear y0
      go_wp2_with fail
      go_roundw
      case rel => exact ⟨j + 1, by omega, by go_num, by first | rfl | trivial⟩
      case measure => simp [intOf]; omega
    · obtain rfl : m = j := by omega
      have q2 : ¬ (m : Int) < m := by omega
      clear HC
      go_wp2_with fail
      go_loopw [6, 7] (fun s6 s7 wr => ∃ j : Nat, j ≤ m ∧ s6 = .int .i64 j ∧ ∃ U', Rf (fun g => Z g ∨ w.heap.size ≤ g) rb gT wr n (applyN ls F j) U' ∧ Keeps (· = gT) w wr) (fun s6 _ _ => m - (intOf s6).toNat)
      case atStart => exact ⟨0, by omega, rfl, U, H.out.zmap (fun g _ h => .inl h), Keeps.refl _ _⟩
      case round =>
      obtain ⟨j, hj, rfl, U', hR, hK⟩ := hrel
      by_cases hlt : j < m
      · have hCj := HC0.out.keeps hK (fun g hg _ => HO.out (by omega) g hg)
        obtain ⟨A', cap', hv', _, _, hat'⟩ := hCj
        simp at hv'
        obtain ⟨rfl, rfl⟩ := hv'
        obtain ⟨gc, oc, rfl, hgc, hat⟩ := hat' (by omega)
        obtain ⟨y0, y1, y2, y3⟩ := hat j hlt
        have hfj := HF.out j hlt
        obtain ⟨t, ht⟩ : ∃ t : Nat, (F j).tb = t := ⟨(F j).tb.toNat, by omega⟩
        have htn : t < n := by omega
        have hst : applyN ls F (j + 1) = updT (applyN ls F j) t (chg (applyN ls F j t) (F j)) := by simp only [applyN, stepL, ht, Int.toNat_natCast]
        have hln : (applyN ls F j t).length ≤ 2000 := by
          have h1 := apply_len (n := n) (fun s hs => H.out.up s hs) F j t htn
          have h2 := HL.out t htn
          omega
        rw [ht] at y0
        have hcf : F j = ⟨(t : Int), (F j).ky, (F j).gn, (F j).vl⟩ := by rw [← ht]
        obtain ⟨L, hL⟩ : ∃ L, applyN ls F j = L := ⟨_, rfl⟩
        rw [hcf, hL] at hst
        rw [hL] at hR hln
        have q1 : (0 : Int) ≤ j := by omega
        have q3 : (j : Int) < m := by omega
        have q4 : (0 : Int) ≤ t := by omega
        have q5 : (t : Int) < n := by omega
        have u1 : IntKind.i64.wrap ((j : Int) + 1) = (j : Int) + 1 := IntWalk.i64_in _ (by omega)
        have hNe := HO.out (by omega) gc rfl
        clear hat hat' hfj ht hcf hL
        generalize (F j).ky = a1 at *
        generalize (F j).gn = a2 at *
        generalize (F j).vl = a3 at *
        have HR := Lib.hid hR
        have HK := Lib.hid hK
        have HNe := Lib.hid (show ¬ rb = gT ∧ ¬ gc = gT from ⟨hR.ne, hNe⟩)
        obtain ⟨A9, c9, hUf, _, _⟩ := (hR.sl t htn).form
        have HUf := Lib.hid hUf
        have yU : wr.cell? ⟨gT, t, none⟩ = some (.slice A9 (L t).length c9) := by rw [(hR.at_ t htn).1, hUf]
        have hA0 : ApR rb gT gc (oc + j * 4) n a1 a3 wr.drew := ⟨hR.blk, hR.gl, y1, y3, hgc⟩
        have hne : Nonempty (WIn (ApR rb gT gc (oc + j * 4) n a1 a3)) := ⟨⟨_, hA0⟩⟩
        have z0 : ∀ y : WIn (ApR rb gT gc (oc + j * 4) n a1 a3), y.w.cell? ⟨rb, 0, none⟩ = some (.slice (some ⟨gT, 0, none⟩) n n) := fun y => y.ok.1.cell 0
        have z2 : ∀ y : WIn (ApR rb gT gc (oc + j * 4) n a1 a3), y.w.cell? ⟨gc, oc + j * 4 + 1, none⟩ = some (.int .i64 a1) := fun y => y.ok.2.2.1
        have z3 : ∀ y : WIn (ApR rb gT gc (oc + j * 4) n a1 a3), y.w.cell? ⟨gc, oc + j * 4 + 3, none⟩ = some (.string a3) := fun y => y.ok.2.2.2.1
        have HA0 := Lib.hid hA0
        clear hR hK hA0 hUf hNe y1 y3
        cases a2 with
        | true =>
        have HST := Lib.hid (show applyN ls F (j + 1) = updT L t (delL (L t) a1) from hst)
        clear hst
        go_upto_region 11 with fail
        clear y0 y2
        refine wp_region_noPanic ?_
        refine wp_region_held_drew (S := fun w' => ApR rb gT gc (oc + j * 4) n a1 a3 w') (by kernel_rfl) HA0.out (fun hHeld => ?_)
        (refine takeE (i := 0) rfl (by kernel_rfl) (by kernel_rfl) (by kernel_rfl) (fun _ _ _ _ h => h) hHeld (fun K hK => ?_); go_simp; refine hK _ ?_; clear hK K)
        (refine takeE (i := 1) rfl (by kernel_rfl) (by kernel_rfl) (by kernel_rfl) (fun _ _ _ _ h => h) hHeld (fun K hK => ?_); go_simp; refine hK _ ?_; clear hK K)
        (refine takeE (i := 2) rfl (by kernel_rfl) (by kernel_rfl) (by kernel_rfl) (fun _ _ _ _ h => h) hHeld (fun K hK => ?_); go_simp; refine hK _ ?_; clear hK K)
        (refine takeE (i := 3) rfl (by kernel_rfl) (by kernel_rfl) (by kernel_rfl) (fun _ _ _ _ h => h) hHeld (fun K hK => ?_); go_simp; refine hK _ ?_; clear hK K)
        (refine takeE (i := 4) rfl (by kernel_rfl) (by kernel_rfl) (by kernel_rfl) (fun _ _ _ _ h => h) hHeld (fun K hK => ?_); go_simp; refine hK _ ?_; clear hK K)
        (refine takeE (i := 5) rfl (by kernel_rfl) (by kernel_rfl) (by kernel_rfl) (fun _ _ _ _ h => h) hHeld (fun K hK => ?_); go_simp; refine hK _ ?_; clear hK K)
        (refine takeE (i := 6) rfl (by kernel_rfl) (by kernel_rfl) (by kernel_rfl) (fun _ _ _ _ h => h) hHeld (fun K hK => ?_); go_simp; refine hK _ ?_; clear hK K)
        (refine takeE (i := 7) rfl (by kernel_rfl) (by kernel_rfl) (by kernel_rfl) (fun _ _ _ _ h => h) hHeld (fun K hK => ?_); go_simp; refine hK _ ?_; clear hK K)
        (refine takeE (i := 8) rfl (by kernel_rfl) (by kernel_rfl) (by kernel_rfl) (fun _ _ _ _ h => h) hHeld (fun K hK => ?_); go_simp; refine hK _ ?_; clear hK K)
        (refine takeE (i := 9) rfl (by kernel_rfl) (by kernel_rfl) (by kernel_rfl) (fun _ _ _ _ h => h) hHeld (fun K hK => ?_); go_simp; refine hK _ ?_; clear hK K)
        (refine takeE (i := 10) rfl (by kernel_rfl) (by kernel_rfl) (by kernel_rfl) (fun _ _ _ _ h => h) hHeld (fun K hK => ?_); go_simp; refine hK _ ?_; clear hK K)
        (refine takeE (i := 12) rfl (by kernel_rfl) (by kernel_rfl) (by kernel_rfl) (fun _ _ _ _ h => h) hHeld (fun K hK => ?_); go_simp; refine hK _ ?_; clear hK K)
        (refine takeE (i := 13) rfl (by kernel_rfl) (by kernel_rfl) (by kernel_rfl) (fun _ _ _ _ h => h) hHeld (fun K hK => ?_); go_simp; refine hK _ ?_; clear hK K)
        (refine takeE (i := 14) rfl (by kernel_rfl) (by kernel_rfl) (by kernel_rfl) (fun _ _ _ _ h => h) hHeld (fun K hK => ?_); go_simp; refine hK _ ?_; clear hK K)
        (refine takeE (i := 15) rfl (by kernel_rfl) (by kernel_rfl) (by kernel_rfl) (fun _ _ _ _ h => h) hHeld (fun K hK => ?_); go_simp; refine hK _ ?_; clear hK K)
        (refine takeE (i := 16) rfl (by kernel_rfl) (by kernel_rfl) (by kernel_rfl) (fun _ _ _ _ h => h) hHeld (fun K hK => ?_); go_simp; refine hK _ ?_; clear hK K)
        refine wpAnyH_ready (rs := [11]) (by kernel_rfl) (by simp) ?_
        refine AllReadyH.cons rfl (fun K hK => ?_) AllReadyH.nil
        go_simp
        refine hK.out _ _ hHeld (fun hHeld => ?_)
        clear hK K
        refine wpAnyH_ready (rs := [17]) (by kernel_rfl) (by simp) ?_
        refine AllReadyH.cons rfl (fun K hK => ?_) AllReadyH.nil
        go_simp
        refine (rdel_any (.slice A9 (L t).length c9) (L t) a1 wr.drew (by rw [← HUf.out]; exact HR.out.sl t htn) (HR.out.up t htn) hln).mono ?_
        rintro e w7 ⟨A7, c7, rfl, hS7, hO7, hb7⟩
        have hb7' : Below wr.heap.size wr w7 := (Below.drew (Below.refl _ _)).trans hb7
        have hsz7 := hb7'.size
        refine hK.out _ _ (hHeld.keeps (Keeps.of_below (S := fun _ => False) hb7) (fun h => h) (fun h => h)) (fun hHeld => ?_)
        clear hK K
        have h7 := HR.out.below hb7'
        have hfin := h7.put htn hS7 (up_del (HR.out.up t htn) _) (fun g hg => by
          rcases hO7 g hg with e | ⟨e1, e2⟩
          · have h8 := HR.out.ow t htn g (by rw [HUf.out]; exact e)
            exact ⟨by omega, h8.2.1, h8.2.2⟩
          · have h8 := HR.out.gl
            have h9 := HK.out.size
            have e3 : wr.heap.size ≤ g := e1
            exact ⟨e2, by omega, .inr (by omega)⟩)
        have hk7 : Keeps (· = gT) w (w7.setCell ⟨gT, t, none⟩ (.slice A7 (delL (L t) a1).length c7)) := (HK.out.trans (Keeps.of_below hb7')).setCell (p := ⟨gT, t, none⟩) rfl _
        have hS8 : ApR rb gT gc (oc + j * 4) n a1 a3 (w7.setCell ⟨gT, t, none⟩ (.slice A7 (delL (L t) a1).length c7)) := hHeld.keeps ((Keeps.refl (· = gT) w7).setCell (p := ⟨gT, t, none⟩) rfl _) HNe.out.1 HNe.out.2
        have x0 := (h7.at_ t htn).1
        have fz := (h7.at_ t htn).2
        have HS8 := Lib.hid hS8
        have HFin := Lib.hid (show ∃ U', Rf (fun g => Z g ∨ w.heap.size ≤ g) rb gT (w7.setCell ⟨gT, t, none⟩ (.slice A7 (delL (L t) a1).length c7)) n (applyN ls F (j + 1)) U' ∧ Keeps (· = gT) w (w7.setCell ⟨gT, t, none⟩ (.slice A7 (delL (L t) a1).length c7)) from ⟨_, by rw [HST.out]; exact hfin, hk7⟩)
        clear h7 hfin hk7 hS7 hO7 hb7 hb7' hS8
        generalize (delL (L t) a1).length = m7 at *
        (refine takeE (i := 18) rfl (by kernel_rfl) (by kernel_rfl) (by kernel_rfl) (fun _ _ _ _ h => h) hHeld (fun K hK => ?_); go_simp; refine hK _ ?_; clear hK K)
        (refine takeE (i := 19) rfl (by kernel_rfl) (by kernel_rfl) (by kernel_rfl) (fun _ _ _ _ h => h) hHeld (fun K hK => ?_); go_simp; refine hK _ ?_; clear hK K)
        (refine takeE (i := 20) rfl (by kernel_rfl) (by kernel_rfl) (by kernel_rfl) (fun _ _ _ _ h => h) hHeld (fun K hK => ?_); go_simp; refine hK _ ?_; clear hK K)
        (refine takeE (i := 21) rfl (by kernel_rfl) (by kernel_rfl) (by kernel_rfl) (fun _ _ _ _ h => h) hHeld (fun K hK => ?_); go_simp; refine hK _ ?_; clear hK K)
        refine wpAnyH_ready (rs := [22]) (by kernel_rfl) (by simp) ?_
        refine AllReadyH.cons rfl (fun K hK => ?_) AllReadyH.nil
        go_simp
        refine hK.out _ _ HS8.out (fun hHeld => ?_)
        clear hK K HS8 x0 fz
        refine wpAnyH_done (by kernel_rfl) ?_ _
        refine NoPanic.normal ?_
        clear hHeld z0 z2 z3 hne yU
        generalize World.setCell w7 _ _ = w8 at *
        go_wp2_with fail
        go_roundw
        case rel => obtain ⟨U2, a1', a2'⟩ := HFin.out; exact ⟨j + 1, by omega, by go_num, U2, a1', a2'⟩
        case measure => simp [intOf]; omega
        | false =>
        have HST := Lib.hid (show applyN ls F (j + 1) = updT L t (putL (L t) a1 a3) from hst)
        clear hst
        go_upto_region 12 with fail
        clear y0 y2
        refine wp_region_noPanic ?_
        refine wp_region_held_drew (S := fun w' => ApR rb gT gc (oc + j * 4) n a1 a3 w') (by kernel_rfl) HA0.out (fun hHeld => ?_)
        (refine takeE (i := 0) rfl (by kernel_rfl) (by kernel_rfl) (by kernel_rfl) (fun _ _ _ _ h => h) hHeld (fun K hK => ?_); go_simp; refine hK _ ?_; clear hK K)
        (refine takeE (i := 1) rfl (by kernel_rfl) (by kernel_rfl) (by kernel_rfl) (fun _ _ _ _ h => h) hHeld (fun K hK => ?_); go_simp; refine hK _ ?_; clear hK K)
        (refine takeE (i := 2) rfl (by kernel_rfl) (by kernel_rfl) (by kernel_rfl) (fun _ _ _ _ h => h) hHeld (fun K hK => ?_); go_simp; refine hK _ ?_; clear hK K)
        (refine takeE (i := 3) rfl (by kernel_rfl) (by kernel_rfl) (by kernel_rfl) (fun _ _ _ _ h => h) hHeld (fun K hK => ?_); go_simp; refine hK _ ?_; clear hK K)
        (refine takeE (i := 4) rfl (by kernel_rfl) (by kernel_rfl) (by kernel_rfl) (fun _ _ _ _ h => h) hHeld (fun K hK => ?_); go_simp; refine hK _ ?_; clear hK K)
        (refine takeE (i := 5) rfl (by kernel_rfl) (by kernel_rfl) (by kernel_rfl) (fun _ _ _ _ h => h) hHeld (fun K hK => ?_); go_simp; refine hK _ ?_; clear hK K)
        (refine takeE (i := 6) rfl (by kernel_rfl) (by kernel_rfl) (by kernel_rfl) (fun _ _ _ _ h => h) hHeld (fun K hK => ?_); go_simp; refine hK _ ?_; clear hK K)
        (refine takeE (i := 7) rfl (by kernel_rfl) (by kernel_rfl) (by kernel_rfl) (fun _ _ _ _ h => h) hHeld (fun K hK => ?_); go_simp; refine hK _ ?_; clear hK K)
        (refine takeE (i := 8) rfl (by kernel_rfl) (by kernel_rfl) (by kernel_rfl) (fun _ _ _ _ h => h) hHeld (fun K hK => ?_); go_simp; refine hK _ ?_; clear hK K)
        (refine takeE (i := 9) rfl (by kernel_rfl) (by kernel_rfl) (by kernel_rfl) (fun _ _ _ _ h => h) hHeld (fun K hK => ?_); go_simp; refine hK _ ?_; clear hK K)
        (refine takeE (i := 10) rfl (by kernel_rfl) (by kernel_rfl) (by kernel_rfl) (fun _ _ _ _ h => h) hHeld (fun K hK => ?_); go_simp; refine hK _ ?_; clear hK K)
        (refine takeE (i := 12) rfl (by kernel_rfl) (by kernel_rfl) (by kernel_rfl) (fun _ _ _ _ h => h) hHeld (fun K hK => ?_); go_simp; refine hK _ ?_; clear hK K)
        (refine takeE (i := 13) rfl (by kernel_rfl) (by kernel_rfl) (by kernel_rfl) (fun _ _ _ _ h => h) hHeld (fun K hK => ?_); go_simp; refine hK _ ?_; clear hK K)
        (refine takeE (i := 14) rfl (by kernel_rfl) (by kernel_rfl) (by kernel_rfl) (fun _ _ _ _ h => h) hHeld (fun K hK => ?_); go_simp; refine hK _ ?_; clear hK K)
        (refine takeE (i := 15) rfl (by kernel_rfl) (by kernel_rfl) (by kernel_rfl) (fun _ _ _ _ h => h) hHeld (fun K hK => ?_); go_simp; refine hK _ ?_; clear hK K)
        (refine takeE (i := 16) rfl (by kernel_rfl) (by kernel_rfl) (by kernel_rfl) (fun _ _ _ _ h => h) hHeld (fun K hK => ?_); go_simp; refine hK _ ?_; clear hK K)
        (refine takeE (i := 17) rfl (by kernel_rfl) (by kernel_rfl) (by kernel_rfl) (fun _ _ _ _ h => h) hHeld (fun K hK => ?_); go_simp; refine hK _ ?_; clear hK K)
        (refine takeE (i := 18) rfl (by kernel_rfl) (by kernel_rfl) (by kernel_rfl) (fun _ _ _ _ h => h) hHeld (fun K hK => ?_); go_simp; refine hK _ ?_; clear hK K)
        (refine takeE (i := 19) rfl (by kernel_rfl) (by kernel_rfl) (by kernel_rfl) (fun _ _ _ _ h => h) hHeld (fun K hK => ?_); go_simp; refine hK _ ?_; clear hK K)
        (refine takeE (i := 20) rfl (by kernel_rfl) (by kernel_rfl) (by kernel_rfl) (fun _ _ _ _ h => h) hHeld (fun K hK => ?_); go_simp; refine hK _ ?_; clear hK K)
        (refine takeE (i := 21) rfl (by kernel_rfl) (by kernel_rfl) (by kernel_rfl) (fun _ _ _ _ h => h) hHeld (fun K hK => ?_); go_simp; refine hK _ ?_; clear hK K)
        refine wpAnyH_ready (rs := [11]) (by kernel_rfl) (by simp) ?_
        refine AllReadyH.cons rfl (fun K hK => ?_) AllReadyH.nil
        go_simp
        refine hK.out _ _ hHeld (fun hHeld => ?_)
        clear hK K
        refine wpAnyH_ready (rs := [22]) (by kernel_rfl) (by simp) ?_
        refine AllReadyH.cons rfl (fun K hK => ?_) AllReadyH.nil
        go_simp
        refine (rput_any (.slice A9 (L t).length c9) (L t) a1 a3 wr.drew (by rw [← HUf.out]; exact HR.out.sl t htn) (HR.out.up t htn) hln).mono ?_
        rintro e w7 ⟨A7, c7, rfl, ⟨hS7, hO7⟩, hb7⟩
        have hb7' : Below wr.heap.size wr w7 := (Below.drew (Below.refl _ _)).trans hb7
        have hsz7 := hb7'.size
        refine hK.out _ _ (hHeld.keeps (Keeps.of_below (S := fun _ => False) hb7) (fun h => h) (fun h => h)) (fun hHeld => ?_)
        clear hK K
        have h7 := HR.out.below hb7'
        have hfin := h7.put htn hS7 (up_put (HR.out.up t htn) _ _) (fun g hg => by
          have h10 := hO7 g hg
          have h8 := HR.out.gl
          have h9 := HK.out.size
          have e3 : wr.heap.size ≤ g := h10.1
          exact ⟨h10.2, by omega, .inr (by omega)⟩)
        have hk7 : Keeps (· = gT) w (w7.setCell ⟨gT, t, none⟩ (.slice A7 (putL (L t) a1 a3).length c7)) := (HK.out.trans (Keeps.of_below hb7')).setCell (p := ⟨gT, t, none⟩) rfl _
        have hS8 : ApR rb gT gc (oc + j * 4) n a1 a3 (w7.setCell ⟨gT, t, none⟩ (.slice A7 (putL (L t) a1 a3).length c7)) := hHeld.keeps ((Keeps.refl (· = gT) w7).setCell (p := ⟨gT, t, none⟩) rfl _) HNe.out.1 HNe.out.2
        have x0 := (h7.at_ t htn).1
        have fz := (h7.at_ t htn).2
        have HS8 := Lib.hid hS8
        have HFin := Lib.hid (show ∃ U', Rf (fun g => Z g ∨ w.heap.size ≤ g) rb gT (w7.setCell ⟨gT, t, none⟩ (.slice A7 (putL (L t) a1 a3).length c7)) n (applyN ls F (j + 1)) U' ∧ Keeps (· = gT) w (w7.setCell ⟨gT, t, none⟩ (.slice A7 (putL (L t) a1 a3).length c7)) from ⟨_, by rw [HST.out]; exact hfin, hk7⟩)
        clear h7 hfin hk7 hS7 hO7 hb7 hb7' hS8
        generalize (putL (L t) a1 a3).length = m7 at *
        (refine takeE (i := 23) rfl (by kernel_rfl) (by kernel_rfl) (by kernel_rfl) (fun _ _ _ _ h => h) hHeld (fun K hK => ?_); go_simp; refine hK _ ?_; clear hK K)
        (refine takeE (i := 24) rfl (by kernel_rfl) (by kernel_rfl) (by kernel_rfl) (fun _ _ _ _ h => h) hHeld (fun K hK => ?_); go_simp; refine hK _ ?_; clear hK K)
        (refine takeE (i := 25) rfl (by kernel_rfl) (by kernel_rfl) (by kernel_rfl) (fun _ _ _ _ h => h) hHeld (fun K hK => ?_); go_simp; refine hK _ ?_; clear hK K)
        (refine takeE (i := 26) rfl (by kernel_rfl) (by kernel_rfl) (by kernel_rfl) (fun _ _ _ _ h => h) hHeld (fun K hK => ?_); go_simp; refine hK _ ?_; clear hK K)
        refine wpAnyH_ready (rs := [27]) (by kernel_rfl) (by simp) ?_
        refine AllReadyH.cons rfl (fun K hK => ?_) AllReadyH.nil
        go_simp
        refine hK.out _ _ HS8.out (fun hHeld => ?_)
        clear hK K HS8 x0 fz
        refine wpAnyH_done (by kernel_rfl) ?_ _
        refine NoPanic.normal ?_
        clear hHeld z0 z2 z3 hne yU
        generalize World.setCell w7 _ _ = w8 at *
        go_wp2_with fail
        go_roundw
        case rel => obtain ⟨U2, a1', a2'⟩ := HFin.out; exact ⟨j + 1, by omega, by go_num, U2, a1', a2'⟩
        case measure => simp [intOf]; omega
      · obtain rfl : m = j := by omega
        have HF2 := Lib.hid (show RApply Z rb gT n (applyN ls F m) w (.returned (.bool true)) wr from ⟨rfl, U', hR, hK⟩)
        have q3 : ¬ (m : Int) < m := by omega
        clear hR hK
        go_wp2_with fail
        go_ret
        exact HF2.out
end
end Go.Proofs.Ytkicnjbidbfajaa
