/- The document's set of tables: Copy, Apply, Fits. -/
import Derived.Test.YtkicnjbidbfajaaRefSet
import Derived.Test.YtkicnjbidbfajaaChain
import Derived.Deep.RegionHeld3
namespace Go.Proofs.Ytkicnjbidbfajaa
open Go.ChangeShapes Go.WideShapes Go.ChangeAt Go.RowKit
set_option linter.unusedVariables false
set_option linter.unusedSimpArgs false
section
variable {Z : Nat → Prop} {rb gT n : Nat} {w w' : World} {ls : Nat → List Rw} {U : Nat → Value}
theorem Rf.same {ls' : Nat → List Rw} (h : Rf Z rb gT w n ls U) (e : ∀ t, t < n → ls' t = ls t) : Rf Z rb gT w n ls' U where
  blk := h.blk
  tb := h.tb
  gl := h.gl
  ne := h.ne
  zr := h.zr
  zt := h.zt
  sl := fun t ht => by rw [e t ht]; exact h.sl t ht
  up := fun t ht => by rw [e t ht]; exact h.up t ht
  ow := h.ow
def RCopy (n : Nat) (ls : Nat → List Rw) (w : World) (e : Ending) (w' : World) : Prop :=
  ∃ rb gT U, e = .returned (.pointer (some ⟨rb, 0, none⟩)) ∧ Rf (fun g => w.heap.size ≤ g) rb gT w' n ls U ∧ Below w.heap.size w w'
set_option maxRecDepth 100000 in
set_option maxHeartbeats 1000000 in
theorem rcopy (h : Rf Z rb gT w n ls U) (h0 : 0 < n) (hn : n ≤ 8) (hl : ∀ t, t < n → (ls t).length ≤ 2000) : Calls Try.prog 58 #[.pointer (some ⟨rb, 0, none⟩)] w (RCopy n ls w) := by
  obtain ⟨i0, hi0, hz0, hz1, hz2⟩ := info_parts infoRow
  have hmk := run_make_row' (P := Try.prog) 93 22 (.slice none 0 0) 24 Try.underlying93 infoRows rfl .i64 .i64 n (by omega) (by omega)
  have hb1 : Below w.heap.size w ((w.alloc (.cells (madeCells #[.slice none 0 0] n) 22)).alloc (.cells #[.slice (some ⟨w.heap.size, 0, none⟩) n n] 95)) := ((Below.refl _ _).alloc (Nat.le_refl _) _).alloc (by simp) _
  have hB := heap_alloc_new (w.alloc (.cells (madeCells #[.slice none 0 0] n) 22)) (.cells #[.slice (some ⟨w.heap.size, 0, none⟩) n n] 95)
  have hS := (sl_nils w n (by omega) hn).alloc (.cells #[.slice (some ⟨w.heap.size, 0, none⟩) n n] 95)
  have HF0 := Lib.hid (show Rf (fun g => w.heap.size ≤ g) (w.heap.size + 1) w.heap.size ((w.alloc (.cells (madeCells #[.slice none 0 0] n) 22)).alloc (.cells #[.slice (some ⟨w.heap.size, 0, none⟩) n n] 95)) n (fun _ => []) (fun _ => .slice none 0 0) from
    { blk := by have e : (w.alloc (.cells (madeCells #[.slice none 0 0] n) 22)).heap.size = w.heap.size + 1 := by simp
                rw [e] at hB; exact hB
      tb := hS, gl := by simp; omega, ne := by omega, zr := by show w.heap.size ≤ w.heap.size + 1; omega, zt := Nat.le_refl _, sl := fun _ _ => Sl.nil _ _ _ _, up := fun _ _ => List.Pairwise.nil, ow := fun _ _ g hg => by simp [Value.ownBlock] at hg })
  have HB0 := Lib.hid hb1
  have c0 := h.blk.cell 0
  simp at c0
  have H := Lib.hid h
  have HL := Lib.hid hl
  clear hb1 hB hS h hl
  obtain ⟨B, hBe⟩ : ∃ B, w.heap.size = B := ⟨_, rfl⟩
  have HBe := Lib.hid hBe
  rw [hBe] at HF0 HB0
  go_enter Try.func58, Try.ntmps58
  go_upto_region 2 with fail
  clear hmk c0 hBe
  generalize World.alloc (World.alloc w _) _ = w2 at *
  go_wp2_with fail
  go_loopw [4] (fun s4 wr => ∃ i : Nat, i ≤ n ∧ s4 = .int .i64 i ∧ ∃ U', Rf (fun g => B ≤ g) (B + 1) B wr n (fun t => if t < i then ls t else []) U' ∧ Below B w wr) (fun s4 _ => n - (intOf s4).toNat)
  case atStart => exact ⟨0, by omega, rfl, _, HF0.out.same (fun t _ => by simp), HB0.out⟩
  case round =>
    clear HF0 HB0
    obtain ⟨i, hi, rfl, U', hR, hb⟩ := hrel
    have hbs := hb.size
    rw [HBe.out] at hbs
    have h1 := H.out.below (by rw [HBe.out]; exact hb)
    by_cases hlt : i < n
    · have q2 : (i : Int) < n := by omega
      have q1 : (0 : Int) ≤ i := by omega
      have u1 : IntKind.i64.wrap ((i : Int) + 1) = (i : Int) + 1 := IntWalk.i64_in _ (by omega)
      obtain ⟨A, cap, hU, hlc, hcm⟩ := (h1.sl i hlt).form
      have c1 := h1.blk.cell 0
      simp at c1
      obtain ⟨WD, hWD⟩ : ∃ WD, wr.drew = WD := ⟨_, rfl⟩
      have bD : Below wr.heap.size wr WD := by rw [← hWD]; exact Below.drew (Below.refl _ _)
      have hsD : WD.heap.size = wr.heap.size := by rw [← hWD]; rfl
      obtain ⟨W1, hW1⟩ : ∃ W1, WD.alloc (.cells #[] 26) = W1 := ⟨_, rfl⟩
      have N0 : Nw WD W1 (.slice (some ⟨WD.heap.size, 0, none⟩) 0 0) 0 [] := by rw [← hW1]; exact nw_zero WD _
      have b1 : Below wr.heap.size wr W1 := bD.trans (by rw [← hsD]; exact N0.2.2)
      have hx := (h1.below b1).sl i hlt
      rw [hU] at hx
      have hll := HL.out i hlt
      obtain ⟨v2, W2, hr2, hS2, hK2, hO2⟩ := run_append_rs (P := Try.prog) W1 22 22 26 i0 _ 24 Try.underlying22 hi0 hz0 hz1 hz2 rfl _ 0 [] N0.1 _ (ls i).length (ls i) (Rs.of hx) (by unfold maxLen; omega) (by omega)
      have hN2 := nw_more N0 hS2 hK2 hO2
      simp only [Nat.zero_add, List.nil_append] at hN2
      obtain ⟨A2, c2, rfl, _, _⟩ := hN2.1.form
      have b2 : Below wr.heap.size wr W2 := bD.trans (by rw [← hsD]; exact hN2.2.2)
      have hR2 := hR.below b2
      have hFin := hR2.put (t := i) hlt hN2.1 (H.out.up i hlt) (fun g hg => by have h2 := hN2.2.1 g hg; have := hR.gl; exact ⟨h2.2, by omega, by show B ≤ g; omega⟩)
      have hne : Nonempty (WSt (Ch4 WD W1 W2 W2)) := ⟨⟨0, _, .inl ⟨rfl, rfl⟩⟩⟩
      have z0 : ∀ y : WSt (Ch4 WD W1 W2 W2), y.w.cell? ⟨rb, 0, none⟩ = some (.slice (some ⟨gT, 0, none⟩) n n) := fun y => WSt.all (p := fun w' => w'.cell? ⟨rb, 0, none⟩ = some (.slice (some ⟨gT, 0, none⟩) n n)) y ((h1.below bD).blk.cell 0) ((h1.below b1).blk.cell 0) ((h1.below b2).blk.cell 0) ((h1.below b2).blk.cell 0)
      have z1 : ∀ y : WSt (Ch4 WD W1 W2 W2), y.w.cell? ⟨B + 1, 0, none⟩ = some (.slice (some ⟨B, 0, none⟩) n n) := fun y => WSt.all (p := fun w' => w'.cell? ⟨B + 1, 0, none⟩ = some (.slice (some ⟨B, 0, none⟩) n n)) y ((hR.below bD).blk.cell 0) ((hR.below b1).blk.cell 0) ((hR.below b2).blk.cell 0) ((hR.below b2).blk.cell 0)
      have z2 : ∀ y : WSt (Ch4 WD W1 W2 W2), y.w.cell? ⟨gT, i, none⟩ = some (.slice A (ls i).length cap) := fun y => WSt.all (p := fun w' => w'.cell? ⟨gT, i, none⟩ = some (.slice A (ls i).length cap)) y (by rw [((h1.below bD).at_ i hlt).1, hU]) (by rw [((h1.below b1).at_ i hlt).1, hU]) (by rw [((h1.below b2).at_ i hlt).1, hU]) (by rw [((h1.below b2).at_ i hlt).1, hU])
      have x0 := (hR2.at_ i hlt).1
      have fz := (hR2.at_ i hlt).2
      have hbF : Below B w (W2.setCell ⟨B, i, none⟩ (.slice A2 (ls i).length c2)) := (hb.trans (b2.mono (by omega))).setCell (p := ⟨B, i, none⟩) (Nat.le_refl _) _
      have HFin := Lib.hid (show ∃ U', Rf (fun g => B ≤ g) (B + 1) B (W2.setCell ⟨B, i, none⟩ (.slice A2 (ls i).length c2)) n (fun t => if t < i + 1 then ls t else []) U' ∧ Below B w (W2.setCell ⟨B, i, none⟩ (.slice A2 (ls i).length c2)) from
        ⟨_, hFin.same (fun t ht => by
          unfold updT
          by_cases e : t = i
          · subst e; simp
          · by_cases e2 : t < i
            · simp [e, e2, show t < i + 1 by omega]
            · simp [e, e2, show ¬ t < i + 1 by omega]), hbF⟩)
      have HR2 := Lib.hid hr2
      have HW1 := Lib.hid hW1
      obtain ⟨m, hm⟩ : ∃ m, (ls i).length = m := ⟨_, rfl⟩
      rw [hm] at z2 HR2 HFin
      clear hr2 hW1 hR hb h1 bD hsD N0 b1 hx hS2 hK2 hO2 hN2 b2 hR2 hFin hbF hU hlc hcm hll hm
      go_upto_region 5 with fail
      clear c1
      refine wp_region_stage2 (Ch4 WD W1 W2 W2) [5, 13] 15 (by kernel_rfl) (by kernel_rfl) (by kernel_rfl) (.inl ⟨rfl, hWD⟩) ?_
      clear hWD
      simp only [List.take_succ_cons, List.take_zero, List.drop_succ_cons, List.drop_zero]
      iterate 5 (refine wpS_pure (by rfl) (fun K hK => ?_); go_simp; refine hK _ ?_; clear hK K)
      refine wpS_eff 0 (by rfl) (by rfl) (by rfl) (.slice (some ⟨WD.heap.size, 0, none⟩) 0 0) ?_ ?_
      · rintro ⟨Y, hY⟩
        obtain rfl : Y = WD := by simpa [Ch4] using hY
        go_simp
        exact .inr (.inl ⟨rfl, HW1.out⟩)
      iterate 7 (refine wpS_pure (by rfl) (fun K hK => ?_); go_simp; refine hK _ ?_; clear hK K)
      refine wpS_eff 1 (by rfl) (by rfl) (by rfl) (.slice A2 m c2) ?_ ?_
      · rintro ⟨Y, hY⟩
        obtain rfl : Y = W1 := by simpa [Ch4] using hY
        exact upTo_append (.tmp 27) (.tmp 34) _ (by rfl) _ _ (by rfl) (by rfl) HR2.out (.inr (.inr (.inl ⟨rfl, rfl⟩)))
      iterate 1 (refine wpS_pure (by rfl) (fun K hK => ?_); go_simp; refine hK _ ?_; clear hK K)
      refine wpS_nil ?_
      intro y
      have hyw : y.w = W2 := by simpa [Ch4] using y.ok
      rw [hyw]
      clear hyw y hne z0 z1 z2 HR2 HW1
      go_upto_region 4 with fail
      clear x0 fz
      generalize World.setCell W2 _ _ = w5 at *
      go_wp2_with fail
      go_roundw
      case rel => obtain ⟨U2, a1, a2⟩ := HFin.out; exact ⟨i + 1, by omega, by go_num, U2, a1, a2⟩
      case measure => simp [intOf]; omega
    · obtain rfl : n = i := by omega
      have q2 : ¬ (n : Int) < n := by omega
      have c1 := h1.blk.cell 0
      simp at c1
      have HF := Lib.hid (show RCopy n ls w (.returned (.pointer (some ⟨B + 1, 0, none⟩))) wr from ⟨B + 1, B, U', rfl, by rw [HBe.out]; exact hR.same (fun t ht => by simp [ht]), by rw [HBe.out]; exact hb⟩)
      clear hR hb h1
      go_wp2_with fail
      go_ret
      exact HF.out
end
end Go.Proofs.Ytkicnjbidbfajaa
