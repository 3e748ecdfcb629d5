/- Changes out of wild ones, their keys too. -/
import Derived.Test.YtkicnjbidbfajaaChanges
namespace Go.Proofs.Ytkicnjbidbfajaa
open Go.ChangeShapes Go.WideShapes Go.ChangeAt Go.RowKit
set_option linter.unusedVariables false
set_option linter.unusedSimpArgs false
theorem wf_small (k : Int) (h0 : 0 ≤ k) (h1 : k ≤ 1099511627776) : (Lit.int .i64 k).wf = true := by
  simp [Lit.wf, IntKind.min, IntKind.max, IntKind.bits, IntKind.signed]; omega
set_option maxRecDepth 100000 in
set_option maxHeartbeats 1000000 in
theorem change_key (c : Cg) (n : Nat) (w : World) (hn : 1 ≤ n) (hn2 : n ≤ 8) (hs : c.vl.size ≤ maxLen) :
    Calls Try.prog 54 #[.agg #[.int .i64 c.tb, .int .i64 c.ky, .bool c.gn, .string c.vl], .int .i64 n] w fun e w' => ∃ c' : Cg, e = .returned (cgV c') ∧ (0 ≤ c'.tb ∧ c'.tb < n ∧ (Lit.int .i64 c'.ky).wf = true) ∧ Below w.heap.size w w' := by
  obtain ⟨tb, ky, gn, vl⟩ := c
  have hb0 : Below w.heap.size w ((w.alloc (.cells #[.int .i64 tb, .int .i64 ky, .bool gn, .string vl] 65)).alloc (.cells #[.int .i64 0, .int .i64 0, .bool false, .string ⟨#[]⟩] 65)) := ((Below.refl _ _).alloc (Nat.le_refl _) _).alloc (by simp) _
  have HB0 := Lib.hid hb0
  have m1 := bigS_bd tb n (by omega)
  have m2 := bigS_bd ky 12 (by decide)
  have m3 := bigS_bd ky 31 (by decide)
  have u12 : IntKind.i64.wrap (1 + bigS ky 12) = 1 + bigS ky 12 := IntWalk.i64_in _ (by omega)
  have m4 := bigS_bd ky 1099511627776 (by decide)
  have hX0 := heap_alloc_new w (.cells #[.int .i64 tb, .int .i64 ky, .bool gn, .string vl] 65)
  have hX1 := heap_alloc_new (w.alloc (.cells #[.int .i64 tb, .int .i64 ky, .bool gn, .string vl] 65)) (.cells #[.int .i64 0, .int .i64 0, .bool false, .string ⟨#[]⟩] 65)
  have hX2 := (Below.heap_alloc (w.alloc (.cells #[.int .i64 tb, .int .i64 ky, .bool gn, .string vl] 65)) (.cells #[.int .i64 0, .int .i64 0, .bool false, .string ⟨#[]⟩] 65) w.heap.size (by simp)).trans hX0
  have HX1 := Lib.hid hX1
  have HX2 := Lib.hid hX2
  have HSs := Lib.hid hs
  clear hb0 hX0 hX1 hX2 hs
  have HK1 : Hid ((Lit.int .i64 (1 + bigS ky 12)).wf = true) := Lib.hid (wf_small _ (by omega) (by omega))
  have HK2 : Hid ((Lit.int .i64 (1 + bigS ky 1099511627776)).wf = true) := Lib.hid (wf_small _ (by omega) (by omega))
  go_enter Try.func54, Try.ntmps54
  go_upto_region 1 with fail
  have hsz : ((w.alloc (.cells #[.int .i64 tb, .int .i64 ky, .bool gn, .string vl] 65)).alloc (.cells #[.int .i64 0, .int .i64 0, .bool false, .string ⟨#[]⟩] 65)).heap.size = w.heap.size + 2 := by simp
  have hsz1 : (w.alloc (.cells #[.int .i64 tb, .int .i64 ky, .bool gn, .string vl] 65)).heap.size = w.heap.size + 1 := by simp
  rw [hsz1] at HX1
  clear hsz1
  generalize World.alloc (World.alloc w _) _ = W at *
  obtain ⟨b, hb⟩ : ∃ b, w.heap.size = b := ⟨_, rfl⟩
  rw [hb] at HX1 HX2 HB0 hsz ⊢
  have HBs := Lib.hid hb
  clear hb
  have hS0 : ChS b #[.int .i64 tb, .int .i64 ky, .bool gn, .string vl] w W.drew := ⟨HX2.out, HX1.out, Below.drew HB0.out⟩
  have hne : Nonempty (WIn (ChS b #[.int .i64 tb, .int .i64 ky, .bool gn, .string vl] w)) := ⟨⟨_, hS0⟩⟩
  have z0 : ∀ y : WIn (ChS b #[.int .i64 tb, .int .i64 ky, .bool gn, .string vl] w), y.w.cell? ⟨b, 0, none⟩ = some (.int .i64 tb) := fun y => y.ok.1.cell 0
  have z1 : ∀ y : WIn (ChS b #[.int .i64 tb, .int .i64 ky, .bool gn, .string vl] w), y.w.cell? ⟨b, 1, none⟩ = some (.int .i64 ky) := fun y => y.ok.1.cell 1
  have z2 : ∀ y : WIn (ChS b #[.int .i64 tb, .int .i64 ky, .bool gn, .string vl] w), y.w.cell? ⟨b, 2, none⟩ = some (.bool gn) := fun y => y.ok.1.cell 2
  have HS0 := Lib.hid hS0
  clear hS0
  refine wp_region_noPanic ?_
  refine wp_region_held_drew (S := fun w' => ChS b #[.int .i64 tb, .int .i64 ky, .bool gn, .string vl] w w') (by kernel_rfl) HS0.out (fun hHeld => ?_)
  (refine takeE (i := 0) rfl (by kernel_rfl) (by kernel_rfl) (by kernel_rfl) (fun _ _ _ _ h => h) hHeld (fun K hK => ?_); go_simp; refine hK _ ?_; clear hK K)
  (refine takeE (i := 1) rfl (by kernel_rfl) (by kernel_rfl) (by kernel_rfl) (fun _ _ _ _ h => h) hHeld (fun K hK => ?_); go_simp; refine hK _ ?_; clear hK K)
  (refine takeE (i := 2) rfl (by kernel_rfl) (by kernel_rfl) (by kernel_rfl) (fun _ _ _ _ h => h) hHeld (fun K hK => ?_); go_simp; refine hK _ ?_; clear hK K)
  (refine takeE (i := 3) rfl (by kernel_rfl) (by kernel_rfl) (by kernel_rfl) (fun _ _ _ _ h => h) hHeld (fun K hK => ?_); go_simp; apply Exists.intro; refine ⟨fun _ => ?_, hK _ ?_⟩; ((go_at_call 21; exact (mod_any _ _ _ (by omega) (by omega)).mono fun e w' ⟨he, hb⟩ => ⟨he, hb.symm⟩)); clear hK K)
  (refine takeE (i := 4) rfl (by kernel_rfl) (by kernel_rfl) (by kernel_rfl) (fun _ _ _ _ h => h) hHeld (fun K hK => ?_); go_simp; refine hK _ ?_; clear hK K)
  (refine takeE (i := 5) rfl (by kernel_rfl) (by kernel_rfl) (by kernel_rfl) (fun _ _ _ _ h => h) hHeld (fun K hK => ?_); go_simp; refine hK _ ?_; clear hK K)
  (refine takeE (i := 6) rfl (by kernel_rfl) (by kernel_rfl) (by kernel_rfl) (fun _ _ _ _ h => h) hHeld (fun K hK => ?_); go_simp; apply Exists.intro; refine ⟨fun _ => ?_, hK _ ?_⟩; ((go_at_call 50; exact (big_any _ _ _ (by omega) (by omega)).mono fun e w' ⟨he, hb⟩ => ⟨he, hb.symm⟩)); clear hK K)
  (refine takeE (i := 7) rfl (by kernel_rfl) (by kernel_rfl) (by kernel_rfl) (fun _ _ _ _ h => h) hHeld (fun K hK => ?_); go_simp; refine hK _ ?_; clear hK K)
  (refine takeE (i := 8) rfl (by kernel_rfl) (by kernel_rfl) (by kernel_rfl) (fun _ _ _ _ h => h) hHeld (fun K hK => ?_); go_simp; refine hK _ ?_; clear hK K)
  (refine takeE (i := 9) rfl (by kernel_rfl) (by kernel_rfl) (by kernel_rfl) (fun _ _ _ _ h => h) hHeld (fun K hK => ?_); go_simp; refine hK _ ?_; clear hK K)
  (refine takeE (i := 10) rfl (by kernel_rfl) (by kernel_rfl) (by kernel_rfl) (fun _ _ _ _ h => h) hHeld (fun K hK => ?_); go_simp; refine hK _ ?_; clear hK K)
  refine wpAnyH_ready (rs := [11]) (by kernel_rfl) (by simp) ?_
  refine AllReadyH.cons rfl (fun K hK => ?_) AllReadyH.nil
  go_simp
  have hS2 : ChS b #[.int .i64 tb, .int .i64 ky, .bool gn, .string vl] w (W.alloc (.cells #[.int .i64 0, .int .i64 0, .bool false, .string ⟨#[]⟩] 65)).drew := chs_keeps hHeld ⟨rfl, rfl, rfl, by simp, fun k hk => Below.heap_alloc W _ k (by omega)⟩
  have hX5 : Blk (W.alloc (.cells #[.int .i64 0, .int .i64 0, .bool false, .string ⟨#[]⟩] 65)).drew (b + 2) 65 #[.int .i64 0, .int .i64 0, .bool false, .string ⟨#[]⟩] := by rw [← hsz]; exact heap_alloc_new W _
  refine hK.out _ _ hS2 (fun hHeld => ?_)
  clear hK K hS2
  try simp only [List.getElem_toArray, List.getElem_cons_succ, List.getElem_cons_zero, Act.put, List.setIfInBounds_toArray, List.set_cons_zero, List.set_cons_succ]
  generalize World.drew (World.alloc W _) = W5 at *
  have x0 := hX5.cell 0
  have x1 := hX5.cell 1
  have x2 := hX5.cell 2
  have x3 := hX5.cell 3
  simp at x0 x1 x2 x3
  have fz := fun j => hX5.frozen j
  refine wpAnyH_ready (rs := [12]) (by kernel_rfl) (by simp) ?_
  refine AllReadyH.cons rfl (fun K hK => ?_) AllReadyH.nil
  go_simp
  have hX6 := (((hX5.set_ 0 (.int .i64 (bigS tb n))).set_ 1 (.int .i64 (1 + bigS ky 12))).set_ 2 (.bool gn)).set_ 3 (.string ⟨#[]⟩)
  have hB6 : Below (b + 2) W5 ((((W5.setCell ⟨b + 2, 0, none⟩ (.int .i64 (bigS tb n))).setCell ⟨b + 2, 1, none⟩ (.int .i64 (1 + bigS ky 12))).setCell ⟨b + 2, 2, none⟩ (.bool gn)).setCell ⟨b + 2, 3, none⟩ (.string ⟨#[]⟩)) :=
    ((((Below.refl (b + 2) W5).setCell (p := ⟨b + 2, 0, none⟩) (Nat.le_refl _) _).setCell (p := ⟨b + 2, 1, none⟩) (Nat.le_refl _) _).setCell (p := ⟨b + 2, 2, none⟩) (Nat.le_refl _) _).setCell (p := ⟨b + 2, 3, none⟩) (Nat.le_refl _) _
  refine hK.out _ _ (chs_keeps hHeld hB6) (fun hHeld => ?_)
  have HX6 : Hid (Blk ((((W5.setCell ⟨b + 2, 0, none⟩ (.int .i64 (bigS tb n))).setCell ⟨b + 2, 1, none⟩ (.int .i64 (1 + bigS ky 12))).setCell ⟨b + 2, 2, none⟩ (.bool gn)).setCell ⟨b + 2, 3, none⟩ (.string ⟨#[]⟩)) (b + 2) 65 #[.int .i64 (bigS tb n), .int .i64 (1 + bigS ky 12), .bool gn, .string ⟨#[]⟩]) := Lib.hid hX6
  clear hK K hX5 hX6 hB6 x0 x1 x2 x3 fz
  generalize World.setCell _ ⟨b + 2, 3, none⟩ _ = W6 at *
  refine wpAnyH_done (by kernel_rfl) ?_ _
  refine NoPanic.normal ?_
  have HS6 := Lib.hid hHeld
  clear hHeld z0 z1 z2 hne HS0
  have y0 := HS6.out.1.cell 0
  have y1 := HS6.out.1.cell 1
  have y2 := HS6.out.1.cell 2
  have y3 := HS6.out.1.cell 3
  simp at y0 y1 y2 y3
  go_upto_if 20 with (go_at_call 50; refine (big_any _ _ _ (by omega) (by omega)).mono ?_; rintro e w' ⟨rfl, rfl⟩)
  have m5 : IntKind.i64.wrap (1 + bigS ky 1099511627776) = 1 + bigS ky 1099511627776 := IntWalk.i64_in _ (by omega)
  go_cut [] (fun wx => ∃ key : Int, Hid ((Lit.int .i64 key).wf = true) ∧ Blk wx (b + 2) 65 #[.int .i64 (bigS tb n), .int .i64 key, .bool gn, .string ⟨#[]⟩] ∧ ChS b #[.int .i64 tb, .int .i64 ky, .bool gn, .string vl] w wx)
  case first =>
    by_cases h30 : bigS ky 31 = 30
    · have g1 : (bigS ky 31 == 30) = true := beq_iff_eq.2 h30
      have x1 := HX6.out.cell 1
      simp at x1
      have fz := fun j => HX6.out.frozen j
      have hF := Lib.hid (show Blk (W6.setCell ⟨b + 2, 1, none⟩ (.int .i64 (1 + bigS ky 1099511627776))) (b + 2) 65 #[.int .i64 (bigS tb n), .int .i64 (1 + bigS ky 1099511627776), .bool gn, .string ⟨#[]⟩] ∧ ChS b #[.int .i64 tb, .int .i64 ky, .bool gn, .string vl] w (W6.setCell ⟨b + 2, 1, none⟩ (.int .i64 (1 + bigS ky 1099511627776))) from ⟨HX6.out.set_ 1 _, chs_keeps HS6.out ((Below.refl (b + 2) W6).setCell (p := ⟨b + 2, 1, none⟩) (Nat.le_refl _) _)⟩)
      clear h30
      go_wp2_with (go_at_call 50; refine (big_any _ _ _ (by omega) (by omega)).mono ?_; rintro e w' ⟨rfl, rfl⟩)
      go_meet
      case rel => exact ⟨_, HK2, hF.out⟩
    · have g1 : (bigS ky 31 == 30) = false := beq_eq_false_iff_ne.2 h30
      clear h30
      go_wp2_with fail
      go_meet
      case rel => exact ⟨_, HK1, HX6.out, HS6.out⟩
  case rest =>
    clear HX6 HS6 y0 y1 y2 y3
    obtain ⟨key, HKy, hX, hS⟩ := hcut
    have HX7 := Lib.hid hX
    have HS7 := Lib.hid hS
    have y2 := hS.1.cell 2
    have y3 := hS.1.cell 3
    simp at y2 y3
    clear hX hS
    go_upto_if 28 with fail
    go_cut [] (fun wx => ∃ vv : ByteArray, Blk wx (b + 2) 65 #[.int .i64 (bigS tb n), .int .i64 key, .bool gn, .string vv] ∧ ChS b #[.int .i64 tb, .int .i64 ky, .bool gn, .string vl] w wx)
    case first =>
      cases gn with
      | true =>
        go_wp2_with fail
        go_meet
        case rel => exact ⟨_, HX7.out, HS7.out⟩
      | false =>
        have x3 := HX7.out.cell 3
        simp at x3
        have fz := fun j => HX7.out.frozen j
        have HXs := Lib.hid (fun vv => (show Blk (wc.setCell ⟨b + 2, 3, none⟩ (.string vv)) (b + 2) 65 #[.int .i64 (bigS tb n), .int .i64 key, .bool false, .string vv] ∧ ChS b #[.int .i64 tb, .int .i64 ky, .bool false, .string vl] w (wc.setCell ⟨b + 2, 3, none⟩ (.string vv)) from ⟨HX7.out.set_ 3 _, chs_keeps HS7.out ((Below.refl (b + 2) _).setCell (p := ⟨b + 2, 3, none⟩) (Nat.le_refl _) _)⟩))
        go_wp2_with fail
        refine (cut_any vl 32 _ HSs.out (by omega)).mono ?_
        rintro e w8 ⟨⟨vv, rfl⟩, rfl⟩
        have HF := Lib.hid (HXs.out vv)
        clear HXs
        go_wp2_with fail
        go_meet
        case rel => exact ⟨vv, HF.out⟩
    case rest =>
      clear HX7 HS7 y2 y3
      obtain ⟨vv, hX, hS⟩ := hcut
      have x0 := hX.cell 0
      have x1 := hX.cell 1
      have x2 := hX.cell 2
      have x3 := hX.cell 3
      have v0 := hS.2.1.cell 0
      have v1 := hS.2.1.cell 1
      have v2 := hS.2.1.cell 2
      have v3 := hS.2.1.cell 3
      simp at x0 x1 x2 x3 v0 v1 v2 v3
      have fz := fun j => hS.2.1.frozen j
      have HE := Lib.hid ((((hS.2.1.set_ 0 (.int .i64 (bigS tb n))).set_ 1 (.int .i64 key)).set_ 2 (.bool gn)).set_ 3 (.string vv))
      have HB := Lib.hid ((((hS.2.2.setCell (p := ⟨b + 1, 0, none⟩) (by show b ≤ b + 1; omega) (.int .i64 (bigS tb n))).setCell (p := ⟨b + 1, 1, none⟩) (by show b ≤ b + 1; omega) (.int .i64 key)).setCell (p := ⟨b + 1, 2, none⟩) (by show b ≤ b + 1; omega) (.bool gn)).setCell (p := ⟨b + 1, 3, none⟩) (by show b ≤ b + 1; omega) (.string vv))
      clear hX hS
      go_wp2_with fail
      exact bodyPost_ret (results_cell_row rfl _ _ (b + 1) 65 _ (0, 0) _ rfl HE.out Try.underlying65 rfl (by kernel_rfl)) rfl ⟨⟨bigS tb n, key, gn, vv⟩, rfl, ⟨by show 0 ≤ bigS tb n; omega, by show bigS tb n < n; omega, HKy.out⟩, by rw [HBs.out]; exact HB.out⟩
def ChangesKey (n most : Nat) (w : World) (e : Ending) (w' : World) : Prop :=
  ∃ A c q F, e = .returned (.slice A q c) ∧ q ≤ most ∧ Cs w' (.slice A q c) q F ∧ (∀ i, i < q → 0 ≤ (F i).tb ∧ (F i).tb < n ∧ (Lit.int .i64 (F i).ky).wf = true) ∧ (∀ g, (Value.slice A q c).ownBlock = some g → w.heap.size ≤ g ∧ g < w'.heap.size) ∧ Below w.heap.size w w'
set_option maxRecDepth 100000 in
set_option maxHeartbeats 1000000 in
theorem changes_key (v : Value) (m n most : Nat) (F : Nat → Cg) (w : World) (hC : Cs w v m F) (hs : ∀ i, i < m → (F i).vl.size ≤ maxLen) (hn : 1 ≤ n) (hn2 : n ≤ 8) (hm : most ≤ 100) :
    Calls Try.prog 34 #[v, .int .i64 n, .int .i64 most] w (ChangesKey n most w) := by
  obtain ⟨i0, hi0, hz0, hz1, hz2⟩ := info_parts infoChange
  obtain ⟨A, cap, rfl, h1, h2, h3⟩ := hC
  unfold maxLen at h2
  have HC := Lib.hid h3
  have HS := Lib.hid hs
  clear h3 hs
  go_enter Try.func34, Try.ntmps34
  go_wp2_with fail
  go_loopw [7, 8] (fun s7 s8 wr => ∃ (i : Nat) (A7 : Option Addr) (c7 : Nat) (l : List Cg), i ≤ m ∧ i ≤ most ∧ s8 = .int .i64 i ∧ s7 = .slice A7 i c7 ∧ Hid (l.length = i) ∧ Hid (∀ c ∈ l, 0 ≤ c.tb ∧ c.tb < n ∧ (Lit.int .i64 c.ky).wf = true) ∧ Sl wr 65 4 (.slice A7 i c7) i (cgCells l) ∧ (∀ g, (Value.slice A7 i c7).ownBlock = some g → w.heap.size ≤ g ∧ g < wr.heap.size) ∧ Below w.heap.size w wr) (fun _ s8 _ => most - (intOf s8).toNat)
  case atStart => exact ⟨0, none, 0, [], by omega, by omega, rfl, rfl, Lib.hid rfl, Lib.hid (by simp), Sl.nil _ _ _ _, by simp [Value.ownBlock], Below.refl _ _⟩
  case round =>
    obtain ⟨i, A7, c7, l, hi1, hi2, rfl, rfl, hl, hr, hS, hO, hb⟩ := hrel
    have u1 : IntKind.i64.wrap ((i : Int) + 1) = (i : Int) + 1 := IntWalk.i64_in _ (by omega)
    have HSl := Lib.hid hS
    have HO := Lib.hid hO
    have HB := Lib.hid hb
    have HEnd := Lib.hid (show ChangesKey n most w (.returned (.slice A7 i c7)) wr from ⟨A7, c7, i, _, rfl, hi2, cs_of hS hl.out, fun j hj => by
      have e : l.getD j default = l[j]'(by have := hl.out; omega) := by simp [List.getD_eq_getElem?_getD, show j < l.length by have := hl.out; omega]
      rw [e]; exact hr.out _ (List.getElem_mem _), hO, hb⟩)
    clear hS hO
    by_cases hlt : i < m
    · have q2 : (i : Int) < m := by omega
      by_cases hmo : i < most
      · have q3 : (i : Int) < most := by omega
        have q1 : (0 : Int) ≤ i := by omega
        obtain ⟨g, off, rfl, hg, hat⟩ := HC.out (by omega)
        obtain ⟨x0, x1, x2, x3⟩ := hat i hlt
        have y0 := (hb.cell (p := ⟨g, off + i * 4, none⟩) hg).trans x0
        have y1 := (hb.cell (p := ⟨g, off + i * 4 + 1, none⟩) hg).trans x1
        have y2 := (hb.cell (p := ⟨g, off + i * 4 + 2, none⟩) hg).trans x2
        have y3 := (hb.cell (p := ⟨g, off + i * 4 + 3, none⟩) hg).trans x3
        have HCh := Lib.hid (change_key (F i) n wr hn hn2 (HS.out i hlt))
        clear x0 x1 x2 x3 hat hb
        generalize (F i).tb = a0 at *
        generalize (F i).ky = a1 at *
        generalize (F i).gn = a2 at *
        generalize (F i).vl = a3 at *
        go_wp2_with fail
        refine HCh.out.mono ?_
        rintro e w4 ⟨c', rfl, hc', hb4⟩
        obtain ⟨t', k', g', v'⟩ := c'
        have hHB4 := HB.out.trans (hb4.mono HB.out.size)
        have HB4 := Lib.hid hHB4
        have HSl4 := Lib.hid (HSl.out.below hb4)
        have HO4 := Lib.hid (show ∀ g, (Value.slice A7 i c7).ownBlock = some g → w.heap.size ≤ g ∧ g < w4.heap.size from fun g hg => ⟨(HO.out g hg).1, Nat.lt_of_lt_of_le (HO.out g hg).2 hb4.size⟩)
        have HC4 := Lib.hid hc'
        clear y0 y1 y2 y3 hb4 hHB4 HSl HO HB HEnd hc'
        simp only [cgV]
        go_wp2_with (refine wpList_append_sl (by rfl) (.tmp 20) (.tmp 27) _ (by rfl) 65 i0 _ 4 40 Try.underlying61 hi0 hz0 hz1 hz2 rfl (by omega) _ i (cgCells l) (by rfl) (HSl4.out.alloc _) _ 1 1 [.int .i64 t', .int .i64 k', .bool g', .string v'] (by rfl) (by rfl) (World.news_of_block (cs := #[.int .i64 t', .int .i64 k', .bool g', .string v']) (t := 65) (fr := (0, 0)) (heap_alloc_new _ _)) (by simp [Value.oneCell']) (by omega) (by unfold maxLen; omega) (by omega) ?_; intro v9 w9 hS hK hO; obtain ⟨A9, c9, rfl, _, _⟩ := hS.form; have HS9 := Lib.hid hS; have HK9 := Lib.hid hK; have HO9 := Lib.hid hO; clear hS hK hO)
        go_roundw
        case rel =>
          have hsz := HK9.out.size
          simp at hsz
          refine ⟨i + 1, A9, c9, l ++ [⟨t', k', g', v'⟩], by omega, by omega, by go_num, rfl, Lib.hid (by rw [List.length_append, hl.out]; rfl), Lib.hid (fun c hc => ?_), ?_, fun x hx => ?_, ?_⟩
          · rw [List.mem_append] at hc
            rcases hc with hc | hc
            · exact hr.out c hc
            · simp at hc; subst hc; exact HC4.out
          · have e : cgCells (l ++ [⟨t', k', g', v'⟩]) = cgCells l ++ [.int .i64 t', .int .i64 k', .bool g', .string v'] := by simp [cgCells, List.flatMap_append]
            rw [e]; exact HS9.out
          · rcases HO9.out with e | ⟨g2, e, hg2⟩
            · rw [e] at hx
              have := HO4.out x hx
              exact ⟨this.1, by omega⟩
            · obtain ⟨g3, off3, cap3, hv3, _, _, hlt3, _⟩ := HS9.out.at_ (by omega)
              rw [hv3] at hx
              injection hx with hx
              subst hx
              rw [hv3] at e
              injection e with e
              subst e
              have := HB4.out.size
              simp at hg2
              have hg3 : w4.heap.size + 1 ≤ g3 := hg2
              exact ⟨by show w.heap.size ≤ g3; omega, hlt3⟩
          · exact Keeps.below (HB4.out.alloc HB4.out.size _) HK9.out (by have := HB4.out.size; simp; omega) (fun x hx e => by have := (HO4.out x e).1; omega)
        case measure => simp [intOf]; omega
      · have q3 : ¬ (i : Int) < most := by omega
        clear HSl HO HB hb
        go_wp2_with fail
        go_ret
        exact HEnd.out
    · have q2 : ¬ (i : Int) < m := by omega
      clear HSl HO HB hb
      go_wp2_with fail
      go_ret
      exact HEnd.out
end Go.Proofs.Ytkicnjbidbfajaa
