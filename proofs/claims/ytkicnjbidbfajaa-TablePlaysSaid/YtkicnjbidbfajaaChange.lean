/- Changes out of wild ones. -/
import Derived.Test.YtkicnjbidbfajaaAwake09
namespace Go.Proofs.Ytkicnjbidbfajaa
open Go.ChangeShapes Go.WideShapes Go.ChangeAt Go.RowKit
set_option linter.unusedVariables false
set_option linter.unusedSimpArgs false
theorem cut_any (s : ByteArray) (n : Nat) (w : World) (hs : s.size ≤ maxLen) (hn : n ≤ 1000) : Calls Try.prog 39 #[.string s, .int .i64 n] w fun e w' => (∃ y, e = .returned (.string y)) ∧ w' = w := by
  unfold maxLen at hs
  go_enter Try.func39, Try.ntmps39
  go_wp2_with fail
  all_goals (go_ret; exact ⟨⟨_, rfl⟩, rfl⟩)
/-- in which the change ahead, and the result's place, lie -/
def ChS (b : Nat) (cs : Array Value) (w0 w : World) : Prop := Blk w b 65 cs ∧ Blk w (b + 1) 65 #[.int .i64 0, .int .i64 0, .bool false, .string ⟨#[]⟩] ∧ Below b w0 w
theorem chs_keeps {b : Nat} {cs : Array Value} {w0 w w' : World} (h : ChS b cs w0 w) (hb : Below (b + 2) w w') : ChS b cs w0 w' := ⟨(hb.block b (by omega)).trans h.1, (hb.block (b + 1) (by omega)).trans h.2.1, h.2.2.trans (hb.mono (by omega))⟩
set_option maxRecDepth 100000 in
set_option maxHeartbeats 1000000 in
theorem change_any (c : Cg) (n : Nat) (w : World) (hn : 1 ≤ n) (hn2 : n ≤ 8) (hs : c.vl.size ≤ maxLen) :
    Calls Try.prog 54 #[.agg #[.int .i64 c.tb, .int .i64 c.ky, .bool c.gn, .string c.vl], .int .i64 n] w fun e w' => ∃ c' : Cg, e = .returned (cgV c') ∧ (0 ≤ c'.tb ∧ c'.tb < n) ∧ Below w.heap.size w w' := by
  obtain ⟨tb, ky, gn, vl⟩ := c
  have hb0 : Below w.heap.size w ((w.alloc (.cells #[.int .i64 tb, .int .i64 ky, .bool gn, .string vl] 65)).alloc (.cells #[.int .i64 0, .int .i64 0, .bool false, .string ⟨#[]⟩] 65)) := ((Below.refl _ _).alloc (Nat.le_refl _) _).alloc (by simp) _
  have HB0 := Lib.hid hb0
  have m1 := bigS_bd tb n (by omega)
  have m2 := bigS_bd ky 12 (by decide)
  have m3 := bigS_bd ky 31 (by decide)
  have u12 : IntKind.i64.wrap (1 + bigS ky 12) = 1 + bigS ky 12 := IntWalk.i64_in _ (by omega)
  have m4 := bigS_bd ky 1099511627776 (by decide)
  have hX0 := heap_alloc_new w (.cells #[.int .i64 tb, .int .i64 ky, .bool gn, .string vl] 65)
  have hX1 := heap_alloc_new (w.alloc (.cells #[.int .i64 tb, .int .i64 ky, .bool gn, .string vl] 65)) (.cells #[.int .i64 0, .int .i64 0, .bool false, .string ⟨#[]⟩] 65)
  have hX2 := (Below.heap_alloc (w.alloc (.cells #[.int .i64 tb, .int .i64 ky, .bool gn, .string vl] 65)) (.cells #[.int .i64 0, .int .i64 0, .bool false, .string ⟨#[]⟩] 65) w.heap.size (by simp)).trans hX0
  have HX1 := Lib.hid hX1
  have HX2 := Lib.hid hX2
  have HSs := Lib.hid hs
  clear hb0 hX0 hX1 hX2 hs
  go_enter Try.func54, Try.ntmps54
  go_upto_region 1 with fail
  have hsz : ((w.alloc (.cells #[.int .i64 tb, .int .i64 ky, .bool gn, .string vl] 65)).alloc (.cells #[.int .i64 0, .int .i64 0, .bool false, .string ⟨#[]⟩] 65)).heap.size = w.heap.size + 2 := by simp
  have hsz1 : (w.alloc (.cells #[.int .i64 tb, .int .i64 ky, .bool gn, .string vl] 65)).heap.size = w.heap.size + 1 := by simp
  rw [hsz1] at HX1
  clear hsz1
  generalize World.alloc (World.alloc w _) _ = W at *
  obtain ⟨b, hb⟩ : ∃ b, w.heap.size = b := ⟨_, rfl⟩
  rw [hb] at HX1 HX2 HB0 hsz ⊢
  have HBs := Lib.hid hb
  clear hb
  have hS0 : ChS b #[.int .i64 tb, .int .i64 ky, .bool gn, .string vl] w W.drew := ⟨HX2.out, HX1.out, Below.drew HB0.out⟩
  have hne : Nonempty (WIn (ChS b #[.int .i64 tb, .int .i64 ky, .bool gn, .string vl] w)) := ⟨⟨_, hS0⟩⟩
  have z0 : ∀ y : WIn (ChS b #[.int .i64 tb, .int .i64 ky, .bool gn, .string vl] w), y.w.cell? ⟨b, 0, none⟩ = some (.int .i64 tb) := fun y => y.ok.1.cell 0
  have z1 : ∀ y : WIn (ChS b #[.int .i64 tb, .int .i64 ky, .bool gn, .string vl] w), y.w.cell? ⟨b, 1, none⟩ = some (.int .i64 ky) := fun y => y.ok.1.cell 1
  have z2 : ∀ y : WIn (ChS b #[.int .i64 tb, .int .i64 ky, .bool gn, .string vl] w), y.w.cell? ⟨b, 2, none⟩ = some (.bool gn) := fun y => y.ok.1.cell 2
  have HS0 := Lib.hid hS0
  clear hS0
  refine wp_region_noPanic ?_
  refine wp_region_held_drew (S := fun w' => ChS b #[.int .i64 tb, .int .i64 ky, .bool gn, .string vl] w w') (by kernel_rfl) HS0.out (fun hHeld => ?_)
  (refine takeE (i := 0) rfl (by kernel_rfl) (by kernel_rfl) (by kernel_rfl) (fun _ _ _ _ h => h) hHeld (fun K hK => ?_); go_simp; refine hK _ ?_; clear hK K)
  (refine takeE (i := 1) rfl (by kernel_rfl) (by kernel_rfl) (by kernel_rfl) (fun _ _ _ _ h => h) hHeld (fun K hK => ?_); go_simp; refine hK _ ?_; clear hK K)
  (refine takeE (i := 2) rfl (by kernel_rfl) (by kernel_rfl) (by kernel_rfl) (fun _ _ _ _ h => h) hHeld (fun K hK => ?_); go_simp; refine hK _ ?_; clear hK K)
  (refine takeE (i := 3) rfl (by kernel_rfl) (by kernel_rfl) (by kernel_rfl) (fun _ _ _ _ h => h) hHeld (fun K hK => ?_); go_simp; apply Exists.intro; refine ⟨fun _ => ?_, hK _ ?_⟩; ((go_at_call 21; exact (mod_any _ _ _ (by omega) (by omega)).mono fun e w' ⟨he, hb⟩ => ⟨he, hb.symm⟩)); clear hK K)
  (refine takeE (i := 4) rfl (by kernel_rfl) (by kernel_rfl) (by kernel_rfl) (fun _ _ _ _ h => h) hHeld (fun K hK => ?_); go_simp; refine hK _ ?_; clear hK K)
  (refine takeE (i := 5) rfl (by kernel_rfl) (by kernel_rfl) (by kernel_rfl) (fun _ _ _ _ h => h) hHeld (fun K hK => ?_); go_simp; refine hK _ ?_; clear hK K)
  (refine takeE (i := 6) rfl (by kernel_rfl) (by kernel_rfl) (by kernel_rfl) (fun _ _ _ _ h => h) hHeld (fun K hK => ?_); go_simp; apply Exists.intro; refine ⟨fun _ => ?_, hK _ ?_⟩; ((go_at_call 50; exact (big_any _ _ _ (by omega) (by omega)).mono fun e w' ⟨he, hb⟩ => ⟨he, hb.symm⟩)); clear hK K)
  (refine takeE (i := 7) rfl (by kernel_rfl) (by kernel_rfl) (by kernel_rfl) (fun _ _ _ _ h => h) hHeld (fun K hK => ?_); go_simp; refine hK _ ?_; clear hK K)
  (refine takeE (i := 8) rfl (by kernel_rfl) (by kernel_rfl) (by kernel_rfl) (fun _ _ _ _ h => h) hHeld (fun K hK => ?_); go_simp; refine hK _ ?_; clear hK K)
  (refine takeE (i := 9) rfl (by kernel_rfl) (by kernel_rfl) (by kernel_rfl) (fun _ _ _ _ h => h) hHeld (fun K hK => ?_); go_simp; refine hK _ ?_; clear hK K)
  (refine takeE (i := 10) rfl (by kernel_rfl) (by kernel_rfl) (by kernel_rfl) (fun _ _ _ _ h => h) hHeld (fun K hK => ?_); go_simp; refine hK _ ?_; clear hK K)
  refine wpAnyH_ready (rs := [11]) (by kernel_rfl) (by simp) ?_
  refine AllReadyH.cons rfl (fun K hK => ?_) AllReadyH.nil
  go_simp
  have hS2 : ChS b #[.int .i64 tb, .int .i64 ky, .bool gn, .string vl] w (W.alloc (.cells #[.int .i64 0, .int .i64 0, .bool false, .string ⟨#[]⟩] 65)).drew := chs_keeps hHeld ⟨rfl, rfl, rfl, by simp, fun k hk => Below.heap_alloc W _ k (by omega)⟩
  have hX5 : Blk (W.alloc (.cells #[.int .i64 0, .int .i64 0, .bool false, .string ⟨#[]⟩] 65)).drew (b + 2) 65 #[.int .i64 0, .int .i64 0, .bool false, .string ⟨#[]⟩] := by rw [← hsz]; exact heap_alloc_new W _
  refine hK.out _ _ hS2 (fun hHeld => ?_)
  clear hK K hS2
  try simp only [List.getElem_toArray, List.getElem_cons_succ, List.getElem_cons_zero, Act.put, List.setIfInBounds_toArray, List.set_cons_zero, List.set_cons_succ]
  generalize World.drew (World.alloc W _) = W5 at *
  have x0 := hX5.cell 0
  have x1 := hX5.cell 1
  have x2 := hX5.cell 2
  have x3 := hX5.cell 3
  simp at x0 x1 x2 x3
  have fz := fun j => hX5.frozen j
  refine wpAnyH_ready (rs := [12]) (by kernel_rfl) (by simp) ?_
  refine AllReadyH.cons rfl (fun K hK => ?_) AllReadyH.nil
  go_simp
  have hX6 := (((hX5.set_ 0 (.int .i64 (bigS tb n))).set_ 1 (.int .i64 (1 + bigS ky 12))).set_ 2 (.bool gn)).set_ 3 (.string ⟨#[]⟩)
  have hB6 : Below (b + 2) W5 ((((W5.setCell ⟨b + 2, 0, none⟩ (.int .i64 (bigS tb n))).setCell ⟨b + 2, 1, none⟩ (.int .i64 (1 + bigS ky 12))).setCell ⟨b + 2, 2, none⟩ (.bool gn)).setCell ⟨b + 2, 3, none⟩ (.string ⟨#[]⟩)) :=
    ((((Below.refl (b + 2) W5).setCell (p := ⟨b + 2, 0, none⟩) (Nat.le_refl _) _).setCell (p := ⟨b + 2, 1, none⟩) (Nat.le_refl _) _).setCell (p := ⟨b + 2, 2, none⟩) (Nat.le_refl _) _).setCell (p := ⟨b + 2, 3, none⟩) (Nat.le_refl _) _
  refine hK.out _ _ (chs_keeps hHeld hB6) (fun hHeld => ?_)
  have HX6 : Hid (Blk ((((W5.setCell ⟨b + 2, 0, none⟩ (.int .i64 (bigS tb n))).setCell ⟨b + 2, 1, none⟩ (.int .i64 (1 + bigS ky 12))).setCell ⟨b + 2, 2, none⟩ (.bool gn)).setCell ⟨b + 2, 3, none⟩ (.string ⟨#[]⟩)) (b + 2) 65 #[.int .i64 (bigS tb n), .int .i64 (1 + bigS ky 12), .bool gn, .string ⟨#[]⟩]) := Lib.hid hX6
  clear hK K hX5 hX6 hB6 x0 x1 x2 x3 fz
  generalize World.setCell _ ⟨b + 2, 3, none⟩ _ = W6 at *
  refine wpAnyH_done (by kernel_rfl) ?_ _
  refine NoPanic.normal ?_
  have HS6 := Lib.hid hHeld
  clear hHeld z0 z1 z2 hne HS0
  have y0 := HS6.out.1.cell 0
  have y1 := HS6.out.1.cell 1
  have y2 := HS6.out.1.cell 2
  have y3 := HS6.out.1.cell 3
  simp at y0 y1 y2 y3
  go_upto_if 20 with (go_at_call 50; refine (big_any _ _ _ (by omega) (by omega)).mono ?_; rintro e w' ⟨rfl, rfl⟩)
  have m5 : IntKind.i64.wrap (1 + bigS ky 1099511627776) = 1 + bigS ky 1099511627776 := IntWalk.i64_in _ (by omega)
  go_cut [] (fun wx => ∃ key : Int, Blk wx (b + 2) 65 #[.int .i64 (bigS tb n), .int .i64 key, .bool gn, .string ⟨#[]⟩] ∧ ChS b #[.int .i64 tb, .int .i64 ky, .bool gn, .string vl] w wx)
  case first =>
    by_cases h30 : bigS ky 31 = 30
    · have g1 : (bigS ky 31 == 30) = true := beq_iff_eq.2 h30
      have x1 := HX6.out.cell 1
      simp at x1
      have fz := fun j => HX6.out.frozen j
      have hF := Lib.hid (show Blk (W6.setCell ⟨b + 2, 1, none⟩ (.int .i64 (1 + bigS ky 1099511627776))) (b + 2) 65 #[.int .i64 (bigS tb n), .int .i64 (1 + bigS ky 1099511627776), .bool gn, .string ⟨#[]⟩] ∧ ChS b #[.int .i64 tb, .int .i64 ky, .bool gn, .string vl] w (W6.setCell ⟨b + 2, 1, none⟩ (.int .i64 (1 + bigS ky 1099511627776))) from ⟨HX6.out.set_ 1 _, chs_keeps HS6.out ((Below.refl (b + 2) W6).setCell (p := ⟨b + 2, 1, none⟩) (Nat.le_refl _) _)⟩)
      clear h30
      go_wp2_with (go_at_call 50; refine (big_any _ _ _ (by omega) (by omega)).mono ?_; rintro e w' ⟨rfl, rfl⟩)
      go_meet
      case rel => exact ⟨_, hF.out⟩
    · have g1 : (bigS ky 31 == 30) = false := beq_eq_false_iff_ne.2 h30
      clear h30
      go_wp2_with fail
      go_meet
      case rel => exact ⟨_, HX6.out, HS6.out⟩
  case rest =>
    clear HX6 HS6 y0 y1 y2 y3
    obtain ⟨key, hX, hS⟩ := hcut
    have HX7 := Lib.hid hX
    have HS7 := Lib.hid hS
    have y2 := hS.1.cell 2
    have y3 := hS.1.cell 3
    simp at y2 y3
    clear hX hS
    go_upto_if 28 with fail
    go_cut [] (fun wx => ∃ vv : ByteArray, Blk wx (b + 2) 65 #[.int .i64 (bigS tb n), .int .i64 key, .bool gn, .string vv] ∧ ChS b #[.int .i64 tb, .int .i64 ky, .bool gn, .string vl] w wx)
    case first =>
      cases gn with
      | true =>
        go_wp2_with fail
        go_meet
        case rel => exact ⟨_, HX7.out, HS7.out⟩
      | false =>
        have x3 := HX7.out.cell 3
        simp at x3
        have fz := fun j => HX7.out.frozen j
        have HXs := Lib.hid (fun vv => (show Blk (wc.setCell ⟨b + 2, 3, none⟩ (.string vv)) (b + 2) 65 #[.int .i64 (bigS tb n), .int .i64 key, .bool false, .string vv] ∧ ChS b #[.int .i64 tb, .int .i64 ky, .bool false, .string vl] w (wc.setCell ⟨b + 2, 3, none⟩ (.string vv)) from ⟨HX7.out.set_ 3 _, chs_keeps HS7.out ((Below.refl (b + 2) _).setCell (p := ⟨b + 2, 3, none⟩) (Nat.le_refl _) _)⟩))
        go_wp2_with fail
        refine (cut_any vl 32 _ HSs.out (by omega)).mono ?_
        rintro e w8 ⟨⟨vv, rfl⟩, rfl⟩
        have HF := Lib.hid (HXs.out vv)
        clear HXs
        go_wp2_with fail
        go_meet
        case rel => exact ⟨vv, HF.out⟩
    case rest =>
      clear HX7 HS7 y2 y3
      obtain ⟨vv, hX, hS⟩ := hcut
      have x0 := hX.cell 0
      have x1 := hX.cell 1
      have x2 := hX.cell 2
      have x3 := hX.cell 3
      have v0 := hS.2.1.cell 0
      have v1 := hS.2.1.cell 1
      have v2 := hS.2.1.cell 2
      have v3 := hS.2.1.cell 3
      simp at x0 x1 x2 x3 v0 v1 v2 v3
      have fz := fun j => hS.2.1.frozen j
      have HE := Lib.hid ((((hS.2.1.set_ 0 (.int .i64 (bigS tb n))).set_ 1 (.int .i64 key)).set_ 2 (.bool gn)).set_ 3 (.string vv))
      have HB := Lib.hid ((((hS.2.2.setCell (p := ⟨b + 1, 0, none⟩) (by show b ≤ b + 1; omega) (.int .i64 (bigS tb n))).setCell (p := ⟨b + 1, 1, none⟩) (by show b ≤ b + 1; omega) (.int .i64 key)).setCell (p := ⟨b + 1, 2, none⟩) (by show b ≤ b + 1; omega) (.bool gn)).setCell (p := ⟨b + 1, 3, none⟩) (by show b ≤ b + 1; omega) (.string vv))
      clear hX hS
      go_wp2_with fail
      exact bodyPost_ret (results_cell_row rfl _ _ (b + 1) 65 _ (0, 0) _ rfl HE.out Try.underlying65 rfl (by kernel_rfl)) rfl ⟨⟨bigS tb n, key, gn, vv⟩, rfl, ⟨by show 0 ≤ bigS tb n; omega, by show bigS tb n < n; omega⟩, by rw [HBs.out]; exact HB.out⟩
end Go.Proofs.Ytkicnjbidbfajaa
