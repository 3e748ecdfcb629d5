/- Package drr: whose turn it is, where there is somebody. -/
import Derived.Test.YtgfcfpoebmlppaaDrrNext
namespace Go.Proofs.Ytgfcfpoebmlppaa
open Go.ChangeShapes Go.WideShapes Go.ChangeAt Go.RowKit
set_option linter.unusedVariables false
set_option linter.unusedSimpArgs false
set_option maxRecDepth 100000 in
set_option maxHeartbeats 2000000 in
theorem next_e (p : Nat) (v : Value) (l : List Mem) (at_ : Nat) (left : Int) (w : World) (h : drrAt w p v l at_ true left) (hn : l.length ≤ 200) (hat : at_ ≤ 200) (hl : (left == 0) = false) (hlb : 0 ≤ left ∧ left ≤ 8) (ha : at_ < l.length) (hi : at_ < l.length) (hw : 1 ≤ l[at_].1 ∧ l[at_].1 ≤ 8) :
    Calls Try.prog 11 #[.pointer (some ⟨p, 0, none⟩)] w fun e w' => e = .returned (.tuple #[.int .i64 l[at_].2, .bool true]) ∧ drrAt w' p v l at_ true (left - 1) ∧ Keeps (· = p) w w' := by
  obtain ⟨g, off, cap, rfl, hnc, hcm, hg, hcell, _⟩ := h.2.1.at_ (by omega)
  unfold maxLen at hcm
  have x0 := hcell _ _ (memCells_at l at_ hi).1
  have x1 := hcell _ _ (memCells_at l at_ hi).2
  have c0 := h.1.cell 0
  have c1 := h.1.cell 1
  have c2 := h.1.cell 2
  have c3 := h.1.cell 3
  simp at c0 c1 c2 c3
  have fz := fun i => h.1.frozen i
  have hgp : g ≠ p := fun e => h.2.2.1 (by simp [Value.ownBlock, e])
  have hpl := h.1.lt
  have hz : ((l.length : Int) == 0) = false := beq_eq_false_iff_ne.2 (by omega)
  have H := Lib.hid h
  clear h hcell
  generalize l[at_].1 = wt at *
  generalize l[at_].2 = id at *
  have hb1 : (0 : Int) ≤ at_ := by omega
  go_enter Try.func11, Try.ntmps11
  go_wp2_with fail
  have hB : Blk (w.setCell ⟨p, 3, none⟩ (.int .i64 (left - 1))) p 49 #[.slice (some ⟨g, off, none⟩) l.length cap, .int .i64 at_, .bool true, .int .i64 (left - 1)] := H.out.1.set_ 3 _
  have hK : Keeps (· = p) w (w.setCell ⟨p, 3, none⟩ (.int .i64 (left - 1))) := (Keeps.refl (· = p) w).setCell (p := ⟨p, 3, none⟩) rfl _
  have hE := H.out.own hK hB
  have y0 : World.cell? (w.setCell ⟨p, 3, none⟩ (.int .i64 (left - 1))) ⟨g, off + at_ * 2 + 1, none⟩ = some (.int .i64 id) := (World.cell?_of_block (hK.block g hg hgp)).trans x1
  have i0 : (0 : Int) ≤ (at_ : Int) := by omega
  have i1 : (at_ : Int) < (l.length : Int) := by omega
  clear x0 x1 c0 c1 c2 c3 fz hl
  generalize World.setCell w _ _ = W at *
  have c0 := hB.cell 0
  have c1 := hB.cell 1
  simp at c0 c1
  have HE := Lib.hid hE
  have HK := Lib.hid hK
  clear hB hK hE
  go_quiet (fail)
  go_wp2_with fail
  go_ret2
  exact ⟨rfl, HE.out, HK.out.drewN _⟩
set_option maxRecDepth 100000 in
set_option maxHeartbeats 2000000 in
theorem next_a (p : Nat) (v : Value) (l : List Mem) (at_ : Nat) (w : World) (h : drrAt w p v l at_ true (0 : Int)) (hn : l.length ≤ 200) (hat : at_ ≤ 200) (ha : l.length ≤ at_ + 1) (hi : 0 < l.length) (hw : 1 ≤ l[0].1 ∧ l[0].1 ≤ 8) :
    Calls Try.prog 11 #[.pointer (some ⟨p, 0, none⟩)] w fun e w' => e = .returned (.tuple #[.int .i64 l[0].2, .bool true]) ∧ drrAt w' p v l 0 true (l[0].1 - 1) ∧ Keeps (· = p) w w' := by
  obtain ⟨g, off, cap, rfl, hnc, hcm, hg, hcell, _⟩ := h.2.1.at_ (by omega)
  unfold maxLen at hcm
  have x0 := hcell _ _ (memCells_at l 0 hi).1
  have x1 := hcell _ _ (memCells_at l 0 hi).2
  have c0 := h.1.cell 0
  have c1 := h.1.cell 1
  have c2 := h.1.cell 2
  have c3 := h.1.cell 3
  simp at c0 c1 c2 c3
  have fz := fun i => h.1.frozen i
  have hgp : g ≠ p := fun e => h.2.2.1 (by simp [Value.ownBlock, e])
  have hpl := h.1.lt
  have hz : ((l.length : Int) == 0) = false := beq_eq_false_iff_ne.2 (by omega)
  have H := Lib.hid h
  clear h hcell
  generalize l[0].1 = wt at *
  generalize l[0].2 = id at *
  have hb1 : (0 : Int) ≤ at_ := by omega
  go_enter Try.func11, Try.ntmps11
  go_wp2_with fail
  have hB : Blk ((w.setCell ⟨p, 1, none⟩ (.int .i64 ((at_ : Int) + 1))).setCell ⟨p, 2, none⟩ (.bool false)) p 49 #[.slice (some ⟨g, off, none⟩) l.length cap, .int .i64 ((at_ : Int) + 1), .bool false, .int .i64 (0 : Int)] := (H.out.1.set_ 1 _).set_ 2 _
  have hK : Keeps (· = p) w ((w.setCell ⟨p, 1, none⟩ (.int .i64 ((at_ : Int) + 1))).setCell ⟨p, 2, none⟩ (.bool false)) := ((Keeps.refl (· = p) w).setCell (p := ⟨p, 1, none⟩) rfl _).setCell (p := ⟨p, 2, none⟩) rfl _
  have y0 : World.cell? ((w.setCell ⟨p, 1, none⟩ (.int .i64 ((at_ : Int) + 1))).setCell ⟨p, 2, none⟩ (.bool false)) ⟨g, off + 0 * 2, none⟩ = some (.int .i64 wt) := (World.cell?_of_block (hK.block g hg hgp)).trans x0
  have y1 : World.cell? ((w.setCell ⟨p, 1, none⟩ (.int .i64 ((at_ : Int) + 1))).setCell ⟨p, 2, none⟩ (.bool false)) ⟨g, off + (0 * 2 + 1), none⟩ = some (.int .i64 id) := (World.cell?_of_block (hK.block g hg hgp)).trans x1
  clear x0 x1 c0 c1 c2 c3 fz
  obtain ⟨W, hW⟩ : ∃ W, ((w.setCell ⟨p, 1, none⟩ (.int .i64 ((at_ : Int) + 1))).setCell ⟨p, 2, none⟩ (.bool false)) = W := ⟨_, rfl⟩
  rw [hW] at hB hK y0 y1 ⊢
  clear hW
  have c0 := hB.cell 0
  have c1 := hB.cell 1
  simp at c0 c1
  obtain ⟨o2, q2⟩ : ∃ u, W.cell? ⟨p, 2, none⟩ = some u := ⟨_, hB.cell 2⟩
  obtain ⟨o3, q3⟩ : ∃ u, W.cell? ⟨p, 3, none⟩ = some u := ⟨_, hB.cell 3⟩
  have fz := fun i => hB.frozen i
  have hpl2 := hB.lt
  have HB := Lib.hid hB
  have HK := Lib.hid hK
  clear hB hK
  have hle : decide ((l.length : Int) ≤ ((at_ : Int) + 1)) = true := decide_eq_true (by omega)
  go_quiet (fail)
  go_upto_region 9 with fail
  have hB : Blk ((W.drewN nq).setCell ⟨p, 1, none⟩ (.int .i64 0)) p 49 #[.slice (some ⟨g, off, none⟩) l.length cap, .int .i64 (0 : Int), .bool false, .int .i64 (0 : Int)] := HB.out.drewN nq |>.set_ 1 _
  have hK : Keeps (· = p) w ((W.drewN nq).setCell ⟨p, 1, none⟩ (.int .i64 0)) := (HK.out.drewN nq).setCell (p := ⟨p, 1, none⟩) rfl _
  have z0 : World.cell? ((W.drewN nq).setCell ⟨p, 1, none⟩ (.int .i64 0)) ⟨g, off, none⟩ = some (.int .i64 wt) := (World.cell?_of_block (hK.block g hg hgp)).trans ((World.cell?_of_block (HK.out.block g hg hgp)).symm.trans (by simpa using y0))
  have z1 : World.cell? ((W.drewN nq).setCell ⟨p, 1, none⟩ (.int .i64 0)) ⟨g, off + 1, none⟩ = some (.int .i64 id) := (World.cell?_of_block (hK.block g hg hgp)).trans ((World.cell?_of_block (HK.out.block g hg hgp)).symm.trans (by simpa [Nat.add_assoc] using y1))
  clear y0 y1 c0 c1 q2 q3 o2 o3 fz HB HK hpl2 hle
  obtain ⟨X, hX⟩ : ∃ X, ((W.drewN nq).setCell ⟨p, 1, none⟩ (.int .i64 0)) = X := ⟨_, rfl⟩
  rw [hX] at hB hK z0 z1 ⊢
  clear hX
  have c0 := hB.cell 0
  have c1 := hB.cell 1
  simp at c0 c1
  obtain ⟨o2, q2⟩ : ∃ u, X.cell? ⟨p, 2, none⟩ = some u := ⟨_, hB.cell 2⟩
  obtain ⟨o3, q3⟩ : ∃ u, X.cell? ⟨p, 3, none⟩ = some u := ⟨_, hB.cell 3⟩
  have fz := fun i => hB.frozen i
  have hpl2 := hB.lt
  have hpg : p ≠ g := Ne.symm hgp
  have i0 : (0 : Int) ≤ (0 : Int) := by omega
  have i1 : (0 : Int) < (l.length : Int) := by omega
  skip
  have HB := Lib.hid hB
  have HK := Lib.hid hK
  clear hB hK
  go_cut [] (fun wx => Blk wx p 49 #[.slice (some ⟨g, off, none⟩) l.length cap, .int .i64 (0 : Int), .bool true, .int .i64 wt] ∧ Keeps (· = p) w wx)
  case first =>
    go_region_held3 (fun w' => w'.cell? ⟨p, 0, none⟩ = some (.slice (some ⟨g, off, none⟩) l.length cap) ∧ w'.cell? ⟨p, 1, none⟩ = some (.int .i64 (0 : Int)) ∧ w'.cell? ⟨g, off, none⟩ = some (.int .i64 wt)) (refine ⟨?_, ?_, ?_⟩ <;> simp [*, World.cell?_setCell_other, World.cell?_setCell_far]) (fail)
    go_wp2_with fail
    go_meet
    case rel => exact ⟨(HB.out.set_ 2 _).set_ 3 _, (HK.out.setCell (p := ⟨p, 2, none⟩) rfl _).setCell (p := ⟨p, 3, none⟩) rfl _ |>.drew⟩
  case rest =>
    obtain ⟨hB, hK⟩ := hcut
    have y1 : wc.cell? ⟨g, off + 1, none⟩ = some (.int .i64 id) := (World.cell?_of_block (hK.block g hg hgp)).trans ((World.cell?_of_block (HK.out.block g hg hgp)).symm.trans z1)
    clear c0 c1 q2 q3 o2 o3 fz HB HK hpl2 z0 z1
    have c0 := hB.cell 0
    have c1 := hB.cell 1
    have c3 := hB.cell 3
    simp at c0 c1 c3
    have fz := fun i => hB.frozen i
    have HB := Lib.hid (show Blk (wc.setCell ⟨p, 3, none⟩ (.int .i64 (wt - 1))) p 49 #[.slice (some ⟨g, off, none⟩) l.length cap, .int .i64 (0 : Int), .bool true, .int .i64 (wt - 1)] from hB.set_ 3 _)
    have HK := Lib.hid (show Keeps (· = p) w (wc.setCell ⟨p, 3, none⟩ (.int .i64 (wt - 1))) from hK.setCell (p := ⟨p, 3, none⟩) rfl _)
    clear hB hK
    go_upto_region 11 with fail
    go_quiet (fail)
    go_wp2_with fail
    go_ret2
    exact ⟨rfl, H.out.own (HK.out.drewN _) (HB.out.drewN _), HK.out.drewN _⟩
set_option maxRecDepth 100000 in
set_option maxHeartbeats 2000000 in
theorem next_b (p : Nat) (v : Value) (l : List Mem) (at_ : Nat) (w : World) (h : drrAt w p v l at_ true (0 : Int)) (hn : l.length ≤ 200) (hat : at_ ≤ 200) (ha : at_ + 1 < l.length) (hi : (at_ + 1) < l.length) (hw : 1 ≤ l[(at_ + 1)].1 ∧ l[(at_ + 1)].1 ≤ 8) :
    Calls Try.prog 11 #[.pointer (some ⟨p, 0, none⟩)] w fun e w' => e = .returned (.tuple #[.int .i64 l[(at_ + 1)].2, .bool true]) ∧ drrAt w' p v l (at_ + 1) true (l[at_ + 1].1 - 1) ∧ Keeps (· = p) w w' := by
  obtain ⟨g, off, cap, rfl, hnc, hcm, hg, hcell, _⟩ := h.2.1.at_ (by omega)
  unfold maxLen at hcm
  have x0 := hcell _ _ (memCells_at l (at_ + 1) hi).1
  have x1 := hcell _ _ (memCells_at l (at_ + 1) hi).2
  have c0 := h.1.cell 0
  have c1 := h.1.cell 1
  have c2 := h.1.cell 2
  have c3 := h.1.cell 3
  simp at c0 c1 c2 c3
  have fz := fun i => h.1.frozen i
  have hgp : g ≠ p := fun e => h.2.2.1 (by simp [Value.ownBlock, e])
  have hpl := h.1.lt
  have hz : ((l.length : Int) == 0) = false := beq_eq_false_iff_ne.2 (by omega)
  have H := Lib.hid h
  clear h hcell
  generalize l[(at_ + 1)].1 = wt at *
  generalize l[(at_ + 1)].2 = id at *
  have hb1 : (0 : Int) ≤ at_ := by omega
  go_enter Try.func11, Try.ntmps11
  go_wp2_with fail
  have hB : Blk ((w.setCell ⟨p, 1, none⟩ (.int .i64 ((at_ : Int) + 1))).setCell ⟨p, 2, none⟩ (.bool false)) p 49 #[.slice (some ⟨g, off, none⟩) l.length cap, .int .i64 ((at_ : Int) + 1), .bool false, .int .i64 (0 : Int)] := (H.out.1.set_ 1 _).set_ 2 _
  have hK : Keeps (· = p) w ((w.setCell ⟨p, 1, none⟩ (.int .i64 ((at_ : Int) + 1))).setCell ⟨p, 2, none⟩ (.bool false)) := ((Keeps.refl (· = p) w).setCell (p := ⟨p, 1, none⟩) rfl _).setCell (p := ⟨p, 2, none⟩) rfl _
  have y0 : World.cell? ((w.setCell ⟨p, 1, none⟩ (.int .i64 ((at_ : Int) + 1))).setCell ⟨p, 2, none⟩ (.bool false)) ⟨g, off + (at_ + 1) * 2, none⟩ = some (.int .i64 wt) := (World.cell?_of_block (hK.block g hg hgp)).trans x0
  have y1 : World.cell? ((w.setCell ⟨p, 1, none⟩ (.int .i64 ((at_ : Int) + 1))).setCell ⟨p, 2, none⟩ (.bool false)) ⟨g, off + ((at_ + 1) * 2 + 1), none⟩ = some (.int .i64 id) := (World.cell?_of_block (hK.block g hg hgp)).trans x1
  clear x0 x1 c0 c1 c2 c3 fz
  obtain ⟨W, hW⟩ : ∃ W, ((w.setCell ⟨p, 1, none⟩ (.int .i64 ((at_ : Int) + 1))).setCell ⟨p, 2, none⟩ (.bool false)) = W := ⟨_, rfl⟩
  rw [hW] at hB hK y0 y1 ⊢
  clear hW
  have c0 := hB.cell 0
  have c1 := hB.cell 1
  simp at c0 c1
  obtain ⟨o2, q2⟩ : ∃ u, W.cell? ⟨p, 2, none⟩ = some u := ⟨_, hB.cell 2⟩
  obtain ⟨o3, q3⟩ : ∃ u, W.cell? ⟨p, 3, none⟩ = some u := ⟨_, hB.cell 3⟩
  have fz := fun i => hB.frozen i
  have hpl2 := hB.lt
  have HB := Lib.hid hB
  have HK := Lib.hid hK
  clear hB hK
  have hle : decide ((l.length : Int) ≤ ((at_ : Int) + 1)) = false := decide_eq_false (by omega)
  go_quiet (fail)
  go_upto_region 9 with fail
  have hB : Blk (W.drewN nq) p 49 #[.slice (some ⟨g, off, none⟩) l.length cap, .int .i64 ((at_ : Int) + 1), .bool false, .int .i64 (0 : Int)] := HB.out.drewN nq
  have hK : Keeps (· = p) w (W.drewN nq) := HK.out.drewN nq
  have z0 : World.cell? (W.drewN nq) ⟨g, off + (at_ + 1) * 2, none⟩ = some (.int .i64 wt) := (World.cell?_of_block (hK.block g hg hgp)).trans ((World.cell?_of_block (HK.out.block g hg hgp)).symm.trans (by simpa using y0))
  have z1 : World.cell? (W.drewN nq) ⟨g, off + (at_ + 1) * 2 + 1, none⟩ = some (.int .i64 id) := (World.cell?_of_block (hK.block g hg hgp)).trans ((World.cell?_of_block (HK.out.block g hg hgp)).symm.trans (by simpa [Nat.add_assoc] using y1))
  clear y0 y1 c0 c1 q2 q3 o2 o3 fz HB HK hpl2 hle
  obtain ⟨X, hX⟩ : ∃ X, (W.drewN nq) = X := ⟨_, rfl⟩
  rw [hX] at hB hK z0 z1 ⊢
  clear hX
  have c0 := hB.cell 0
  have c1 := hB.cell 1
  simp at c0 c1
  obtain ⟨o2, q2⟩ : ∃ u, X.cell? ⟨p, 2, none⟩ = some u := ⟨_, hB.cell 2⟩
  obtain ⟨o3, q3⟩ : ∃ u, X.cell? ⟨p, 3, none⟩ = some u := ⟨_, hB.cell 3⟩
  have fz := fun i => hB.frozen i
  have hpl2 := hB.lt
  have hpg : p ≠ g := Ne.symm hgp
  have i0 : (0 : Int) ≤ ((at_ : Int) + 1) := by omega
  have i1 : ((at_ : Int) + 1) < (l.length : Int) := by omega
  have i2 : ((at_ : Int) + 1).toNat = at_ + 1 := by omega
  have HB := Lib.hid hB
  have HK := Lib.hid hK
  clear hB hK
  go_cut [] (fun wx => Blk wx p 49 #[.slice (some ⟨g, off, none⟩) l.length cap, .int .i64 ((at_ : Int) + 1), .bool true, .int .i64 wt] ∧ Keeps (· = p) w wx)
  case first =>
    go_region_held3 (fun w' => w'.cell? ⟨p, 0, none⟩ = some (.slice (some ⟨g, off, none⟩) l.length cap) ∧ w'.cell? ⟨p, 1, none⟩ = some (.int .i64 ((at_ : Int) + 1)) ∧ w'.cell? ⟨g, off + (at_ + 1) * 2, none⟩ = some (.int .i64 wt)) (refine ⟨?_, ?_, ?_⟩ <;> simp [*, World.cell?_setCell_other, World.cell?_setCell_far]) (fail)
    go_wp2_with fail
    go_meet
    case rel => exact ⟨(HB.out.set_ 2 _).set_ 3 _, (HK.out.setCell (p := ⟨p, 2, none⟩) rfl _).setCell (p := ⟨p, 3, none⟩) rfl _ |>.drew⟩
  case rest =>
    obtain ⟨hB, hK⟩ := hcut
    have y1 : wc.cell? ⟨g, off + (at_ + 1) * 2 + 1, none⟩ = some (.int .i64 id) := (World.cell?_of_block (hK.block g hg hgp)).trans ((World.cell?_of_block (HK.out.block g hg hgp)).symm.trans z1)
    clear c0 c1 q2 q3 o2 o3 fz HB HK hpl2 z0 z1
    have c0 := hB.cell 0
    have c1 := hB.cell 1
    have c3 := hB.cell 3
    simp at c0 c1 c3
    have fz := fun i => hB.frozen i
    have HB := Lib.hid (show Blk (wc.setCell ⟨p, 3, none⟩ (.int .i64 (wt - 1))) p 49 #[.slice (some ⟨g, off, none⟩) l.length cap, .int .i64 ((at_ : Int) + 1), .bool true, .int .i64 (wt - 1)] from hB.set_ 3 _)
    have HK := Lib.hid (show Keeps (· = p) w (wc.setCell ⟨p, 3, none⟩ (.int .i64 (wt - 1))) from hK.setCell (p := ⟨p, 3, none⟩) rfl _)
    clear hB hK
    go_upto_region 11 with fail
    go_quiet (fail)
    go_wp2_with fail
    go_ret2
    exact ⟨rfl, H.out.own (HK.out.drewN _) (HB.out.drewN _), HK.out.drewN _⟩
set_option maxRecDepth 100000 in
set_option maxHeartbeats 2000000 in
theorem next_c (p : Nat) (v : Value) (l : List Mem) (at_ : Nat) (left : Int) (w : World) (h : drrAt w p v l at_ false left) (hn : l.length ≤ 200) (hat : at_ ≤ 200) (ha : l.length ≤ at_) (hi : 0 < l.length) (hw : 1 ≤ l[0].1 ∧ l[0].1 ≤ 8) :
    Calls Try.prog 11 #[.pointer (some ⟨p, 0, none⟩)] w fun e w' => e = .returned (.tuple #[.int .i64 l[0].2, .bool true]) ∧ drrAt w' p v l 0 true (l[0].1 - 1) ∧ Keeps (· = p) w w' := by
  obtain ⟨g, off, cap, rfl, hnc, hcm, hg, hcell, _⟩ := h.2.1.at_ (by omega)
  unfold maxLen at hcm
  have x0 := hcell _ _ (memCells_at l 0 hi).1
  have x1 := hcell _ _ (memCells_at l 0 hi).2
  have c0 := h.1.cell 0
  have c1 := h.1.cell 1
  have c2 := h.1.cell 2
  have c3 := h.1.cell 3
  simp at c0 c1 c2 c3
  have fz := fun i => h.1.frozen i
  have hgp : g ≠ p := fun e => h.2.2.1 (by simp [Value.ownBlock, e])
  have hpl := h.1.lt
  have hz : ((l.length : Int) == 0) = false := beq_eq_false_iff_ne.2 (by omega)
  have H := Lib.hid h
  clear h hcell
  generalize l[0].1 = wt at *
  generalize l[0].2 = id at *
  have hb1 : (0 : Int) ≤ at_ := by omega
  go_enter Try.func11, Try.ntmps11
  go_wp2_with fail
  have hB : Blk w p 49 #[.slice (some ⟨g, off, none⟩) l.length cap, .int .i64 (at_ : Int), .bool false, .int .i64 left] := H.out.1
  have hK : Keeps (· = p) w w := Keeps.refl (· = p) w
  have y0 : World.cell? w ⟨g, off + 0 * 2, none⟩ = some (.int .i64 wt) := (World.cell?_of_block (hK.block g hg hgp)).trans x0
  have y1 : World.cell? w ⟨g, off + (0 * 2 + 1), none⟩ = some (.int .i64 id) := (World.cell?_of_block (hK.block g hg hgp)).trans x1
  clear x0 x1 c0 c1 c2 c3 fz
  skip
  have c0 := hB.cell 0
  have c1 := hB.cell 1
  simp at c0 c1
  obtain ⟨o2, q2⟩ : ∃ u, w.cell? ⟨p, 2, none⟩ = some u := ⟨_, hB.cell 2⟩
  obtain ⟨o3, q3⟩ : ∃ u, w.cell? ⟨p, 3, none⟩ = some u := ⟨_, hB.cell 3⟩
  have fz := fun i => hB.frozen i
  have hpl2 := hB.lt
  have HB := Lib.hid hB
  have HK := Lib.hid hK
  clear hB hK
  have hle : decide ((l.length : Int) ≤ (at_ : Int)) = true := decide_eq_true (by omega)
  go_quiet (fail)
  go_upto_region 9 with fail
  have hB : Blk ((w.drewN nq).setCell ⟨p, 1, none⟩ (.int .i64 0)) p 49 #[.slice (some ⟨g, off, none⟩) l.length cap, .int .i64 (0 : Int), .bool false, .int .i64 left] := HB.out.drewN nq |>.set_ 1 _
  have hK : Keeps (· = p) w ((w.drewN nq).setCell ⟨p, 1, none⟩ (.int .i64 0)) := (HK.out.drewN nq).setCell (p := ⟨p, 1, none⟩) rfl _
  have z0 : World.cell? ((w.drewN nq).setCell ⟨p, 1, none⟩ (.int .i64 0)) ⟨g, off, none⟩ = some (.int .i64 wt) := (World.cell?_of_block (hK.block g hg hgp)).trans ((World.cell?_of_block (HK.out.block g hg hgp)).symm.trans (by simpa using y0))
  have z1 : World.cell? ((w.drewN nq).setCell ⟨p, 1, none⟩ (.int .i64 0)) ⟨g, off + 1, none⟩ = some (.int .i64 id) := (World.cell?_of_block (hK.block g hg hgp)).trans ((World.cell?_of_block (HK.out.block g hg hgp)).symm.trans (by simpa [Nat.add_assoc] using y1))
  clear y0 y1 c0 c1 q2 q3 o2 o3 fz HB HK hpl2 hle
  obtain ⟨X, hX⟩ : ∃ X, ((w.drewN nq).setCell ⟨p, 1, none⟩ (.int .i64 0)) = X := ⟨_, rfl⟩
  rw [hX] at hB hK z0 z1 ⊢
  clear hX
  have c0 := hB.cell 0
  have c1 := hB.cell 1
  simp at c0 c1
  obtain ⟨o2, q2⟩ : ∃ u, X.cell? ⟨p, 2, none⟩ = some u := ⟨_, hB.cell 2⟩
  obtain ⟨o3, q3⟩ : ∃ u, X.cell? ⟨p, 3, none⟩ = some u := ⟨_, hB.cell 3⟩
  have fz := fun i => hB.frozen i
  have hpl2 := hB.lt
  have hpg : p ≠ g := Ne.symm hgp
  have i0 : (0 : Int) ≤ (0 : Int) := by omega
  have i1 : (0 : Int) < (l.length : Int) := by omega
  skip
  have HB := Lib.hid hB
  have HK := Lib.hid hK
  clear hB hK
  go_cut [] (fun wx => Blk wx p 49 #[.slice (some ⟨g, off, none⟩) l.length cap, .int .i64 (0 : Int), .bool true, .int .i64 wt] ∧ Keeps (· = p) w wx)
  case first =>
    go_region_held3 (fun w' => w'.cell? ⟨p, 0, none⟩ = some (.slice (some ⟨g, off, none⟩) l.length cap) ∧ w'.cell? ⟨p, 1, none⟩ = some (.int .i64 (0 : Int)) ∧ w'.cell? ⟨g, off, none⟩ = some (.int .i64 wt)) (refine ⟨?_, ?_, ?_⟩ <;> simp [*, World.cell?_setCell_other, World.cell?_setCell_far]) (fail)
    go_wp2_with fail
    go_meet
    case rel => exact ⟨(HB.out.set_ 2 _).set_ 3 _, (HK.out.setCell (p := ⟨p, 2, none⟩) rfl _).setCell (p := ⟨p, 3, none⟩) rfl _ |>.drew⟩
  case rest =>
    obtain ⟨hB, hK⟩ := hcut
    have y1 : wc.cell? ⟨g, off + 1, none⟩ = some (.int .i64 id) := (World.cell?_of_block (hK.block g hg hgp)).trans ((World.cell?_of_block (HK.out.block g hg hgp)).symm.trans z1)
    clear c0 c1 q2 q3 o2 o3 fz HB HK hpl2 z0 z1
    have c0 := hB.cell 0
    have c1 := hB.cell 1
    have c3 := hB.cell 3
    simp at c0 c1 c3
    have fz := fun i => hB.frozen i
    have HB := Lib.hid (show Blk (wc.setCell ⟨p, 3, none⟩ (.int .i64 (wt - 1))) p 49 #[.slice (some ⟨g, off, none⟩) l.length cap, .int .i64 (0 : Int), .bool true, .int .i64 (wt - 1)] from hB.set_ 3 _)
    have HK := Lib.hid (show Keeps (· = p) w (wc.setCell ⟨p, 3, none⟩ (.int .i64 (wt - 1))) from hK.setCell (p := ⟨p, 3, none⟩) rfl _)
    clear hB hK
    go_upto_region 11 with fail
    go_quiet (fail)
    go_wp2_with fail
    go_ret2
    exact ⟨rfl, H.out.own (HK.out.drewN _) (HB.out.drewN _), HK.out.drewN _⟩
set_option maxRecDepth 100000 in
set_option maxHeartbeats 2000000 in
theorem next_d (p : Nat) (v : Value) (l : List Mem) (at_ : Nat) (left : Int) (w : World) (h : drrAt w p v l at_ false left) (hn : l.length ≤ 200) (hat : at_ ≤ 200) (ha : at_ < l.length) (hi : at_ < l.length) (hw : 1 ≤ l[at_].1 ∧ l[at_].1 ≤ 8) :
    Calls Try.prog 11 #[.pointer (some ⟨p, 0, none⟩)] w fun e w' => e = .returned (.tuple #[.int .i64 l[at_].2, .bool true]) ∧ drrAt w' p v l at_ true (l[at_].1 - 1) ∧ Keeps (· = p) w w' := by
  obtain ⟨g, off, cap, rfl, hnc, hcm, hg, hcell, _⟩ := h.2.1.at_ (by omega)
  unfold maxLen at hcm
  have x0 := hcell _ _ (memCells_at l at_ hi).1
  have x1 := hcell _ _ (memCells_at l at_ hi).2
  have c0 := h.1.cell 0
  have c1 := h.1.cell 1
  have c2 := h.1.cell 2
  have c3 := h.1.cell 3
  simp at c0 c1 c2 c3
  have fz := fun i => h.1.frozen i
  have hgp : g ≠ p := fun e => h.2.2.1 (by simp [Value.ownBlock, e])
  have hpl := h.1.lt
  have hz : ((l.length : Int) == 0) = false := beq_eq_false_iff_ne.2 (by omega)
  have H := Lib.hid h
  clear h hcell
  generalize l[at_].1 = wt at *
  generalize l[at_].2 = id at *
  have hb1 : (0 : Int) ≤ at_ := by omega
  go_enter Try.func11, Try.ntmps11
  go_wp2_with fail
  have hB : Blk w p 49 #[.slice (some ⟨g, off, none⟩) l.length cap, .int .i64 (at_ : Int), .bool false, .int .i64 left] := H.out.1
  have hK : Keeps (· = p) w w := Keeps.refl (· = p) w
  have y0 : World.cell? w ⟨g, off + at_ * 2, none⟩ = some (.int .i64 wt) := (World.cell?_of_block (hK.block g hg hgp)).trans x0
  have y1 : World.cell? w ⟨g, off + (at_ * 2 + 1), none⟩ = some (.int .i64 id) := (World.cell?_of_block (hK.block g hg hgp)).trans x1
  clear x0 x1 c0 c1 c2 c3 fz
  skip
  have c0 := hB.cell 0
  have c1 := hB.cell 1
  simp at c0 c1
  obtain ⟨o2, q2⟩ : ∃ u, w.cell? ⟨p, 2, none⟩ = some u := ⟨_, hB.cell 2⟩
  obtain ⟨o3, q3⟩ : ∃ u, w.cell? ⟨p, 3, none⟩ = some u := ⟨_, hB.cell 3⟩
  have fz := fun i => hB.frozen i
  have hpl2 := hB.lt
  have HB := Lib.hid hB
  have HK := Lib.hid hK
  clear hB hK
  have hle : decide ((l.length : Int) ≤ (at_ : Int)) = false := decide_eq_false (by omega)
  go_quiet (fail)
  go_upto_region 9 with fail
  have hB : Blk (w.drewN nq) p 49 #[.slice (some ⟨g, off, none⟩) l.length cap, .int .i64 (at_ : Int), .bool false, .int .i64 left] := HB.out.drewN nq
  have hK : Keeps (· = p) w (w.drewN nq) := HK.out.drewN nq
  have z0 : World.cell? (w.drewN nq) ⟨g, off + at_ * 2, none⟩ = some (.int .i64 wt) := (World.cell?_of_block (hK.block g hg hgp)).trans ((World.cell?_of_block (HK.out.block g hg hgp)).symm.trans (by simpa using y0))
  have z1 : World.cell? (w.drewN nq) ⟨g, off + at_ * 2 + 1, none⟩ = some (.int .i64 id) := (World.cell?_of_block (hK.block g hg hgp)).trans ((World.cell?_of_block (HK.out.block g hg hgp)).symm.trans (by simpa [Nat.add_assoc] using y1))
  clear y0 y1 c0 c1 q2 q3 o2 o3 fz HB HK hpl2 hle
  obtain ⟨X, hX⟩ : ∃ X, (w.drewN nq) = X := ⟨_, rfl⟩
  rw [hX] at hB hK z0 z1 ⊢
  clear hX
  have c0 := hB.cell 0
  have c1 := hB.cell 1
  simp at c0 c1
  obtain ⟨o2, q2⟩ : ∃ u, X.cell? ⟨p, 2, none⟩ = some u := ⟨_, hB.cell 2⟩
  obtain ⟨o3, q3⟩ : ∃ u, X.cell? ⟨p, 3, none⟩ = some u := ⟨_, hB.cell 3⟩
  have fz := fun i => hB.frozen i
  have hpl2 := hB.lt
  have hpg : p ≠ g := Ne.symm hgp
  have i0 : (0 : Int) ≤ (at_ : Int) := by omega
  have i1 : (at_ : Int) < (l.length : Int) := by omega
  skip
  have HB := Lib.hid hB
  have HK := Lib.hid hK
  clear hB hK
  go_cut [] (fun wx => Blk wx p 49 #[.slice (some ⟨g, off, none⟩) l.length cap, .int .i64 (at_ : Int), .bool true, .int .i64 wt] ∧ Keeps (· = p) w wx)
  case first =>
    go_region_held3 (fun w' => w'.cell? ⟨p, 0, none⟩ = some (.slice (some ⟨g, off, none⟩) l.length cap) ∧ w'.cell? ⟨p, 1, none⟩ = some (.int .i64 (at_ : Int)) ∧ w'.cell? ⟨g, off + at_ * 2, none⟩ = some (.int .i64 wt)) (refine ⟨?_, ?_, ?_⟩ <;> simp [*, World.cell?_setCell_other, World.cell?_setCell_far]) (fail)
    go_wp2_with fail
    go_meet
    case rel => exact ⟨(HB.out.set_ 2 _).set_ 3 _, (HK.out.setCell (p := ⟨p, 2, none⟩) rfl _).setCell (p := ⟨p, 3, none⟩) rfl _ |>.drew⟩
  case rest =>
    obtain ⟨hB, hK⟩ := hcut
    have y1 : wc.cell? ⟨g, off + at_ * 2 + 1, none⟩ = some (.int .i64 id) := (World.cell?_of_block (hK.block g hg hgp)).trans ((World.cell?_of_block (HK.out.block g hg hgp)).symm.trans z1)
    clear c0 c1 q2 q3 o2 o3 fz HB HK hpl2 z0 z1
    have c0 := hB.cell 0
    have c1 := hB.cell 1
    have c3 := hB.cell 3
    simp at c0 c1 c3
    have fz := fun i => hB.frozen i
    have HB := Lib.hid (show Blk (wc.setCell ⟨p, 3, none⟩ (.int .i64 (wt - 1))) p 49 #[.slice (some ⟨g, off, none⟩) l.length cap, .int .i64 (at_ : Int), .bool true, .int .i64 (wt - 1)] from hB.set_ 3 _)
    have HK := Lib.hid (show Keeps (· = p) w (wc.setCell ⟨p, 3, none⟩ (.int .i64 (wt - 1))) from hK.setCell (p := ⟨p, 3, none⟩) rfl _)
    clear hB hK
    go_upto_region 11 with fail
    go_quiet (fail)
    go_wp2_with fail
    go_ret2
    exact ⟨rfl, H.out.own (HK.out.drewN _) (HB.out.drewN _), HK.out.drewN _⟩
/-- a row that may be: members of weights from 1 to 8, the turn's place and what is left -/
def Fine (l : List Mem) (at_ : Nat) (turn : Bool) (left : Int) : Prop := l.length ≤ 200 ∧ at_ ≤ l.length ∧ (∀ m ∈ l, 1 ≤ m.1 ∧ m.1 ≤ 8) ∧ (turn = true → at_ < l.length ∧ 0 ≤ left ∧ left ≤ 8)
def nextAt (n at_ : Nat) (turn : Bool) (left : Int) : Nat := if turn then (if left = 0 then (if n ≤ at_ + 1 then 0 else at_ + 1) else at_) else if n ≤ at_ then 0 else at_
def nextLeft (l : List Mem) (at_ : Nat) (turn : Bool) (left : Int) : Int := if turn && !decide (left = 0) then left - 1 else (l.getD (nextAt l.length at_ turn left) (0, 0)).1 - 1
def nextId (l : List Mem) (at_ : Nat) (turn : Bool) (left : Int) : Int := (l.getD (nextAt l.length at_ turn left) (0, 0)).2
theorem next_any (p : Nat) (v : Value) (l : List Mem) (at_ : Nat) (turn : Bool) (left : Int) (w : World) (h : drrAt w p v l at_ turn left) (hf : Fine l at_ turn left) (hn : 0 < l.length) :
    Calls Try.prog 11 #[.pointer (some ⟨p, 0, none⟩)] w fun e w' => e = .returned (.tuple #[.int .i64 (nextId l at_ turn left), .bool true]) ∧ drrAt w' p v l (nextAt l.length at_ turn left) true (nextLeft l at_ turn left) ∧ Keeps (· = p) w w' := by
  obtain ⟨h1, h2, h3, h4⟩ := hf
  have hw : ∀ i (hi : i < l.length), 1 ≤ l[i].1 ∧ l[i].1 ≤ 8 := fun i hi => h3 _ (List.getElem_mem hi)
  cases turn with
  | true =>
    obtain ⟨h5, h6, h7⟩ := h4 rfl
    by_cases hl : left = 0
    · subst hl
      by_cases hx : l.length ≤ at_ + 1
      · have e : nextAt l.length at_ true 0 = 0 := by simp [nextAt, hx]
        rw [nextLeft, nextId, e]
        have := next_a p v l at_ w h h1 (by omega) hx hn (hw 0 hn)
        simpa [hn] using this
      · have hy : at_ + 1 < l.length := by omega
        have e : nextAt l.length at_ true 0 = at_ + 1 := by simp [nextAt, hx]
        rw [nextLeft, nextId, e]
        have := next_b p v l at_ w h h1 (by omega) hy hy (hw _ hy)
        simpa [hy] using this
    · have e : nextAt l.length at_ true left = at_ := by simp [nextAt, hl]
      rw [nextLeft, nextId, e]
      have := next_e p v l at_ left w h h1 (by omega) (beq_eq_false_iff_ne.2 hl) ⟨h6, h7⟩ h5 h5 (hw _ h5)
      simpa [h5, hl] using this
  | false =>
    by_cases hx : l.length ≤ at_
    · have e : nextAt l.length at_ false left = 0 := by simp [nextAt, hx]
      rw [nextLeft, nextId, e]
      have := next_c p v l at_ left w h h1 (by omega) hx hn (hw 0 hn)
      simpa [hn] using this
    · have hy : at_ < l.length := by omega
      have e : nextAt l.length at_ false left = at_ := by simp [nextAt, hx]
      rw [nextLeft, nextId, e]
      have := next_d p v l at_ left w h h1 (by omega) hy hy (hw _ hy)
      simpa [hy] using this
theorem next_fine {l : List Mem} {at_ : Nat} {turn : Bool} {left : Int} (hf : Fine l at_ turn left) (hn : 0 < l.length) : Fine l (nextAt l.length at_ turn left) true (nextLeft l at_ turn left) := by
  obtain ⟨h1, h2, h3, h4⟩ := hf
  have ha : nextAt l.length at_ turn left < l.length := by
    unfold nextAt
    cases turn with
    | true => have := (h4 rfl).1; simp only [if_true]; (repeat' split) <;> omega
    | false => simp only [Bool.false_eq_true, if_false]; (repeat' split) <;> omega
  refine ⟨h1, Nat.le_of_lt ha, h3, fun _ => ⟨ha, ?_⟩⟩
  have hw := h3 _ (List.getElem_mem ha)
  unfold nextLeft
  by_cases hx : (turn && !decide (left = 0)) = true
  · rw [if_pos hx]
    simp at hx
    obtain ⟨ht, hl⟩ := hx
    have := (h4 ht).2
    omega
  · rw [if_neg hx]
    rw [List.getD_eq_getElem?_getD, List.getElem?_eq_getElem ha, Option.getD_some]
    omega
end Go.Proofs.Ytgfcfpoebmlppaa
