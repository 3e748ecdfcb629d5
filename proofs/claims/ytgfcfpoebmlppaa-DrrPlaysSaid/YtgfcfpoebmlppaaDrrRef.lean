/- The document's row: a new one, where one stands, whose turn it is. -/
import Derived.Test.YtgfcfpoebmlppaaDrrAll
namespace Go.Proofs.Ytgfcfpoebmlppaa
open Go.ChangeShapes Go.WideShapes Go.ChangeAt Go.RowKit
set_option linter.unusedVariables false
set_option linter.unusedSimpArgs false
def wtCells (l : List Mem) : List Value := l.map fun m => .int .i64 m.1
theorem idCells_at (l : List Mem) (k : Nat) (h : k < l.length) : (idCells l)[k]? = some (.int .i64 l[k].2) := by simp [idCells, h]
theorem wtCells_at (l : List Mem) (k : Nat) (h : k < l.length) : (wtCells l)[k]? = some (.int .i64 l[k].1) := by simp [wtCells, h]
/-- the document's row at block x -/
def rAt (w : World) (x : Nat) (vi vw : Value) (l : List Mem) (A L : Int) : Prop :=
  Blk w x 43 #[vi, vw, .int .i64 A, .int .i64 L] ∧ (Sl w 3 1 vi l.length (idCells l) ∧ Sl w 3 1 vw l.length (wtCells l)) ∧ (vi.ownBlock ≠ some x ∧ vw.ownBlock ≠ some x) ∧ (∀ g, vi.ownBlock = some g → g < w.heap.size) ∧ ∀ g, vw.ownBlock = some g → g < w.heap.size
theorem rAt.keeps {S : Nat → Prop} {w w' : World} {x : Nat} {vi vw : Value} {l : List Mem} {A L : Int} (h : rAt w x vi vw l A L) (k : Keeps S w w') (h1 : ¬ S x) (h2 : ∀ g, vi.ownBlock = some g → ¬ S g) (h3 : ∀ g, vw.ownBlock = some g → ¬ S g) : rAt w' x vi vw l A L :=
  ⟨k.at_ h.1 h1, ⟨h.2.1.1.keeps k h2, h.2.1.2.keeps k h3⟩, h.2.2.1, fun g hg => Nat.lt_of_lt_of_le (h.2.2.2.1 g hg) k.size, fun g hg => Nat.lt_of_lt_of_le (h.2.2.2.2 g hg) k.size⟩
theorem rAt.below {w w' : World} {x : Nat} {vi vw : Value} {l : List Mem} {A L : Int} (h : rAt w x vi vw l A L) (hb : Below w.heap.size w w') : rAt w' x vi vw l A L :=
  h.keeps (S := fun _ => False) ⟨hb.os, hb.tape, hb.output, hb.size, fun k hk _ => hb.block k hk⟩ id (fun _ _ => id) (fun _ _ => id)
theorem rAt.own {w w' : World} {x : Nat} {vi vw : Value} {l : List Mem} {A L A2 L2 : Int} (h : rAt w x vi vw l A L) (k : Keeps (· = x) w w') (hb : Blk w' x 43 #[vi, vw, .int .i64 A2, .int .i64 L2]) : rAt w' x vi vw l A2 L2 :=
  ⟨hb, ⟨h.2.1.1.keeps k fun g hg e => h.2.2.1.1 (by rw [hg, e]), h.2.1.2.keeps k fun g hg e => h.2.2.1.2 (by rw [hg, e])⟩, h.2.2.1, fun g hg => Nat.lt_of_lt_of_le (h.2.2.2.1 g hg) k.size, fun g hg => Nat.lt_of_lt_of_le (h.2.2.2.2 g hg) k.size⟩
theorem rnew_any (w : World) : Calls Try.prog 12 #[] w fun e w' => e = .returned (.pointer (some ⟨w.heap.size, 0, none⟩)) ∧ rAt w' w.heap.size (.slice none 0 0) (.slice none 0 0) [] (-1) 0 ∧ Below w.heap.size w w' := by
  go_enter Try.func12, Try.ntmps12
  go_wp2
  go_ret
  exact ⟨rfl, ⟨heap_alloc_new w _, ⟨Sl.nil _ _ _ _, Sl.nil _ _ _ _⟩, by simp [Value.ownBlock], by simp [Value.ownBlock], by simp [Value.ownBlock]⟩, (Below.refl _ _).alloc (Nat.le_refl _) _⟩
set_option maxRecDepth 100000 in
theorem find_any (x : Nat) (vi vw : Value) (l : List Mem) (A L id : Int) (w : World) (h : rAt w x vi vw l A L) :
    Calls Try.prog 20 #[.pointer (some ⟨x, 0, none⟩), .int .i64 id] w fun e w' => e = .returned (.int .i64 (findS l id)) ∧ w = w' := by
  obtain ⟨A1, cap, rfl, hlc, hcm⟩ := h.2.1.1.form
  unfold maxLen at hcm
  have c0 := h.1.cell 0
  simp at c0
  have H := Lib.hid h
  clear h
  go_enter Try.func20, Try.ntmps20
  go_wp2_with fail
  go_loopw [5] (fun i wr => ∃ k : Nat, k ≤ l.length ∧ i = .int .i64 k ∧ (∀ j (hj : j < l.length), j < k → l[j].2 ≠ id) ∧ wr = w) (fun i _ => l.length - (intOf i).toNat)
  case atStart => exact ⟨0, by omega, rfl, by intro j hj h; omega, rfl⟩
  case round =>
    obtain ⟨k, hk, rfl, hall, rfl⟩ := hrel
    by_cases hlt : k < l.length
    · obtain ⟨g, off, cap', hv, _, _, hg, hat, _⟩ := H.out.2.1.1.at_ (by omega)
      simp at hv
      obtain ⟨rfl, rfl⟩ := hv
      have x1 := hat _ _ (idCells_at l k hlt)
      have hq : (k : Int) < l.length := by omega
      have HL := Lib.hid hall
      have hF := Lib.hid (fun (e : l[k].2 = id) => findIdx_take l id k hlt hall e)
      have hN := Lib.hid (fun (e : l[k].2 ≠ id) (j : Nat) (hj : j < l.length) (hjk : j < k + 1) => show l[j].2 ≠ id by
        by_cases e2 : j = k
        · subst e2; exact e
        · exact hall j hj (by omega))
      clear hall hat
      have hlt2 := Lib.hid hlt
      generalize l[k].2 = y at *
      clear hlt
      by_cases hid : y = id
      · have hid2 : (y == id) = true := by simp [hid]
        have HF := Lib.hid (hF.out hid)
        clear hF hN hid
        go_wp2_with fail
        go_ret
        exact ⟨ret_int HF.out.symm, rfl⟩
      · have hid2 : (y == id) = false := by simp [hid]
        have HN := Lib.hid (hN.out hid)
        clear hF hN hid
        go_wp2_with fail
        go_roundw
        case rel => exact ⟨k + 1, by omega, by go_num, HN.out, by first | rfl | trivial⟩
        case measure => simp [intOf]; omega
    · obtain rfl : k = l.length := by omega
      have hq : ¬ (l.length : Int) < l.length := by omega
      have HN := Lib.hid (findIdx_none l id fun j hj => hall j hj hj)
      clear hall
      go_wp2_with fail
      go_ret
      exact ⟨ret_int HN.out.symm, rfl⟩
theorem rnext_none (x : Nat) (vi vw : Value) (A L : Int) (w : World) (h : rAt w x vi vw [] A L) :
    Calls Try.prog 13 #[.pointer (some ⟨x, 0, none⟩)] w fun e w' => e = .returned (.tuple #[.int .i64 0, .bool false]) ∧ w = w' := by
  obtain ⟨A1, cap, rfl, _, _⟩ := h.2.1.1.form
  have c0 := h.1.cell 0
  simp at c0
  clear h
  go_enter Try.func13, Try.ntmps13
  go_wp2_with fail
  go_ret2
  exact ⟨rfl, rfl⟩
set_option maxRecDepth 100000 in
set_option maxHeartbeats 1000000 in
theorem rnext_e (x : Nat) (vi vw : Value) (l : List Mem) (a : Nat) (L : Int) (w : World) (h : rAt w x vi vw l a L) (hn : l.length ≤ 200) (hl : (L == 0) = false) (hlb : 0 ≤ L ∧ L ≤ 8) (hi : a < l.length) :
    Calls Try.prog 13 #[.pointer (some ⟨x, 0, none⟩)] w fun e w' => e = .returned (.tuple #[.int .i64 l[a].2, .bool true]) ∧ rAt w' x vi vw l a (L - 1) ∧ Keeps (· = x) w w' := by
  obtain ⟨g, off, cap, rfl, hnc, hcm, hg, hcell, _⟩ := h.2.1.1.at_ (by omega)
  unfold maxLen at hcm
  have x1 := hcell _ _ (idCells_at l a hi)
  have c0 := h.1.cell 0
  have c2 := h.1.cell 2
  have c3 := h.1.cell 3
  simp at c0 c2 c3
  have fz := fun i => h.1.frozen i
  have hgp : g ≠ x := fun e => h.2.2.1.1 (by simp [Value.ownBlock, e])
  have hpl := h.1.lt
  have hz : ((l.length : Int) == 0) = false := beq_eq_false_iff_ne.2 (by omega)
  have H := Lib.hid h
  clear h hcell
  generalize l[a].2 = id at *
  go_enter Try.func13, Try.ntmps13
  go_wp2_with fail
  have hB : Blk (w.setCell ⟨x, 3, none⟩ (.int .i64 (L - 1))) x 43 #[.slice (some ⟨g, off, none⟩) l.length cap, vw, .int .i64 a, .int .i64 (L - 1)] := H.out.1.set_ 3 _
  have hK : Keeps (· = x) w (w.setCell ⟨x, 3, none⟩ (.int .i64 (L - 1))) := (Keeps.refl (· = x) w).setCell (p := ⟨x, 3, none⟩) rfl _
  have hE := H.out.own hK hB
  have y0 : World.cell? (w.setCell ⟨x, 3, none⟩ (.int .i64 (L - 1))) ⟨g, off + a, none⟩ = some (.int .i64 id) := (World.cell?_of_block (hK.block g hg hgp)).trans x1
  have i0 : (0 : Int) ≤ (a : Int) := by omega
  have i1 : (a : Int) < (l.length : Int) := by omega
  clear x1 c0 c2 c3 fz hl
  generalize World.setCell w _ _ = W at *
  have c0 := hB.cell 0
  have c2 := hB.cell 2
  simp at c0 c2
  have HE := Lib.hid hE
  have HK := Lib.hid hK
  clear hB hK hE
  go_quiet (fail)
  go_wp2_with fail
  go_ret2
  exact ⟨rfl, HE.out, HK.out.drewN _⟩
set_option maxRecDepth 100000 in
set_option maxHeartbeats 2000000 in
theorem rnext_a (x : Nat) (vi vw : Value) (l : List Mem) (A : Int) (w : World) (h : rAt w x vi vw l A 0) (hn : l.length ≤ 200) (hA : -1 ≤ A ∧ A ≤ 200) (ha : (l.length : Int) ≤ A + 1) (hi : 0 < l.length) (hw : 1 ≤ l[0].1 ∧ l[0].1 ≤ 8) :
    Calls Try.prog 13 #[.pointer (some ⟨x, 0, none⟩)] w fun e w' => e = .returned (.tuple #[.int .i64 l[0].2, .bool true]) ∧ rAt w' x vi vw l (0 : Int) (l[0].1 - 1) ∧ Keeps (· = x) w w' := by
  obtain ⟨g, off, cap, rfl, hnc, hcm, hg, hcell, _⟩ := h.2.1.1.at_ (by omega)
  obtain ⟨g2, off2, cap2, rfl, hnc2, hcm2, hg2, hcell2, _⟩ := h.2.1.2.at_ (by omega)
  unfold maxLen at hcm hcm2
  have x1 := hcell _ _ (idCells_at l 0 hi)
  have x0 := hcell2 _ _ (wtCells_at l 0 hi)
  have c0 := h.1.cell 0
  have c2 := h.1.cell 2
  have c3 := h.1.cell 3
  simp at c0 c2 c3
  have fz := fun i => h.1.frozen i
  have hgp : g ≠ x := fun e => h.2.2.1.1 (by simp [Value.ownBlock, e])
  have hgp2 : g2 ≠ x := fun e => h.2.2.1.2 (by simp [Value.ownBlock, e])
  have hpl := h.1.lt
  have hz : ((l.length : Int) == 0) = false := beq_eq_false_iff_ne.2 (by omega)
  have H := Lib.hid h
  clear h hcell hcell2
  generalize l[0].1 = wt at *
  generalize l[0].2 = id at *
  have u1 : IntKind.i64.wrap (A + 1) = A + 1 := IntWalk.i64_in _ (by omega)
  go_enter Try.func13, Try.ntmps13
  go_wp2_with fail
  have hB : Blk (w.setCell ⟨x, 2, none⟩ (.int .i64 (A + 1))) x 43 #[.slice (some ⟨g, off, none⟩) l.length cap, .slice (some ⟨g2, off2, none⟩) l.length cap2, .int .i64 (A + 1), .int .i64 0] := H.out.1.set_ 2 _
  have hK : Keeps (· = x) w (w.setCell ⟨x, 2, none⟩ (.int .i64 (A + 1))) := (Keeps.refl (· = x) w).setCell (p := ⟨x, 2, none⟩) rfl _
  clear c0 c2 c3 fz
  obtain ⟨W, hW⟩ : ∃ W, w.setCell ⟨x, 2, none⟩ (.int .i64 (A + 1)) = W := ⟨_, rfl⟩
  rw [hW] at hB hK ⊢
  clear hW
  have c0 := hB.cell 0
  have c2 := hB.cell 2
  simp at c0 c2
  obtain ⟨o2, q2⟩ : ∃ u, W.cell? ⟨x, 2, none⟩ = some u := ⟨_, hB.cell 2⟩
  have fz := fun i => hB.frozen i
  have hpl2 := hB.lt
  have HB := Lib.hid hB
  have HK := Lib.hid hK
  clear hB hK
  have hle : decide ((l.length : Int) ≤ A + 1) = true := decide_eq_true ha
  have i0 : (0 : Int) ≤ (0 : Int) := by omega
  have i1 : (0 : Int) < (l.length : Int) := by omega
  go_quiet (fail)
  go_upto_region 7 with fail
  have hB : Blk ((W.drewN nq).setCell ⟨x, 2, none⟩ (.int .i64 0)) x 43 #[.slice (some ⟨g, off, none⟩) l.length cap, .slice (some ⟨g2, off2, none⟩) l.length cap2, .int .i64 ((0 : Int)), .int .i64 0] := (HB.out.drewN nq).set_ 2 _
  have hK : Keeps (· = x) w ((W.drewN nq).setCell ⟨x, 2, none⟩ (.int .i64 0)) := (HK.out.drewN nq).setCell (p := ⟨x, 2, none⟩) rfl _
  clear c0 c2 q2 o2 fz HB HK hpl2 hle
  obtain ⟨X, hX⟩ : ∃ X, ((W.drewN nq).setCell ⟨x, 2, none⟩ (.int .i64 0)) = X := ⟨_, rfl⟩
  rw [hX] at hB hK ⊢
  clear hX
  have c1 := hB.cell 1
  have c2 := hB.cell 2
  simp at c1 c2
  obtain ⟨o3, q3⟩ : ∃ u, X.cell? ⟨x, 3, none⟩ = some u := ⟨_, hB.cell 3⟩
  have fz := fun i => hB.frozen i
  have hpl2 := hB.lt
  have z0 : X.cell? ⟨g2, off2, none⟩ = some (.int .i64 wt) := (World.cell?_of_block (hK.block g2 hg2 hgp2)).trans (by simpa using x0)
  have HB := Lib.hid hB
  have HK := Lib.hid hK
  clear hB hK
  go_region_held3 (fun w' => w'.cell? ⟨x, 1, none⟩ = some (.slice (some ⟨g2, off2, none⟩) l.length cap2) ∧ w'.cell? ⟨x, 2, none⟩ = some (.int .i64 ((0 : Int))) ∧ w'.cell? ⟨g2, off2, none⟩ = some (.int .i64 wt)) (refine ⟨?_, ?_, ?_⟩ <;> simp [*, World.cell?_setCell_other, World.cell?_setCell_far]) (fail)
  have hB : Blk (X.setCell ⟨x, 3, none⟩ (.int .i64 wt)).drew x 43 #[.slice (some ⟨g, off, none⟩) l.length cap, .slice (some ⟨g2, off2, none⟩) l.length cap2, .int .i64 ((0 : Int)), .int .i64 wt] := HB.out.set_ 3 _
  have hK : Keeps (· = x) w (X.setCell ⟨x, 3, none⟩ (.int .i64 wt)).drew := (HK.out.setCell (p := ⟨x, 3, none⟩) rfl _).drew
  clear c1 c2 q3 o3 fz HB HK hpl2 z0
  generalize World.drew (World.setCell X _ _) = Z at hB hK ⊢
  have c3 := hB.cell 3
  have c0 := hB.cell 0
  have c2 := hB.cell 2
  simp at c0 c2 c3
  have fz := fun i => hB.frozen i
  have y1 : Z.cell? ⟨g, off, none⟩ = some (.int .i64 id) := (World.cell?_of_block (hK.block g hg hgp)).trans (by simpa using x1)
  have HB := Lib.hid (show Blk (Z.setCell ⟨x, 3, none⟩ (.int .i64 (wt - 1))) x 43 #[.slice (some ⟨g, off, none⟩) l.length cap, .slice (some ⟨g2, off2, none⟩) l.length cap2, .int .i64 ((0 : Int)), .int .i64 (wt - 1)] from hB.set_ 3 _)
  have HK := Lib.hid (show Keeps (· = x) w (Z.setCell ⟨x, 3, none⟩ (.int .i64 (wt - 1))) from hK.setCell (p := ⟨x, 3, none⟩) rfl _)
  clear hB hK
  go_upto_region 9 with fail
  go_quiet (fail)
  go_wp2_with fail
  go_ret2
  exact ⟨rfl, H.out.own (HK.out.drewN _) (HB.out.drewN _), HK.out.drewN _⟩
set_option maxRecDepth 100000 in
set_option maxHeartbeats 2000000 in
theorem rnext_b (x : Nat) (vi vw : Value) (l : List Mem) (A : Int) (a : Nat) (w : World) (h : rAt w x vi vw l A 0) (hn : l.length ≤ 200) (hA : -1 ≤ A ∧ A ≤ 200) (ha : A + 1 = (a : Int)) (hi : a < l.length) (hw : 1 ≤ l[a].1 ∧ l[a].1 ≤ 8) :
    Calls Try.prog 13 #[.pointer (some ⟨x, 0, none⟩)] w fun e w' => e = .returned (.tuple #[.int .i64 l[a].2, .bool true]) ∧ rAt w' x vi vw l (a : Int) (l[a].1 - 1) ∧ Keeps (· = x) w w' := by
  obtain ⟨g, off, cap, rfl, hnc, hcm, hg, hcell, _⟩ := h.2.1.1.at_ (by omega)
  obtain ⟨g2, off2, cap2, rfl, hnc2, hcm2, hg2, hcell2, _⟩ := h.2.1.2.at_ (by omega)
  unfold maxLen at hcm hcm2
  have x1 := hcell _ _ (idCells_at l a hi)
  have x0 := hcell2 _ _ (wtCells_at l a hi)
  have c0 := h.1.cell 0
  have c2 := h.1.cell 2
  have c3 := h.1.cell 3
  simp at c0 c2 c3
  have fz := fun i => h.1.frozen i
  have hgp : g ≠ x := fun e => h.2.2.1.1 (by simp [Value.ownBlock, e])
  have hgp2 : g2 ≠ x := fun e => h.2.2.1.2 (by simp [Value.ownBlock, e])
  have hpl := h.1.lt
  have hz : ((l.length : Int) == 0) = false := beq_eq_false_iff_ne.2 (by omega)
  have H := Lib.hid h
  clear h hcell hcell2
  generalize l[a].1 = wt at *
  generalize l[a].2 = id at *
  have u1 : IntKind.i64.wrap (A + 1) = A + 1 := IntWalk.i64_in _ (by omega)
  go_enter Try.func13, Try.ntmps13
  go_wp2_with fail
  have hB : Blk (w.setCell ⟨x, 2, none⟩ (.int .i64 (a : Int))) x 43 #[.slice (some ⟨g, off, none⟩) l.length cap, .slice (some ⟨g2, off2, none⟩) l.length cap2, .int .i64 (a : Int), .int .i64 0] := H.out.1.set_ 2 _
  have hK : Keeps (· = x) w (w.setCell ⟨x, 2, none⟩ (.int .i64 (a : Int))) := (Keeps.refl (· = x) w).setCell (p := ⟨x, 2, none⟩) rfl _
  clear c0 c2 c3 fz
  obtain ⟨W, hW⟩ : ∃ W, w.setCell ⟨x, 2, none⟩ (.int .i64 (a : Int)) = W := ⟨_, rfl⟩
  rw [hW] at hB hK ⊢
  clear hW
  have c0 := hB.cell 0
  have c2 := hB.cell 2
  simp at c0 c2
  obtain ⟨o2, q2⟩ : ∃ u, W.cell? ⟨x, 2, none⟩ = some u := ⟨_, hB.cell 2⟩
  have fz := fun i => hB.frozen i
  have hpl2 := hB.lt
  have HB := Lib.hid hB
  have HK := Lib.hid hK
  clear hB hK
  have hle : decide ((l.length : Int) ≤ (a : Int)) = false := decide_eq_false (by omega)
  have i0 : (0 : Int) ≤ (a : Int) := by omega
  have i1 : (a : Int) < (l.length : Int) := by omega
  go_quiet (fail)
  go_upto_region 7 with fail
  have hB : Blk (W.drewN nq) x 43 #[.slice (some ⟨g, off, none⟩) l.length cap, .slice (some ⟨g2, off2, none⟩) l.length cap2, .int .i64 (a : Int), .int .i64 0] := HB.out.drewN nq
  have hK : Keeps (· = x) w (W.drewN nq) := HK.out.drewN nq
  clear c0 c2 q2 o2 fz HB HK hpl2 hle
  obtain ⟨X, hX⟩ : ∃ X, (W.drewN nq) = X := ⟨_, rfl⟩
  rw [hX] at hB hK ⊢
  clear hX
  have c1 := hB.cell 1
  have c2 := hB.cell 2
  simp at c1 c2
  obtain ⟨o3, q3⟩ : ∃ u, X.cell? ⟨x, 3, none⟩ = some u := ⟨_, hB.cell 3⟩
  have fz := fun i => hB.frozen i
  have hpl2 := hB.lt
  have z0 : X.cell? ⟨g2, off2 + a, none⟩ = some (.int .i64 wt) := (World.cell?_of_block (hK.block g2 hg2 hgp2)).trans (by simpa using x0)
  have HB := Lib.hid hB
  have HK := Lib.hid hK
  clear hB hK
  go_region_held3 (fun w' => w'.cell? ⟨x, 1, none⟩ = some (.slice (some ⟨g2, off2, none⟩) l.length cap2) ∧ w'.cell? ⟨x, 2, none⟩ = some (.int .i64 (a : Int)) ∧ w'.cell? ⟨g2, off2 + a, none⟩ = some (.int .i64 wt)) (refine ⟨?_, ?_, ?_⟩ <;> simp [*, World.cell?_setCell_other, World.cell?_setCell_far]) (fail)
  have hB : Blk (X.setCell ⟨x, 3, none⟩ (.int .i64 wt)).drew x 43 #[.slice (some ⟨g, off, none⟩) l.length cap, .slice (some ⟨g2, off2, none⟩) l.length cap2, .int .i64 (a : Int), .int .i64 wt] := HB.out.set_ 3 _
  have hK : Keeps (· = x) w (X.setCell ⟨x, 3, none⟩ (.int .i64 wt)).drew := (HK.out.setCell (p := ⟨x, 3, none⟩) rfl _).drew
  clear c1 c2 q3 o3 fz HB HK hpl2 z0
  generalize World.drew (World.setCell X _ _) = Z at hB hK ⊢
  have c3 := hB.cell 3
  have c0 := hB.cell 0
  have c2 := hB.cell 2
  simp at c0 c2 c3
  have fz := fun i => hB.frozen i
  have y1 : Z.cell? ⟨g, off + a, none⟩ = some (.int .i64 id) := (World.cell?_of_block (hK.block g hg hgp)).trans (by simpa using x1)
  have HB := Lib.hid (show Blk (Z.setCell ⟨x, 3, none⟩ (.int .i64 (wt - 1))) x 43 #[.slice (some ⟨g, off, none⟩) l.length cap, .slice (some ⟨g2, off2, none⟩) l.length cap2, .int .i64 (a : Int), .int .i64 (wt - 1)] from hB.set_ 3 _)
  have HK := Lib.hid (show Keeps (· = x) w (Z.setCell ⟨x, 3, none⟩ (.int .i64 (wt - 1))) from hK.setCell (p := ⟨x, 3, none⟩) rfl _)
  clear hB hK
  go_upto_region 9 with fail
  go_quiet (fail)
  go_wp2_with fail
  go_ret2
  exact ⟨rfl, H.out.own (HK.out.drewN _) (HB.out.drewN _), HK.out.drewN _⟩
end Go.Proofs.Ytgfcfpoebmlppaa
