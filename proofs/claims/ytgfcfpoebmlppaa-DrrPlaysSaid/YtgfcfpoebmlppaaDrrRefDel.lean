/- The document's row: one less. -/
import Derived.Test.YtgfcfpoebmlppaaDrrRefAdd
namespace Go.Proofs.Ytgfcfpoebmlppaa
open Go.ChangeShapes Go.WideShapes Go.ChangeAt Go.RowKit
set_option linter.unusedVariables false
set_option linter.unusedSimpArgs false
/-- four worlds, one behind the other -/
def Ch4 (W0 W1 W2 W3 : World) (k : Nat) (w : World) : Prop := (k = 0 ∧ w = W0) ∨ (k = 1 ∧ w = W1) ∨ (k = 2 ∧ w = W2) ∨ (k = 3 ∧ w = W3)
theorem _root_.Go.Proofs.Ytgfcfpoebmlppaa.WSt.all {W0 W1 W2 W3 : World} {p : World → Prop} (y : WSt (Ch4 W0 W1 W2 W3)) (h0 : p W0) (h1 : p W1) (h2 : p W2) (h3 : p W3) : p y.w := by
  rcases y.ok with ⟨_, h⟩ | ⟨_, h⟩ | ⟨_, h⟩ | ⟨_, h⟩ <;> rw [h] <;> assumption
theorem upTo_append {P : Program} {T : World → Prop} {a : Act} {o : Oper} {w w2 : World} {v : Value} (s x : Operand) (t : TypeId) (hop : o.op = .call { callee := .builtin .append, args := #[s, x], argTypes := #[t, t] })
    (vs vx : Value) (hs : a.eval s = vs) (hx : a.eval x = vx) (hr : (Builtin.append_ #[t, t] o.type #[vs, vx]).run P w = .ok v w2) (hT : T w2) : upTo P T v ((execOp a.eval o).run P w) := by
  simp [execOp, hop, resolve, invoke, builtin, hs, hx, hr, Result.andThen, upTo]
  exact hT
/-- append(append([]int{}, s[:i]...), s[i+1:]...) -/
theorem run_two {P : Program} (w : World) (t : TypeId) (i0 : TypeInfo) (z : Value) (ht : P.underlying t = some (.slice 3)) (hi : P.info? 3 = some i0) (hz : i0.zero = some z)
    (hsize : i0.size = 1) (hby : i0.bytes = 8) (hzs : z.cells.size = 1) (o : Obj) (A : Option Addr) (n cap i : Nat) (xs : List Value) (h : Sl w 3 1 (.slice A n cap) n xs) (h1 : ∀ u ∈ xs, u.oneCell' = true) (hin : i < n) (hn : n ≤ 300) :
    ∃ v1 W2 v2 W3, (∀ ty, (Builtin.append_ #[t, t] ty #[.slice (some ⟨w.heap.size, 0, none⟩) 0 0, .slice A i cap]).run P (w.alloc o) = .ok v1 W2) ∧ (∀ ty, (Builtin.append_ #[t, t] ty #[v1, .slice (if cap = i + 1 then A else A.map (·.add ((i + 1) * 1))) (n - (i + 1)) (cap - (i + 1))]).run P W2 = .ok v2 W3) ∧
      Below w.heap.size w W2 ∧ Fr w W3 v2 (n - 1) (xs.eraseIdx i) := by
  have hlx := h.1
  have hsA := (h.alloc o).take i (by omega)
  rw [Nat.mul_one] at hsA
  obtain ⟨v1, W2, hr1, hS1, hK1, hO1⟩ := run_append_sls (P := P) (w.alloc o) t t 3 i0 z 1 8 ht hi hz hsize hby hzs (by omega) (.slice (some ⟨w.heap.size, 0, none⟩) 0 0) 0 [] (Sl.nil _ _ _ _) _ i (xs.take i) hsA (fun u hu => h1 u (List.mem_of_mem_take hu)) (by unfold maxLen; omega) (by omega)
  have F1 := fr_first o hS1 hK1 hO1
  simp only [Nat.zero_add, List.nil_append] at F1
  have hsB := (h.below F1.2.2).cut (i + 1) (by omega)
  obtain ⟨v2, W3, hr2, hS2, hK2, hO2⟩ := run_append_sls (P := P) W2 t t 3 i0 z 1 8 ht hi hz hsize hby hzs (by omega) v1 i (xs.take i) F1.1 _ _ (xs.drop ((i + 1) * 1)) hsB (fun u hu => h1 u (List.mem_of_mem_drop hu)) (by unfold maxLen; omega) (by omega)
  refine ⟨v1, W2, v2, W3, fun ty => ?_, fun ty => ?_, F1.2.2, ?_⟩
  · exact hr1
  · exact hr2
  · have e : xs.eraseIdx i = xs.take i ++ xs.drop ((i + 1) * 1) := by rw [Nat.mul_one, List.eraseIdx_eq_take_drop_succ]
    have e2 : n - 1 = i + (n - (i + 1)) := by omega
    rw [e, e2]
    refine ⟨hS2, fun g hg => ?_, ?_⟩
    · rcases hO2 with e | ⟨g', e, hg', hl⟩
      · rw [e] at hg
        have := F1.2.1 g hg
        exact ⟨this.1, Nat.lt_of_lt_of_le this.2 hK2.size⟩
      · rw [e] at hg
        injection hg with hg
        subst hg
        have := F1.2.2.size
        exact ⟨by omega, hl⟩
    · exact Keeps.below F1.2.2 hK2 (by have := F1.2.2.size; omega) (fun x hx e => by have := F1.2.1 x e; omega)
theorem idCells_cut (l : List Mem) (i : Nat) : idCells (l.eraseIdx i) = (idCells l).eraseIdx i := by
  simp [idCells, List.eraseIdx_eq_take_drop_succ]
theorem wtCells_cut (l : List Mem) (i : Nat) : wtCells (l.eraseIdx i) = (wtCells l).eraseIdx i := by
  simp [wtCells, List.eraseIdx_eq_take_drop_succ]
theorem rdel_none (x : Nat) (vi vw : Value) (l : List Mem) (A L id : Int) (w : World) (h : rAt w x vi vw l A L) (hf : findS l id = -1) :
    Calls Try.prog 16 #[.pointer (some ⟨x, 0, none⟩), .int .i64 id] w fun e w' => e = .returned (.int .i64 5) ∧ w = w' := by
  have H := Lib.hid h
  have HF := Lib.hid hf
  clear h hf
  go_enter Try.func16, Try.ntmps16
  go_wp2_with fail
  refine (find_any x vi vw l A L id w H.out).mono ?_
  rintro e w1 ⟨rfl, rfl⟩
  rw [HF.out]
  go_wp2_with fail
  go_ret
  exact ⟨rfl, rfl⟩
def rDelPost (x : Nat) (l : List Mem) (A L : Int) (i : Nat) (w : World) (e : Ending) (w' : World) : Prop :=
  e = .returned (.int .i64 0) ∧ ∃ vi' vw', rAt w' x vi' vw' (l.eraseIdx i) (if (i : Int) ≤ A then A - 1 else A) (if (i : Int) = A then 0 else L) ∧ Keeps (· = x) w w' ∧ (∀ g, vi'.ownBlock = some g → w.heap.size ≤ g) ∧ ∀ g, vw'.ownBlock = some g → w.heap.size ≤ g
set_option maxRecDepth 100000 in
set_option maxHeartbeats 2000000 in
theorem rdel_ok (x : Nat) (vi vw : Value) (l : List Mem) (A L id : Int) (i : Nat) (w : World) (h : rAt w x vi vw l A L) (hf : findS l id = i) (hi : i < l.length) (hn : l.length ≤ 300) (hA : -1 ≤ A ∧ A ≤ 300) :
    Calls Try.prog 16 #[.pointer (some ⟨x, 0, none⟩), .int .i64 id] w (rDelPost x l A L i w) := by
  obtain ⟨i0, hi0, hz0, hz1, hz2⟩ := info_parts info3
  obtain ⟨A1, cap1, rfl, hlc1, hcm1⟩ := h.2.1.1.form
  obtain ⟨A2, cap2, rfl, hlc2, hcm2⟩ := h.2.1.2.form
  have H := Lib.hid h
  have HF := Lib.hid hf
  have HI1 := Lib.hid (idCells_one l)
  have HV1 := Lib.hid (wtCells_one l)
  clear h hf
  go_enter Try.func16, Try.ntmps16
  go_wp2_with fail
  refine (find_any x _ _ l A L id w H.out).mono ?_
  rintro e w1 ⟨rfl, rfl⟩
  rw [HF.out]
  have hpl := H.out.1.lt
  have q1 : (0 : Int) ≤ i := by omega
  have q2 : (i : Int) ≤ l.length := by omega
  have q3 : (i : Int) + 1 ≤ l.length := by omega
  have q4 : ((i : Int) + 1).toNat = i + 1 := by omega
  have q5 : (0 : Int) ≤ (i : Int) + 1 := by omega
  have u1 : IntKind.i64.wrap ((i : Int) + 1) = (i : Int) + 1 := IntWalk.i64_in _ (by omega)
  have q6 : (i : Int) ≤ cap1 := by omega
  have q7 : i ≤ cap1 := by omega
  have q8 : i + 1 ≤ l.length := by omega
  have q9 : (l.length : Int) ≤ cap1 := by omega
  go_upto_region 4 with fail
  obtain ⟨WD, hWD⟩ : ∃ WD, w.drew = WD := ⟨_, rfl⟩
  have hSD : Sl WD 3 1 (.slice A1 l.length cap1) l.length (idCells l) := by rw [← hWD]; exact H.out.2.1.1.drewN 1
  have hsz : WD.heap.size = w.heap.size := by rw [← hWD]; rfl
  obtain ⟨v1, W2, v2, W3, hr1, hr2, hb2, hfr⟩ := run_two (P := Try.prog) WD 22 i0 (.int .i64 0) Try.underlying22 hi0 hz0 hz1 hz2 rfl (.cells #[] 3) A1 l.length cap1 i (idCells l) hSD HI1.out hi hn
  rw [hsz] at hr1 hb2
  obtain ⟨W1, hW1⟩ : ∃ W1, WD.alloc (.cells #[] 3) = W1 := ⟨_, rfl⟩
  rw [hW1] at hr1
  have hB0 : Blk WD x 43 #[.slice A1 l.length cap1, .slice A2 l.length cap2, .int .i64 A, .int .i64 L] := by rw [← hWD]; exact H.out.1
  have hp0 : x < WD.heap.size := by omega
  have hB1 : Blk W1 x 43 #[.slice A1 l.length cap1, .slice A2 l.length cap2, .int .i64 A, .int .i64 L] := by rw [← hW1]; exact hB0.below ((Below.refl WD.heap.size WD).alloc (Nat.le_refl _) _) hp0
  have hB2 := hB0.below hb2 hpl
  have hB3 := hB0.below hfr.2.2 hp0
  have hne : Nonempty (WSt (Ch4 WD W1 W2 W3)) := ⟨⟨0, _, .inl ⟨rfl, rfl⟩⟩⟩
  have c0 : ∀ y : WSt (Ch4 WD W1 W2 W3), y.w.cell? ⟨x, 0, none⟩ = some (.slice A1 l.length cap1) := fun y => WSt.all (p := fun w' => w'.cell? ⟨x, 0, none⟩ = some (.slice A1 l.length cap1)) y (hB0.cell 0) (hB1.cell 0) (hB2.cell 0) (hB3.cell 0)
  have HR1 := Lib.hid hr1
  have HR2 := Lib.hid hr2
  have HW1 := Lib.hid hW1
  have HWD := Lib.hid hWD
  have HFR := Lib.hid hfr
  have HB3 := Lib.hid hB3
  clear hr1 hr2 hW1 hB0 hB1 hB2 hB3 hfr hb2 hSD hp0

  refine wp_region_stage2 (Ch4 WD W1 W2 W3) [1, 8, 16] 19 (by kernel_rfl) (by kernel_rfl) (by kernel_rfl) (.inl ⟨rfl, hWD⟩) ?_
  simp only [List.take_succ_cons, List.take_zero, List.drop_succ_cons, List.drop_zero]
  iterate 1 (refine wpS_pure (by rfl) (fun K hK => ?_); go_simp; refine hK _ ?_; clear hK K)
  refine wpS_eff 0 (by rfl) (by rfl) (by rfl) (.slice (some ⟨w.heap.size, 0, none⟩) 0 0) ?_ ?_
  · rintro ⟨Y, hY⟩
    obtain rfl : Y = WD := by simpa [Ch4] using hY
    go_simp
    exact .inr (.inl ⟨rfl, HW1.out⟩)
  iterate 6 (refine wpS_pure (by rfl) (fun K hK => ?_); go_simp; refine hK _ ?_; clear hK K)
  refine wpS_eff 1 (by rfl) (by rfl) (by rfl) v1 ?_ ?_
  · rintro ⟨Y, hY⟩
    obtain rfl : Y = W1 := by simpa [Ch4] using hY
    exact upTo_append (.tmp 12) (.tmp 18) _ (by rfl) _ _ (by rfl) (by rfl) (HR1.out _) (.inr (.inr (.inl ⟨rfl, rfl⟩)))
  iterate 7 (refine wpS_pure (by rfl) (fun K hK => ?_); go_simp; refine hK _ ?_; clear hK K)
  refine wpS_eff 2 (by rfl) (by rfl) (by rfl) v2 ?_ ?_
  · rintro ⟨Y, hY⟩
    obtain rfl : Y = W2 := by simpa [Ch4] using hY
    exact upTo_append (.tmp 19) (.tmp 26) _ (by rfl) _ _ (by rfl) (by show Value.slice _ _ _ = Value.slice _ _ _; congr 1; rcases A1 with _ | ⟨g, off, t⟩ <;> simp [Addr.add]) (HR2.out _) (.inr (.inr (.inr ⟨rfl, rfl⟩)))
  iterate 2 (refine wpS_pure (by rfl) (fun K hK => ?_); go_simp; refine hK _ ?_; clear hK K)
  refine wpS_nil ?_
  intro y
  have hyw : y.w = W3 := by simpa [Ch4] using y.ok
  rw [hyw]
  clear hyw y c0 hne HR1 HR2 HW1
  obtain ⟨B2, d2, rfl, hd1, hd2⟩ := HFR.out.1.form
  have hB4 : Blk (W3.setCell ⟨x, 0, none⟩ (.slice B2 (l.length - 1) d2)) x 43 #[(.slice B2 (l.length - 1) d2), .slice A2 l.length cap2, .int .i64 A, .int .i64 L] := HB3.out.set_ 0 _
  have hk1 : Keeps (· = x) W3 (W3.setCell ⟨x, 0, none⟩ (.slice B2 (l.length - 1) d2)) := (Keeps.refl (· = x) W3).setCell (p := ⟨x, 0, none⟩) rfl _
  have hb1 : Below w.heap.size w W3 := by rw [← hsz]; exact Below.trans ⟨by rw [← HWD.out]; rfl, by rw [← HWD.out]; rfl, by rw [← HWD.out]; rfl, by omega, fun k hk => by rw [← HWD.out]; rfl⟩ HFR.out.2.2
  have hK1 : Keeps (· = x) w (W3.setCell ⟨x, 0, none⟩ (.slice B2 (l.length - 1) d2)) := (Keeps.of_below (S := (· = x)) hb1).setCell (p := ⟨x, 0, none⟩) rfl _
  have hn2 : (Value.slice B2 (l.length - 1) d2).ownBlock ≠ some x := fun e => by have := (HFR.out.2.1 x e).1; omega
  have hS1 := HFR.out.1.keeps hk1 (fun g hg e => hn2 (by rw [hg, e]))
  have hS2 := H.out.2.1.2.keeps hK1 (fun g hg e => H.out.2.2.1.2 (by rw [hg, e]))
  have hO1 : ∀ g, (Value.slice B2 (l.length - 1) d2).ownBlock = some g → w.heap.size ≤ g ∧ g < (W3.setCell ⟨x, 0, none⟩ (.slice B2 (l.length - 1) d2)).heap.size := fun g hg => by have := HFR.out.2.1 g hg; simp [World.setCell]; omega
  have fz := fun k => HB3.out.frozen k
  have c0 := HB3.out.cell 0
  simp at c0
  go_upto_region 5 with fail
  clear c0 fz HB3 hk1 hb1 HFR HWD hsz
  generalize World.setCell W3 _ _ = w4 at *
  have HB4 := Lib.hid hB4
  have HK1 := Lib.hid hK1
  have HS1 := Lib.hid hS1
  have HS2 := Lib.hid hS2
  have HO1 := Lib.hid hO1
  clear hB4 hK1 hS1 hS2 hO1
  have hpl4 := HB4.out.lt
  have q6 : (i : Int) ≤ cap2 := by omega
  have q7 : i ≤ cap2 := by omega
  have q9 : (l.length : Int) ≤ cap2 := by omega
  obtain ⟨WD, hWD⟩ : ∃ WD, w4.drew = WD := ⟨_, rfl⟩
  have hSD : Sl WD 3 1 (.slice A2 l.length cap2) l.length (wtCells l) := by rw [← hWD]; exact HS2.out.drewN 1
  have hsz : WD.heap.size = w4.heap.size := by rw [← hWD]; rfl
  obtain ⟨v3, W2, v4, W3, hr1, hr2, hb2, hfr⟩ := run_two (P := Try.prog) WD 22 i0 (.int .i64 0) Try.underlying22 hi0 hz0 hz1 hz2 rfl (.cells #[] 3) A2 l.length cap2 i (wtCells l) hSD HV1.out hi hn
  rw [hsz] at hr1 hb2
  obtain ⟨W1, hW1⟩ : ∃ W1, WD.alloc (.cells #[] 3) = W1 := ⟨_, rfl⟩
  rw [hW1] at hr1
  have hB0 : Blk WD x 43 #[(.slice B2 (l.length - 1) d2), .slice A2 l.length cap2, .int .i64 A, .int .i64 L] := by rw [← hWD]; exact HB4.out
  have hp0 : x < WD.heap.size := by omega
  have hB1 : Blk W1 x 43 #[(.slice B2 (l.length - 1) d2), .slice A2 l.length cap2, .int .i64 A, .int .i64 L] := by rw [← hW1]; exact hB0.below ((Below.refl WD.heap.size WD).alloc (Nat.le_refl _) _) hp0
  have hB2 := hB0.below hb2 hpl4
  have hB3 := hB0.below hfr.2.2 hp0
  have hne : Nonempty (WSt (Ch4 WD W1 W2 W3)) := ⟨⟨0, _, .inl ⟨rfl, rfl⟩⟩⟩
  have c0 : ∀ y : WSt (Ch4 WD W1 W2 W3), y.w.cell? ⟨x, 1, none⟩ = some (.slice A2 l.length cap2) := fun y => WSt.all (p := fun w' => w'.cell? ⟨x, 1, none⟩ = some (.slice A2 l.length cap2)) y (hB0.cell 1) (hB1.cell 1) (hB2.cell 1) (hB3.cell 1)
  have HR1 := Lib.hid hr1
  have HR2 := Lib.hid hr2
  have HW1 := Lib.hid hW1
  have HWD := Lib.hid hWD
  have HFR := Lib.hid hfr
  have HB3 := Lib.hid hB3
  clear hr1 hr2 hW1 hB0 hB1 hB2 hB3 hfr hb2 hSD hp0
  refine wp_region_stage2 (Ch4 WD W1 W2 W3) [1, 8, 16] 19 (by kernel_rfl) (by kernel_rfl) (by kernel_rfl) (.inl ⟨rfl, hWD⟩) ?_
  simp only [List.take_succ_cons, List.take_zero, List.drop_succ_cons, List.drop_zero]
  iterate 1 (refine wpS_pure (by rfl) (fun K hK => ?_); go_simp; refine hK _ ?_; clear hK K)
  refine wpS_eff 0 (by rfl) (by rfl) (by rfl) (.slice (some ⟨w4.heap.size, 0, none⟩) 0 0) ?_ ?_
  · rintro ⟨Y, hY⟩
    obtain rfl : Y = WD := by simpa [Ch4] using hY
    go_simp
    exact .inr (.inl ⟨rfl, HW1.out⟩)
  iterate 6 (refine wpS_pure (by rfl) (fun K hK => ?_); go_simp; refine hK _ ?_; clear hK K)
  refine wpS_eff 1 (by rfl) (by rfl) (by rfl) v3 ?_ ?_
  · rintro ⟨Y, hY⟩
    obtain rfl : Y = W1 := by simpa [Ch4] using hY
    exact upTo_append (.tmp 31) (.tmp 37) _ (by rfl) _ _ (by rfl) (by rfl) (HR1.out _) (.inr (.inr (.inl ⟨rfl, rfl⟩)))
  iterate 7 (refine wpS_pure (by rfl) (fun K hK => ?_); go_simp; refine hK _ ?_; clear hK K)
  refine wpS_eff 2 (by rfl) (by rfl) (by rfl) v4 ?_ ?_
  · rintro ⟨Y, hY⟩
    obtain rfl : Y = W2 := by simpa [Ch4] using hY
    exact upTo_append (.tmp 38) (.tmp 45) _ (by rfl) _ _ (by rfl) (by show Value.slice _ _ _ = Value.slice _ _ _; congr 1; rcases A2 with _ | ⟨g, off, t⟩ <;> simp [Addr.add]) (HR2.out _) (.inr (.inr (.inr ⟨rfl, rfl⟩)))
  iterate 2 (refine wpS_pure (by rfl) (fun K hK => ?_); go_simp; refine hK _ ?_; clear hK K)
  refine wpS_nil ?_
  intro y
  have hyw : y.w = W3 := by simpa [Ch4] using y.ok
  rw [hyw]
  clear hyw y c0 hne HR1 HR2 HW1
  obtain ⟨B4, d4, rfl, hd3, hd4⟩ := HFR.out.1.form
  have hB5 : Blk (W3.setCell ⟨x, 1, none⟩ (.slice B4 (l.length - 1) d4)) x 43 #[(.slice B2 (l.length - 1) d2), (.slice B4 (l.length - 1) d4), .int .i64 A, .int .i64 L] := HB3.out.set_ 1 _
  have hk2 : Keeps (· = x) W3 (W3.setCell ⟨x, 1, none⟩ (.slice B4 (l.length - 1) d4)) := (Keeps.refl (· = x) W3).setCell (p := ⟨x, 1, none⟩) rfl _
  have hb1 : Below w4.heap.size w4 W3 := by rw [← hsz]; exact Below.trans ⟨by rw [← HWD.out]; rfl, by rw [← HWD.out]; rfl, by rw [← HWD.out]; rfl, by omega, fun k hk => by rw [← HWD.out]; rfl⟩ HFR.out.2.2
  have hK2 : Keeps (· = x) w4 (W3.setCell ⟨x, 1, none⟩ (.slice B4 (l.length - 1) d4)) := (Keeps.of_below (S := (· = x)) hb1).setCell (p := ⟨x, 1, none⟩) rfl _
  have hn4 : (Value.slice B4 (l.length - 1) d4).ownBlock ≠ some x := fun e => by have := (HFR.out.2.1 x e).1; omega
  have hS3 := HFR.out.1.keeps hk2 (fun g hg e => hn4 (by rw [hg, e]))
  have hS4 := HS1.out.keeps hK2 (fun g hg e => hn2 (by rw [hg, e]))
  have hO2 : ∀ g, (Value.slice B4 (l.length - 1) d4).ownBlock = some g → w.heap.size ≤ g ∧ g < (W3.setCell ⟨x, 1, none⟩ (.slice B4 (l.length - 1) d4)).heap.size := fun g hg => by have := HFR.out.2.1 g hg; have := HK1.out.size; simp [World.setCell]; omega
  have hR5 : rAt (W3.setCell ⟨x, 1, none⟩ (.slice B4 (l.length - 1) d4)) x (.slice B2 (l.length - 1) d2) (.slice B4 (l.length - 1) d4) (l.eraseIdx i) A L := by
    have el : (l.eraseIdx i).length = l.length - 1 := List.length_eraseIdx_of_lt hi
    refine ⟨hB5, ⟨?_, ?_⟩, ⟨hn2, hn4⟩, fun g hg => Nat.lt_of_lt_of_le (HO1.out g hg).2 hK2.size, fun g hg => (hO2 g hg).2⟩
    · rw [el, idCells_cut]; exact hS4
    · rw [el, wtCells_cut]; exact hS3
  have hK5 : Keeps (· = x) w (W3.setCell ⟨x, 1, none⟩ (.slice B4 (l.length - 1) d4)) := HK1.out.trans hK2
  have fz := fun k => HB3.out.frozen k
  have c1 := HB3.out.cell 1
  simp at c1
  go_upto_region 6 with fail
  clear c1 fz HB3 hk2 hb1 HFR HWD hsz hS3 hS4 hB5 hK2
  generalize World.setCell W3 _ _ = w5 at *
  have HR5 := Lib.hid hR5
  have HK5 := Lib.hid hK5
  have HO2 := Lib.hid hO2
  have c2 := hR5.1.cell 2
  have c3 := hR5.1.cell 3
  simp at c2 c3
  have fz := fun k => hR5.1.frozen k
  have hpl5 := hR5.1.lt
  have u2 : IntKind.i64.wrap (A - 1) = A - 1 := IntWalk.i64_in _ (by omega)
  clear hR5 hK5 hO2
  by_cases e1 : (i : Int) = A
  · have g1 : ((i : Int) == A) = true := beq_iff_eq.2 e1
    have g2 : (i : Int) ≤ A := by omega
    have k1 : Keeps (· = x) w5 ((w5.setCell ⟨x, 3, none⟩ (.int .i64 0)).setCell ⟨x, 2, none⟩ (.int .i64 (A - 1))) := ((Keeps.refl (· = x) w5).setCell (p := ⟨x, 3, none⟩) rfl _).setCell (p := ⟨x, 2, none⟩) rfl _
    have k2 : Blk ((w5.setCell ⟨x, 3, none⟩ (.int .i64 0)).setCell ⟨x, 2, none⟩ (.int .i64 (A - 1))) x 43 #[(.slice B2 (l.length - 1) d2), (.slice B4 (l.length - 1) d4), .int .i64 (A - 1), .int .i64 0] := (HR5.out.1.set_ 3 _).set_ 2 _
    have HFin := Lib.hid (show rDelPost x l A L i w (.returned (.int .i64 0)) ((w5.setCell ⟨x, 3, none⟩ (.int .i64 0)).setCell ⟨x, 2, none⟩ (.int .i64 (A - 1))) from by
      refine ⟨rfl, (.slice B2 (l.length - 1) d2), (.slice B4 (l.length - 1) d4), ?_, HK5.out.trans k1, fun g hg => (HO1.out g hg).1, fun g hg => (HO2.out g hg).1⟩
      rw [if_pos g2, if_pos e1]
      exact HR5.out.own k1 k2)
    clear k1 k2
    go_wp2_with fail
    all_goals (go_ret; exact HFin.out)
  · have g1 : ((i : Int) == A) = false := beq_eq_false_iff_ne.2 e1
    by_cases g2 : (i : Int) ≤ A
    · have k1 : Keeps (· = x) w5 (w5.setCell ⟨x, 2, none⟩ (.int .i64 (A - 1))) := (Keeps.refl (· = x) w5).setCell (p := ⟨x, 2, none⟩) rfl _
      have k2 : Blk (w5.setCell ⟨x, 2, none⟩ (.int .i64 (A - 1))) x 43 #[(.slice B2 (l.length - 1) d2), (.slice B4 (l.length - 1) d4), .int .i64 (A - 1), .int .i64 L] := HR5.out.1.set_ 2 _
      have HFin := Lib.hid (show rDelPost x l A L i w (.returned (.int .i64 0)) (w5.setCell ⟨x, 2, none⟩ (.int .i64 (A - 1))) from by
        refine ⟨rfl, (.slice B2 (l.length - 1) d2), (.slice B4 (l.length - 1) d4), ?_, HK5.out.trans k1, fun g hg => (HO1.out g hg).1, fun g hg => (HO2.out g hg).1⟩
        rw [if_pos g2, if_neg e1]
        exact HR5.out.own k1 k2)
      clear k1 k2
      go_wp2_with fail
      all_goals (go_ret; exact HFin.out)
    · have HFin := Lib.hid (show rDelPost x l A L i w (.returned (.int .i64 0)) w5 from by
        refine ⟨rfl, (.slice B2 (l.length - 1) d2), (.slice B4 (l.length - 1) d4), ?_, HK5.out, fun g hg => (HO1.out g hg).1, fun g hg => (HO2.out g hg).1⟩
        rw [if_neg g2, if_neg e1]
        exact HR5.out)
      go_wp2_with fail
      all_goals (go_ret; exact HFin.out)
end Go.Proofs.Ytgfcfpoebmlppaa
