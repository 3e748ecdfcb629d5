/- slices.Insert of one row. -/
import Derived.Test.YtkicnjbidbfajaaSearch
import Derived.Deep.RegionLaw
import Derived.Lib.Overlaps
import Derived.Lib.AppendZerosOnto
namespace Go.Proofs.Ytkicnjbidbfajaa
open Go.ChangeShapes Go.WideShapes Go.ChangeAt Go.RowKit
set_option linter.unusedVariables false
set_option linter.unusedSimpArgs false
/-- copy(..), elements of any size -/
theorem run_copy_sz {P : Program} (w : World) (dT sT ty elem : TypeId) (i0 : TypeInfo) (size m : Nat) (b o dLen dCap : Nat) (a : Addr) (sLen sCap : Nat) (cs : List Value)
    (hu : P.underlying dT = some (.slice elem)) (hi : P.info? elem = some i0) (hs : i0.size = size) (hm : Nat.min sLen dLen = m) (hl : cs.length = m * size)
    (hsrc : ∀ j v, cs[j]? = some v → w.cell? (a.add j) = some v) (hc : ∀ j, j < cs.length → (w.cell? ⟨b, o + j, none⟩).isSome = true) (hf : ∀ j, j < cs.length → w.frozen? ⟨b, o + j, none⟩ = false) (h1 : ∀ v ∈ cs, v.oneCell' = true) :
    (Builtin.copy_ #[dT, sT] ty #[.slice (some ⟨b, o, none⟩) dLen dCap, .slice (some a) sLen sCap]).run P w = .ok (goInt m) (w.setCells b o cs) := by
  subst hs
  have hld := run_loadCells_list (P := P) w a cs hsrc
  have hst := run_storeCells_cells (P := P) b o cs 0 w (by simpa using hc) (by simpa using hf) h1
  simp [Builtin.copy_, run_underlying hu, Builtin.lenOf, Builtin.firstCells, sizeOf, typeInfo, hi, hm, ← hl, hld, hst]
theorem wp_copy_run {P : Program} {w w' : World} {o : Oper} {a : Act} {K : Act → World → Prop} {Q : Exit → Act → World → Prop} (d s : Operand) (t t' : TypeId)
    (hop : o.op = .call { callee := .builtin .copy, args := #[d, s], argTypes := #[t, t'] }) (vd vs r : Value) (hd : a.eval d = vd) (hs : a.eval s = vs) (hr : (Builtin.copy_ #[t, t'] o.type #[vd, vs]).run P w = .ok r w') (h : K (a.put o.dst r) w') : o.wp P a w K Q := by
  unfold Oper.wp
  simp [execOp, hop, resolve, invoke, builtin, hd, hs, hr, Result.andThen]
  exact h
theorem wpList_copy_run {P : Program} {w w' : World} {ops : Array Oper} {rest : List Oper} {o : Oper} {a : Act} {Q : Exit → Act → World → Prop} (hgd : o.guard = none) (d s : Operand) (t t' : TypeId)
    (hop : o.op = .call { callee := .builtin .copy, args := #[d, s], argTypes := #[t, t'] }) (vd vs r : Value) (hd : a.eval d = vd) (hs : a.eval s = vs) (hr : (Builtin.copy_ #[t, t'] o.type #[vd, vs]).run P w = .ok r w') (h : wpList P ops Q rest (a.put o.dst r) w') : wpList P ops Q (o :: rest) a w :=
  wpList_plain hgd fun K hK => wp_copy_run d s t t' hop vd vs r hd hs hr (hK _ _ h)
theorem step_copy_run {P : Program} {w w' : World} {ops : Array Oper} {o : Oper} {a : Act} {K : Act → World → Prop} {Q : Exit → Act → World → Prop} {E : Prop} (hgd : o.guard = none) (d s : Operand) (t t' : TypeId)
    (hop : o.op = .call { callee := .builtin .copy, args := #[d, s], argTypes := #[t, t'] }) (vd vs r : Value) (hd : a.eval d = vd) (hs : a.eval s = vs) (hr : (Builtin.copy_ #[t, t'] o.type #[vd, vs]).run P w = .ok r w') (h : K (a.put o.dst r) w') :
    if Region.wanted o (yielded ops a.tmps) = true then Oper.wp P o a w K Q else E := by
  have hw : Region.wanted o (yielded ops a.tmps) = true := by simp [Region.wanted, hgd]
  rw [if_pos hw]
  exact wp_copy_run d s t t' hop vd vs r hd hs hr h
theorem wpList_append_eq {P : Program} {w w' : World} {ops : Array Oper} {rest : List Oper} {o : Oper} {a : Act} {Q : Exit → Act → World → Prop} (hgd : o.guard = none) (d s : Operand) (t t' : TypeId)
    (hop : o.op = .call { callee := .builtin .append, args := #[d, s], argTypes := #[t, t'] }) (vd vs r : Value) (hd : a.eval d = vd) (hs : a.eval s = vs) (hr : (Builtin.append_ #[t, t'] o.type #[vd, vs]).run P w = .ok r w') (h : wpList P ops Q rest (a.put o.dst r) w') : wpList P ops Q (o :: rest) a w :=
  wpList_plain hgd fun K hK => by
    unfold Oper.wp
    simp [execOp, hop, resolve, invoke, builtin, hd, hs, hr, Result.andThen]
    exact hK _ _ h
/-- vs put in ahead of element i -/
def insIn (size i : Nat) (xs vs : List Value) : List Value := xs.take (i * size) ++ (vs ++ xs.drop (i * size))
theorem insIn_len {size i n : Nat} {xs vs : List Value} (h : xs.length = n * size) (hi : i ≤ n) (hv : vs.length = size) : (insIn size i xs vs).length = (n + 1) * size := by
  have h1 : i * size ≤ n * size := Nat.mul_le_mul_right _ hi
  have h2 : (n + 1) * size = n * size + size := by rw [Nat.add_mul]; omega
  unfold insIn
  rw [List.length_append, List.length_append, List.length_take, List.length_drop, h, hv]; omega
theorem insIn_at {size i n off : Nat} {xs vs : List Value} {B : Array Value} (h : xs.length = n * size) (hi : i ≤ n) (hv : vs.length = size)
    (h0 : ∀ j u, j < i * size → xs[j]? = some u → B[off + j]? = some u) (h1 : ∀ j, j < size → B[off + i * size + j]? = vs[j]?) (h2 : ∀ j, j < (xs.drop (i * size)).length → B[off + (i + 1) * size + j]? = (xs.drop (i * size))[j]?) (j : Nat) (u : Value) (hu : (insIn size i xs vs)[j]? = some u) : B[off + j]? = some u := by
  have e1 : i * size ≤ n * size := Nat.mul_le_mul_right _ hi
  have e2 : (i + 1) * size = i * size + size := by rw [Nat.add_mul]; omega
  have hj := (List.getElem?_eq_some_iff.1 hu).1
  rw [insIn_len h hi hv] at hj
  have e3 : (n + 1) * size = n * size + size := by rw [Nat.add_mul]; omega
  have hlt : (xs.take (i * size)).length = i * size := by rw [List.length_take, h]; omega
  unfold insIn at hu
  by_cases c : j < i * size
  · rw [List.getElem?_append_left (by omega), List.getElem?_take, if_pos c] at hu
    exact h0 j u c hu
  · rw [List.getElem?_append_right (by omega), hlt] at hu
    by_cases c2 : j - i * size < size
    · rw [List.getElem?_append_left (by omega)] at hu
      rw [show off + j = off + i * size + (j - i * size) by omega, h1 _ c2]; exact hu
    · rw [List.getElem?_append_right (by omega), hv] at hu
      have hj2 := (List.getElem?_eq_some_iff.1 hu).1
      rw [show off + j = off + (i + 1) * size + (j - i * size - size) by omega, h2 _ hj2]; exact hu
/-- the two writes, in either order -/
theorem ins_room {size i n off : Nat} {xs vs : List Value} {cs : Array Value} (h : xs.length = n * size) (hi : i ≤ n) (hv : vs.length = size) (hs : off + (n + 1) * size ≤ cs.size) (hc : ∀ j u, j < i * size → xs[j]? = some u → cs[off + j]? = some u) (j : Nat) (u : Value) (hu : (insIn size i xs vs)[j]? = some u) :
    (putRow (putRow cs (off + (i + 1) * size) (xs.drop (i * size))) (off + i * size) vs)[off + j]? = some u := by
  have e1 : i * size ≤ n * size := Nat.mul_le_mul_right _ hi
  have e2 : (i + 1) * size = i * size + size := by rw [Nat.add_mul]; omega
  have e3 : (n + 1) * size = n * size + size := by rw [Nat.add_mul]; omega
  have hd : (xs.drop (i * size)).length = n * size - i * size := by rw [List.length_drop, h]
  refine insIn_at h hi hv (fun j u hj hu => ?_) (fun j hj => ?_) (fun j hj => ?_) j u hu
  · rw [putRow_out _ _ _ _ (.inl (by omega)), putRow_out _ _ _ _ (.inl (by omega))]; exact hc j u hj hu
  · exact putRow_in _ _ _ _ (by rw [size_putRow, hv]; omega) (by omega)
  · rw [putRow_out _ _ _ _ (.inr (by omega))]
    exact putRow_in _ _ _ _ (by omega) hj
theorem ins_grow {size i n off : Nat} {xs vs : List Value} {cs : Array Value} (h : xs.length = n * size) (hi : i ≤ n) (hv : vs.length = size) (hs : off + (n + 1) * size ≤ cs.size) (hc : ∀ j u, j < i * size → xs[j]? = some u → cs[off + j]? = some u) (j : Nat) (u : Value) (hu : (insIn size i xs vs)[j]? = some u) :
    (putRow (putRow cs (off + i * size) vs) (off + (i + 1) * size) (xs.drop (i * size)))[off + j]? = some u := by
  have e1 : i * size ≤ n * size := Nat.mul_le_mul_right _ hi
  have e2 : (i + 1) * size = i * size + size := by rw [Nat.add_mul]; omega
  have e3 : (n + 1) * size = n * size + size := by rw [Nat.add_mul]; omega
  have hd : (xs.drop (i * size)).length = n * size - i * size := by rw [List.length_drop, h]
  refine insIn_at h hi hv (fun j u hj hu => ?_) (fun j hj => ?_) (fun j hj => ?_) j u hu
  · rw [putRow_out _ _ _ _ (.inl (by omega)), putRow_out _ _ _ _ (.inl (by omega))]; exact hc j u hj hu
  · rw [putRow_out _ _ _ _ (.inl (by omega))]
    exact putRow_in _ _ _ _ (by rw [hv]; omega) (by omega)
  · exact putRow_in _ _ _ _ (by rw [size_putRow]; omega) hj
theorem rowCells_ins (l : List Rw) (i : Nat) (x : Rw) : insIn 2 i (rowCells l) [.int .i64 x.1, .string x.2] = rowCells (l.take i ++ x :: l.drop i) := by
  rw [rowCells_app, rowCells_cons, rowCells_take, rowCells_drop]; rfl
theorem infoRow : (Try.prog.info? 26).map (fun i => (i.zero, i.size, i.bytes)) = some (some (.agg #[.int .i64 0, .string ByteArray.empty]), 2, 24) := by kernel_rfl
def InsPost (v : Value) (l : List Rw) (i : Nat) (x : Rw) (w : World) (e : Ending) (w' : World) : Prop :=
  ∃ v', e = .returned v' ∧ Sl w' 26 2 v' (l.length + 1) (rowCells (l.take i ++ x :: l.drop i)) ∧ Keeps (fun g => v.ownBlock = some g) w w' ∧ (v'.ownBlock = v.ownBlock ∨ ∃ g, v'.ownBlock = some g ∧ w.heap.size ≤ g)
set_option maxRecDepth 100000 in
set_option maxHeartbeats 1000000 in
/-- at the end -/
theorem insert_end (v : Value) (l : List Rw) (x : Rw) (vb : Nat) (w : World) (h : Sl w 26 2 v l.length (rowCells l)) (hb : w.heap[vb]? = some (.cells #[.int .i64 x.1, .string x.2] 26 (0, 0))) (hn : l.length ≤ 2000) :
    Calls Try.prog 51 #[v, .int .i64 l.length, .slice (some ⟨vb, 0, none⟩) 1 1] w (InsPost v l l.length x w) := by
  obtain ⟨i0, hi0, hz0, hz1, hz2⟩ := info_parts infoRow
  obtain ⟨A, cap, rfl, hlc, hcm⟩ := h.form
  unfold maxLen at hcm
  have H := Lib.hid h
  have HB := Lib.hid hb
  clear h hb
  have q1 : (0 : Int) ≤ l.length := by omega
  have q2 : ((l.length : Int) == l.length) = true := by simp
  go_enter Try.func51, Try.ntmps51
  go_wp2_with (refine wpList_append_sl (by rfl) (.tmp 23) (.tmp 24) _ (by rfl) 26 i0 _ 2 24 Try.underlying22 hi0 hz0 hz1 hz2 rfl (by omega) _ l.length (rowCells l) (by rfl) H.out _ 1 1 [.int .i64 x.1, .string x.2] (by rfl) (by rfl) (World.news_of_block (cs := #[.int .i64 x.1, .string x.2]) (t := 26) (fr := (0, 0)) HB.out) (by simp [Value.oneCell']) (by omega) (by unfold maxLen; omega) (by omega) ?_; intro v1 w1 hS hK hO; obtain ⟨A1, c1, rfl, hd1, hd2⟩ := hS.form; have HS := Lib.hid hS; have HK := Lib.hid hK; have HO := Lib.hid hO; clear hS hK hO)
  all_goals go_ret
  all_goals
    refine ⟨.slice A1 (l.length + 1) c1, rfl, ?_, HK.out.mono (fun x hx => by cases A <;> exact hx), HO.out.imp (fun e => e.trans (by cases A <;> rfl)) id⟩
    have e : rowCells (l.take l.length ++ x :: l.drop l.length) = rowCells l ++ [.int .i64 x.1, .string x.2] := by simp [rowCells_app, rowCells]
    rw [e]
    exact HS.out
theorem Keeps.drew {S : Nat → Prop} {a w : World} (h : Keeps S a w) : Keeps S a w.drew := ⟨h.os, h.tape, h.output, h.size, h.block⟩
theorem overlaps_fresh (w : World) (la ca lb cb vb g o : Nat) (hne : vb ≠ g) (tA tB : TypeId) (kA kB : Nat) (hsa : w.shape? vb = some (tA, kA)) (hsb : w.shape? g = some (tB, kB)) (hkB : kB ≠ 0) (hfa : w.frozen? ⟨vb, 0, none⟩ = false) (hfe : w.frozen? ⟨vb, kA, none⟩ = false) :
    (callFunc 63 #[.slice (some ⟨vb, 0, none⟩) la ca, .slice (some ⟨g, o, none⟩) lb cb]).run Try.prog w = .ok (.value (.bool false)) w := by
  rw [run_callFunc_extern Try.func63 (by kernel_rfl) (by kernel_rfl) (by kernel_rfl) (e := Extern.SlicesOverlaps.overlaps #[22, 22] #[4]) (by kernel_rfl),
    Lib.run_overlaps_apart w 22 4 26 Try.underlying22 2 (fun w => by kernel_rfl) ⟨vb, 0, none⟩ ⟨g, o, none⟩ la ca lb cb hne tA tB kA kB hsa hsb hkB hfa hfe]
  rfl
theorem shape_of {w : World} {g : Nat} {cs : Array Value} {e : TypeId} (h : w.heap[g]? = some (.cells cs e (0, 0))) : w.shape? g = some (e, cs.size) := by
  simp [World.shape?, h]
set_option maxRecDepth 100000 in
set_option maxHeartbeats 1000000 in
/-- in the middle, with room -/
theorem insert_room (g off cap : Nat) (l : List Rw) (i : Nat) (x : Rw) (vb : Nat) (w : World) (h : Sl w 26 2 (.slice (some ⟨g, off, none⟩) l.length cap) l.length (rowCells l)) (hb : w.heap[vb]? = some (.cells #[.int .i64 x.1, .string x.2] 26 (0, 0))) (hvb : vb ≠ g) (hi : i < l.length) (hr : l.length + 1 ≤ cap) (hn : l.length ≤ 2000) :
    Calls Try.prog 51 #[.slice (some ⟨g, off, none⟩) l.length cap, .int .i64 i, .slice (some ⟨vb, 0, none⟩) 1 1] w (InsPost (.slice (some ⟨g, off, none⟩) l.length cap) l i x w) := by
  obtain ⟨i0, hi0, hz0, hz1, hz2⟩ := info_parts infoRow
  obtain ⟨hl, h2⟩ := h
  obtain ⟨cs, hh, hc0, hcm, hcs, hat⟩ : ∃ cs : Array Value, w.heap[g]? = some (.cells cs 26 (0, 0)) ∧ 0 < cap ∧ cap ≤ maxLen ∧ off + cap * 2 ≤ cs.size ∧ ∀ j u, (rowCells l)[j]? = some u → cs[off + j]? = some u := by
    rcases h2 with ⟨A, hv, h0⟩ | ⟨g', off', cap', cs, hv, hh, r⟩
    · omega
    · simp at hv
      obtain ⟨⟨rfl, rfl⟩, rfl⟩ := hv
      exact ⟨cs, hh, r.2⟩
  unfold maxLen at hcm
  obtain ⟨n, hnl⟩ : ∃ n, l.length = n := ⟨_, rfl⟩
  rw [hnl] at hi hr hn hl ⊢
  have hov : ∀ lb cb o, (callFunc 63 #[.slice (some ⟨vb, 0, none⟩) 1 1, .slice (some ⟨g, o, none⟩) lb cb]).run Try.prog w = .ok (.value (.bool false)) w := fun lb cb o =>
    overlaps_fresh w 1 1 lb cb vb g o hvb _ _ _ _ (shape_of hb) (shape_of hh) (by omega) (free_of hb _) (free_of hb _)
  have hdl : ((rowCells l).drop (i * 2)).length = (n - i) * 2 := by rw [List.length_drop, hl]; omega
  have hone := rowCells_one l
  have hD : w.drew.heap[g]? = some (.cells cs 26 (0, 0)) := hh
  have hcp1 : ∀ ty dc sc, (Builtin.copy_ #[22, 22] ty #[.slice (some ⟨g, off + (i + 1) * 2, none⟩) (n - i) dc, .slice (some ⟨g, off + i * 2, none⟩) (n + 1 - i) sc]).run Try.prog w.drew = .ok (goInt ((n - i : Nat) : Int)) (w.drew.setCells g (off + (i + 1) * 2) ((rowCells l).drop (i * 2))) := fun ty dc sc =>
    run_copy_sz w.drew _ _ ty 26 i0 2 (n - i) g (off + (i + 1) * 2) _ dc ⟨g, off + i * 2, none⟩ _ sc _ Try.underlying22 hi0 hz1 (by simp only [Nat.min_def]; split <;> omega) hdl
      (fun j u hu => by rw [Addr.add_lit, cells_of hD, Nat.add_assoc]; exact hat _ u (by rwa [List.getElem?_drop] at hu))
      (fun j hj => by rw [cells_of hD]; rw [hdl] at hj; simp [show off + (i + 1) * 2 + j < cs.size by omega]) (fun j hj => free_of hD _) (fun u hu => hone u (List.mem_of_mem_drop hu))
  have hW1 : (w.drew.setCells g (off + (i + 1) * 2) ((rowCells l).drop (i * 2))).heap[g]? = some (.cells (putRow cs (off + (i + 1) * 2) ((rowCells l).drop (i * 2))) 26 (0, 0)) := heap_setCells _ _ _ _ hD
  have hK1 : Keeps (· = g) w (w.drew.setCells g (off + (i + 1) * 2) ((rowCells l).drop (i * 2))) := keeps_setCells (S := (· = g)) rfl _ _ _ _ (Keeps.refl (· = g) w).drew
  have HCP1 := Lib.hid hcp1
  obtain ⟨W1, hW1e⟩ : ∃ W1, w.drew.setCells g (off + (i + 1) * 2) ((rowCells l).drop (i * 2)) = W1 := ⟨_, rfl⟩
  rw [hW1e] at HCP1 hW1 hK1
  have hb1 : W1.heap[vb]? = some (.cells #[.int .i64 x.1, .string x.2] 26 (0, 0)) := (hK1.block vb (lt_of_block hb) hvb).trans hb
  have hcp2 : ∀ ty dc, (Builtin.copy_ #[22, 22] ty #[.slice (some ⟨g, off + i * 2, none⟩) (n + 1 - i) dc, .slice (some ⟨vb, 0, none⟩) 1 1]).run Try.prog W1 = .ok (goInt ((1 : Nat) : Int)) (W1.setCells g (off + i * 2) [.int .i64 x.1, .string x.2]) := fun ty dc =>
    run_copy_sz W1 _ _ ty 26 i0 2 1 g (off + i * 2) _ dc ⟨vb, 0, none⟩ 1 1 [.int .i64 x.1, .string x.2] Try.underlying22 hi0 hz1 (by simp only [Nat.min_def]; split <;> omega) rfl
      (fun j u hu => by rw [Addr.add_lit, cells_of hb1]; simpa using hu)
      (fun j hj => by rw [cells_of hW1]; simp at hj; simp [size_putRow, show off + i * 2 + j < cs.size by omega]) (fun j hj => free_of hW1 _) (by simp [Value.oneCell'])
  have hW2 : (W1.setCells g (off + i * 2) [.int .i64 x.1, .string x.2]).heap[g]? = some (.cells (putRow (putRow cs (off + (i + 1) * 2) ((rowCells l).drop (i * 2))) (off + i * 2) [.int .i64 x.1, .string x.2]) 26 (0, 0)) := heap_setCells _ _ _ _ hW1
  have hK2 : Keeps (· = g) w (W1.setCells g (off + i * 2) [.int .i64 x.1, .string x.2]) := keeps_setCells (S := (· = g)) rfl _ _ _ _ hK1
  have HCP2 := Lib.hid hcp2
  obtain ⟨W2, hW2e⟩ : ∃ W2, W1.setCells g (off + i * 2) [.int .i64 x.1, .string x.2] = W2 := ⟨_, rfl⟩
  rw [hW2e] at HCP2 hW2 hK2
  have hfin : InsPost (.slice (some ⟨g, off, none⟩) n cap) l i x w (.returned (.slice (some ⟨g, off, none⟩) (n + 1) cap)) W2 := by
    refine ⟨_, rfl, ?_, hK2.mono (fun y hy => by rw [hy]; rfl), .inl rfl⟩
    rw [hnl, ← rowCells_ins]
    refine ⟨by rw [insIn_len hl (by omega) rfl], .inr ⟨g, off, cap, _, rfl, hW2, hr, hc0, by unfold maxLen; omega, by rw [size_putRow, size_putRow]; exact hcs, fun j u hu => ?_⟩⟩
    exact ins_room hl (by omega) rfl (by omega) (fun j u _ hu => hat j u hu) j u hu
  have HFin := Lib.hid hfin
  have HOV := hov
  clear hcp1 hcp2 hW1 hW2 hK1 hK2 hb1 hD hfin hh hb hat hone hl hdl hW1e hW2e h2
  have q0 : ((i : Int) == n) = false := beq_eq_false_iff_ne.2 (by omega)
  have q1 : (0 : Int) ≤ i := by omega
  have q2 : (i : Int) ≤ n := by omega
  have q3 : ¬ ((cap : Int) < (n : Int) + 1) := by omega
  have q4 : (n : Int) + 1 ≤ cap := by omega
  have q5 : ((n : Int) + 1).toNat = n + 1 := by omega
  have q6 : ((i : Int) + 1).toNat = i + 1 := by omega
  have q7 : (i : Int) + 1 ≤ (n : Int) + 1 := by omega
  have q8 : (i : Int) ≤ (n : Int) + 1 := by omega
  have q9 : ¬ (cap = i) := by omega
  have q10 : ¬ (cap = i + 1) := by omega
  have q11 : (0 : Int) ≤ (i : Int) + 1 := by omega
  have q12 : (0 : Int) ≤ (n : Int) + 1 := by omega
  have q13 : i ≤ n := by omega
  have u1 : IntKind.i64.wrap ((i : Int) + 1) = (i : Int) + 1 := IntWalk.i64_in _ (by omega)
  go_enter Try.func51, Try.ntmps51
  go_wp2_with (simp only [HOV])
  have hq1 := HCP1.out 3 (cap - (i + 1)) (cap - i)
  have hq2 := HCP2.out 3 (cap - i)
  clear HCP1 HCP2 HOV
  go_region
  go_wp2_with fail
  go_ret
  exact HFin.out
set_option maxRecDepth 100000 in
set_option maxHeartbeats 1000000 in
/-- in the middle, without room -/
theorem insert_grow (g off cap : Nat) (l : List Rw) (i : Nat) (x : Rw) (vb : Nat) (w : World) (h : Sl w 26 2 (.slice (some ⟨g, off, none⟩) l.length cap) l.length (rowCells l)) (hb : w.heap[vb]? = some (.cells #[.int .i64 x.1, .string x.2] 26 (0, 0))) (hi : i < l.length) (hr : cap < l.length + 1) (hn : l.length ≤ 2000) :
    Calls Try.prog 51 #[.slice (some ⟨g, off, none⟩) l.length cap, .int .i64 i, .slice (some ⟨vb, 0, none⟩) 1 1] w (InsPost (.slice (some ⟨g, off, none⟩) l.length cap) l i x w) := by
  obtain ⟨i0, hi0, hz0, hz1, hz2⟩ := info_parts infoRow
  obtain ⟨hl, h2⟩ := h
  obtain ⟨cs, hh, hnc, hcm, hcs, hat⟩ : ∃ cs : Array Value, w.heap[g]? = some (.cells cs 26 (0, 0)) ∧ l.length ≤ cap ∧ cap ≤ maxLen ∧ off + cap * 2 ≤ cs.size ∧ ∀ j u, (rowCells l)[j]? = some u → cs[off + j]? = some u := by
    rcases h2 with ⟨A, hv, h0⟩ | ⟨g', off', cap', cs, hv, hh, h1, _, h3⟩
    · omega
    · simp at hv
      obtain ⟨⟨rfl, rfl⟩, rfl⟩ := hv
      exact ⟨cs, hh, h1, h3⟩
  unfold maxLen at hcm
  obtain ⟨n, hnl⟩ : ∃ n, l.length = n := ⟨_, rfl⟩
  rw [hnl] at hi hr hn hl hnc ⊢
  have hcn : cap = n := by omega
  subst hcn
  have hone := rowCells_one l
  have hgl := lt_of_block hh
  have hvl := lt_of_block hb
  have hold : (Builtin.firstCells i0.size i (.slice (some ⟨g, off, none⟩) i cap)).run Try.prog w.drew = .ok ((rowCells l).take (i * 2)).toArray w.drew := by
    rw [hz1]
    exact run_firstCells_some w.drew 2 i ⟨g, off, none⟩ i cap ((rowCells l).take (i * 2)) (by rw [List.length_take]; omega) (fun j v hj => by
      rw [Addr.add_lit]
      rw [List.getElem?_take] at hj
      split at hj
      · show w.cell? _ = _
        rw [cells_of hh]; exact hat j v hj
      · cases hj)
  have hkk : (cap : Int) + 1 - (i : Int) = ((cap + 1 - i : Nat) : Int) := by omega
  have hik : i + (cap + 1 - i) = cap + 1 := by omega
  obtain ⟨G, ROW, hG1, hG2, hRs, hRa, hrz⟩ : ∃ G ROW, cap + 1 ≤ G ∧ G ≤ maxLen ∧ G * 2 ≤ ROW.size ∧ (∀ j u, j < i * 2 → (rowCells l)[j]? = some u → ROW[j]? = some u) ∧ ∀ ty, (Builtin.append_ #[22, 3] ty #[.slice (some ⟨g, off, none⟩) i cap, .int .i64 ((cap : Int) + 1 - (i : Int))]).run Try.prog w = .ok (.slice (some ⟨w.heap.size, 0, none⟩) (cap + 1) G) (w.drew.alloc (.cells ROW 26)) := by
    refine ⟨grownCap w (cap + 1) cap 26, ((rowCells l).take (i * 2)).toArray ++ Builtin.zeroCells (Value.agg #[.int .i64 0, .string ByteArray.empty]).cells (cap + 1 - i) ++ Builtin.zeroCells (Value.agg #[.int .i64 0, .string ByteArray.empty]).cells (grownCap w (cap + 1) cap 26 - (cap + 1)), grownCap_ge w _ _ _, grownCap_le_maxLen w (cap + 1) cap 26 (by unfold maxLen; omega), ?_, fun j u hj hu => ?_, fun ty => ?_⟩
    · have := grownCap_ge w (cap + 1) cap 26
      simp [Builtin.zeroCells, Value.cells, hl]
      omega
    · rw [Array.getElem?_append_left (by simp [Builtin.zeroCells, Value.cells, hl]; omega), Array.getElem?_append_left (by simp [hl]; omega)]
      simp [List.getElem?_take, hj, hu]
    · have h := Lib.run_append_grow_zeros w 22 3 ty 26 i0 _ .i64 .i64 Try.underlying22 Try.underlying3 hi0 hz0 (some ⟨g, off, none⟩) i cap _ hold (cap + 1 - i) (by omega) (by omega) (by omega) (by omega) (by rw [hz2]; omega) (by rw [hz2, hik]; exact growslice_fits hr (by omega))
      rw [hik] at h
      rw [hkk]
      exact h
  have hdl : ((rowCells l).drop (i * 2)).length = (cap - i) * 2 := by rw [List.length_drop, hl]; omega
  obtain ⟨W1, hW1e⟩ : ∃ W1, w.drew.alloc (.cells ROW 26) = W1 := ⟨_, rfl⟩
  obtain ⟨N, hN⟩ : ∃ N, w.heap.size = N := ⟨_, rfl⟩
  have hW1 : W1.heap[N]? = some (.cells ROW 26 (0, 0)) := by rw [← hW1e, ← hN]; exact heap_alloc_new w.drew _
  have hB1 : Below w.heap.size w W1 := by rw [← hW1e]; exact (Below.refl w.heap.size w).drew.alloc (by show w.heap.size ≤ w.heap.size; omega) _
  have hb1 : W1.heap[vb]? = some (.cells #[.int .i64 x.1, .string x.2] 26 (0, 0)) := (hB1.block vb hvl).trans hb
  rw [hW1e, hN] at hrz
  rw [hN] at hgl hvl hB1
  have HRZ := Lib.hid hrz
  have hcp1 : ∀ ty dc, (Builtin.copy_ #[22, 22] ty #[.slice (some ⟨N, i * 2, none⟩) (cap + 1 - i) dc, .slice (some ⟨vb, 0, none⟩) 1 1]).run Try.prog W1 = .ok (goInt ((1 : Nat) : Int)) (W1.setCells N (i * 2) [.int .i64 x.1, .string x.2]) := fun ty dc =>
    run_copy_sz W1 _ _ ty 26 i0 2 1 N (i * 2) _ dc ⟨vb, 0, none⟩ 1 1 [.int .i64 x.1, .string x.2] Try.underlying22 hi0 hz1 (by simp only [Nat.min_def]; split <;> omega) rfl
      (fun j u hu => by rw [Addr.add_lit, cells_of hb1]; simpa using hu)
      (fun j hj => by rw [cells_of hW1]; simp at hj; simp [show i * 2 + j < ROW.size by omega]) (fun j hj => free_of hW1 _) (by simp [Value.oneCell'])
  have hW2 : (W1.setCells N (i * 2) [.int .i64 x.1, .string x.2]).heap[N]? = some (.cells (putRow ROW (i * 2) [.int .i64 x.1, .string x.2]) 26 (0, 0)) := heap_setCells _ _ _ _ hW1
  have hK2 : Keeps (· = N) W1 (W1.setCells N (i * 2) [.int .i64 x.1, .string x.2]).drew := (keeps_setCells (S := (· = N)) rfl _ _ _ _ (Keeps.refl (· = N) W1)).drew
  have HCP1 := Lib.hid hcp1
  obtain ⟨W2, hW2e⟩ : ∃ W2, W1.setCells N (i * 2) [.int .i64 x.1, .string x.2] = W2 := ⟨_, rfl⟩
  rw [hW2e] at HCP1 hW2 hK2
  have hh1 : W1.heap[g]? = some (.cells cs 26 (0, 0)) := (hB1.block g hgl).trans hh
  have hh2 : W2.drew.heap[g]? = some (.cells cs 26 (0, 0)) := (hK2.block g (lt_of_block hh1) (by omega)).trans hh1
  have hW2d : W2.drew.heap[N]? = some (.cells (putRow ROW (i * 2) [.int .i64 x.1, .string x.2]) 26 (0, 0)) := hW2
  have hcp2 : ∀ ty dc sc, (Builtin.copy_ #[22, 22] ty #[.slice (some ⟨N, (i + 1) * 2, none⟩) (cap - i) dc, .slice (some ⟨g, off + i * 2, none⟩) (cap - i) sc]).run Try.prog W2.drew = .ok (goInt ((cap - i : Nat) : Int)) (W2.drew.setCells N ((i + 1) * 2) ((rowCells l).drop (i * 2))) := fun ty dc sc =>
    run_copy_sz W2.drew _ _ ty 26 i0 2 (cap - i) N ((i + 1) * 2) _ dc ⟨g, off + i * 2, none⟩ _ sc _ Try.underlying22 hi0 hz1 (by simp only [Nat.min_def]; split <;> omega) hdl
      (fun j u hu => by rw [Addr.add_lit, cells_of hh2, Nat.add_assoc]; exact hat _ u (by rwa [List.getElem?_drop] at hu))
      (fun j hj => by rw [cells_of hW2d]; rw [hdl] at hj; simp [size_putRow, show (i + 1) * 2 + j < ROW.size by omega]) (fun j hj => free_of hW2d _) (fun u hu => hone u (List.mem_of_mem_drop hu))
  have hW3 : (W2.drew.setCells N ((i + 1) * 2) ((rowCells l).drop (i * 2))).heap[N]? = some (.cells (putRow (putRow ROW (i * 2) [.int .i64 x.1, .string x.2]) ((i + 1) * 2) ((rowCells l).drop (i * 2))) 26 (0, 0)) := heap_setCells _ _ _ _ hW2d
  have hK3 : Keeps (· = N) W1 (W2.drew.setCells N ((i + 1) * 2) ((rowCells l).drop (i * 2))) := keeps_setCells (S := (· = N)) rfl _ _ _ _ hK2
  have HCP2 := Lib.hid hcp2
  obtain ⟨W3, hW3e⟩ : ∃ W3, W2.drew.setCells N ((i + 1) * 2) ((rowCells l).drop (i * 2)) = W3 := ⟨_, rfl⟩
  rw [hW3e] at HCP2 hW3 hK3
  have hfin : InsPost (.slice (some ⟨g, off, none⟩) cap cap) l i x w (.returned (.slice (some ⟨N, 0, none⟩) (cap + 1) G)) W3 := by
    refine ⟨_, rfl, ?_, (Keeps.of_below (by rw [hN]; exact hB1)).trans' hK3 (fun y hy e => by omega), .inr ⟨N, rfl, by omega⟩⟩
    rw [hnl, ← rowCells_ins]
    refine ⟨by rw [insIn_len hl (by omega) rfl], .inr ⟨N, 0, G, _, rfl, hW3, hG1, by omega, hG2, by rw [size_putRow, size_putRow]; omega, fun j u hu => ?_⟩⟩
    have := ins_grow (off := 0) (cs := ROW) hl (by omega) (vs := [.int .i64 x.1, .string x.2]) rfl (by omega) (fun j u hj hu => by rw [Nat.zero_add]; exact hRa j u hj hu) j u hu
    simpa only [Nat.zero_add] using this
  have HFin := Lib.hid hfin
  unfold maxLen at hG2
  clear hcp1 hcp2 hW1 hW2 hW3 hK2 hK3 hb1 hB1 hfin hh hb hat hone hl hdl hW1e hW2e hW3e h2 hold hRs hRa hrz hh1 hh2 hW2d hkk hik
  have q0 : ((i : Int) == cap) = false := beq_eq_false_iff_ne.2 (by omega)
  have q1 : (0 : Int) ≤ i := by omega
  have q2 : (i : Int) ≤ cap := by omega
  have q6 : ((i : Int) + 1).toNat = i + 1 := by omega
  have q7 : (i : Int) + 1 ≤ (cap : Int) + 1 := by omega
  have q8 : (i : Int) ≤ (cap : Int) + 1 := by omega
  have q9 : ¬ (cap = i) := by omega
  have q10 : ¬ (G = i + 1) := by omega
  have q11 : (0 : Int) ≤ (i : Int) + 1 := by omega
  have q12 : ¬ (G = i) := by omega
  have q13 : i ≤ cap := by omega
  have u1 : IntKind.i64.wrap ((i : Int) + 1) = (i : Int) + 1 := IntWalk.i64_in _ (by omega)
  have u2 : IntKind.i64.wrap ((cap : Int) + 1 - i) = (cap : Int) + 1 - i := IntWalk.i64_in _ (by omega)
  go_enter Try.func51, Try.ntmps51
  have hq2 := HCP1.out 3 (G - i)
  have hq3 := HCP2.out 3 (G - (i + 1)) (cap - i)
  clear HCP1 HCP2
  go_upto_region 11 with (refine wpList_append_eq (by rfl) (.tmp 34) (.tmp 39) _ _ (by rfl) _ _ _ (by rfl) (by rfl) (HRZ.out _) ?_)
  go_region
  go_wp2_with fail
  go_ret
  exact HFin.out
theorem insert_any (v : Value) (l : List Rw) (i : Nat) (x : Rw) (vb : Nat) (w : World) (h : Sl w 26 2 v l.length (rowCells l)) (hb : w.heap[vb]? = some (.cells #[.int .i64 x.1, .string x.2] 26 (0, 0))) (hvb : v.ownBlock ≠ some vb) (hi : i ≤ l.length) (hn : l.length ≤ 2000) :
    Calls Try.prog 51 #[v, .int .i64 i, .slice (some ⟨vb, 0, none⟩) 1 1] w (InsPost v l i x w) := by
  by_cases e : i = l.length
  · subst e
    exact insert_end v l x vb w h hb hn
  · obtain ⟨g, off, cap, rfl, hnc, _⟩ := h.at_ (by omega)
    have hne : vb ≠ g := fun e => hvb (by simp [Value.ownBlock, e])
    by_cases c : l.length + 1 ≤ cap
    · exact insert_room g off cap l i x vb w h hb hne (by omega) c hn
    · exact insert_grow g off cap l i x vb w h hb (by omega) (by omega) hn
end Go.Proofs.Ytkicnjbidbfajaa
