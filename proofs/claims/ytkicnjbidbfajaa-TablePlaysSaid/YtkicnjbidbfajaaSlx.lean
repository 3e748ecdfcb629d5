/- Slices of the program's own, more: cut at the end, one element taken out in place, cells put to zero; lists of pairs and of ints as cells. Over any program. -/
import Derived.Test.YtkicnjbidbfajaaSl
namespace Go.Proofs.Ytkicnjbidbfajaa
open Go.ChangeShapes Go.WideShapes Go.ChangeAt Go.RowKit Go.Deep
set_option linter.unusedVariables false
set_option linter.unusedSimpArgs false
/-- s[:k]. -/
theorem Sl.take {w : World} {e size n cap : Nat} {A : Option Addr} {xs : List Value} (h : Sl w e size (.slice A n cap) n xs) (k : Nat) (hk : k ≤ n) : Sl w e size (.slice A k cap) k (xs.take (k * size)) := by
  have hle : k * size ≤ n * size := Nat.mul_le_mul_right _ hk
  refine ⟨by rw [List.length_take, h.1]; omega, ?_⟩
  rcases h.2 with ⟨A', hv, rfl⟩ | ⟨g, off, cap', cs, hv, hh, h1, h0, h2, h3, hc⟩
  · simp at hv
    obtain ⟨rfl, rfl⟩ := hv
    obtain rfl : k = 0 := by omega
    exact .inl ⟨_, rfl, rfl⟩
  · simp at hv
    obtain ⟨rfl, rfl⟩ := hv
    refine .inr ⟨g, off, cap, cs, rfl, hh, by omega, h0, h2, h3, fun j u hu => hc j u ?_⟩
    rw [List.getElem?_take] at hu
    split at hu
    · exact hu
    · cases hu
/-- What is left when one element is taken out of the middle. -/
def cutOut (size i : Nat) (xs : List Value) : List Value := xs.take (i * size) ++ xs.drop ((i + 1) * size)
theorem cutOut_len {size i n : Nat} {xs : List Value} (h : xs.length = n * size) (hi : i < n) : (cutOut size i xs).length = (n - 1) * size := by
  have h1 : (i + 1) * size ≤ n * size := Nat.mul_le_mul_right _ hi
  have h2 : (i + 1) * size = i * size + size := by rw [Nat.add_mul]; omega
  have h3 : (n - 1) * size + size = n * size := by rw [← Nat.succ_mul]; congr 1; omega
  unfold cutOut
  rw [List.length_append, List.length_take, List.length_drop, h]; omega
theorem cutOut_cells {size i n off : Nat} {xs zs : List Value} {cs : Array Value} (h : xs.length = n * size) (hi : i < n) (hs : off + n * size ≤ cs.size) (hc : ∀ j u, xs[j]? = some u → cs[off + j]? = some u) (j : Nat) (u : Value) (hu : (cutOut size i xs)[j]? = some u) :
    (putRow (putRow cs (off + i * size) (xs.drop ((i + 1) * size))) (off + (n - 1) * size) zs)[off + j]? = some u := by
  have h1 : (i + 1) * size ≤ n * size := Nat.mul_le_mul_right _ hi
  have h2 : (i + 1) * size = i * size + size := by rw [Nat.add_mul]; omega
  have h3 : (n - 1) * size + size = n * size := by rw [← Nat.succ_mul]; congr 1; omega
  have hj := (List.getElem?_eq_some_iff.1 hu).1
  rw [cutOut_len h hi] at hj
  rw [putRow_out zs _ _ _ (.inl (by omega))]
  unfold cutOut at hu
  by_cases hk : j < i * size
  · rw [List.getElem?_append_left (by rw [List.length_take, h]; omega), List.getElem?_take, if_pos hk] at hu
    rw [putRow_out _ _ _ _ (.inl (by omega))]
    exact hc j u hu
  · rw [List.getElem?_append_right (by rw [List.length_take, h]; omega)] at hu
    have hlt : (xs.take (i * size)).length = i * size := by rw [List.length_take, h]; omega
    rw [hlt] at hu
    have hj2 := (List.getElem?_eq_some_iff.1 hu).1
    rw [show off + j = off + i * size + (j - i * size) by omega, putRow_in _ _ _ _ (by rw [List.length_drop, h]; omega) hj2]
    exact hu
/-- append(s[:i], s[i+1:]...): in place. -/
theorem run_cut_sl {P : Program} (w : World) (t ty e : TypeId) (i0 : TypeInfo) (size : Nat) (ht : P.underlying t = some (.slice e)) (hi : P.info? e = some i0) (hsize : i0.size = size)
    (g off n cap i : Nat) (cs : Array Value) (xs : List Value) (hh : w.heap[g]? = some (.cells cs e (0, 0))) (hl : xs.length = n * size) (hin : i < n) (hnc : n ≤ cap) (hcs : off + cap * size ≤ cs.size) (hat : ∀ j u, xs[j]? = some u → cs[off + j]? = some u) (h1 : ∀ u ∈ xs, u.oneCell' = true)
    (ad : Addr) (c : Nat) (had : ad = ⟨g, off + (i + 1) * size, none⟩ ∨ i + 1 = n) :
    (Builtin.append_ #[t, t] ty #[.slice (some ⟨g, off, none⟩) i cap, .slice (some ad) (n - (i + 1)) c]).run P w = .ok (.slice (some ⟨g, off, none⟩) (n - 1) cap) (w.setCells g (off + i * size) (xs.drop ((i + 1) * size))) := by
  subst hsize
  have e1 : (i + 1) * i0.size ≤ n * i0.size := Nat.mul_le_mul_right _ hin
  have e2 : (i + 1) * i0.size = i * i0.size + i0.size := by rw [Nat.add_mul]; omega
  have e3 : n * i0.size ≤ cap * i0.size := Nat.mul_le_mul_right _ hnc
  have e4 : (n - (i + 1)) * i0.size = n * i0.size - (i + 1) * i0.size := Nat.sub_mul ..
  have hdl : (xs.drop ((i + 1) * i0.size)).length = (n - (i + 1)) * i0.size := by rw [List.length_drop, hl, e4]
  have := run_append_room_cells (P := P) (w := w) t ty e i0 ht hi g off i cap ad (n - (i + 1)) c (xs.drop ((i + 1) * i0.size)) hdl (fun j u hu => ?_) (fun u hu => h1 u (List.mem_of_mem_drop hu)) (by omega) (fun j hj => ?_) (fun j hj => free_of hh _)
  · rw [this]
    congr 2
    omega
  · rcases had with rfl | rfl
    · rw [List.getElem?_drop] at hu
      rw [add_none, cells_of hh]
      show cs[off + (i + 1) * i0.size + j]? = some u
      rw [Nat.add_assoc]; exact hat _ u hu
    · have hj := (List.getElem?_eq_some_iff.1 hu).1
      rw [hdl] at hj
      simp at hj
  · rw [hdl] at hj
    rw [cells_of hh]
    simp [show off + i * i0.size + j < cs.size by omega]
/-- clear(s[n-1:n]). -/
theorem run_clear_one {P : Program} (w : World) (t e ty : TypeId) (z : Value) (zs : Array Value) (ht : P.underlying t = some (.slice e)) (hv : ∀ w, (zeroValue e).run P w = .ok z w) (hz : z.cells = zs) (h1 : ∀ u ∈ zs.toList, u.oneCell' = true) (g o c : Nat)
    (hc : ∀ j, j < zs.size → (w.cell? ⟨g, o + j, none⟩).isSome = true) (hf : ∀ j, j < zs.size → w.frozen? ⟨g, o + j, none⟩ = false) :
    (Builtin.clear_ #[t] ty #[.slice (some ⟨g, o, none⟩) 1 c]).run P w = .ok (.tuple #[]) (w.setCells g o zs.toList) := by
  have hzc : (Builtin.zeroCells z.cells 1).toList = zs.toList := by
    rw [hz]
    simp only [Builtin.zeroCells]
    apply List.ext_getElem
    · simp
    · intro i h1 h2
      simp at h1 h2
      simp only [List.getElem_map, Array.toList_map, Array.getElem_toList, Array.toList_range, List.getElem_range, Nat.mod_eq_of_lt h2]
      exact getElem!_pos zs i h2
  have hst := run_storeCells_cells (P := P) g o zs.toList 0 w (by simpa using hc) (by simpa using hf) h1
  simp only [Nat.add_zero] at hst
  simp [Builtin.clear_, run_underlying ht, hv, hzc, hst]
/-- append(s, x...), x of no element. -/
theorem run_append_zero {P : Program} (w : World) (t ty e : TypeId) (i : TypeInfo) (ht : P.underlying t = some (.slice e)) (hi : P.info? e = some i) (B A : Option Addr) (n cap c : Nat) (hn : n ≤ cap) :
    (Builtin.append_ #[t, t] ty #[.slice B n cap, .slice A 0 c]).run P w = .ok (.slice B n cap) w := by
  have hf : (Builtin.firstCells i.size 0 (.slice A 0 c)).run P w = .ok #[] w := by
    cases A with
    | none => simp [Builtin.firstCells]
    | some a => exact run_firstCells_some (P := P) w i.size 0 a 0 c [] (by simp) (by simp)
  cases B <;> simp [Builtin.append_, run_underlying ht, sizeOf, typeInfo, hi, Builtin.lenOf, hn, hf, storeCells]
/-- append(v, x...), both slices of the program's own. -/
theorem run_append_sls {P : Program} (w : World) (t ty e : TypeId) (i : TypeInfo) (z : Value) (size bytes : Nat) (ht : P.underlying t = some (.slice e)) (hi : P.info? e = some i) (hz : i.zero = some z)
    (hsize : i.size = size) (hby : i.bytes = bytes) (hzs : z.cells.size = size) (hsz : 0 < size)
    (v : Value) (n : Nat) (xs : List Value) (hown : Sl w e size v n xs) (x : Value) (m : Nat) (ys : List Value) (hx : Sl w e size x m ys) (h1 : ∀ u ∈ ys, u.oneCell' = true)
    (h63 : n + m ≤ maxLen) (hbytes : (n + m) * bytes ≤ 140737488355328) :
    ∃ v' w', (Builtin.append_ #[t, t] ty #[v, x]).run P w = .ok v' w' ∧ Sl w' e size v' (n + m) (xs ++ ys) ∧ Keeps (fun k => v.ownBlock = some k) w w' ∧ (v'.ownBlock = v.ownBlock ∨ ∃ g, v'.ownBlock = some g ∧ w.heap.size ≤ g ∧ g < w'.heap.size) := by
  rcases Nat.eq_zero_or_pos m with rfl | hm
  · obtain ⟨B, cap, rfl, hn, _⟩ := hown.form
    obtain ⟨A, c, rfl, _, _⟩ := hx.form
    have hy : ys = [] := List.eq_nil_of_length_eq_zero (by simpa using hx.1)
    subst hy
    exact ⟨_, w, run_append_zero w t ty e i ht hi B A n cap c hn, by simpa using hown, Keeps.refl _ _, .inl rfl⟩
  · obtain ⟨g, off, c, rfl, _, _, _, hat, _⟩ := hx.at_ hm
    obtain ⟨v', w', hr, hS, hK, hO⟩ := run_append_sl w t ty e i z size bytes ht hi hz hsize hby hzs hsz v n xs hown ⟨g, off, none⟩ m c ys hx.1 (fun j u hu => by rw [add_none]; exact hat j u hu) h1 hm h63 hbytes
    refine ⟨v', w', hr, hS, hK, hO.imp id fun ⟨g', e, hg'⟩ => ⟨g', e, hg', ?_⟩⟩
    obtain ⟨g2, off2, cap2, rfl, _, _, hlt, _⟩ := hS.at_ (by omega)
    injection e with e
    subst e
    exact hlt
theorem wp_append_sls {P : Program} {w : World} {o : Oper} {a : Act} {K : Act → World → Prop} {Q : Exit → Act → World → Prop} (s x : Operand) (t : TypeId)
    (hop : o.op = .call { callee := .builtin .append, args := #[s, x], argTypes := #[t, t] })
    (e : TypeId) (i : TypeInfo) (z : Value) (size bytes : Nat) (ht : P.underlying t = some (.slice e)) (hi : P.info? e = some i) (hz : i.zero = some z)
    (hsize : i.size = size) (hby : i.bytes = bytes) (hzs : z.cells.size = size) (hsz : 0 < size)
    (v : Value) (n : Nat) (xs : List Value) (hs : a.eval s = v) (hown : Sl w e size v n xs) (y : Value) (m : Nat) (ys : List Value) (hy : a.eval x = y) (hx : Sl w e size y m ys) (h1 : ∀ u ∈ ys, u.oneCell' = true)
    (h63 : n + m ≤ maxLen) (hbytes : (n + m) * bytes ≤ 140737488355328)
    (h : ∀ v' w', Sl w' e size v' (n + m) (xs ++ ys) → Keeps (fun k => v.ownBlock = some k) w w' → (v'.ownBlock = v.ownBlock ∨ ∃ g, v'.ownBlock = some g ∧ w.heap.size ≤ g ∧ g < w'.heap.size) → K (a.put o.dst v') w') : o.wp P a w K Q := by
  obtain ⟨v', w', hr, h2, h3, h4⟩ := run_append_sls (P := P) w t o.type e i z size bytes ht hi hz hsize hby hzs hsz v n xs hown y m ys hx h1 h63 hbytes
  unfold Oper.wp
  simp [execOp, hop, resolve, invoke, builtin, hs, hy, hr, Result.andThen]
  exact h v' w' h2 h3 h4
theorem wpList_append_sls {P : Program} {w : World} {ops : Array Oper} {rest : List Oper} {o : Oper} {a : Act} {Q : Exit → Act → World → Prop} (hgd : o.guard = none) (s x : Operand) (t : TypeId)
    (hop : o.op = .call { callee := .builtin .append, args := #[s, x], argTypes := #[t, t] })
    (e : TypeId) (i : TypeInfo) (z : Value) (size bytes : Nat) (ht : P.underlying t = some (.slice e)) (hi : P.info? e = some i) (hz : i.zero = some z)
    (hsize : i.size = size) (hby : i.bytes = bytes) (hzs : z.cells.size = size) (hsz : 0 < size)
    (v : Value) (n : Nat) (xs : List Value) (hs : a.eval s = v) (hown : Sl w e size v n xs) (y : Value) (m : Nat) (ys : List Value) (hy : a.eval x = y) (hx : Sl w e size y m ys) (h1 : ∀ u ∈ ys, u.oneCell' = true)
    (h63 : n + m ≤ maxLen) (hbytes : (n + m) * bytes ≤ 140737488355328)
    (h : ∀ v' w', Sl w' e size v' (n + m) (xs ++ ys) → Keeps (fun k => v.ownBlock = some k) w w' → (v'.ownBlock = v.ownBlock ∨ ∃ g, v'.ownBlock = some g ∧ w.heap.size ≤ g ∧ g < w'.heap.size) → wpList P ops Q rest (a.put o.dst v') w') : wpList P ops Q (o :: rest) a w :=
  wpList_plain hgd fun K hK => wp_append_sls s x t hop e i z size bytes ht hi hz hsize hby hzs hsz v n xs hs hown y m ys hy hx h1 h63 hbytes fun v' w' a b c => hK _ _ (h v' w' a b c)
theorem step_append_sls {P : Program} {w : World} {ops : Array Oper} {o : Oper} {a : Act} {K : Act → World → Prop} {Q : Exit → Act → World → Prop} {E : Prop} (hgd : o.guard = none) (s x : Operand) (t : TypeId)
    (hop : o.op = .call { callee := .builtin .append, args := #[s, x], argTypes := #[t, t] })
    (e : TypeId) (i : TypeInfo) (z : Value) (size bytes : Nat) (ht : P.underlying t = some (.slice e)) (hi : P.info? e = some i) (hz : i.zero = some z)
    (hsize : i.size = size) (hby : i.bytes = bytes) (hzs : z.cells.size = size) (hsz : 0 < size)
    (v : Value) (n : Nat) (xs : List Value) (hs : a.eval s = v) (hown : Sl w e size v n xs) (y : Value) (m : Nat) (ys : List Value) (hy : a.eval x = y) (hx : Sl w e size y m ys) (h1 : ∀ u ∈ ys, u.oneCell' = true)
    (h63 : n + m ≤ maxLen) (hbytes : (n + m) * bytes ≤ 140737488355328)
    (h : ∀ v' w', Sl w' e size v' (n + m) (xs ++ ys) → Keeps (fun k => v.ownBlock = some k) w w' → (v'.ownBlock = v.ownBlock ∨ ∃ g, v'.ownBlock = some g ∧ w.heap.size ≤ g ∧ g < w'.heap.size) → K (a.put o.dst v') w') :
    if Region.wanted o (yielded ops a.tmps) = true then Oper.wp P o a w K Q else E := by
  have hw : Region.wanted o (yielded ops a.tmps) = true := by simp [Region.wanted, hgd]
  rw [if_pos hw]
  exact wp_append_sls s x t hop e i z size bytes ht hi hz hsize hby hzs hsz v n xs hs hown y m ys hy hx h1 h63 hbytes h
end Go.Proofs.Ytkicnjbidbfajaa
