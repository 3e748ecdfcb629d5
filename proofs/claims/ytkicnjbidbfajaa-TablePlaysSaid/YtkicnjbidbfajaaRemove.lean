/- slices.Delete of one row. -/
import Derived.Test.YtkicnjbidbfajaaInsert
import Derived.Deep.RegionLaw
namespace Go.Proofs.Ytkicnjbidbfajaa
open Go.ChangeShapes Go.WideShapes Go.ChangeAt Go.RowKit
set_option linter.unusedVariables false
set_option linter.unusedSimpArgs false
theorem wpList_clear_one {P : Program} {w : World} {ops : Array Oper} {rest : List Oper} {o : Oper} {a : Act} {Q : Exit → Act → World → Prop} (hgd : o.guard = none) (s : Operand) (t : TypeId)
    (hop : o.op = .call { callee := .builtin .clear, args := #[s], argTypes := #[t] }) (e : TypeId) (z : Value) (zs : Array Value) (ht : P.underlying t = some (.slice e)) (hv : ∀ w, (zeroValue e).run P w = .ok z w) (hz : z.cells = zs) (h1 : ∀ u ∈ zs.toList, u.oneCell' = true) (g off c : Nat)
    (hs : a.eval s = .slice (some ⟨g, off, none⟩) 1 c) (hc : ∀ j, j < zs.size → (w.cell? ⟨g, off + j, none⟩).isSome = true) (hf : ∀ j, j < zs.size → w.frozen? ⟨g, off + j, none⟩ = false)
    (h : wpList P ops Q rest (a.put o.dst (.tuple #[])) (w.setCells g off zs.toList)) : wpList P ops Q (o :: rest) a w := by
  refine wpList_plain hgd fun K hK => ?_
  have hr := run_clear_one (P := P) w t e o.type z zs ht hv hz h1 g off c hc hf
  unfold Oper.wp
  simp [execOp, hop, resolve, invoke, builtin, hs, hr, Result.andThen]
  exact hK _ _ h
theorem step_cut_sl {P : Program} {w : World} {ops : Array Oper} {o : Oper} {a : Act} {K : Act → World → Prop} {Q : Exit → Act → World → Prop} {E : Prop} (hgd : o.guard = none) (s x : Operand) (t : TypeId)
    (hop : o.op = .call { callee := .builtin .append, args := #[s, x], argTypes := #[t, t] }) (e : TypeId) (i0 : TypeInfo) (size : Nat) (ht : P.underlying t = some (.slice e)) (hi : P.info? e = some i0) (hsize : i0.size = size)
    (g off n cap i : Nat) (cs : Array Value) (xs : List Value) (hh : w.heap[g]? = some (.cells cs e (0, 0))) (hl : xs.length = n * size) (hin : i < n) (hnc : n ≤ cap) (hcs : off + cap * size ≤ cs.size) (hat : ∀ j u, xs[j]? = some u → cs[off + j]? = some u) (h1 : ∀ u ∈ xs, u.oneCell' = true)
    (ad : Addr) (m c : Nat) (had : ad = ⟨g, off + (i + 1) * size, none⟩ ∨ i + 1 = n) (hm : m = n - (i + 1)) (hs : a.eval s = .slice (some ⟨g, off, none⟩) i cap) (hx : a.eval x = .slice (some ad) m c)
    (h : K (a.put o.dst (.slice (some ⟨g, off, none⟩) (n - 1) cap)) (w.setCells g (off + i * size) (xs.drop ((i + 1) * size)))) :
    if Region.wanted o (yielded ops a.tmps) = true then Oper.wp P o a w K Q else E := by
  have hw : Region.wanted o (yielded ops a.tmps) = true := by simp [Region.wanted, hgd]
  rw [if_pos hw]
  subst hm
  have hr := run_cut_sl (P := P) w t o.type e i0 size ht hi hsize g off n cap i cs xs hh hl hin hnc hcs hat h1 ad c had
  unfold Oper.wp
  simp [execOp, hop, resolve, invoke, builtin, hs, hx, hr, Result.andThen]
  exact h
def DelPost (g off n cap : Nat) (l : List Rw) (i : Nat) (w : World) (e : Ending) (w' : World) : Prop :=
  e = .returned (.slice (some ⟨g, off, none⟩) (n - 1) cap) ∧ Sl w' 26 2 (.slice (some ⟨g, off, none⟩) (n - 1) cap) (n - 1) (rowCells (l.eraseIdx i)) ∧ Keeps (· = g) w w'
set_option maxRecDepth 100000 in
set_option maxHeartbeats 1000000 in
theorem delete_any (g off n cap i : Nat) (l : List Rw) (w : World) (h : Sl w 26 2 (.slice (some ⟨g, off, none⟩) n cap) n (rowCells l)) (hn : l.length = n) (hi : i < n) (hs : n ≤ 2000) :
    Calls Try.prog 52 #[.slice (some ⟨g, off, none⟩) n cap, .int .i64 i, .int .i64 (i + 1)] w (DelPost g off n cap l i w) := by
  obtain ⟨i0, hi0, hz0, hz1, hz2⟩ := info_parts infoRow
  obtain ⟨hl, h2⟩ := h
  obtain ⟨cs, hh, hnc, hc0, hcm, hcs, hat⟩ : ∃ cs : Array Value, w.heap[g]? = some (.cells cs 26 (0, 0)) ∧ n ≤ cap ∧ 0 < cap ∧ cap ≤ maxLen ∧ off + cap * 2 ≤ cs.size ∧ ∀ j u, (rowCells l)[j]? = some u → cs[off + j]? = some u := by
    rcases h2 with ⟨A, hv, h0⟩ | ⟨g', off', cap', cs, hv, hh, r⟩
    · omega
    · simp at hv
      obtain ⟨⟨rfl, rfl⟩, rfl⟩ := hv
      exact ⟨cs, hh, r⟩
  unfold maxLen at hcm
  have HH := Lib.hid hh
  have HL := Lib.hid hl
  have HA := Lib.hid hat
  have q0 : ((i : Int) == (i : Int) + 1) = false := beq_eq_false_iff_ne.2 (by omega)
  have q1 : (0 : Int) ≤ i := by omega
  have q2 : (i : Int) + 1 ≤ n := by omega
  have q3 : (n : Int) ≤ cap := by omega
  have q4 : (i : Int) ≤ (i : Int) + 1 := by omega
  have q5 : ((i : Int) + 1).toNat = i + 1 := by omega
  have q6 : (0 : Int) ≤ (i : Int) + 1 := by omega
  have q7 : i ≤ cap := by omega
  have q8 : (i : Int) ≤ cap := by omega
  have q9 : i + 1 ≤ n := by omega
  clear hh hl hat h2
  have hz : ∀ w, (zeroValue 26).run Try.prog w = .ok (.agg #[.int .i64 0, .string ByteArray.empty]) w := fun w => by kernel_rfl
  have hone := Lib.hid (rowCells_one l)
  have HCL := Lib.hid (fun j u hu => cutOut_cells (size := 2) (zs := [.int .i64 0, .string ByteArray.empty]) HL.out hi (show off + n * 2 ≤ cs.size by omega) HA.out j u hu)
  have HLen := Lib.hid (cutOut_len (size := 2) HL.out hi)
  by_cases hci : cap = i + 1
  · subst hci
    go_enter Try.func52, Try.ntmps52
    go_wp2_with fail
    go_region_law ((refine step_cut_sl (by rfl) _ _ _ (by rfl) 26 i0 2 Try.underlying22 hi0 hz1 g off n (i + 1) i cs (rowCells l) HH.out HL.out hi hnc hcs HA.out hone.out ⟨g, off, none⟩ 0 0 (.inr (by omega)) (by omega) (by rfl) (by rfl) ?_))
    have HW : (w.drew.setCells g (off + i * 2) (List.drop ((i + 1) * 2) (rowCells l))).heap[g]? = some (.cells (putRow cs (off + i * 2) (List.drop ((i + 1) * 2) (rowCells l))) 26 (0, 0)) := heap_setCells _ _ _ _ HH.out
    have HK : Keeps (· = g) w (w.drew.setCells g (off + i * 2) (List.drop ((i + 1) * 2) (rowCells l))) := keeps_setCells (S := (· = g)) rfl _ _ _ _ (Keeps.refl (· = g) w).drew
    generalize World.setCells w.drew _ _ _ = w2 at HW HK ⊢
    have HW2 := Lib.hid HW
    have HK2 := Lib.hid HK
    clear HW HK
    have s1 : ((n : Int) - 1) ≤ n := by omega
    have s2 : (0 : Int) ≤ (n : Int) - 1 := by omega
    have s3 : ((n : Int) - 1).toNat = n - 1 := by omega
    have s4 : n - 1 ≤ n := by omega
    have s5 : n - (n - 1) = 1 := by omega
    have hfin : Sl (w2.setCells g (off + (n - 1) * 2) [.int .i64 0, .string ByteArray.empty]) 26 2 (.slice (some ⟨g, off, none⟩) (n - 1) (i + 1)) (n - 1) (rowCells (l.eraseIdx i)) ∧ Keeps (· = g) w (w2.setCells g (off + (n - 1) * 2) [.int .i64 0, .string ByteArray.empty]) := by
      refine ⟨⟨by rw [← rowCells_cut]; exact HLen.out, .inr ⟨g, off, (i + 1), _, rfl, heap_setCells [.int .i64 0, .string ByteArray.empty] _ _ _ HW2.out, by omega, hc0, by unfold maxLen; omega, by rw [size_putRow, size_putRow]; exact hcs, fun j u hu => ?_⟩⟩, keeps_setCells (S := (· = g)) rfl _ _ _ _ HK2.out⟩
      rw [← rowCells_cut] at hu
      exact HCL.out j u hu
    have HFin := Lib.hid hfin
    clear hfin
    have hcl : ∀ j, j < (#[Value.int .i64 0, Value.string ByteArray.empty] : Array Value).size → (w2.cell? ⟨g, off + (n - 1) * 2 + j, none⟩).isSome = true := by
      intro j hj
      simp at hj
      have hsz : (putRow cs (off + i * 2) (List.drop ((i + 1) * 2) (rowCells l))).size = cs.size := size_putRow _ _ _
      rw [cells_of HW2.out]
      simp [hsz, show off + (n - 1) * 2 + j < cs.size by omega]
    have HCl := Lib.hid hcl
    clear hcl
    have hrun : ∀ c, (Builtin.clear_ #[22] 0 #[.slice (some ⟨g, off + (n - 1) * 2, none⟩) 1 c]).run Try.prog w2 = .ok (.tuple #[]) (w2.setCells g (off + (n - 1) * 2) [.int .i64 0, .string ByteArray.empty]) := fun c => run_clear_one w2 _ _ _ _ #[.int .i64 0, .string ByteArray.empty] Try.underlying22 hz rfl (by simp [Value.oneCell']) g (off + (n - 1) * 2) c HCl.out (fun j _ => free_of HW2.out _)
    generalize World.setCells w2 _ _ _ = w3 at hrun HFin
    clear HW2 HCl HK2 HCL HLen
    go_wp2_with fail
    go_ret
    exact ⟨rfl, HFin.out.1, HFin.out.2⟩
  · skip
    go_enter Try.func52, Try.ntmps52
    go_wp2_with fail
    go_region_law ((refine step_cut_sl (by rfl) _ _ _ (by rfl) 26 i0 2 Try.underlying22 hi0 hz1 g off n cap i cs (rowCells l) HH.out HL.out hi hnc hcs HA.out hone.out ⟨g, off + (i + 1) * 2, none⟩ (n - (i + 1)) (cap - (i + 1)) (.inl rfl) rfl (by rfl) (by rfl) ?_))
    have HW : (w.drew.setCells g (off + i * 2) (List.drop ((i + 1) * 2) (rowCells l))).heap[g]? = some (.cells (putRow cs (off + i * 2) (List.drop ((i + 1) * 2) (rowCells l))) 26 (0, 0)) := heap_setCells _ _ _ _ HH.out
    have HK : Keeps (· = g) w (w.drew.setCells g (off + i * 2) (List.drop ((i + 1) * 2) (rowCells l))) := keeps_setCells (S := (· = g)) rfl _ _ _ _ (Keeps.refl (· = g) w).drew
    generalize World.setCells w.drew _ _ _ = w2 at HW HK ⊢
    have HW2 := Lib.hid HW
    have HK2 := Lib.hid HK
    clear HW HK
    have s1 : ((n : Int) - 1) ≤ n := by omega
    have s2 : (0 : Int) ≤ (n : Int) - 1 := by omega
    have s3 : ((n : Int) - 1).toNat = n - 1 := by omega
    have s4 : n - 1 ≤ n := by omega
    have s5 : n - (n - 1) = 1 := by omega
    have hfin : Sl (w2.setCells g (off + (n - 1) * 2) [.int .i64 0, .string ByteArray.empty]) 26 2 (.slice (some ⟨g, off, none⟩) (n - 1) cap) (n - 1) (rowCells (l.eraseIdx i)) ∧ Keeps (· = g) w (w2.setCells g (off + (n - 1) * 2) [.int .i64 0, .string ByteArray.empty]) := by
      refine ⟨⟨by rw [← rowCells_cut]; exact HLen.out, .inr ⟨g, off, cap, _, rfl, heap_setCells [.int .i64 0, .string ByteArray.empty] _ _ _ HW2.out, by omega, hc0, by unfold maxLen; omega, by rw [size_putRow, size_putRow]; exact hcs, fun j u hu => ?_⟩⟩, keeps_setCells (S := (· = g)) rfl _ _ _ _ HK2.out⟩
      rw [← rowCells_cut] at hu
      exact HCL.out j u hu
    have HFin := Lib.hid hfin
    clear hfin
    have hcl : ∀ j, j < (#[Value.int .i64 0, Value.string ByteArray.empty] : Array Value).size → (w2.cell? ⟨g, off + (n - 1) * 2 + j, none⟩).isSome = true := by
      intro j hj
      simp at hj
      have hsz : (putRow cs (off + i * 2) (List.drop ((i + 1) * 2) (rowCells l))).size = cs.size := size_putRow _ _ _
      rw [cells_of HW2.out]
      simp [hsz, show off + (n - 1) * 2 + j < cs.size by omega]
    have HCl := Lib.hid hcl
    clear hcl
    have hrun : ∀ c, (Builtin.clear_ #[22] 0 #[.slice (some ⟨g, off + (n - 1) * 2, none⟩) 1 c]).run Try.prog w2 = .ok (.tuple #[]) (w2.setCells g (off + (n - 1) * 2) [.int .i64 0, .string ByteArray.empty]) := fun c => run_clear_one w2 _ _ _ _ #[.int .i64 0, .string ByteArray.empty] Try.underlying22 hz rfl (by simp [Value.oneCell']) g (off + (n - 1) * 2) c HCl.out (fun j _ => free_of HW2.out _)
    generalize World.setCells w2 _ _ _ = w3 at hrun HFin
    clear HW2 HCl HK2 HCL HLen
    go_wp2_with fail
    go_ret
    exact ⟨rfl, HFin.out.1, HFin.out.2⟩
end Go.Proofs.Ytkicnjbidbfajaa
