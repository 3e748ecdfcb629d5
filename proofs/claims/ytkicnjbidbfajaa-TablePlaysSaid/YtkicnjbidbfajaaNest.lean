/- A slice of slices as an argument: what its elements are, and where they lie. Over any program. -/
import Derived.Test.YtkicnjbidbfajaaCommon
namespace Go.Proofs.Ytkicnjbidbfajaa
open Go.ChangeShapes Go.WideShapes Go.ChangeAt Go.RowKit Go.Deep
set_option linter.unusedVariables false
set_option linter.unusedSimpArgs false
/-- a slice of slices -/
theorem open_nested {H : Type} {enc : TypeId × Value → H} {P : Program} {w : World} {base t e : Nat} {v : Value} {d : DataW H} {p : List MemPlace} {X : Type} [Inhabited X] (R : Value → X → Prop) (ht : P.underlying t = some (.slice e)) (hC : P.cellsOf e = 1)
    (hin : ∀ (u : Value) (fuel : Nat) (x : DataW H × List MemPlace), DataW.trod enc P w 0 (fun _ => true) true fuel e [u] = some x → ∃ y, R u y)
    (hv : Value.okWide P w .any base t v) (h : DataW.Trod enc P w 0 (fun _ => true) true t v d p) :
    ∃ (A : Option Addr) (len cap : Nat) (V : Nat → Value) (F : Nat → X), v = .slice A len cap ∧ len ≤ cap ∧ cap ≤ maxLen ∧
      (0 < len → ∃ b off, A = some ⟨b, off, none⟩ ∧ b < w.heap.size ∧ ∀ i, i < len → w.cell? ⟨b, off + i, none⟩ = some (V i) ∧ R (V i) (F i)) := by
  obtain ⟨A, len, cap, rfl⟩ := okWide_slice ht hv
  obtain ⟨fuel, hf⟩ := h
  rcases open_slice1 ht hC hf with ⟨hcs, _⟩ | ⟨a, len', cap', m, n, V, D, Pl, hcs, hb, hle, hcm, hm, hx, hi⟩
  · have : len = 0 := by simp [Value.cells] at hcs; exact hcs.2.1
    subst this
    refine ⟨_, _, _, fun _ => .bool false, fun _ => default, rfl, ?_, ?_, fun h => absurd h (by omega)⟩
    · omega
    · simp [Value.cells] at hcs; unfold maxLen; omega
  · have e1 : A = some a ∧ len = len' ∧ cap = cap' := by simpa [Value.cells] using hcs
    obtain ⟨rfl, rfl, rfl⟩ := e1
    simp at hm
    subst hm
    have hall : ∀ i, i < len → ∃ y, R (V i) y := fun i hil => hin _ _ _ (hi i (by omega)).2
    refine ⟨_, _, _, V, fun i => if h : i < len then Classical.choose (hall i h) else default, rfl, hle, hcm, fun hlen => ?_⟩
    have hc0 := (hi 0 (by omega)).1
    rw [add_zero'] at hc0
    have ha := spot_none hc0
    refine ⟨a.block, a.off, by rw [← ha], World.block_lt_of_cell? _ _ hc0, fun i hil => ?_⟩
    have hc := (hi i (by omega)).1
    rw [ha, add_none] at hc
    refine ⟨hc, ?_⟩
    simp only [dif_pos hil]
    exact Classical.choose_spec (hall i hil)
end Go.Proofs.Ytkicnjbidbfajaa
