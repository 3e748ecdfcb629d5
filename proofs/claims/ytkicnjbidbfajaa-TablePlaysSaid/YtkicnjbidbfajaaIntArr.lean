/- A block of ints of the program's own, as a function; an argument that is a slice of ints. Over any program. -/
import Derived.Test.YtkicnjbidbfajaaSlx
namespace Go.Proofs.Ytkicnjbidbfajaa
open Go.ChangeShapes Go.WideShapes Go.ChangeAt Go.RowKit Go.Deep
set_option linter.unusedVariables false
set_option linter.unusedSimpArgs false
def IntArr (w : World) (g n : Nat) (f : Nat → Int) : Prop := ∃ cs : Array Value, Blk w g 3 cs ∧ n ≤ cs.size ∧ ∀ j, j < n → cs[j]? = some (.int .i64 (f j))
theorem IntArr.lt {w : World} {g n : Nat} {f : Nat → Int} (h : IntArr w g n f) : g < w.heap.size := by obtain ⟨cs, h, _⟩ := h; exact h.lt
theorem IntArr.cell {w : World} {g n : Nat} {f : Nat → Int} (h : IntArr w g n f) {j : Nat} (hj : j < n) : w.cell? ⟨g, j, none⟩ = some (.int .i64 (f j)) := by
  obtain ⟨cs, h, _, hc⟩ := h; rw [h.cell]; exact hc j hj
theorem IntArr.frozen {w : World} {g n : Nat} {f : Nat → Int} (h : IntArr w g n f) (j : Nat) : w.frozen? ⟨g, j, none⟩ = false := by obtain ⟨cs, h, _⟩ := h; exact h.frozen j
theorem IntArr.below {w w' : World} {g n : Nat} {f : Nat → Int} (h : IntArr w g n f) (hb : Below w.heap.size w w') : IntArr w' g n f := by
  obtain ⟨cs, h, r⟩ := h; exact ⟨cs, h.below hb h.lt, r⟩
theorem IntArr.keeps {S : Nat → Prop} {w w' : World} {g n : Nat} {f : Nat → Int} (h : IntArr w g n f) (k : Keeps S w w') (hs : ¬ S g) : IntArr w' g n f := by
  obtain ⟨cs, h, r⟩ := h; exact ⟨cs, k.at_ h hs, r⟩
theorem IntArr.drew {w : World} {g n : Nat} {f : Nat → Int} (h : IntArr w g n f) : IntArr w.drew g n f := h
theorem IntArr.drewN {w : World} {g n : Nat} {f : Nat → Int} (h : IntArr w g n f) (k : Nat) : IntArr (w.drewN k) g n f := h
theorem IntArr.far {w : World} {g n : Nat} {f : Nat → Int} (h : IntArr w g n f) {p : Addr} (hp : g ≠ p.block) (u : Value) : IntArr (w.setCell p u) g n f := by
  obtain ⟨cs, h, r⟩ := h; exact ⟨cs, h.far hp u, r⟩
theorem IntArr.set_ {w : World} {g n : Nat} {f f' : Nat → Int} (h : IntArr w g n f) (j : Nat) (x : Int) (h1 : ∀ i, i < n → i ≠ j → f' i = f i) (h2 : f' j = x) : IntArr (w.setCell ⟨g, j, none⟩ (.int .i64 x)) g n f' := by
  obtain ⟨cs, h, hs, hc⟩ := h
  refine ⟨_, h.set_ j _, by simpa using hs, fun i hi => ?_⟩
  by_cases e : i = j
  · subst e
    rw [Array.getElem?_setIfInBounds, if_pos rfl, if_pos (by omega), h2]
  · rw [Array.getElem?_setIfInBounds_ne (Ne.symm e), hc i hi, h1 i hi e]
theorem IntArr.same {w : World} {g n : Nat} {f f' : Nat → Int} (h : IntArr w g n f) (h1 : ∀ i, i < n → f' i = f i) : IntArr w g n f' := by
  obtain ⟨cs, h, hs, hc⟩ := h
  exact ⟨cs, h, hs, fun i hi => by rw [hc i hi, h1 i hi]⟩
/-- what 'make([]int, n)' makes -/
theorem IntArr.of_own {w : World} {base n cap : Nat} {A : Option Addr} {xs : List Value} (hn : 0 < n) (h : w.ownsRow base 3 1 (.slice A n cap) n xs) (hx : ∀ j, j < n → xs[j]? = some (.int .i64 0)) : ∃ g, A = some ⟨g, 0, none⟩ ∧ base ≤ g ∧ IntArr w g n (fun _ => 0) := by
  obtain ⟨hl, h2⟩ := h
  rcases h2 with ⟨hv, h0⟩ | ⟨g, cap', cur, hv, hb, hh, h1, h3, h4, h5⟩
  · simp at hv; omega
  · simp at hv
    refine ⟨g, hv.1, hb, cur, hh, by omega, fun j hj => ?_⟩
    have e := hx j hj
    rw [← h5, List.getElem?_take, if_pos (by omega)] at e
    simpa using e
theorem madeCells_at (n j : Nat) (hj : j < n) : (madeCells (Value.int .i64 0).cells (n * 1)).toList[j]? = some (.int .i64 0) := by
  simp [madeCells, Value.cells, hj, Nat.mod_one]
section
variable {H : Type} {enc : TypeId × Value → H} {P : Program} {w : World} {base : Nat} {spare : Nat → Bool} {held : Bool}
/-- A slice of ints behind a datum: the numbers, and where they lie. -/
theorem trod_ints {t e : TypeId} {n : Nat} {u : Value} {y : DataW H × List MemPlace} (ht : P.underlying t = some (.slice e)) (he : P.underlying e = some (.int .i64)) (hC : P.cellsOf e = 1) (h : DataW.trod enc P w base spare held n t [u] = some y) :
    ∃ (A : Option Addr) (len cap : Nat) (F : Nat → Int), u = .slice A len cap ∧ len ≤ cap ∧ cap ≤ maxLen ∧
      (0 < len → ∃ b off, A = some ⟨b, off, none⟩ ∧ b < w.heap.size ∧ ∀ i, i < len → w.cell? ⟨b, off + i, none⟩ = some (.int .i64 (F i)) ∧ (Lit.int .i64 (F i)).wf = true) := by
  rcases open_slice1 ht hC h with ⟨hcs, _⟩ | ⟨a, len, cap, m, n', V, D, Pl, hcs, hb, hle, hcm, hm, hx, hi⟩
  · simp at hcs
    subst hcs
    exact ⟨none, 0, 0, fun _ => 0, rfl, Nat.le_refl _, by unfold maxLen; omega, fun h => absurd h (by omega)⟩
  · simp at hcs
    subst hcs
    refine ⟨some a, len, cap, fun i => match V i with | .int _ x => x | _ => 0, rfl, hle, hcm, fun hlen => ?_⟩
    have hmn : len ≤ m := by rw [hm]; split <;> omega
    have hV : ∀ i, i < len → ∃ x, V i = .int .i64 x ∧ w.cell? (a.add i) = some (.int .i64 x) ∧ (Lit.int .i64 x).wf = true := fun i hil => by
      obtain ⟨hc, ht'⟩ := hi i (by omega)
      obtain ⟨x, hx', _, wx⟩ := DataW.trod_int he ht'
      have : V i = .int .i64 x := by simpa using hx'
      exact ⟨x, this, by rw [hc, this], wx⟩
    obtain ⟨x0, _, hc0, _⟩ := hV 0 hlen
    rw [add_zero'] at hc0
    have ha := spot_none hc0
    refine ⟨a.block, a.off, by rw [← ha], World.block_lt_of_cell? _ _ hc0, fun i hil => ?_⟩
    obtain ⟨x, hVx, hc, wx⟩ := hV i hil
    rw [← add_none, ← ha, hc]
    simp only [hVx]
    exact ⟨trivial, wx⟩
end
end Go.Proofs.Ytkicnjbidbfajaa
