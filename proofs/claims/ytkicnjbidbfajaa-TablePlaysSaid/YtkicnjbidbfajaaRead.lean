/- Rows that can be read: an argument's, the program's own. -/
import Derived.Test.YtkicnjbidbfajaaRow
import Derived.OpenShut
import Derived.WideKeyArgs
namespace Go.Proofs.Ytkicnjbidbfajaa
open Go.ChangeShapes Go.WideShapes Go.ChangeAt Go.RowKit Go.Deep
set_option linter.unusedVariables false
set_option linter.unusedSimpArgs false
/-- the slice v reads as the rows l -/
def Rs (w : World) (v : Value) (n : Nat) (l : List Rw) : Prop :=
  l.length = n ∧ ∃ A cap, v = .slice A n cap ∧ n ≤ cap ∧ cap ≤ maxLen ∧ (0 < n → ∃ g off, A = some ⟨g, off, none⟩ ∧ g < w.heap.size ∧ ∀ j u, (rowCells l)[j]? = some u → w.cell? ⟨g, off + j, none⟩ = some u)
theorem Rs.form {w : World} {v : Value} {n : Nat} {l : List Rw} (h : Rs w v n l) : ∃ A cap, v = .slice A n cap ∧ n ≤ cap ∧ cap ≤ maxLen := by
  obtain ⟨_, A, cap, h1, h2, h3, _⟩ := h; exact ⟨A, cap, h1, h2, h3⟩
theorem Rs.at_ {w : World} {v : Value} {n : Nat} {l : List Rw} (h : Rs w v n l) (hn : 0 < n) : ∃ g off cap, v = .slice (some ⟨g, off, none⟩) n cap ∧ n ≤ cap ∧ cap ≤ maxLen ∧ g < w.heap.size ∧ (∀ j u, (rowCells l)[j]? = some u → w.cell? ⟨g, off + j, none⟩ = some u) ∧ True := by
  obtain ⟨_, A, cap, h1, h2, h3, h4⟩ := h
  obtain ⟨g, off, rfl, h5, h6⟩ := h4 hn
  exact ⟨g, off, cap, h1, h2, h3, h5, h6, trivial⟩
theorem Rs.of {w : World} {v : Value} {n : Nat} {l : List Rw} (h : Sl w 26 2 v n (rowCells l)) : Rs w v n l := by
  have hl := h.1
  rw [rowCells_len] at hl
  obtain ⟨A, cap, rfl, h1, h2⟩ := h.form
  refine ⟨by omega, A, cap, rfl, h1, h2, fun hn => ?_⟩
  obtain ⟨g, off, cap', hv, _, _, h5, h6, _⟩ := h.at_ hn
  simp at hv
  obtain ⟨rfl, rfl⟩ := hv
  exact ⟨g, off, rfl, h5, h6⟩
theorem Rs.below {w w' : World} {r : Nat} {v : Value} {n : Nat} {l : List Rw} (h : Rs w v n l) (hb : Below r w w') (hr : w.heap.size ≤ r) : Rs w' v n l := by
  obtain ⟨h0, A, cap, h1, h2, h3, h4⟩ := h
  refine ⟨h0, A, cap, h1, h2, h3, fun hn => ?_⟩
  obtain ⟨g, off, rfl, h5, h6⟩ := h4 hn
  exact ⟨g, off, rfl, Nat.lt_of_lt_of_le h5 hb.size, fun j u hu => (hb.cell (p := ⟨g, off + j, none⟩) (by show g < r; omega)).trans (h6 j u hu)⟩
theorem Rs.keeps {S : Nat → Prop} {w w' : World} {v : Value} {n : Nat} {l : List Rw} (h : Rs w v n l) (k : Keeps S w w') (hS : ∀ g, v.ownBlock = some g → ¬ S g) : Rs w' v n l := by
  obtain ⟨h0, A, cap, rfl, h2, h3, h4⟩ := h
  refine ⟨h0, A, cap, rfl, h2, h3, fun hn => ?_⟩
  obtain ⟨g, off, rfl, h5, h6⟩ := h4 hn
  exact ⟨g, off, rfl, Nat.lt_of_lt_of_le h5 k.size, fun j u hu => (World.cell?_of_block (k.block g h5 (hS g rfl))).trans (h6 j u hu)⟩
theorem rowCells_all {P : Nat → Value → Prop} (l : List Rw) (h : ∀ i (hi : i < l.length), P (i * 2) (.int .i64 l[i].1) ∧ P (i * 2 + 1) (.string l[i].2)) (j : Nat) (u : Value) (hu : (rowCells l)[j]? = some u) : P j u := by
  have hj := (List.getElem?_eq_some_iff.1 hu).1
  rw [rowCells_len] at hj
  obtain ⟨i, hi2⟩ : ∃ i, j / 2 = i := ⟨_, rfl⟩
  have hi : i < l.length := by omega
  have ha := rowCells_at l i hi
  have hp := h i hi
  rcases Nat.mod_two_eq_zero_or_one j with c | c
  · obtain rfl : j = i * 2 := by omega
    rw [ha.1] at hu
    injection hu with hu
    rw [← hu]; exact hp.1
  · obtain rfl : j = i * 2 + 1 := by omega
    rw [ha.2] at hu
    injection hu with hu
    rw [← hu]; exact hp.2
/-- an argument that is a slice of rows -/
theorem open_rows {H : Type} {enc : TypeId × Value → H} {P : Program} {w : World} {base t e : Nat} {fs : Array Field} {v : Value} {d : DataW H} {p : List MemPlace} (ht : P.underlying t = some (.slice e)) (he : P.underlying e = some (.struct fs))
    (hone : oneCellFields P fs = true) (hC : P.cellsOf e = fs.size) (hfs : fs.size = 2) (h0 : ∀ f, fs[0]? = some f → P.underlying f.type = some (.int .i64)) (h1 : ∀ f, fs[1]? = some f → P.underlying f.type = some .string)
    (hv : Value.okWide P w .any base t v) (h : DataW.Trod enc P w 0 (fun _ => true) true t v d p) (hl : ∀ x ∈ p, x.block < w.heap.size) :
    ∃ n l, Rs w v n l ∧ ∀ m ∈ l, (Lit.int .i64 m.1).wf = true ∧ m.2.size ≤ maxLen := by
  obtain ⟨A, len, cap, rfl⟩ := okWide_slice ht hv
  obtain ⟨fuel, hf⟩ := h
  rcases open_slice_fields ht he hone hC hf with ⟨hcs, _⟩ | ⟨a, len', cap', m, D, Pl, hcs, hb, hle, hcm, hm, hx, hi⟩
  · have : len = 0 := by simp [Value.cells] at hcs; exact hcs.2.1
    subst this
    have hc0 : cap = 0 := by simp [Value.cells] at hcs; omega
    subst hc0
    exact ⟨0, [], ⟨rfl, A, 0, rfl, Nat.le_refl _, by unfold maxLen; omega, fun h => absurd h (by omega)⟩, by simp⟩
  · have e1 : A = some a ∧ len = len' ∧ cap = cap' := by simpa [Value.cells] using hcs
    obtain ⟨rfl, rfl, rfl⟩ := e1
    simp at hm
    subst hm
    have hall' : ∀ i, i < len → ∃ x : Rw, w.cell? (a.add (i * 2)) = some (.int .i64 x.1) ∧ w.cell? (a.add (i * 2 + 1)) = some (.string x.2) ∧ (Lit.int .i64 x.1).wf = true ∧ x.2.size ≤ maxLen := by
      intro i hil
      obtain ⟨ys, n, _, _, _, hfj⟩ := hi i (by omega)
      obtain ⟨v0, y0, hc0, _, ht0⟩ := hfj 0 fs[0] (by simp)
      obtain ⟨x, e0, _, wx⟩ := DataW.trod_int (h0 fs[0] (by simp)) ht0
      obtain ⟨v1, y1, hc1, _, ht1⟩ := hfj 1 fs[1] (by simp)
      obtain ⟨s, e1, _, ws⟩ := DataW.trod_string (h1 fs[1] (by simp)) ht1
      simp at e0 e1
      subst e0
      subst e1
      rw [hfs] at hc0 hc1
      exact ⟨(x, s), hc0, hc1, wx, ws⟩
    have hch : ∃ F : Nat → Rw, ∀ i, i < len → w.cell? (a.add (i * 2)) = some (.int .i64 (F i).1) ∧ w.cell? (a.add (i * 2 + 1)) = some (.string (F i).2) ∧ (Lit.int .i64 (F i).1).wf = true ∧ (F i).2.size ≤ maxLen :=
      ⟨fun i => if h : i < len then Classical.choose (hall' i h) else (0, ByteArray.empty), fun i hil => by simp only [dif_pos hil]; exact Classical.choose_spec (hall' i hil)⟩
    obtain ⟨F, hF⟩ := hch
    refine ⟨len, (List.range len).map F, ⟨by simp, some a, _, rfl, hle, hcm, fun hlen => ?_⟩, fun m hm => ?_⟩
    · have hc0 := (hF 0 hlen).1
      simp only [Nat.zero_mul, add_zero'] at hc0
      have ha := spot_none hc0
      refine ⟨a.block, a.off, by rw [← ha], World.block_lt_of_cell? _ _ hc0, rowCells_all _ fun i hi => ?_⟩
      simp at hi
      have := hF i hi
      simp only [List.getElem_map, List.getElem_range]
      rw [← add_none, ← add_none, ← ha]
      exact ⟨this.1, this.2.1⟩
    · simp at hm
      obtain ⟨i, hi, rfl⟩ := hm
      exact (hF i hi).2.2
end Go.Proofs.Ytkicnjbidbfajaa
