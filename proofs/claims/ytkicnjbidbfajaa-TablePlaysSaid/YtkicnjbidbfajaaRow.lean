/- Rows of a key and a text: as cells; where a key stands; put, take away, find, what follows. Plain. -/
import Derived.Test.YtkicnjbidbfajaaRows
import Derived.Test.YtkicnjbidbfajaaCommon
import Derived.Test.YtkicnjbidbfajaaRegion
import Derived.Test.YtkicnjbidbfajaaSlx
import Derived.Test.YtkicnjbidbfajaaFast
import Derived.Test.YtkicnjbidbfajaaHeld
import Derived.IntWalk
import Derived.Deep.DeepCutAuto
import Derived.Deep.CutBlock
namespace Go.Proofs.Ytkicnjbidbfajaa
open Go.ChangeShapes Go.WideShapes Go.ChangeAt Go.RowKit
set_option linter.unusedVariables false
set_option linter.unusedSimpArgs false
/-- a key and a text -/
abbrev Rw := Int × ByteArray
instance : Inhabited Rw := ⟨(0, ByteArray.empty)⟩
def rowCells (l : List Rw) : List Value := l.flatMap fun f => [.int .i64 f.1, .string f.2]
theorem rowCells_len (l : List Rw) : (rowCells l).length = l.length * 2 := by
  induction l with
  | nil => rfl
  | cons f l ih => simp only [rowCells, List.flatMap_cons, List.length_append, List.length_cons, List.length_nil] at *; rw [ih]; omega
theorem rowCells_app (a b : List Rw) : rowCells (a ++ b) = rowCells a ++ rowCells b := by simp [rowCells, List.flatMap_append]
theorem rowCells_cons (f : Rw) (l : List Rw) : rowCells (f :: l) = .int .i64 f.1 :: .string f.2 :: rowCells l := rfl
theorem rowCells_at (l : List Rw) (k : Nat) (h : k < l.length) : (rowCells l)[k * 2]? = some (.int .i64 l[k].1) ∧ (rowCells l)[k * 2 + 1]? = some (.string l[k].2) := by
  induction l generalizing k with
  | nil => simp at h
  | cons f l ih =>
    cases k with
    | zero => exact ⟨rfl, rfl⟩
    | succ k =>
      have := ih k (by simpa using h)
      rw [rowCells_cons, show (k + 1) * 2 = k * 2 + 1 + 1 by omega]
      simpa using this
theorem rowCells_one (l : List Rw) : ∀ u ∈ rowCells l, u.oneCell' = true := by
  intro u hu
  simp only [rowCells, List.mem_flatMap] at hu
  obtain ⟨f, _, hf⟩ := hu
  simp at hf
  rcases hf with rfl | rfl <;> rfl
theorem rowCells_take (l : List Rw) (k : Nat) : rowCells (l.take k) = (rowCells l).take (k * 2) := by
  induction l generalizing k with
  | nil => simp [rowCells]
  | cons f l ih =>
    cases k with
    | zero => rfl
    | succ k => rw [rowCells_cons, show (k + 1) * 2 = k * 2 + 1 + 1 by omega, List.take_succ_cons, List.take_succ_cons, List.take_succ_cons, ← ih, rowCells_cons]
theorem rowCells_drop (l : List Rw) (k : Nat) : rowCells (l.drop k) = (rowCells l).drop (k * 2) := by
  induction l generalizing k with
  | nil => simp [rowCells]
  | cons f l ih =>
    cases k with
    | zero => rfl
    | succ k => rw [rowCells_cons, show (k + 1) * 2 = k * 2 + 1 + 1 by omega, List.drop_succ_cons, List.drop_succ_cons, List.drop_succ_cons, ← ih]
theorem rowCells_cut (l : List Rw) (i : Nat) : cutOut 2 i (rowCells l) = rowCells (l.eraseIdx i) := by
  rw [List.eraseIdx_eq_take_drop_succ, rowCells_app, rowCells_take, rowCells_drop]; rfl
/-- where a key stands, or would stand -/
def pos (l : List Rw) (k : Int) : Nat := (l.takeWhile fun m => decide (m.1 < k)).length
def has (l : List Rw) (k : Int) : Bool := l.any fun m => m.1 == k
/-- rising keys -/
def Up (l : List Rw) : Prop := l.Pairwise fun a b => a.1 < b.1
theorem pos_le (l : List Rw) (k : Int) : pos l k ≤ l.length := List.Sublist.length_le (List.takeWhile_sublist _)
theorem pos_of (l : List Rw) (k : Int) : ∀ (i : Nat), i ≤ l.length → (∀ t (ht : t < l.length), t < i → l[t].1 < k) → (∀ t (ht : t < l.length), i ≤ t → k ≤ l[t].1) → pos l k = i := by
  induction l with
  | nil => intro i hi _ _; simp [pos] at *; omega
  | cons f l ih =>
    intro i hi h1 h2
    cases i with
    | zero =>
      have := h2 0 (by simp) (by omega)
      simp at this
      simp [pos, List.takeWhile_cons]; omega
    | succ i =>
      have h0 := h1 0 (by simp) (by omega)
      simp at h0
      have := ih i (by simpa using hi) (fun t ht hti => h1 (t + 1) (by simpa using ht) (by omega)) (fun t ht hti => h2 (t + 1) (by simpa using ht) (by omega))
      simp only [pos] at this ⊢
      rw [List.takeWhile_cons, if_pos (by simpa using h0), List.length_cons, this]
theorem pos_below (l : List Rw) (k : Int) (t : Nat) (ht : t < l.length) (h : t < pos l k) : l[t].1 < k := by
  induction l generalizing t with
  | nil => simp at ht
  | cons f l ih =>
    simp only [pos, List.takeWhile_cons] at h
    split at h
    · rename_i hf
      cases t with
      | zero => simpa using hf
      | succ t => simpa using ih t (by simpa using ht) (by simpa [pos] using h)
    · simp at h
theorem up_cons {f : Rw} {l : List Rw} (h : Up (f :: l)) : Up l ∧ ∀ m ∈ l, f.1 < m.1 := by
  have := List.pairwise_cons.1 h
  exact ⟨this.2, this.1⟩
theorem up_lt {l : List Rw} (h : Up l) (i j : Nat) (hj : j < l.length) (hij : i < j) : l[i].1 < l[j].1 := List.pairwise_iff_getElem.1 h i j (by omega) hj hij
theorem pos_above {l : List Rw} (hU : Up l) (k : Int) (t : Nat) (ht : t < l.length) (h : pos l k ≤ t) : k ≤ l[t].1 := by
  induction l generalizing t with
  | nil => simp at ht
  | cons f l ih =>
    obtain ⟨h1, h2⟩ := up_cons hU
    by_cases hf : f.1 < k
    · simp only [pos, List.takeWhile_cons, hf, decide_true, if_true, List.length_cons] at h
      cases t with
      | zero => omega
      | succ t => simpa using ih h1 t (by simpa using ht) (by simpa [pos] using h)
    · cases t with
      | zero => simp; omega
      | succ t =>
        have ht' : t < l.length := by simpa using ht
        have := h2 l[t] (List.getElem_mem ht')
        show k ≤ l[t].1; omega
theorem has_pos {l : List Rw} (hU : Up l) (k : Int) : has l k = (if h : pos l k < l.length then l[pos l k].1 == k else false) := by
  by_cases h : pos l k < l.length
  · rw [dif_pos h]
    cases hk : l[pos l k].1 == k with
    | true => exact List.any_eq_true.2 ⟨_, List.getElem_mem h, hk⟩
    | false =>
      refine List.any_eq_false.2 fun m hm => ?_
      obtain ⟨t, ht, rfl⟩ := List.getElem_of_mem hm
      have hk' : l[pos l k].1 ≠ k := by simpa using hk
      have ha := pos_above hU k _ h (Nat.le_refl _)
      rcases Nat.lt_trichotomy t (pos l k) with c | c | c
      · have := pos_below l k t ht c; simp; omega
      · subst c; simpa using hk'
      · have := up_lt hU _ t ht c; simp; omega
  · rw [dif_neg h]
    refine List.any_eq_false.2 fun m hm => ?_
    obtain ⟨t, ht, rfl⟩ := List.getElem_of_mem hm
    have := pos_below l k t ht (by omega)
    simp; omega
/-- put, take away, find, what follows -/
def putL (l : List Rw) (k : Int) (v : ByteArray) : List Rw := if has l k then l.set (pos l k) (k, v) else l.take (pos l k) ++ (k, v) :: l.drop (pos l k)
def delL (l : List Rw) (k : Int) : List Rw := if has l k then l.eraseIdx (pos l k) else l
def getL (l : List Rw) (k : Int) : ByteArray := if has l k then (l.getD (pos l k) default).2 else ByteArray.empty
def behind (l : List Rw) (k : Int) : Nat := if has l k then pos l k + 1 else pos l k
def cntN (n : Int) (m : Nat) : Nat := min n.toNat m
def afterL (l : List Rw) (k : Int) (n : Int) : List Rw := (l.drop (behind l k)).take (cntN n (l.length - behind l k))
theorem has_lt {l : List Rw} (hU : Up l) {k : Int} (h : has l k = true) : ∃ hp : pos l k < l.length, l[pos l k].1 = k := by
  rw [has_pos hU] at h
  split at h
  · rename_i hp; exact ⟨hp, by simpa using h⟩
  · cases h
theorem hasnt {l : List Rw} (hU : Up l) {k : Int} (h : has l k = false) (hp : pos l k < l.length) : k < l[pos l k].1 := by
  rw [has_pos hU, dif_pos hp] at h
  have h1 := pos_above hU k _ hp (Nat.le_refl _)
  have h2 : l[pos l k].1 ≠ k := by simpa using h
  omega
theorem behind_le {l : List Rw} (hU : Up l) (k : Int) : behind l k ≤ l.length := by
  unfold behind
  split
  · rename_i h
    obtain ⟨hp, _⟩ := has_lt hU h; omega
  · exact pos_le l k
theorem up_put {l : List Rw} (hU : Up l) (k : Int) (v : ByteArray) : Up (putL l k v) := by
  unfold putL
  split
  · rename_i h
    obtain ⟨hp, hk⟩ := has_lt hU h
    refine List.pairwise_iff_getElem.2 fun i j hi hj hij => ?_
    simp only [List.length_set] at hi hj
    have := up_lt hU i j hj hij
    rw [List.getElem_set, List.getElem_set]
    split <;> split <;> simp_all <;> omega
  · rename_i h
    have h' : has l k = false := by simpa using h
    refine List.pairwise_append.2 ⟨List.Pairwise.sublist (List.take_sublist _ _) hU, List.pairwise_cons.2 ⟨fun m hm => ?_, List.Pairwise.sublist (List.drop_sublist _ _) hU⟩, fun a ha b hb => ?_⟩
    · obtain ⟨t, ht, rfl⟩ := List.getElem_of_mem hm
      rw [List.getElem_drop]
      simp at ht
      have h1 := hasnt hU h' (by omega)
      rcases Nat.eq_zero_or_pos t with rfl | ht0
      · simpa using h1
      · have := up_lt hU (pos l k) (pos l k + t) (by omega) (by omega)
        show k < _; omega
    · obtain ⟨t, ht, rfl⟩ := List.getElem_of_mem ha
      rw [List.getElem_take]
      simp at ht
      have h1 := pos_below l k t (by omega) (by omega)
      rcases List.mem_cons.1 hb with rfl | hb
      · exact h1
      · obtain ⟨t2, ht2, rfl⟩ := List.getElem_of_mem hb
        rw [List.getElem_drop]
        simp at ht2
        exact up_lt hU _ _ (by omega) (by omega)
theorem up_del {l : List Rw} (hU : Up l) (k : Int) : Up (delL l k) := by
  unfold delL
  split
  · exact List.Pairwise.sublist (List.eraseIdx_sublist _ _) hU
  · exact hU
theorem put_len {l : List Rw} (hU : Up l) (k : Int) (v : ByteArray) : (putL l k v).length ≤ l.length + 1 := by
  have := pos_le l k
  unfold putL
  split <;> simp <;> omega
theorem del_len (l : List Rw) (k : Int) : (delL l k).length ≤ l.length := by
  unfold delL
  split
  · exact List.length_eraseIdx_le _ _
  · exact Nat.le_refl _
end Go.Proofs.Ytkicnjbidbfajaa
