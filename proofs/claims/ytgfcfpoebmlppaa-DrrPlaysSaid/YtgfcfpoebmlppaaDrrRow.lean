/- Package drr: a row that a law keeps: what its operations answer, and leave. -/
import Derived.Test.YtgfcfpoebmlppaaDrrAll
namespace Go.Proofs.Ytgfcfpoebmlppaa
open Go.ChangeShapes Go.WideShapes Go.ChangeAt Go.RowKit
set_option linter.unusedVariables false
set_option linter.unusedSimpArgs false
/-- the row at block r, made in the call that began in w0; none of its blocks is one of X -/
def Dr (w0 : World) (r : Nat) (X : Nat → Prop) (w : World) (l : List Mem) (at_ : Nat) (turn : Bool) (left : Int) : Prop :=
  ∃ v, drrAt w r v l at_ turn left ∧ (∀ g, v.ownBlock = some g → r ≤ g ∧ ¬ X g) ∧ ¬ X r ∧ Below r w0 w ∧ Fine l at_ turn left
section
variable {w0 w w' : World} {r : Nat} {X : Nat → Prop} {l : List Mem} {at_ : Nat} {turn : Bool} {left : Int}
theorem Dr.lt (h : Dr w0 r X w l at_ turn left) : r < w.heap.size := by
  obtain ⟨v, h, _⟩ := h; exact h.1.lt
theorem Dr.fine (h : Dr w0 r X w l at_ turn left) : Fine l at_ turn left := by
  obtain ⟨v, _, _, _, _, h⟩ := h; exact h
theorem Dr.low (h : Dr w0 r X w l at_ turn left) : Below r w0 w := by
  obtain ⟨v, _, _, _, h, _⟩ := h; exact h
theorem Dr.below (h : Dr w0 r X w l at_ turn left) (hb : Below w.heap.size w w') : Dr w0 r X w' l at_ turn left := by
  obtain ⟨v, h1, h2, hx, h3, h4⟩ := h
  exact ⟨v, h1.below hb, h2, hx, h3.trans (hb.mono (Nat.le_of_lt h1.1.lt)), h4⟩
theorem Dr.drew (h : Dr w0 r X w l at_ turn left) : Dr w0 r X w.drew l at_ turn left := by
  obtain ⟨v, h1, h2, hx, h3, h4⟩ := h
  exact ⟨v, h1, h2, hx, h3.drew, h4⟩
theorem Dr.drewN (h : Dr w0 r X w l at_ turn left) (n : Nat) : Dr w0 r X (w.drewN n) l at_ turn left := by
  obtain ⟨v, h1, h2, hx, h3, h4⟩ := h
  exact ⟨v, h1, h2, hx, h3.trans ⟨rfl, rfl, rfl, Nat.le_refl _, fun _ _ => rfl⟩, h4⟩
/-- others' blocks are written -/
theorem Dr.other {S : Nat → Prop} (h : Dr w0 r X w l at_ turn left) (k : Keeps S w w') (hS : ∀ x, S x → X x ∧ r ≤ x) : Dr w0 r X w' l at_ turn left := by
  obtain ⟨v, h1, h2, hx, h3, h4⟩ := h
  exact ⟨v, h1.keeps k (fun e => hx (hS r e).1) (fun g hg e => (h2 g hg).2 (hS g e).1), h2, hx, Keeps.below h3 k (Nat.le_of_lt h1.1.lt) (fun x hx e => by have := (hS x e).2; omega), h4⟩
/-- one more of the others' blocks: a new one -/
theorem Dr.more (h : Dr w0 r X w l at_ turn left) (Y : Nat → Prop) (hY : ∀ x, Y x → X x ∨ w.heap.size ≤ x) : Dr w0 r Y w l at_ turn left := by
  obtain ⟨v, h1, h2, hx, h3, h4⟩ := h
  refine ⟨v, h1, fun g hg => ⟨(h2 g hg).1, fun hy => ?_⟩, fun hy => ?_, h3, h4⟩
  · rcases hY g hy with h | h
    · exact (h2 g hg).2 h
    · have := h1.2.2.2 g hg; omega
  · rcases hY r hy with h | h
    · exact hx h
    · have := h1.1.lt; omega
end
theorem fine_nil : Fine [] 0 false 0 := ⟨by simp, by simp, by simp, by simp⟩
theorem dnew (w : World) : Calls Try.prog 7 #[] w fun e w' => e = .returned (.pointer (some ⟨w.heap.size, 0, none⟩)) ∧ Dr w w.heap.size (fun _ => False) w' [] 0 false 0 :=
  (new_any w).mono fun _ _ ⟨he, h1, h2⟩ => ⟨he, _, h1, by simp [Value.ownBlock], by simp, h2, fine_nil⟩
section
variable {w0 w : World} {r : Nat} {X : Nat → Prop} {l : List Mem} {at_ : Nat} {turn : Bool} {left : Int}
theorem dnext_none (h : Dr w0 r X w [] at_ turn left) :
    Calls Try.prog 11 #[.pointer (some ⟨r, 0, none⟩)] w fun e w' => e = .returned (.tuple #[.int .i64 0, .bool false]) ∧ w = w' := by
  obtain ⟨v, h1, _⟩ := h
  exact next_none r v at_ turn left w h1
theorem dnext (h : Dr w0 r X w l at_ turn left) (hn : 0 < l.length) :
    Calls Try.prog 11 #[.pointer (some ⟨r, 0, none⟩)] w fun e w' => e = .returned (.tuple #[.int .i64 (nextId l at_ turn left), .bool true]) ∧ Dr w0 r X w' l (nextAt l.length at_ turn left) true (nextLeft l at_ turn left) ∧ Keeps (· = r) w w' := by
  obtain ⟨v, h1, h2, hx, h3, h4⟩ := h
  refine (next_any r v l at_ turn left w h1 h4 hn).mono ?_
  rintro e w' ⟨rfl, p1, p2⟩
  exact ⟨rfl, ⟨v, p1, h2, hx, Keeps.below h3 p2 (Nat.le_of_lt h1.1.lt) (fun x hx e => by omega), next_fine h4 hn⟩, p2⟩
theorem dadd_ok (id wt : Int) (h : Dr w0 r X w l at_ turn left) (ha : argB id wt = true) (hf : findS l id = -1) (hl : l.length < 200) (hX : ∀ x, X x → x < w.heap.size) :
    Calls Try.prog 10 #[.pointer (some ⟨r, 0, none⟩), .int .i64 id, .int .i64 wt] w fun e w' => e = .returned (.int .i64 0) ∧ Dr w0 r X w' (l ++ [(wt, id)]) at_ turn left ∧ Keeps (fun x => r ≤ x ∧ ¬ X x) w w' := by
  obtain ⟨v, h1, h2, hx, h3, h4⟩ := h
  refine (add_ok r v l at_ turn left id wt w h1 ha hf (by omega)).mono ?_
  rintro e w' ⟨rfl, v', p1, p2, p3⟩
  have k : Keeps (fun x => r ≤ x ∧ ¬ X x) w w' := p2.mono fun x hx' => by
    rcases hx' with rfl | hx'
    · exact ⟨Nat.le_refl _, hx⟩
    · exact h2 x hx'
  simp only [argB, decide_eq_true_eq] at ha
  refine ⟨rfl, ⟨v', p1, fun g hg => ?_, hx, Keeps.below h3 k (Nat.le_of_lt h1.1.lt) (fun x hx e => by omega), ?_⟩, k⟩
  · rcases p3 with e | ⟨g', e, hg'⟩
    · exact h2 g (by rw [← e]; exact hg)
    · rw [e] at hg; injection hg with hg; subst hg
      have := h1.1.lt
      exact ⟨by omega, fun h => by have := hX _ h; omega⟩
  · obtain ⟨q1, q2, q3, q4⟩ := h4
    refine ⟨by simp; omega, by simp; omega, ?_, fun ht => ?_⟩
    · intro m hm
      rw [List.mem_append] at hm
      rcases hm with hm | hm
      · exact q3 m hm
      · simp at hm; subst hm; exact ⟨ha.2.2.1, ha.2.2.2⟩
    · have := q4 ht
      simp; omega
theorem dadd_arg (id wt : Int) (ha : argB id wt = false) :
    Calls Try.prog 10 #[.pointer (some ⟨r, 0, none⟩), .int .i64 id, .int .i64 wt] w fun e w' => e = .returned (.int .i64 1) ∧ w = w' := add_arg r id wt w ha
theorem dadd_twice (id wt : Int) (h : Dr w0 r X w l at_ turn left) (ha : argB id wt = true) (hf : 0 ≤ findS l id) :
    Calls Try.prog 10 #[.pointer (some ⟨r, 0, none⟩), .int .i64 id, .int .i64 wt] w fun e w' => e = .returned (.int .i64 6) ∧ Dr w0 r X w' l at_ turn left ∧ Below w.heap.size w w' := by
  obtain ⟨v, h1, h2⟩ := h
  exact (add_twice r v l at_ turn left id wt w h1 ha hf).mono fun _ _ ⟨he, hb⟩ => ⟨he, Dr.below ⟨v, h1, h2⟩ hb, hb⟩
theorem ddel_none (id : Int) (h : Dr w0 r X w l at_ turn left) (hf : findS l id = -1) :
    Calls Try.prog 15 #[.pointer (some ⟨r, 0, none⟩), .int .i64 id] w fun e w' => e = .returned (.int .i64 5) ∧ Dr w0 r X w' l at_ turn left ∧ Below w.heap.size w w' := by
  obtain ⟨v, h1, h2⟩ := h
  exact (del_none r v l at_ turn left id w h1 hf).mono fun _ _ ⟨he, hb⟩ => ⟨he, Dr.below ⟨v, h1, h2⟩ hb, hb⟩
theorem del_fine {i : Nat} (h : Fine l at_ turn left) (hi : i < l.length) : Fine (l.eraseIdx i) (delAt i at_) (delTurn i at_ turn) left := by
  obtain ⟨q1, q2, q3, q4⟩ := h
  have hlen : (l.eraseIdx i).length = l.length - 1 := List.length_eraseIdx_of_lt hi
  refine ⟨by omega, ?_, fun m hm => q3 m (List.mem_of_mem_eraseIdx hm), fun ht => ?_⟩
  · unfold delAt
    split <;> omega
  · unfold delTurn at ht
    split at ht
    · cases ht
    · have := q4 ht
      refine ⟨?_, this.2⟩
      unfold delAt
      split <;> omega
theorem ddel_ok (i : Nat) (id : Int) (h : Dr w0 r X w l at_ turn left) (hf : findS l id = i) (hi : i < l.length) :
    Calls Try.prog 15 #[.pointer (some ⟨r, 0, none⟩), .int .i64 id] w fun e w' => e = .returned (.int .i64 0) ∧ Dr w0 r X w' (l.eraseIdx i) (delAt i at_) (delTurn i at_ turn) left ∧ Keeps (fun x => r ≤ x ∧ ¬ X x) w w' := by
  obtain ⟨v, h1, h2, hx, h3, h4⟩ := h
  refine (del_ok r v l i at_ turn left id w h1 hf hi h4.1 (by have := h4.1; have := h4.2.1; omega)).mono ?_
  rintro e w' ⟨rfl, v', p1, p2, p3⟩
  have k : Keeps (fun x => r ≤ x ∧ ¬ X x) w w' := p2.mono fun x hx' => by
    rcases hx' with rfl | hx'
    · exact ⟨Nat.le_refl _, hx⟩
    · exact h2 x hx'
  exact ⟨rfl, ⟨v', p1, fun g hg => h2 g (by rw [← p3]; exact hg), hx, Keeps.below h3 k (Nat.le_of_lt h1.1.lt) (fun x hx e => by omega), del_fine h4 hi⟩, k⟩
end
def DAllPost (w0 : World) (r : Nat) (X : Nat → Prop) (l : List Mem) (at_ : Nat) (turn : Bool) (left : Int) (w : World) (e : Ending) (w' : World) : Prop :=
  ∃ A cap, e = .returned (.slice A l.length cap) ∧ l.length ≤ cap ∧ cap ≤ maxLen ∧ Sl w' 3 1 (.slice A l.length cap) l.length (idCells l) ∧ Dr w0 r X w' l at_ turn left ∧ Below w.heap.size w w'
theorem dall {w0 w : World} {r : Nat} {X : Nat → Prop} {l : List Mem} {at_ : Nat} {turn : Bool} {left : Int} (h : Dr w0 r X w l at_ turn left) :
    Calls Try.prog 18 #[.pointer (some ⟨r, 0, none⟩)] w (DAllPost w0 r X l at_ turn left w) := by
  have h' := h
  obtain ⟨v, h1, h2, hx, h3, h4⟩ := h
  refine (all_any r v l at_ turn left w h1 (by have := h4.1; omega)).mono ?_
  rintro e w' ⟨v', rfl, hS, hb⟩
  obtain ⟨A, cap, rfl, hc1, hc2⟩ := hS.form
  exact ⟨A, cap, rfl, hc1, hc2, hS, h'.below hb, hb⟩
set_option maxRecDepth 100000 in
theorem awake23 (w : World) : Calls Try.prog 8 #[] w fun e w' => e = .returned (.bool true) ∧ Below w.heap.size w w' := by
  go_enter Try.func8, Try.ntmps8
  go_wp2_with fail
  refine (dnew w).mono ?_
  rintro e w1 ⟨rfl, h1⟩
  obtain ⟨r, hr⟩ : ∃ r, w.heap.size = r := ⟨_, rfl⟩
  rw [hr] at h1 ⊢
  have HR := Lib.hid hr
  have H1 := Lib.hid h1
  clear hr h1
  go_wp2_with fail
  refine (dadd_ok 1 2 H1.out (by decide) (by decide) (by decide) (by simp)).mono ?_
  rintro e w2 ⟨rfl, h2, _⟩
  have H2 := Lib.hid h2
  clear h2 H1
  go_wp2_with fail
  refine (dadd_ok 2 1 H2.out (by decide) (by decide) (by decide) (by simp)).mono ?_
  rintro e w3 ⟨rfl, h3, _⟩
  have H3 := Lib.hid h3
  clear h3 H2
  go_wp2_with fail
  refine (dadd_twice 1 1 H3.out (by decide) (by decide)).mono ?_
  rintro e w4 ⟨rfl, h4, _⟩
  have H4 := Lib.hid h4
  clear h4 H3
  go_wp2_with fail
  refine (dnext H4.out (by decide)).mono ?_
  rintro e w5 ⟨rfl, h5, _⟩
  have H5 := Lib.hid (show Dr w r _ w5 [(2, 1), (1, 2)] 0 true 1 from h5)
  clear h5 H4
  rw [show nextId ([] ++ [((2 : Int), (1 : Int))] ++ [(1, 2)]) 0 false 0 = 1 by decide]
  go_wp2_with fail
  refine (dnext H5.out (by decide)).mono ?_
  rintro e w6 ⟨rfl, h6, _⟩
  have H6 := Lib.hid (show Dr w r _ w6 [(2, 1), (1, 2)] 0 true 0 from h6)
  clear h6 H5
  rw [show nextId [((2 : Int), (1 : Int)), (1, 2)] 0 true 1 = 1 by decide]
  go_wp2_with fail
  refine (dnext H6.out (by decide)).mono ?_
  rintro e w7 ⟨rfl, h7, _⟩
  have H7 := Lib.hid (show Dr w r _ w7 [(2, 1), (1, 2)] 1 true 0 from h7)
  clear h7 H6
  rw [show nextId [((2 : Int), (1 : Int)), (1, 2)] 0 true 0 = 2 by decide]
  go_wp2_with fail
  refine (dnext H7.out (by decide)).mono ?_
  rintro e w8 ⟨rfl, h8, _⟩
  have H8 := Lib.hid (show Dr w r _ w8 [(2, 1), (1, 2)] 0 true 1 from h8)
  clear h8 H7
  rw [show nextId [((2 : Int), (1 : Int)), (1, 2)] 1 true 0 = 1 by decide]
  go_wp2_with fail
  refine (dall H8.out).mono ?_
  rintro e w9 ⟨A, cap, rfl, hc1, hc2, hS, h9, _⟩
  have H9 := Lib.hid h9.low
  clear h9 hS H8
  simp only [List.length_cons, List.length_nil] at hc1 ⊢
  go_wp2_with fail
  go_ret
  exact ⟨rfl, by rw [HR.out]; exact H9.out⟩
end Go.Proofs.Ytgfcfpoebmlppaa
