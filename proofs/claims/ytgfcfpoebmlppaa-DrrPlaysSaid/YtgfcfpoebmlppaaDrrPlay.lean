/- The program's row and the document's, side by side. -/
import Derived.Test.YtgfcfpoebmlppaaDrrSame
import Derived.Test.YtgfcfpoebmlppaaDrrRow
namespace Go.Proofs.Ytgfcfpoebmlppaa
open Go.ChangeShapes Go.WideShapes Go.ChangeAt Go.RowKit
set_option linter.unusedVariables false
set_option linter.unusedSimpArgs false
def rX (x : Nat) (vi vw : Value) (g : Nat) : Prop := g = x ∨ vi.ownBlock = some g ∨ vw.ownBlock = some g
def Two (w0 : World) (r x : Nat) (w : World) (l : List Mem) (at_ : Nat) (turn : Bool) (left : Int) (l2 : List Mem) (A L : Int) : Prop :=
  ∃ vi vw, Dr w0 r (rX x vi vw) w l at_ turn left ∧ rAt w x vi vw l2 A L ∧ ∀ g, rX x vi vw g → r ≤ g
def AA (at_ : Nat) (turn : Bool) : Int := if turn then (at_ : Int) else (at_ : Int) - 1
def LL (turn : Bool) (left : Int) : Int := if turn then left else 0
def Both (w0 : World) (r x : Nat) (w : World) (l : List Mem) (at_ : Nat) (turn : Bool) (left : Int) : Prop := Two w0 r x w l at_ turn left l (AA at_ turn) (LL turn left)
section
variable {w0 w w' : World} {r x : Nat} {l l2 : List Mem} {at_ : Nat} {turn : Bool} {left A L : Int}
theorem Two.below (h : Two w0 r x w l at_ turn left l2 A L) (hb : Below w.heap.size w w') : Two w0 r x w' l at_ turn left l2 A L := by
  obtain ⟨vi, vw, h1, h2, h3⟩ := h
  exact ⟨vi, vw, h1.below hb, h2.below hb, h3⟩
theorem Two.drewN (h : Two w0 r x w l at_ turn left l2 A L) (n : Nat) : Two w0 r x (w.drewN n) l at_ turn left l2 A L := h.below ⟨rfl, rfl, rfl, Nat.le_refl _, fun _ _ => rfl⟩
theorem Two.low (h : Two w0 r x w l at_ turn left l2 A L) : Below r w0 w := by obtain ⟨vi, vw, h1, h2, h3⟩ := h; exact h1.low
theorem Two.fine (h : Two w0 r x w l at_ turn left l2 A L) : Fine l at_ turn left := by obtain ⟨vi, vw, h1, h2, h3⟩ := h; exact h1.fine
theorem Two.lt (h : Two w0 r x w l at_ turn left l2 A L) : r < w.heap.size ∧ x < w.heap.size := by obtain ⟨vi, vw, h1, h2, h3⟩ := h; exact ⟨h1.lt, h2.1.lt⟩
theorem two_keeps {S : Nat → Prop} {vi vw : Value} (h2 : rAt w x vi vw l2 A L) (k : Keeps S w w') (hS : ∀ g, S g → ¬ rX x vi vw g) : rAt w' x vi vw l2 A L :=
  h2.keeps k (fun e => hS x e (.inl rfl)) (fun g hg e => hS g e (.inr (.inl hg))) (fun g hg e => hS g e (.inr (.inr hg)))
theorem two_d_next (h : Two w0 r x w l at_ turn left l2 A L) (hn : 0 < l.length) :
    Calls Try.prog 11 #[.pointer (some ⟨r, 0, none⟩)] w fun e w' => e = .returned (.tuple #[.int .i64 (nextId l at_ turn left), .bool true]) ∧ Two w0 r x w' l (nextAt l.length at_ turn left) true (nextLeft l at_ turn left) l2 A L := by
  obtain ⟨vi, vw, h1, h2, h3⟩ := h
  refine (dnext h1 hn).mono ?_
  rintro e w' ⟨he, d, k⟩
  have hr : ¬ rX x vi vw r := by obtain ⟨_, _, _, hx, _⟩ := h1; exact hx
  exact ⟨he, vi, vw, d, two_keeps h2 k (fun g hg => by rw [hg]; exact hr), h3⟩
theorem two_d_add (id wt : Int) (h : Two w0 r x w l at_ turn left l2 A L) (ha : argB id wt = true) (hf : findS l id = -1) (hl : l.length < 200) :
    Calls Try.prog 10 #[.pointer (some ⟨r, 0, none⟩), .int .i64 id, .int .i64 wt] w fun e w' => e = .returned (.int .i64 0) ∧ Two w0 r x w' (l ++ [(wt, id)]) at_ turn left l2 A L := by
  obtain ⟨vi, vw, h1, h2, h3⟩ := h
  refine (dadd_ok id wt h1 ha hf hl (fun g hg => ?_)).mono ?_
  · rcases hg with rfl | hg | hg
    · exact h2.1.lt
    · exact h2.2.2.2.1 g hg
    · exact h2.2.2.2.2 g hg
  rintro e w' ⟨he, d, k⟩
  exact ⟨he, vi, vw, d, two_keeps h2 k (fun g hg => hg.2), h3⟩
theorem two_d_del (i : Nat) (id : Int) (h : Two w0 r x w l at_ turn left l2 A L) (hf : findS l id = i) (hi : i < l.length) :
    Calls Try.prog 15 #[.pointer (some ⟨r, 0, none⟩), .int .i64 id] w fun e w' => e = .returned (.int .i64 0) ∧ Two w0 r x w' (l.eraseIdx i) (delAt i at_) (delTurn i at_ turn) left l2 A L := by
  obtain ⟨vi, vw, h1, h2, h3⟩ := h
  refine (ddel_ok i id h1 hf hi).mono ?_
  rintro e w' ⟨he, d, k⟩
  exact ⟨he, vi, vw, d, two_keeps h2 k (fun g hg => hg.2), h3⟩
theorem two_d_twice (id wt : Int) (h : Two w0 r x w l at_ turn left l2 A L) (ha : argB id wt = true) (hf : 0 ≤ findS l id) :
    Calls Try.prog 10 #[.pointer (some ⟨r, 0, none⟩), .int .i64 id, .int .i64 wt] w fun e w' => e = .returned (.int .i64 6) ∧ Two w0 r x w' l at_ turn left l2 A L := by
  have h' := h
  obtain ⟨vi, vw, h1, h2, h3⟩ := h
  exact (dadd_twice id wt h1 ha hf).mono fun _ _ ⟨he, _, hb⟩ => ⟨he, h'.below hb⟩
theorem two_d_none (id : Int) (h : Two w0 r x w l at_ turn left l2 A L) (hf : findS l id = -1) :
    Calls Try.prog 15 #[.pointer (some ⟨r, 0, none⟩), .int .i64 id] w fun e w' => e = .returned (.int .i64 5) ∧ Two w0 r x w' l at_ turn left l2 A L := by
  have h' := h
  obtain ⟨vi, vw, h1, h2, h3⟩ := h
  exact (ddel_none id h1 hf).mono fun _ _ ⟨he, _, hb⟩ => ⟨he, h'.below hb⟩
theorem getD_of (l : List Mem) (a : Nat) (h : a < l.length) : l.getD a (0, 0) = l[a] := by simp [List.getD_eq_getElem?_getD, h]
/-- the document's next -/
theorem two_r_next {at2 : Nat} {turn2 : Bool} {left2 : Int} (h : Two w0 r x w l (nextAt l.length at_ turn left) true (nextLeft l at_ turn left) l (AA at_ turn) (LL turn left)) (hF : Fine l at_ turn left) (hn : 0 < l.length) :
    Calls Try.prog 13 #[.pointer (some ⟨x, 0, none⟩)] w fun e w' => e = .returned (.tuple #[.int .i64 (nextId l at_ turn left), .bool true]) ∧ Both w0 r x w' l (nextAt l.length at_ turn left) true (nextLeft l at_ turn left) := by
  obtain ⟨vi, vw, h1, h2, h3⟩ := h
  obtain ⟨q1, q2, q3, q4⟩ := hF
  have key : Calls Try.prog 13 #[.pointer (some ⟨x, 0, none⟩)] w fun e w' => e = .returned (.tuple #[.int .i64 (nextId l at_ turn left), .bool true]) ∧ rAt w' x vi vw l (nextAt l.length at_ turn left) (nextLeft l at_ turn left) ∧ Keeps (· = x) w w' := by
    cases turn with
    | true =>
      obtain ⟨q4, q5, q6⟩ := q4 rfl
      by_cases hz : left = 0
      · subst hz
        by_cases hx : l.length ≤ at_ + 1
        · have e : nextAt l.length at_ true 0 = 0 := by simp [nextAt, hx]
          have e2 : nextLeft l at_ true 0 = l[0].1 - 1 := by rw [nextLeft, e, getD_of l 0 hn]; simp
          have e3 : nextId l at_ true 0 = l[0].2 := by rw [nextId, e, getD_of l 0 hn]
          rw [e, e2, e3]
          exact rnext_a x vi vw l (AA at_ true) w h2 q1 (by simp [AA]; omega) (by simp [AA]; omega) hn (q3 _ (List.getElem_mem hn))
        · have e : nextAt l.length at_ true 0 = at_ + 1 := by simp [nextAt, hx]
          have hi : at_ + 1 < l.length := by omega
          have e2 : nextLeft l at_ true 0 = l[at_ + 1].1 - 1 := by rw [nextLeft, e, getD_of l _ hi]; simp
          have e3 : nextId l at_ true 0 = l[at_ + 1].2 := by rw [nextId, e, getD_of l _ hi]
          rw [e, e2, e3]
          exact rnext_b x vi vw l (AA at_ true) (at_ + 1) w h2 q1 (by simp [AA]; omega) (by simp [AA]) hi (q3 _ (List.getElem_mem hi))
      · have e : nextAt l.length at_ true left = at_ := by simp [nextAt, hz]
        have e2 : nextLeft l at_ true left = left - 1 := by simp [nextLeft, hz]
        have e3 : nextId l at_ true left = l[at_].2 := by rw [nextId, e, getD_of l _ q4]
        rw [e, e2, e3]
        exact rnext_e x vi vw l at_ left w h2 q1 (by simp [hz]) ⟨q5, q6⟩ q4
    | false =>
      by_cases hx : l.length ≤ at_
      · have e : nextAt l.length at_ false left = 0 := by simp [nextAt, hx]
        have e2 : nextLeft l at_ false left = l[0].1 - 1 := by rw [nextLeft, e, getD_of l 0 hn]; simp
        have e3 : nextId l at_ false left = l[0].2 := by rw [nextId, e, getD_of l 0 hn]
        rw [e, e2, e3]
        exact rnext_a x vi vw l (AA at_ false) w h2 q1 (by simp [AA]; omega) (by simp [AA]; omega) hn (q3 _ (List.getElem_mem hn))
      · have e : nextAt l.length at_ false left = at_ := by simp [nextAt, hx]
        have hi : at_ < l.length := by omega
        have e2 : nextLeft l at_ false left = l[at_].1 - 1 := by rw [nextLeft, e, getD_of l _ hi]; simp
        have e3 : nextId l at_ false left = l[at_].2 := by rw [nextId, e, getD_of l _ hi]
        rw [e, e2, e3]
        exact rnext_b x vi vw l (AA at_ false) at_ w h2 q1 (by simp [AA]; omega) (by simp [AA]) hi (q3 _ (List.getElem_mem hi))
  refine key.mono ?_
  rintro e w' ⟨he, a, k⟩
  exact ⟨he, vi, vw, h1.other k (fun g hg => by rw [hg]; exact ⟨.inl rfl, h3 x (.inl rfl)⟩), a, h3⟩
theorem two_r_none (h : Two w0 r x w l at_ turn left [] A L) : Calls Try.prog 13 #[.pointer (some ⟨x, 0, none⟩)] w fun e w' => e = .returned (.tuple #[.int .i64 0, .bool false]) ∧ w = w' := by
  obtain ⟨vi, vw, h1, h2, h3⟩ := h
  exact rnext_none x vi vw A L w h2
theorem two_d_empty (h : Two w0 r x w [] at_ turn left l2 A L) : Calls Try.prog 11 #[.pointer (some ⟨r, 0, none⟩)] w fun e w' => e = .returned (.tuple #[.int .i64 0, .bool false]) ∧ w = w' := by
  obtain ⟨vi, vw, h1, h2, h3⟩ := h
  exact dnext_none h1
theorem two_anew {vi vw vi' vw' : Value} {S : Nat → Prop} (h1 : Dr w0 r (rX x vi vw) w l at_ turn left) (h2 : rAt w x vi vw l2 A L) (h3 : ∀ g, rX x vi vw g → r ≤ g) {l3 : List Mem} {A3 L3 : Int} (h4 : rAt w' x vi' vw' l3 A3 L3) (k : Keeps (· = x) w w') (f1 : ∀ g, vi'.ownBlock = some g → w.heap.size ≤ g) (f2 : ∀ g, vw'.ownBlock = some g → w.heap.size ≤ g) :
    Two w0 r x w' l at_ turn left l3 A3 L3 := by
  have hlt := h1.lt
  refine ⟨vi', vw', ?_, h4, fun g hg => ?_⟩
  · have h5 := h1.more (fun g => g = x ∨ w.heap.size ≤ g) (fun g hg => hg.imp (fun e => .inl e) id)
    have h6 := h5.other k (fun g hg => by rw [hg]; exact ⟨.inl rfl, h3 x (.inl rfl)⟩)
    refine h6.more _ (fun g hg => .inl ?_)
    rcases hg with rfl | hg | hg
    · exact .inl rfl
    · exact .inr (f1 g hg)
    · exact .inr (f2 g hg)
  · rcases hg with rfl | hg | hg
    · exact h3 _ (.inl rfl)
    · have := f1 g hg; omega
    · have := f2 g hg; omega
theorem two_r_add (id wt : Int) (h : Two w0 r x w (l ++ [(wt, id)]) at_ turn left l (AA at_ turn) (LL turn left)) (ha : argB id wt = true) (hf : findS l id = -1) (hl : l.length < 200) :
    Calls Try.prog 14 #[.pointer (some ⟨x, 0, none⟩), .int .i64 id, .int .i64 wt] w fun e w' => e = .returned (.int .i64 0) ∧ Both w0 r x w' (l ++ [(wt, id)]) at_ turn left := by
  obtain ⟨vi, vw, h1, h2, h3⟩ := h
  refine (radd_ok x vi vw l _ _ id wt w h2 ha hf (by omega)).mono ?_
  rintro e w' ⟨he, vi', vw', a, k, f1, f2⟩
  exact ⟨he, two_anew (S := fun _ => True) h1 h2 h3 a k f1 f2⟩
theorem two_r_twice (id wt : Int) (h : Two w0 r x w l at_ turn left l2 A L) (ha : argB id wt = true) (hf : 0 ≤ findS l2 id) :
    Calls Try.prog 14 #[.pointer (some ⟨x, 0, none⟩), .int .i64 id, .int .i64 wt] w fun e w' => e = .returned (.int .i64 6) ∧ w = w' := by
  obtain ⟨vi, vw, h1, h2, h3⟩ := h
  exact radd_twice x vi vw l2 A L id wt w h2 ha hf
theorem two_r_del (i : Nat) (id : Int) (h : Two w0 r x w (l.eraseIdx i) (delAt i at_) (delTurn i at_ turn) left l (AA at_ turn) (LL turn left)) (hF : Fine l at_ turn left) (hf : findS l id = i) (hi : i < l.length) :
    Calls Try.prog 16 #[.pointer (some ⟨x, 0, none⟩), .int .i64 id] w fun e w' => e = .returned (.int .i64 0) ∧ Both w0 r x w' (l.eraseIdx i) (delAt i at_) (delTurn i at_ turn) left := by
  obtain ⟨vi, vw, h1, h2, h3⟩ := h
  obtain ⟨q1, q2, q3, q4⟩ := hF
  refine (rdel_ok x vi vw l _ _ id i w h2 hf hi (by omega) (by unfold AA; split <;> omega)).mono ?_
  rintro e w' ⟨he, vi', vw', a, k, f1, f2⟩
  refine ⟨he, two_anew (S := fun _ => True) h1 h2 h3 ?_ k f1 f2⟩
  have e1 : (if (i : Int) ≤ AA at_ turn then AA at_ turn - 1 else AA at_ turn) = AA (delAt i at_) (delTurn i at_ turn) := by
    unfold AA delAt delTurn
    cases turn <;> by_cases c : i = at_ <;> by_cases c2 : i < at_ <;> simp [c, c2] <;> omega
  have e2 : (if (i : Int) = AA at_ turn then 0 else LL turn left) = LL (delTurn i at_ turn) left := by
    unfold AA LL delTurn
    cases turn <;> by_cases c : i = at_ <;> simp [c] <;> omega
  rw [← e1, ← e2]
  exact a
theorem two_r_dnone (id : Int) (h : Two w0 r x w l at_ turn left l2 A L) (hf : findS l2 id = -1) :
    Calls Try.prog 16 #[.pointer (some ⟨x, 0, none⟩), .int .i64 id] w fun e w' => e = .returned (.int .i64 5) ∧ w = w' := by
  obtain ⟨vi, vw, h1, h2, h3⟩ := h
  exact rdel_none x vi vw l2 A L id w h2 hf
theorem two_d_all (h : Two w0 r x w l at_ turn left l2 A L) :
    Calls Try.prog 18 #[.pointer (some ⟨r, 0, none⟩)] w fun e w' => ∃ Av cap, e = .returned (.slice Av l.length cap) ∧ Sl w' 3 1 (.slice Av l.length cap) l.length (idCells l) ∧ Below w.heap.size w w' := by
  obtain ⟨vi, vw, h1, h2, h3⟩ := h
  refine (dall h1).mono ?_
  rintro e w' ⟨Av, cap, rfl, _, _, hS, _, hb⟩
  exact ⟨Av, cap, rfl, hS, hb⟩
theorem both_first (h1 : Dr w0 r (fun _ => False) w [] 0 false 0) (h2 : rAt w' w.heap.size (.slice none 0 0) (.slice none 0 0) [] (-1) 0) (hb : Below w.heap.size w w') : Both w0 r w.heap.size w' [] 0 false 0 := by
  have hlt := h1.lt
  have hm : ∀ g, rX w.heap.size (.slice none 0 0) (.slice none 0 0) g → w.heap.size ≤ g := by
    rintro g (rfl | hg | hg)
    · exact Nat.le_refl _
    · simp [Value.ownBlock] at hg
    · simp [Value.ownBlock] at hg
  have h3 := h1.more (rX w.heap.size (.slice none 0 0) (.slice none 0 0)) (fun g hg => .inr (hm g hg))
  exact ⟨_, _, h3.below hb, by simpa [AA, LL] using h2, fun g hg => by have := hm g hg; omega⟩
def Fix (w0 : World) (r x : Nat) (vi vw : Value) (l : List Mem) (at_ : Nat) (turn : Bool) (left : Int) (w : World) : Prop :=
  Dr w0 r (rX x vi vw) w l at_ turn left ∧ rAt w x vi vw l (AA at_ turn) (LL turn left) ∧ ∀ g, rX x vi vw g → r ≤ g
theorem Fix.both {vi vw : Value} (h : Fix w0 r x vi vw l at_ turn left w) : Both w0 r x w l at_ turn left := ⟨vi, vw, h.1, h.2.1, h.2.2⟩
theorem Fix.below {vi vw : Value} (h : Fix w0 r x vi vw l at_ turn left w) (hb : Below w.heap.size w w') : Fix w0 r x vi vw l at_ turn left w' := ⟨h.1.below hb, h.2.1.below hb, h.2.2⟩
theorem Fix.drewN {vi vw : Value} (h : Fix w0 r x vi vw l at_ turn left w) (n : Nat) : Fix w0 r x vi vw l at_ turn left (w.drewN n) := h.below ⟨rfl, rfl, rfl, Nat.le_refl _, fun _ _ => rfl⟩
end
end Go.Proofs.Ytgfcfpoebmlppaa
