/- Package drr: a new one; where one stands; whose turn it is. -/
import Derived.Test.YtgfcfpoebmlppaaDrr
import Derived.Deep.RegionHeld3
import Derived.BigQuiet
namespace Go.Proofs.Ytgfcfpoebmlppaa
open Go.ChangeShapes Go.WideShapes Go.ChangeAt Go.RowKit
set_option linter.unusedVariables false
set_option linter.unusedSimpArgs false
theorem Keeps.drew {S : Nat → Prop} {a w : World} (h : Keeps S a w) : Keeps S a w.drew := ⟨h.os, h.tape, h.output, h.size, h.block⟩
/-- the row at block p, its list the slice v -/
def drrAt (w : World) (p : Nat) (v : Value) (l : List Mem) (at_ : Nat) (turn : Bool) (left : Int) : Prop :=
  Blk w p 49 #[v, .int .i64 at_, .bool turn, .int .i64 left] ∧ Sl w 55 2 v l.length (memCells l) ∧ v.ownBlock ≠ some p ∧ ∀ g, v.ownBlock = some g → g < w.heap.size
theorem drrAt.below {w w' : World} {p : Nat} {v : Value} {l : List Mem} {at_ : Nat} {turn : Bool} {left : Int} (h : drrAt w p v l at_ turn left) (hb : Below w.heap.size w w') : drrAt w' p v l at_ turn left :=
  ⟨h.1.below hb h.1.lt, h.2.1.below hb, h.2.2.1, fun g hg => Nat.lt_of_lt_of_le (h.2.2.2 g hg) hb.size⟩
theorem drrAt.keeps {S : Nat → Prop} {w w' : World} {p : Nat} {v : Value} {l : List Mem} {at_ : Nat} {turn : Bool} {left : Int} (h : drrAt w p v l at_ turn left) (k : Keeps S w w') (h1 : ¬ S p) (h2 : ∀ g, v.ownBlock = some g → ¬ S g) : drrAt w' p v l at_ turn left :=
  ⟨k.at_ h.1 h1, h.2.1.keeps k h2, h.2.2.1, fun g hg => Nat.lt_of_lt_of_le (h.2.2.2 g hg) k.size⟩
theorem drrAt.drew {w : World} {p : Nat} {v : Value} {l : List Mem} {at_ : Nat} {turn : Bool} {left : Int} (h : drrAt w p v l at_ turn left) : drrAt w.drew p v l at_ turn left := h
/-- its own cells written, the list as it was -/
theorem drrAt.own {w w' : World} {p : Nat} {v : Value} {l : List Mem} {at_ at2 : Nat} {turn turn2 : Bool} {left left2 : Int} (h : drrAt w p v l at_ turn left) (k : Keeps (· = p) w w') (hb : Blk w' p 49 #[v, .int .i64 at2, .bool turn2, .int .i64 left2]) : drrAt w' p v l at2 turn2 left2 :=
  ⟨hb, h.2.1.keeps k fun g hg e => h.2.2.1 (by rw [hg, e]), h.2.2.1, fun g hg => Nat.lt_of_lt_of_le (h.2.2.2 g hg) k.size⟩
theorem new_any (w : World) : Calls Try.prog 7 #[] w fun e w' => e = .returned (.pointer (some ⟨w.heap.size, 0, none⟩)) ∧ drrAt w' w.heap.size (.slice none 0 0) [] 0 false 0 ∧ Below w.heap.size w w' := by
  go_enter Try.func7, Try.ntmps7
  go_wp2
  go_ret
  exact ⟨rfl, ⟨heap_alloc_new w _, Sl.nil _ _ _ _, by simp [Value.ownBlock], by simp [Value.ownBlock]⟩, (Below.refl _ _).alloc (Nat.le_refl _) _⟩
theorem place_any (p : Nat) (v : Value) (l : List Mem) (at_ : Nat) (turn : Bool) (left x : Int) (w : World) (h : drrAt w p v l at_ turn left) :
    Calls Try.prog 19 #[.pointer (some ⟨p, 0, none⟩), .int .i64 x] w fun e w' => e = .returned (.int .i64 (findS l x)) ∧ Below w.heap.size w w' := by
  have hlt := h.1.lt
  have c0 := h.1.cell 0
  simp at c0
  have H := Lib.hid h
  clear h
  go_enter Try.func19, Try.ntmps19
  go_wp2_with fail
  refine (index_any v l x w.heap.size _ (H.out.2.1.alloc _) (by rw [cells_of (heap_alloc_new w _)]; rfl)).mono ?_
  rintro e w2 ⟨rfl, b2⟩
  go_wp2_with fail
  go_ret
  exact ⟨rfl, ((Below.refl _ _).alloc (Nat.le_refl _) _).trans (b2.mono (by simp))⟩
theorem next_none (p : Nat) (v : Value) (at_ : Nat) (turn : Bool) (left : Int) (w : World) (h : drrAt w p v [] at_ turn left) :
    Calls Try.prog 11 #[.pointer (some ⟨p, 0, none⟩)] w fun e w' => e = .returned (.tuple #[.int .i64 0, .bool false]) ∧ w = w' := by
  obtain ⟨A, cap, rfl, _, _⟩ := h.2.1.form
  have c0 := h.1.cell 0
  simp at c0
  clear h
  go_enter Try.func11, Try.ntmps11
  go_wp2_with fail
  go_ret2
  exact ⟨rfl, rfl⟩
end Go.Proofs.Ytgfcfpoebmlppaa
