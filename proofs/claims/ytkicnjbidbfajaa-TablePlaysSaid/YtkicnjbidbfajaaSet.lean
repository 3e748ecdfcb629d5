/- Package table: tables side by side: what is whose. -/
import Derived.Test.YtkicnjbidbfajaaPlay08
import Derived.Deep.RegionLaw
namespace Go.Proofs.Ytkicnjbidbfajaa
open Go.ChangeShapes Go.WideShapes Go.ChangeAt Go.RowKit
set_option linter.unusedVariables false
set_option linter.unusedSimpArgs false
def ptrCells (P : Nat → Nat) (n : Nat) : List Value := (List.range n).map fun t => .pointer (some ⟨P t, 0, none⟩)
theorem ptrCells_at (P : Nat → Nat) (n t : Nat) (h : t < n) : (ptrCells P n)[t]? = some (.pointer (some ⟨P t, 0, none⟩)) := by simp [ptrCells, h]
theorem ptrCells_succ (P : Nat → Nat) (n : Nat) : ptrCells P (n + 1) = ptrCells P n ++ [.pointer (some ⟨P n, 0, none⟩)] := by simp [ptrCells, List.range_succ]
/-- n tables' rows at block r; f: whose a block is: tag + 0 the set's, tag + 1 its list's, tag + 2 + t table t's -/
structure Ts (tag : Nat) (f : Nat → Nat) (r : Nat) (w : World) (n : Nat) (ls : Nat → List Rw) (sv : Value) (P : Nat → Nat) (V : Nat → Value) : Prop where
  blk : Blk w r 90 #[sv]
  sl : Sl w 92 1 sv n (ptrCells P n)
  fr : f r = tag
  fs : ∀ g, sv.ownBlock = some g → f g = tag + 1 ∧ g < w.heap.size
  ix : ∀ t, t < n → ixAt w (P t) (V t) (ls t)
  up : ∀ t, t < n → Up (ls t)
  fp : ∀ t, t < n → f (P t) = tag + 2 + t
  fv : ∀ t, t < n → ∀ g, (V t).ownBlock = some g → f g = tag + 2 + t ∧ P t ≤ g
def TsE (tag : Nat) (f : Nat → Nat) (r : Nat) (w : World) (n : Nat) (ls : Nat → List Rw) : Prop := ∃ sv P V, Ts tag f r w n ls sv P V
section
variable {tag : Nat} {f f' : Nat → Nat} {r n : Nat} {w w' : World} {ls : Nat → List Rw} {sv : Value} {P : Nat → Nat} {V : Nat → Value}
theorem Ts.keeps {S : Nat → Prop} (h : Ts tag f r w n ls sv P V) (k : Keeps S w w') (hf : ∀ g, g < w.heap.size → f' g = f g) (hS : ∀ g, S g → g < w.heap.size → f g < tag ∨ tag + 2 + n ≤ f g) : Ts tag f' r w' n ls sv P V := by
  have hr := h.blk.lt
  have hno : ∀ g x, g < w.heap.size → f g = tag + x → x < 2 + n → ¬ S g := fun g x hg hx hxn hs => by have := hS g hs hg; omega
  exact {
    blk := k.at_ h.blk (hno r 0 hr (by rw [h.fr]; rfl) (by omega))
    sl := h.sl.keeps k (fun g hg => hno g 1 (h.fs g hg).2 (h.fs g hg).1 (by omega))
    fr := by rw [hf r hr]; exact h.fr
    fs := fun g hg => ⟨by rw [hf g (h.fs g hg).2]; exact (h.fs g hg).1, Nat.lt_of_lt_of_le (h.fs g hg).2 k.size⟩
    ix := fun t ht => (h.ix t ht).keeps k (hno (P t) (2 + t) (h.ix t ht).1.lt (by rw [h.fp t ht]; omega) (by omega)) (fun g hg => hno g (2 + t) ((h.ix t ht).2.2.2 g hg) (by rw [(h.fv t ht g hg).1]; omega) (by omega))
    up := h.up
    fp := fun t ht => by rw [hf (P t) (h.ix t ht).1.lt]; exact h.fp t ht
    fv := fun t ht g hg => ⟨by rw [hf g ((h.ix t ht).2.2.2 g hg)]; exact (h.fv t ht g hg).1, (h.fv t ht g hg).2⟩ }
theorem Ts.below (h : Ts tag f r w n ls sv P V) (hb : Below w.heap.size w w') : Ts tag f r w' n ls sv P V :=
  h.keeps (S := fun _ => False) ⟨hb.os, hb.tape, hb.output, hb.size, fun k hk _ => hb.block k hk⟩ (fun _ _ => rfl) (fun _ h => h.elim)
def updT (ls : Nat → List Rw) (t : Nat) (l : List Rw) (s : Nat) : List Rw := if s = t then l else ls s
/-- one table has changed -/
theorem Ts.change {t : Nat} {v' : Value} {l' : List Rw} (h : Ts tag f r w n ls sv P V) (ht : t < n) (hI : ixAt w' (P t) v' l') (hU : Up l') (k : Keeps (fun g => g = P t ∨ (V t).ownBlock = some g) w w') (hO : v'.ownBlock = (V t).ownBlock ∨ ∃ g, v'.ownBlock = some g ∧ w.heap.size ≤ g) :
    Ts tag (fun g => if w.heap.size ≤ g then tag + 2 + t else f g) r w' n (updT ls t l') sv P (fun s => if s = t then v' else V s) := by
  have hr := h.blk.lt
  have hpt := (h.ix t ht).1.lt
  have hS : ∀ g, (g = P t ∨ (V t).ownBlock = some g) → f g = tag + 2 + t := fun g hg => by
    rcases hg with rfl | hg
    · exact h.fp t ht
    · exact (h.fv t ht g hg).1
  have hno : ∀ g x, f g = tag + x → x ≠ 2 + t → ¬ (g = P t ∨ (V t).ownBlock = some g) := fun g x hx hne hs => by have := hS g hs; omega
  have hff : ∀ g, g < w.heap.size → (if w.heap.size ≤ g then tag + 2 + t else f g) = f g := fun g hg => if_neg (by omega)
  exact {
    blk := k.at_ h.blk (hno r 0 (by rw [h.fr]; rfl) (by omega))
    sl := h.sl.keeps k (fun g hg => hno g 1 (h.fs g hg).1 (by omega))
    fr := by rw [hff r hr]; exact h.fr
    fs := fun g hg => ⟨by rw [hff g (h.fs g hg).2]; exact (h.fs g hg).1, Nat.lt_of_lt_of_le (h.fs g hg).2 k.size⟩
    ix := fun s hs => by
      by_cases e : s = t
      · subst e; simp only [updT, if_true]; exact hI
      · simp only [updT, if_neg e]
        exact (h.ix s hs).keeps k (hno (P s) (2 + s) (by rw [h.fp s hs]; omega) (by omega)) (fun g hg => hno g (2 + s) (by rw [(h.fv s hs g hg).1]; omega) (by omega))
    up := fun s hs => by
      by_cases e : s = t
      · simp only [updT, e, if_true]; exact hU
      · simp only [updT, if_neg e]; exact h.up s hs
    fp := fun s hs => by rw [hff (P s) (h.ix s hs).1.lt]; exact h.fp s hs
    fv := fun s hs g hg => by
      by_cases e : s = t
      · subst e
        simp only [if_true] at hg
        rcases hO with e | ⟨g', e, hg'⟩
        · rw [e] at hg
          rw [hff g ((h.ix s hs).2.2.2 g hg)]
          exact h.fv s hs g hg
        · rw [e] at hg
          injection hg with hg
          subst hg
          exact ⟨if_pos hg', by omega⟩
      · simp only [if_neg e] at hg
        rw [hff g ((h.ix s hs).2.2.2 g hg)]
        exact h.fv s hs g hg }
theorem Ts.at_ (h : Ts tag f r w n ls sv P V) (t : Nat) (ht : t < n) : ∃ g off cap, sv = .slice (some ⟨g, off, none⟩) n cap ∧ n ≤ cap ∧ cap ≤ maxLen ∧ w.cell? ⟨g, off + t, none⟩ = some (.pointer (some ⟨P t, 0, none⟩)) := by
  obtain ⟨g, off, cap, hv, h1, h2, _, hat, _⟩ := h.sl.at_ (by omega)
  exact ⟨g, off, cap, hv, h1, h2, hat _ _ (ptrCells_at P n t ht)⟩
theorem Ts.index (h : Ts tag f r w n ls sv P V) (t : Nat) (ht : t < n) : Ix w (P t) (fun _ => False) w (ls t) :=
  ⟨V t, h.ix t ht, fun g hg => ⟨(h.fv t ht g hg).2, id⟩, id, Below.refl _ _, h.up t ht⟩
theorem thas (t : Int) (h : Ts tag f r w n ls sv P V) :
    Calls Try.prog 57 #[.pointer (some ⟨r, 0, none⟩), .int .i64 t] w fun e w' => e = .returned (.bool (decide (0 ≤ t ∧ t < n))) ∧ w = w' := by
  obtain ⟨A, cap, rfl, _, _⟩ := h.sl.form
  have c0 := h.blk.cell 0
  simp at c0
  clear h
  by_cases h0 : 0 ≤ t
  · have g0 : decide (0 ≤ t) = true := decide_eq_true h0
    have HK := Lib.hid (show decide (0 ≤ t ∧ t < n) = decide (t < n) by simp [h0])
    clear h0
    go_enter Try.func57, Try.ntmps57
    go_wp2_with fail
    all_goals (go_ret; exact ⟨by rw [HK.out]; first | rfl | simp_all, rfl⟩)
  · have g0 : decide (0 ≤ t) = false := decide_eq_false h0
    have HK := Lib.hid (show decide (0 ≤ t ∧ t < n) = false by simp [h0])
    clear h0
    go_enter Try.func57, Try.ntmps57
    go_wp2_with fail
    all_goals (go_ret; exact ⟨by rw [HK.out]; first | rfl | simp_all, rfl⟩)
end
end Go.Proofs.Ytkicnjbidbfajaa
