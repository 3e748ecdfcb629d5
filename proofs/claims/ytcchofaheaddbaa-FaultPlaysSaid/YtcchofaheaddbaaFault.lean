/- Package fault: which faults may be; a plan: what is put, taken, counted. -/
import Derived.Test.YtcchofaheaddbaaRows
import Derived.Test.YtcchofaheaddbaaCommon
import Derived.Test.YtcchofaheaddbaaRegion
import Derived.Test.YtcchofaheaddbaaSl
import Derived.Deep.DeepCutAuto
import Derived.Deep.CutBlock
namespace Go.Proofs.Ytcchofaheaddbaa
open Go.ChangeShapes Go.WideShapes Go.ChangeAt Go.RowKit
set_option linter.unusedVariables false
set_option linter.unusedSimpArgs false
theorem mod_any (v n : Int) (w : World) (h0 : 1 ≤ n) (h1 : n ≤ 9223372036854775807) :
    Calls Try.prog 6 #[.int .i64 v, .int .i64 n] w fun e w' => e = .returned (.int .i64 (bigS v n)) ∧ w = w' := by
  have HF := Lib.hid (bigS_walk v n h0 h1)
  go_enter Try.func6, Try.ntmps6
  go_wp2
  all_goals go_ret
  exact ⟨ret_int HF.out, rfl⟩
abbrev Flt := Int × Int
@[go_sem] def fltV (f : Flt) : Value := .agg #[.int .i64 f.1, .int .i64 f.2]
def fltCells (l : List Flt) : List Value := l.flatMap fun f => [.int .i64 f.1, .int .i64 f.2]
theorem fltCells_len (l : List Flt) : (fltCells l).length = l.length * 2 := by
  induction l with
  | nil => rfl
  | cons f l ih => simp only [fltCells, List.flatMap_cons, List.length_append, List.length_cons, List.length_nil] at *; rw [ih]; omega
theorem fltCells_app (a b : List Flt) : fltCells (a ++ b) = fltCells a ++ fltCells b := by simp [fltCells, List.flatMap_append]
theorem fltCells_at (l : List Flt) (k : Nat) (h : k < l.length) : (fltCells l)[k * 2]? = some (.int .i64 l[k].1) ∧ (fltCells l)[k * 2 + 1]? = some (.int .i64 l[k].2) := by
  induction l generalizing k with
  | nil => simp at h
  | cons f l ih =>
    cases k with
    | zero => exact ⟨rfl, rfl⟩
    | succ k =>
      have := ih k (by simpa using h)
      have e : fltCells (f :: l) = .int .i64 f.1 :: .int .i64 f.2 :: fltCells l := rfl
      rw [e, show (k + 1) * 2 = k * 2 + 1 + 1 by omega]
      simpa using this
def mayF (f : Flt) : Bool := decide ((f.1 = 1 ∨ f.1 = 3) ∧ f.2 = 0 ∨ f.1 = 2 ∧ 0 ≤ f.2)
theorem may_any (f : Flt) (w : World) :
    Calls Try.prog 8 #[fltV f] w fun e w' => e = .returned (.bool (mayF f)) ∧ Below w.heap.size w w' := by
  obtain ⟨a, b⟩ := f
  unfold fltV
  have hb3 : b = 0 ∨ (b == 0) = false ∧ 0 < b ∨ (b == 0) = false ∧ b < 0 := by
    rcases Int.lt_trichotomy b 0 with h | h | h
    · exact .inr (.inr ⟨beq_eq_false_iff_ne.2 (by omega), h⟩)
    · exact .inl h
    · exact .inr (.inl ⟨beq_eq_false_iff_ne.2 (by omega), h⟩)
  have ha4 : a = 1 ∨ a = 2 ∨ a = 3 ∨ (a == 1) = false ∧ (a == 2) = false ∧ (a == 3) = false := by
    by_cases h1 : a = 1
    · exact .inl h1
    · by_cases h2 : a = 2
      · exact .inr (.inl h2)
      · by_cases h3 : a = 3
        · exact .inr (.inr (.inl h3))
        · exact .inr (.inr (.inr ⟨beq_eq_false_iff_ne.2 h1, beq_eq_false_iff_ne.2 h2, beq_eq_false_iff_ne.2 h3⟩))
  rcases hb3 with rfl | ⟨b1, b2⟩ | ⟨b1, b2⟩ <;> rcases ha4 with rfl | rfl | rfl | ⟨a1, a2, a3⟩
  all_goals
    go_enter Try.func8, Try.ntmps8
    go_wp2
    all_goals go_ret
    all_goals exact ⟨ret_bool (by (try simp only [beq_eq_false_iff_ne, ne_eq] at *); simp [mayF]; try omega), (Below.refl _ _).alloc (Nat.le_refl _) _⟩
theorem rmay_any (f : Flt) (w : World) :
    Calls Try.prog 9 #[fltV f] w fun e w' => e = .returned (.bool (mayF f)) ∧ Below w.heap.size w w' := by
  obtain ⟨a, b⟩ := f
  unfold fltV
  have hb3 : b = 0 ∨ (b == 0) = false ∧ 0 < b ∨ (b == 0) = false ∧ b < 0 := by
    rcases Int.lt_trichotomy b 0 with h | h | h
    · exact .inr (.inr ⟨beq_eq_false_iff_ne.2 (by omega), h⟩)
    · exact .inl h
    · exact .inr (.inl ⟨beq_eq_false_iff_ne.2 (by omega), h⟩)
  have ha4 : a = 1 ∨ a = 2 ∨ a = 3 ∨ (a == 1) = false ∧ (a == 2) = false ∧ (a == 3) = false := by
    by_cases h1 : a = 1
    · exact .inl h1
    · by_cases h2 : a = 2
      · exact .inr (.inl h2)
      · by_cases h3 : a = 3
        · exact .inr (.inr (.inl h3))
        · exact .inr (.inr (.inr ⟨beq_eq_false_iff_ne.2 h1, beq_eq_false_iff_ne.2 h2, beq_eq_false_iff_ne.2 h3⟩))
  rcases hb3 with rfl | ⟨b1, b2⟩ | ⟨b1, b2⟩ <;> rcases ha4 with rfl | rfl | rfl | ⟨a1, a2, a3⟩
  all_goals
    go_enter Try.func9, Try.ntmps9
    go_wp2
    all_goals go_ret
    all_goals exact ⟨ret_bool (by (try simp only [beq_eq_false_iff_ne, ne_eq] at *); simp [mayF]; try omega), (Below.refl _ _).alloc (Nat.le_refl _) _⟩

/-- the plan at block p, whose list is the slice v, has these faults -/
def planAt (w : World) (p : Nat) (v : Value) (l : List Flt) : Prop := w.heap[p]? = some (.cells #[v] 44 (0, 0)) ∧ Sl w 23 2 v l.length (fltCells l) ∧ v.ownBlock ≠ some p ∧ ∀ g, v.ownBlock = some g → g < w.heap.size
theorem planAt_keeps {S : Nat → Prop} {w w' : World} {p : Nat} {v : Value} {l : List Flt} (h : planAt w p v l) (k : Keeps S w w') (h1 : ¬ S p) (h2 : ∀ g, v.ownBlock = some g → ¬ S g) : planAt w' p v l := ⟨k.at_ h.1 h1, h.2.1.keeps k h2, h.2.2.1, fun g hg => Nat.lt_of_lt_of_le (h.2.2.2 g hg) k.size⟩
theorem planAt_below {w w' : World} {p : Nat} {v : Value} {l : List Flt} (h : planAt w p v l) (hb : Below w.heap.size w w') : planAt w' p v l := ⟨(hb.block p (lt_of_block h.1)).trans h.1, h.2.1.below hb, h.2.2.1, fun g hg => Nat.lt_of_lt_of_le (h.2.2.2 g hg) hb.size⟩
theorem new_any (w : World) : Calls Try.prog 10 #[] w fun e w' => e = .returned (.pointer (some ⟨w.heap.size, 0, none⟩)) ∧ planAt w' w.heap.size (.slice none 0 0) [] ∧ Below w.heap.size w w' := by
  go_enter Try.func10, Try.ntmps10
  go_wp2
  go_ret
  exact ⟨rfl, ⟨heap_alloc_new w _, Sl.nil _ _ _ _, by simp [Value.ownBlock], by simp [Value.ownBlock]⟩, (Below.refl _ _).alloc (Nat.le_refl _) _⟩
theorem len_any (p : Nat) (v : Value) (l : List Flt) (w : World) (h : planAt w p v l) : Calls Try.prog 14 #[.pointer (some ⟨p, 0, none⟩)] w fun e w' => e = .returned (.int .i64 l.length) ∧ w = w' := by
  obtain ⟨A, cap, rfl, _, hc⟩ := h.2.1.form
  have c0 := cells_of h.1 0
  clear h
  simp at c0
  unfold maxLen at hc
  go_enter Try.func14, Try.ntmps14
  go_wp2
  go_ret
  exact ⟨rfl, rfl⟩
theorem next_no (p : Nat) (v : Value) (w : World) (h : planAt w p v []) : Calls Try.prog 15 #[.pointer (some ⟨p, 0, none⟩)] w fun e w' => e = .returned (.tuple #[fltV (0, 0), .bool false]) ∧ Below w.heap.size w w' := by
  obtain ⟨A, cap, rfl, _, hc⟩ := h.2.1.form
  have c0 := cells_of h.1 0
  have hlt := lt_of_block h.1
  clear h
  simp at c0
  unfold maxLen at hc
  go_enter Try.func15, Try.ntmps15
  go_wp2
  exact bodyPost_ret (v := .tuple #[fltV (0, 0), .bool false]) (by simp [results, Try.results15, go_sem, fltV]) rfl ⟨rfl, (Below.refl _ _).alloc (Nat.le_refl _) _⟩
theorem next_yes (p : Nat) (v : Value) (f : Flt) (l : List Flt) (w : World) (h : planAt w p v (f :: l)) : Calls Try.prog 15 #[.pointer (some ⟨p, 0, none⟩)] w fun e w' => e = .returned (.tuple #[fltV f, .bool true]) ∧ ∃ v', planAt w' p v' l ∧ v'.ownBlock = v.ownBlock ∧ Keeps (· = p) w w' := by
  obtain ⟨g, off, cap, rfl, hnc, hcm, hg, hat, hfz⟩ := h.2.1.at_ (by simp)
  have c0 := cells_of h.1 0
  have x0 := hat 0 _ (fltCells_at (f :: l) 0 (by simp)).1
  have x1 := hat 1 _ (fltCells_at (f :: l) 0 (by simp)).2
  have hlt := lt_of_block h.1
  have hne : g ≠ p := fun e => h.2.2.1 (by simp [Value.ownBlock, e])
  have fp := fun i => free_of h.1 i
  have H := Lib.hid h
  clear h hat hfz
  simp at c0 x0 x1 hnc
  unfold maxLen at hcm
  obtain ⟨a, b⟩ := f
  simp only at x0 x1
  have hpos : (0 : Int) < (l.length : Int) + 1 := by omega
  have hcut := Sl.cut H.out.2.1 1 (by simp)
  have hz : ((l.length : Int) + 1 == 0) = false := beq_eq_false_iff_ne.2 (by omega)
  have hend : ∀ (A' : Option Addr), A' = (if cap = 1 then some ⟨g, off, none⟩ else some ⟨g, off + 2, none⟩) → planAt (w.setCell ⟨p, 0, none⟩ (.slice A' l.length (cap - 1))) p (.slice A' l.length (cap - 1)) l ∧ (Value.slice A' l.length (cap - 1)).ownBlock = some g ∧ Keeps (· = p) w (w.setCell ⟨p, 0, none⟩ (.slice A' l.length (cap - 1))) := by
    intro A' hA
    have hk : Keeps (· = p) w (w.setCell ⟨p, 0, none⟩ (.slice A' l.length (cap - 1))) := (Keeps.refl (· = p) w).setCell (p := ⟨p, 0, none⟩) rfl _
    have hob : (Value.slice A' l.length (cap - 1)).ownBlock = some g := by rw [hA]; split <;> rfl
    have hS : Sl w 23 2 (.slice A' l.length (cap - 1)) l.length (fltCells l) := by
      have e : A' = (if cap = 1 then some ⟨g, off, none⟩ else Option.map (·.add (1 * 2)) (some (⟨g, off, none⟩ : Addr))) := by rw [hA]; simp [add_none]
      rw [e]
      simpa [fltCells] using hcut
    refine ⟨⟨by simpa using block_set H.out.1 0 (.slice A' l.length (cap - 1)), hS.keeps hk (fun x hx e => ?_), by rw [hob]; simpa using hne, fun x hx => ?_⟩, hob, hk⟩
    · rw [hob] at hx
      injection hx with hx
      omega
    · rw [hob] at hx
      injection hx with hx
      subst hx
      simpa [World.setCell] using hg
  have HE := Lib.hid hend
  clear hend hcut hpos
  have al : ∀ (W : World) (o : Obj), Below W.heap.size W (W.alloc o) := fun W o => (Below.refl _ _).alloc (Nat.le_refl _) _
  have AL := Lib.hid al
  clear al
  by_cases hc1 : cap = 1
  · obtain ⟨h1, h2, h3⟩ := HE.out (some ⟨g, off, none⟩) (by rw [if_pos hc1])
    have H1 := Lib.hid h1
    have H3 := Lib.hid h3
    clear h1 h3
    subst hc1
    obtain rfl : l = [] := by
      cases l with
      | nil => rfl
      | cons _ _ => simp at hnc
    go_enter Try.func15, Try.ntmps15
    go_wp2
    exact bodyPost_ret (v := .tuple #[fltV (a, b), .bool true]) (by simp [results, Try.results15, go_sem, fltV]) rfl ⟨rfl, _, planAt_below (planAt_below H1.out (AL.out _ _)) (AL.out _ _), h2, (H3.out.alloc _).alloc _⟩
  · obtain ⟨h1, h2, h3⟩ := HE.out (some ⟨g, off + 2, none⟩) (by rw [if_neg hc1])
    have H1 := Lib.hid h1
    have H3 := Lib.hid h3
    clear h1 h3
    go_enter Try.func15, Try.ntmps15
    go_wp2
    exact bodyPost_ret (v := .tuple #[fltV (a, b), .bool true]) (by simp [results, Try.results15, go_sem, fltV]) rfl ⟨rfl, _, planAt_below (planAt_below H1.out (AL.out _ _)) (AL.out _ _), h2, (H3.out.alloc _).alloc _⟩
end Go.Proofs.Ytcchofaheaddbaa
