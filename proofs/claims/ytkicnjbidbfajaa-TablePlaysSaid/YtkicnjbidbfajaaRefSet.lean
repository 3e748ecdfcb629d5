/- The document's set of tables: what it is; NewSet, Is, Rows. -/
import Derived.Test.YtkicnjbidbfajaaFits2
namespace Go.Proofs.Ytkicnjbidbfajaa
open Go.ChangeShapes Go.WideShapes Go.ChangeAt Go.RowKit
set_option linter.unusedVariables false
set_option linter.unusedSimpArgs false
def uCells (U : Nat → Value) (n : Nat) : List Value := (List.range n).map U
theorem uCells_at (U : Nat → Value) (n t : Nat) (h : t < n) : (uCells U n)[t]? = some (U t) := by simp [uCells, h]
theorem uCells_set (U : Nat → Value) (n t : Nat) (v : Value) : (uCells U n).set t v = uCells (fun s => if s = t then v else U s) n := by
  apply List.ext_getElem?
  intro i
  rw [List.getElem?_set]
  unfold uCells
  by_cases h : t = i
  · subst h
    by_cases h2 : t < n <;> simp [h2]
  · by_cases h2 : i < n
    · simp [h, h2, Ne.symm h]
    · simp [h, h2]
/-- the document's set: block rb, its lists' block gT; all its blocks are Z's -/
structure Rf (Z : Nat → Prop) (rb gT : Nat) (w : World) (n : Nat) (ls : Nat → List Rw) (U : Nat → Value) : Prop where
  blk : Blk w rb 95 #[.slice (some ⟨gT, 0, none⟩) n n]
  tb : Sl w 22 1 (.slice (some ⟨gT, 0, none⟩) n n) n (uCells U n)
  gl : gT < w.heap.size
  ne : rb ≠ gT
  zr : Z rb
  zt : Z gT
  sl : ∀ t, t < n → Sl w 26 2 (U t) (ls t).length (rowCells (ls t))
  up : ∀ t, t < n → Up (ls t)
  ow : ∀ t, t < n → ∀ g, (U t).ownBlock = some g → g < w.heap.size ∧ g ≠ gT ∧ Z g
section
variable {Z : Nat → Prop} {rb gT n : Nat} {w w' : World} {ls : Nat → List Rw} {U : Nat → Value}
theorem Rf.keeps {S : Nat → Prop} (h : Rf Z rb gT w n ls U) (k : Keeps S w w') (hS : ∀ g, S g → g < w.heap.size → ¬ Z g) : Rf Z rb gT w' n ls U where
  blk := k.at_ h.blk (fun e => hS rb e h.blk.lt h.zr)
  tb := h.tb.keeps k (fun g hg e => by simp [Value.ownBlock] at hg; subst hg; exact hS _ e h.gl h.zt)
  gl := Nat.lt_of_lt_of_le h.gl k.size
  ne := h.ne
  zr := h.zr
  zt := h.zt
  sl := fun t ht => (h.sl t ht).keeps k (fun g hg e => by have := h.ow t ht g hg; exact hS g e this.1 this.2.2)
  up := h.up
  ow := fun t ht g hg => ⟨Nat.lt_of_lt_of_le (h.ow t ht g hg).1 k.size, (h.ow t ht g hg).2⟩
theorem Rf.below (h : Rf Z rb gT w n ls U) (hb : Below w.heap.size w w') : Rf Z rb gT w' n ls U := h.keeps (S := fun _ => False) (Keeps.of_below hb) (fun _ h => h.elim)
theorem Rf.zmap {Z' : Nat → Prop} (h : Rf Z rb gT w n ls U) (hz : ∀ g, g < w.heap.size → Z g → Z' g) : Rf Z' rb gT w n ls U where
  blk := h.blk
  tb := h.tb
  gl := h.gl
  ne := h.ne
  zr := hz _ h.blk.lt h.zr
  zt := hz _ h.gl h.zt
  sl := h.sl
  up := h.up
  ow := fun t ht g hg => ⟨(h.ow t ht g hg).1, (h.ow t ht g hg).2.1, hz _ (h.ow t ht g hg).1 (h.ow t ht g hg).2.2⟩
/-- one list has changed -/
theorem Rf.put {t : Nat} {v' : Value} {l' : List Rw} (h : Rf Z rb gT w n ls U) (ht : t < n) (hS : Sl w 26 2 v' l'.length (rowCells l')) (hU : Up l') (hO : ∀ g, v'.ownBlock = some g → g < w.heap.size ∧ g ≠ gT ∧ Z g) :
    Rf Z rb gT (w.setCell ⟨gT, t, none⟩ v') n (updT ls t l') (fun s => if s = t then v' else U s) := by
  have k : Keeps (· = gT) w (w.setCell ⟨gT, t, none⟩ v') := (Keeps.refl (· = gT) w).setCell (p := ⟨gT, t, none⟩) rfl _
  exact {
    blk := k.at_ h.blk h.ne
    tb := by
      rw [← uCells_set]
      have := Sl.set h.tb (by omega) t v' (by simp [uCells]; omega)
      rwa [Nat.zero_add] at this
    gl := Nat.lt_of_lt_of_le h.gl k.size
    ne := h.ne
    zr := h.zr
    zt := h.zt
    sl := fun s hs => by
      by_cases e : s = t
      · simp only [updT, e, if_true]; exact hS.keeps k (fun g hg e => (hO g hg).2.1 e)
      · simp only [updT, if_neg e]; exact (h.sl s hs).keeps k (fun g hg e => (h.ow s hs g hg).2.1 e)
    up := fun s hs => by
      by_cases e : s = t
      · simp only [updT, e, if_true]; exact hU
      · simp only [updT, if_neg e]; exact h.up s hs
    ow := fun s hs g hg => by
      have hsz := k.size
      by_cases e : s = t
      · simp only [e, if_true] at hg; have := hO g hg; exact ⟨by omega, this.2⟩
      · simp only [if_neg e] at hg; have := h.ow s hs g hg; exact ⟨by omega, this.2⟩ }
theorem Rf.at_ (h : Rf Z rb gT w n ls U) (t : Nat) (ht : t < n) : w.cell? ⟨gT, t, none⟩ = some (U t) ∧ ∀ j, w.frozen? ⟨gT, j, none⟩ = false := by
  obtain ⟨g, off, cap, hv, h1, h2, _, hat, hf⟩ := h.tb.at_ (by omega)
  simp at hv
  obtain ⟨⟨rfl, rfl⟩, rfl⟩ := hv
  have := hat _ _ (uCells_at U n t ht)
  rw [Nat.zero_add] at this
  exact ⟨this, hf⟩
theorem ris (t : Int) (h : Rf Z rb gT w n ls U) (hn : n ≤ 8) :
    Calls Try.prog 59 #[.pointer (some ⟨rb, 0, none⟩), .int .i64 t] w fun e w' => e = .returned (.bool (decide (0 ≤ t ∧ t < n))) ∧ w = w' := by
  have c0 := h.blk.cell 0
  simp at c0
  clear h
  by_cases h0 : 0 ≤ t
  · have g0 : decide (0 ≤ t) = true := decide_eq_true h0
    have HK := Lib.hid (show decide (0 ≤ t ∧ t < n) = decide (t < n) by simp [h0])
    clear h0
    go_enter Try.func59, Try.ntmps59
    go_wp2_with fail
    all_goals (go_ret; exact ⟨by rw [HK.out]; first | rfl | simp_all, rfl⟩)
  · have g0 : decide (0 ≤ t) = false := decide_eq_false h0
    have HK := Lib.hid (show decide (0 ≤ t ∧ t < n) = false by simp [h0])
    clear h0
    go_enter Try.func59, Try.ntmps59
    go_wp2_with fail
    all_goals (go_ret; exact ⟨by rw [HK.out]; first | rfl | simp_all, rfl⟩)
set_option maxRecDepth 100000 in
theorem rrows (t : Nat) (h : Rf Z rb gT w n ls U) (hn : n ≤ 8) (ht : t < n) (hl : (ls t).length ≤ 2000) : Calls Try.prog 45 #[.pointer (some ⟨rb, 0, none⟩), .int .i64 t] w (ClonePost (ls t) w) := by
  obtain ⟨i0, hi0, hz0, hz1, hz2⟩ := info_parts infoRow
  have q1 : decide (0 ≤ (t : Int) ∧ (t : Int) < n) = true := decide_eq_true (by omega)
  have q2 : (0 : Int) ≤ t := by omega
  have q3 : (t : Int) < n := by omega
  have hb0 : Below w.heap.size w (w.alloc (.cells #[] 26)) := (Below.refl _ _).alloc (Nat.le_refl _) _
  have hh := h.below hb0
  have c0 := hh.blk.cell 0
  simp at c0
  have x0 := (hh.at_ t ht).1
  obtain ⟨A, cap, hU, hlc, hcm⟩ := (h.sl t ht).form
  have HS := Lib.hid (hh.sl t ht)
  have N0 := Lib.hid (nw_zero w (.cells #[] 26))
  have H := Lib.hid h
  have HU := Lib.hid hU
  rw [hU] at x0 HS
  obtain ⟨L, hL⟩ : ∃ L, ls t = L := ⟨_, rfl⟩
  rw [hL] at HS hl x0 hlc ⊢
  unfold maxLen at hcm
  clear hh hb0 h hU hL
  go_enter Try.func45, Try.ntmps45
  go_wp2_with fail
  refine (ris _ H.out hn).mono ?_
  rintro e w1 ⟨rfl, rfl⟩
  rw [q1]
  go_wp2_with (refine wpList_append_rs (by rfl) (.tmp 9) (.tmp 16) _ (by rfl) 26 i0 _ 24 Try.underlying22 hi0 hz0 hz1 hz2 rfl _ 0 [] (by rfl) N0.out.1 _ L.length L (by rfl) (Rs.of HS.out) (by unfold maxLen; omega) (by omega) ?_; intro v1 w1 hS hK hO; have hN := nw_more N0.out hS hK hO; simp only [Nat.zero_add, List.nil_append] at hS hN; obtain ⟨A1, c1, rfl, _, _⟩ := hS.form; have N1 := Lib.hid hN; clear hS hK hO hN)
  go_ret
  exact ⟨A1, c1, rfl, ⟨N1.out.1, N1.out.2.1⟩, N1.out.2.2⟩
theorem rrows_no (t : Int) (h : Rf Z rb gT w n ls U) (hn : n ≤ 8) (ht : ¬ (0 ≤ t ∧ t < n)) : Calls Try.prog 45 #[.pointer (some ⟨rb, 0, none⟩), .int .i64 t] w fun e w' => e = .returned (.slice none 0 0) ∧ w = w' := by
  have q1 : decide (0 ≤ t ∧ t < n) = false := decide_eq_false ht
  have H := Lib.hid h
  clear h ht
  go_enter Try.func45, Try.ntmps45
  go_wp2_with fail
  refine (ris _ H.out hn).mono ?_
  rintro e w1 ⟨rfl, rfl⟩
  rw [q1]
  go_wp2_with fail
  go_ret
  exact ⟨rfl, rfl⟩
end
theorem sl_nils (w : World) (n : Nat) (hn : 0 < n) (hm : n ≤ 8) : Sl (w.alloc (.cells (madeCells #[.slice none 0 0] n) 22)) 22 1 (.slice (some ⟨w.heap.size, 0, none⟩) n n) n (uCells (fun _ => .slice none 0 0) n) := by
  refine ⟨by simp [uCells], .inr ⟨_, 0, n, _, rfl, heap_alloc_new w _, Nat.le_refl _, hn, by unfold maxLen; omega, by simp [madeCells], fun j u hu => ?_⟩⟩
  have hj : j < n := by
    have := (List.getElem?_eq_some_iff.1 hu).1
    simpa [uCells] using this
  rw [uCells_at _ _ _ hj] at hu
  injection hu with hu
  subst hu
  simp [madeCells, hj, Nat.mod_one]
def RNew (n : Nat) (w : World) (e : Ending) (w' : World) : Prop :=
  ∃ rb gT, e = .returned (.pointer (some ⟨rb, 0, none⟩)) ∧ Rf (fun g => w.heap.size ≤ g) rb gT w' n (fun _ => []) (fun _ => .slice none 0 0) ∧ Below w.heap.size w w'
theorem rset_new (k : Nat) (w : World) (h1 : 1 ≤ k) (h2 : k ≤ 8) : Calls Try.prog 32 #[.int .i64 k] w (RNew k w) := by
  have q1 : ¬ ((k : Int) < 1) := by omega
  have q2 : ¬ ((8 : Int) < k) := by omega
  have hmk := run_make_row' (P := Try.prog) 93 22 (.slice none 0 0) 24 Try.underlying93 infoRows rfl .i64 .i64 k (by omega) (by omega)
  have hb1 : Below w.heap.size w ((w.alloc (.cells (madeCells #[.slice none 0 0] k) 22)).alloc (.cells #[.slice (some ⟨w.heap.size, 0, none⟩) k k] 95)) := ((Below.refl _ _).alloc (Nat.le_refl _) _).alloc (by simp) _
  have hB := heap_alloc_new (w.alloc (.cells (madeCells #[.slice none 0 0] k) 22)) (.cells #[.slice (some ⟨w.heap.size, 0, none⟩) k k] 95)
  have hS := (sl_nils w k (by omega) h2).alloc (.cells #[.slice (some ⟨w.heap.size, 0, none⟩) k k] 95)
  have HF := Lib.hid (show RNew k w (.returned (.pointer (some ⟨w.heap.size + 1, 0, none⟩))) ((w.alloc (.cells (madeCells #[.slice none 0 0] k) 22)).alloc (.cells #[.slice (some ⟨w.heap.size, 0, none⟩) k k] 95)) from
    ⟨_, w.heap.size, rfl, { blk := by have e : (w.alloc (.cells (madeCells #[.slice none 0 0] k) 22)).heap.size = w.heap.size + 1 := by simp
                                      rw [e] at hB; exact hB
                            tb := hS, gl := by simp; omega, ne := by omega, zr := by show w.heap.size ≤ w.heap.size + 1; omega, zt := Nat.le_refl _, sl := fun _ _ => Sl.nil _ _ _ _, up := fun _ _ => List.Pairwise.nil, ow := fun _ _ g hg => by simp [Value.ownBlock] at hg }, hb1⟩)
  clear hb1 hB hS
  go_enter Try.func32, Try.ntmps32
  go_wp2_with fail
  go_ret
  exact HF.out
end Go.Proofs.Ytkicnjbidbfajaa
