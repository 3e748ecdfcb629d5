/- Package index: its operations. -/
import Derived.Test.YtkicnjbidbfajaaRemove
import Derived.Lib.SliceRun
namespace Go.Proofs.Ytkicnjbidbfajaa
open Go.ChangeShapes Go.WideShapes Go.ChangeAt Go.RowKit
set_option linter.unusedVariables false
set_option linter.unusedSimpArgs false
/-- a slice of rows, of the call's own -/
def Fr (B : Nat) (w : World) (v : Value) (l : List Rw) : Prop := Sl w 26 2 v l.length (rowCells l) ∧ ∀ g, v.ownBlock = some g → B ≤ g ∧ g < w.heap.size
def ClonePost (l : List Rw) (w : World) (e : Ending) (w' : World) : Prop :=
  ∃ A c, e = .returned (.slice A l.length c) ∧ Fr w.heap.size w' (.slice A l.length c) l ∧ Below w.heap.size w w'
theorem clone_any (v : Value) (l : List Rw) (w : World) (h : Sl w 26 2 v l.length (rowCells l)) (hn : l.length ≤ 2000) :
    Calls Try.prog 46 #[v] w (ClonePost l w) := by
  obtain ⟨i0, hi0, hz0, hz1, hz2⟩ := info_parts infoRow
  obtain ⟨A, cap, rfl, hlc, hcm⟩ := h.form
  unfold maxLen at hcm
  have q22 : ∀ (w : World) (a : Option Addr) (n c n' c' : Nat), (binOp .eql 22 (.slice a n c) (.slice none n' c')).run Try.prog w = .ok (.bool a.isNone) w := fun w a n c n' c' => Lib.run_eql_slice_nil w _ _ a n c n' c' Try.underlying22
  cases A with
  | none =>
    have hl0 : l = [] := by
      rcases h.2 with ⟨A', hv, h0⟩ | ⟨g, off, cap', cs, hv, _⟩
      · exact List.eq_nil_of_length_eq_zero h0
      · simp at hv
    subst hl0
    clear h
    go_enter Try.func46, Try.ntmps46
    go_wp2_with fail
    go_ret
    exact ⟨none, 0, rfl, ⟨Sl.nil _ _ _ _, by simp [Value.ownBlock]⟩, Below.refl _ _⟩
  | some a =>
    have H := Lib.hid h
    have HONE := Lib.hid (rowCells_one l)
    clear h
    go_enter Try.func46, Try.ntmps46
    go_wp2_with (refine wpList_append_sls (by rfl) (.tmp 5) (.tmp 6) _ (by rfl) 26 i0 _ 2 24 Try.underlying22 hi0 hz0 hz1 hz2 rfl (by omega) _ 0 [] (by rfl) (Sl.nil _ _ _ _) _ l.length (rowCells l) (by rfl) (H.out.alloc _) HONE.out (by unfold maxLen; omega) (by omega) ?_; intro v1 w2 hS hK hO; simp only [Nat.zero_add, List.nil_append] at hS; obtain ⟨A1, c1, rfl, hd1, hd2⟩ := hS.form; have HS := Lib.hid hS; have HK := Lib.hid hK; have HO := Lib.hid hO; clear hS hK hO)
    go_ret
    have hb : Below w.heap.size w w2 := Keeps.below ((Below.refl _ _).alloc (Nat.le_refl _) _) HK.out (by simp) (fun x hx e => by simp [Value.ownBlock] at e; omega)
    refine ⟨A1, c1, rfl, ⟨HS.out, fun g hg => ?_⟩, hb⟩
    rcases HO.out with e | ⟨g', e, hg', hl⟩
    · rw [e] at hg
      simp [Value.ownBlock] at hg
      subst hg
      have := HK.out.size
      simp at this
      exact ⟨Nat.le_refl _, by omega⟩
    · rw [e] at hg
      injection hg with hg
      subst hg
      simp at hg'
      exact ⟨by omega, hl⟩
/-- an index of the call's own: block r, all its blocks from r on -/
def Ix (w0 : World) (r : Nat) (X : Nat → Prop) (w : World) (l : List Rw) : Prop :=
  ∃ v, ixAt w r v l ∧ (∀ g, v.ownBlock = some g → r ≤ g ∧ ¬ X g) ∧ ¬ X r ∧ Below r w0 w ∧ Up l
section
variable {w0 w w' : World} {r : Nat} {X : Nat → Prop} {l : List Rw}
theorem Ix.lt (h : Ix w0 r X w l) : r < w.heap.size := by obtain ⟨v, h, _⟩ := h; exact h.1.lt
theorem Ix.up (h : Ix w0 r X w l) : Up l := by obtain ⟨v, _, _, _, _, h⟩ := h; exact h
theorem Ix.low (h : Ix w0 r X w l) : Below r w0 w := by obtain ⟨v, _, _, _, h, _⟩ := h; exact h
theorem Ix.below (h : Ix w0 r X w l) (hb : Below w.heap.size w w') : Ix w0 r X w' l := by
  obtain ⟨v, h1, h2, hx, h3, h4⟩ := h
  exact ⟨v, h1.below hb, h2, hx, h3.trans (hb.mono (Nat.le_of_lt h1.1.lt)), h4⟩
theorem Ix.drewN (h : Ix w0 r X w l) (n : Nat) : Ix w0 r X (w.drewN n) l := h.below ⟨rfl, rfl, rfl, Nat.le_refl _, fun _ _ => rfl⟩
theorem Ix.other {S : Nat → Prop} (h : Ix w0 r X w l) (k : Keeps S w w') (hS : ∀ x, S x → X x ∧ r ≤ x) : Ix w0 r X w' l := by
  obtain ⟨v, h1, h2, hx, h3, h4⟩ := h
  exact ⟨v, h1.keeps k (fun e => hx (hS r e).1) (fun g hg e => (h2 g hg).2 (hS g e).1), h2, hx, Keeps.below h3 k (Nat.le_of_lt h1.1.lt) (fun x hx e => by have := (hS x e).2; omega), h4⟩
theorem Ix.more (h : Ix w0 r X w l) (Y : Nat → Prop) (hY : ∀ x, Y x → X x ∨ w.heap.size ≤ x) : Ix w0 r Y w l := by
  obtain ⟨v, h1, h2, hx, h3, h4⟩ := h
  refine ⟨v, h1, fun g hg => ⟨(h2 g hg).1, fun hy => ?_⟩, fun hy => ?_, h3, h4⟩
  · rcases hY g hy with h | h
    · exact (h2 g hg).2 h
    · have := h1.2.2.2 g hg; omega
  · rcases hY r hy with h | h
    · exact hx h
    · have := h1.1.lt; omega
theorem ilen (h : Ix w0 r X w l) :
    Calls Try.prog 22 #[.pointer (some ⟨r, 0, none⟩)] w fun e w' => e = .returned (.int .i64 l.length) ∧ w = w' := by
  obtain ⟨v, h1, _⟩ := h
  obtain ⟨A, cap, rfl, _, _⟩ := h1.2.1.form
  have c0 := h1.1.cell 0
  simp at c0
  clear h1
  go_enter Try.func22, Try.ntmps22
  go_wp2_with fail
  go_ret
  exact ⟨rfl, rfl⟩
theorem iall (h : Ix w0 r X w l) (hn : l.length ≤ 2000) :
    Calls Try.prog 16 #[.pointer (some ⟨r, 0, none⟩)] w (ClonePost l w) := by
  obtain ⟨v, h1, _⟩ := h
  have H := Lib.hid (clone_any v l w h1.2.1 hn)
  have c0 := h1.1.cell 0
  simp at c0
  clear h1 hn
  go_enter Try.func16, Try.ntmps16
  go_wp2_with fail
  refine H.out.mono ?_
  rintro e w1 ⟨A, c, rfl, hF, hb⟩
  have HF := Lib.hid hF
  have HB := Lib.hid hb
  clear hF hb c0
  go_wp2_with fail
  go_ret
  exact ⟨A, c, rfl, HF.out, HB.out⟩
theorem iget (k : Int) (h : Ix w0 r X w l) (hn : l.length ≤ 2000) :
    Calls Try.prog 20 #[.pointer (some ⟨r, 0, none⟩), .int .i64 k] w fun e w' => e = .returned (.tuple #[.string (getL l k), .bool (has l k)]) ∧ Ix w0 r X w' l ∧ Below w.heap.size w w' := by
  have h' := Lib.hid h
  have hU := h.up
  obtain ⟨v, h1, _⟩ := h
  have H := Lib.hid h1
  have HF := Lib.hid (find_any r v l k w h1 hU hn)
  clear h1
  cases hh : has l k with
  | false =>
    have hg : getL l k = ⟨#[]⟩ := by simp [getL, hh]; rfl
    rw [hg]
    rw [hh] at HF
    clear hg hU
    go_enter Try.func20, Try.ntmps20
    go_wp2_with fail
    refine HF.out.mono ?_
    rintro e w1 ⟨rfl, b1⟩
    have HB := Lib.hid b1
    clear b1
    go_wp2_with fail
    go_ret2
    exact ⟨rfl, h'.out.below HB.out, HB.out⟩
  | true =>
    obtain ⟨hp, hk⟩ := has_lt hU hh
    have hg : getL l k = l[pos l k].2 := by simp [getL, hh, List.getD_eq_getElem?_getD, hp]
    rw [hg]
    rw [hh] at HF
    have hcells := (rowCells_at l _ hp).2
    generalize l[pos l k].2 = y at *
    generalize hq : pos l k = q at *
    clear hg hU hk
    go_enter Try.func20, Try.ntmps20
    go_wp2_with fail
    refine HF.out.mono ?_
    rintro e w1 ⟨rfl, b1⟩
    have h2 := H.out.below b1
    obtain ⟨g, off, cap, rfl, hnc, hcm, hgl, hat, _⟩ := h2.2.1.at_ (by omega)
    have x1 : w1.cell? ⟨g, off + q * 2 + 1, none⟩ = some (.string y) := hat _ _ hcells
    have c0 := h2.1.cell 0
    simp at c0
    have q1 : (0 : Int) ≤ q := by omega
    have q2 : (q : Int) < l.length := by omega
    have HB := Lib.hid b1
    clear b1 h2 hat hcells
    go_wp2_with fail
    go_ret2
    exact ⟨rfl, h'.out.below HB.out, HB.out⟩
end
end Go.Proofs.Ytkicnjbidbfajaa
