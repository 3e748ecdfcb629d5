/- A plan and the document's list, side by side; lists of lists of faults as arguments. -/
import Derived.Test.YtcchofaheaddbaaFaultRef
namespace Go.Proofs.Ytcchofaheaddbaa
open Go.ChangeShapes Go.WideShapes Go.ChangeAt Go.RowKit Go.Deep
set_option linter.unusedVariables false
set_option linter.unusedSimpArgs false
/-- a slice of faults, read as data -/
theorem flts_of_trod {H : Type} {enc : TypeId × Value → H} {P : Program} {w : World} {t e : Nat} {fs : Array Field} {u : Value} {fuel : Nat} {x : DataW H × List MemPlace} (ht : P.underlying t = some (.slice e)) (he : P.underlying e = some (.struct fs))
    (hone : oneCellFields P fs = true) (hC : P.cellsOf e = fs.size) (hfs : fs.size = 2) (h0 : ∀ f, fs[0]? = some f → P.underlying f.type = some (.int .i64)) (h1 : ∀ f, fs[1]? = some f → P.underlying f.type = some (.int .i64))
    (hf : DataW.trod enc P w 0 (fun _ => true) true fuel t [u] = some x) : ∃ gs, RdF w u gs := by
  rcases open_slice_fields ht he hone hC hf with ⟨hcs, _⟩ | ⟨a, len, cap, m, D, Pl, hcs, hb, hle, hcm, hm, hx, hi⟩
  · simp at hcs
    subst hcs
    exact ⟨[], none, 0, rfl, by simp, fun h => by simp at h⟩
  · simp at hcs
    subst hcs
    simp at hm
    subst hm
    have hall' : ∀ i, i < len → ∃ x : Flt, w.cell? (a.add (i * 2)) = some (.int .i64 x.1) ∧ w.cell? (a.add (i * 2 + 1)) = some (.int .i64 x.2) := by
      intro i hil
      obtain ⟨ys, n, _, _, _, hfj⟩ := hi i (by omega)
      obtain ⟨v0, y0, hc0, _, ht0⟩ := hfj 0 fs[0] (by simp)
      obtain ⟨x0, e0, _, _⟩ := DataW.trod_int (h0 fs[0] (by simp)) ht0
      obtain ⟨v1, y1, hc1, _, ht1⟩ := hfj 1 fs[1] (by simp)
      obtain ⟨x1, e1, _, _⟩ := DataW.trod_int (h1 fs[1] (by simp)) ht1
      simp at e0 e1
      subst e0
      subst e1
      rw [hfs] at hc0 hc1
      exact ⟨(x0, x1), hc0, hc1⟩
    obtain ⟨F, hF⟩ : ∃ F : Nat → Flt, ∀ i, i < len → w.cell? (a.add (i * 2)) = some (.int .i64 (F i).1) ∧ w.cell? (a.add (i * 2 + 1)) = some (.int .i64 (F i).2) :=
      ⟨fun i => if h : i < len then Classical.choose (hall' i h) else (0, 0), fun i hil => by simp only [dif_pos hil]; exact Classical.choose_spec (hall' i hil)⟩
    refine ⟨(List.range len).map F, some a, _, by simp; rfl, by simp; omega, fun hlen => ?_⟩
    simp only [List.length_map, List.length_range] at hlen
    have hc0 := (hF 0 hlen).1
    simp only [Nat.zero_mul, add_zero'] at hc0
    have ha := spot_none hc0
    refine ⟨a.block, a.off, by rw [← ha], World.block_lt_of_cell? _ _ hc0, fun j u hu => ?_⟩
    have hj := (List.getElem?_eq_some_iff.1 hu).1
    rw [fltCells_len, List.length_map, List.length_range] at hj
    have h2 := hF (j / 2) (by omega)
    have h3 := fltCells_at ((List.range len).map F) (j / 2) (by simp; omega)
    simp only [List.getElem_map, List.getElem_range] at h3
    rw [ha] at h2
    simp only [add_none, ← Nat.add_assoc] at h2
    rcases Nat.mod_two_eq_zero_or_one j with e | e
    · have e2 : j = j / 2 * 2 := by omega
      rw [e2, h3.1] at hu
      rw [e2, h2.1, hu]
    · have e2 : j = j / 2 * 2 + 1 := by omega
      rw [e2, h3.2] at hu
      rw [e2, ← Nat.add_assoc, h2.2, hu]
/-- a slice of slices -/
theorem open_nested {H : Type} {enc : TypeId × Value → H} {P : Program} {w : World} {base t e : Nat} {v : Value} {d : DataW H} {p : List MemPlace} {X : Type} [Inhabited X] (R : Value → X → Prop) (ht : P.underlying t = some (.slice e)) (hC : P.cellsOf e = 1)
    (hin : ∀ (u : Value) (fuel : Nat) (x : DataW H × List MemPlace), DataW.trod enc P w 0 (fun _ => true) true fuel e [u] = some x → ∃ y, R u y)
    (hv : Value.okWide P w .any base t v) (h : DataW.Trod enc P w 0 (fun _ => true) true t v d p) :
    ∃ (A : Option Addr) (len cap : Nat) (V : Nat → Value) (F : Nat → X), v = .slice A len cap ∧ len ≤ cap ∧ cap ≤ maxLen ∧
      (0 < len → ∃ b off, A = some ⟨b, off, none⟩ ∧ b < w.heap.size ∧ ∀ i, i < len → w.cell? ⟨b, off + i, none⟩ = some (V i) ∧ R (V i) (F i)) := by
  obtain ⟨A, len, cap, rfl⟩ := okWide_slice ht hv
  obtain ⟨fuel, hf⟩ := h
  rcases open_slice1 ht hC hf with ⟨hcs, _⟩ | ⟨a, len', cap', m, n, V, D, Pl, hcs, hb, hle, hcm, hm, hx, hi⟩
  · have : len = 0 := by simp [Value.cells] at hcs; exact hcs.2.1
    subst this
    refine ⟨_, _, _, fun _ => .bool false, fun _ => default, rfl, ?_, ?_, fun h => absurd h (by omega)⟩
    · omega
    · simp [Value.cells] at hcs; unfold maxLen; omega
  · have e1 : A = some a ∧ len = len' ∧ cap = cap' := by simpa [Value.cells] using hcs
    obtain ⟨rfl, rfl, rfl⟩ := e1
    simp at hm
    subst hm
    have hall : ∀ i, i < len → ∃ y, R (V i) y := fun i hil => hin _ _ _ (hi i (by omega)).2
    refine ⟨_, _, _, V, fun i => if h : i < len then Classical.choose (hall i h) else default, rfl, hle, hcm, fun hlen => ?_⟩
    have hc0 := (hi 0 (by omega)).1
    rw [add_zero'] at hc0
    have ha := spot_none hc0
    refine ⟨a.block, a.off, by rw [← ha], World.block_lt_of_cell? _ _ hc0, fun i hil => ?_⟩
    have hc := (hi i (by omega)).1
    rw [ha, add_none] at hc
    refine ⟨hc, ?_⟩
    simp only [dif_pos hil]
    exact Classical.choose_spec (hall i hil)
theorem rdf_of_sl {w : World} {A : Option Addr} {c : Nat} {l : List Flt} (h : Sl w 23 2 (.slice A l.length c) l.length (fltCells l)) : RdF w (.slice A l.length c) l := by
  obtain ⟨A', c', hv, h1, h2⟩ := h.form
  refine ⟨A, c, rfl, by simp at hv; omega, fun hp => ?_⟩
  obtain ⟨g, off, cap, hv, _, _, hg, hat, _⟩ := h.at_ hp
  simp at hv
  exact ⟨g, off, hv.1, hg, hat⟩
structure Two (w0 : World) (p : Nat) (pv xv : Value) (lp lx : List Flt) (w : World) : Prop where
  plan : planAt w p pv lp
  x : Sl w 23 2 xv lx.length (fltCells lx)
  px : w0.heap.size ≤ p
  po : ∀ g, pv.ownBlock = some g → w0.heap.size ≤ g
  xo : ∀ g, xv.ownBlock = some g → w0.heap.size ≤ g ∧ g < w.heap.size ∧ g ≠ p ∧ pv.ownBlock ≠ some g
  le : lp.length ≤ 1024 ∧ lx.length ≤ 1024
  low : Below w0.heap.size w0 w
section
variable {w0 w w' : World} {p : Nat} {pv xv : Value} {lp lx : List Flt}
theorem Two.below (h : Two w0 p pv xv lp lx w) (hb : Below w.heap.size w w') : Two w0 p pv xv lp lx w' where
  plan := planAt_below h.plan hb
  x := h.x.below hb
  px := h.px
  po := h.po
  xo := fun g hg => ⟨(h.xo g hg).1, Nat.lt_of_lt_of_le (h.xo g hg).2.1 hb.size, (h.xo g hg).2.2⟩
  le := h.le
  low := h.low.trans (hb.mono h.low.size)
theorem two_new (w : World) {w1 : World} (h : planAt w1 w.heap.size (.slice none 0 0) []) (hb : Below w.heap.size w w1) : Two w w.heap.size (.slice none 0 0) (.slice none 0 0) [] [] w1 where
  plan := h
  x := Sl.nil _ _ _ _
  px := Nat.le_refl _
  po := by simp [Value.ownBlock]
  xo := by simp [Value.ownBlock]
  le := by simp
  low := hb
theorem two_rpush (sl : Value) (gs : List Flt) (h : Two w0 p pv xv lp lx w) (hr : RdF w sl gs) (hgs : gs.length ≤ 1000) :
    Calls Try.prog 12 #[xv, sl] w fun e w' => ∃ A c, e = .returned (.slice A (pushS lx gs).length c) ∧ Two w0 p pv (.slice A (pushS lx gs).length c) lp (pushS lx gs) w' ∧ Below w.heap.size w w' :=
  (rpush_any xv sl lx gs w h.x hr h.le.2 hgs).mono fun e w' ⟨A, c, he, hS, hO, hb⟩ => ⟨A, c, he, {
    plan := planAt_below h.plan hb
    x := hS
    px := h.px
    po := h.po
    xo := fun g hg => by
      rcases hO g hg with h1 | h1
      · have := h.xo g h1
        exact ⟨this.1, Nat.lt_of_lt_of_le this.2.1 hb.size, this.2.2⟩
      · have h2 := lt_of_block h.plan.1
        have h3 := h.low.size
        exact ⟨by omega, h1.2, by omega, fun e => by have := h.plan.2.2.2 g e; omega⟩
    le := ⟨h.le.1, pushS_cap _ _ h.le.2⟩
    low := h.low.trans (hb.mono h.low.size) }, hb⟩
theorem two_push (sl : Value) (gs : List Flt) (h : Two w0 p pv xv lp lx w) (hr : RdF w sl gs) (hd1 : sl.ownBlock ≠ some p) (hd2 : ∀ g, pv.ownBlock = some g → sl.ownBlock ≠ some g) :
    Calls Try.prog 13 #[.pointer (some ⟨p, 0, none⟩), sl] w fun e w' => e = .returned (.int .i64 ((pushS lp gs).length - lp.length)) ∧ ∃ pv', Two w0 p pv' xv (pushS lp gs) lx w' :=
  (push_any p pv sl lp gs w h.plan hr hd1 hd2 h.le.1).mono fun e w' ⟨he, pv', hp, hk, hO⟩ => ⟨he, pv', {
    plan := hp
    x := h.x.keeps hk (fun g hg e => e.elim (h.xo g hg).2.2.1 (h.xo g hg).2.2.2)
    px := h.px
    po := fun g hg => by
      rcases hO with e | ⟨g', e, hg'⟩
      · exact h.po g (by rw [← e]; exact hg)
      · rw [e] at hg; injection hg with hg
        have := h.low.size
        omega
    xo := fun g hg => by
      have h1 := h.xo g hg
      refine ⟨h1.1, Nat.lt_of_lt_of_le h1.2.1 hk.size, h1.2.2.1, fun e2 => ?_⟩
      rcases hO with e | ⟨g', e, hg'⟩
      · exact h1.2.2.2 (by rw [← e]; exact e2)
      · rw [e] at e2; injection e2 with e2; omega
    le := ⟨pushS_cap _ _ h.le.1, h.le.2⟩
    low := Keeps.below h.low hk h.low.size (fun x hx e => by
      rcases e with rfl | e
      · have := h.px; omega
      · have := h.po x e; omega) }⟩
theorem two_next {f : Flt} {l : List Flt} (h : Two w0 p pv xv (f :: l) lx w) :
    Calls Try.prog 15 #[.pointer (some ⟨p, 0, none⟩)] w fun e w' => e = .returned (.tuple #[fltV f, .bool true]) ∧ ∃ pv', Two w0 p pv' xv l lx w' :=
  (next_yes p pv f l w h.plan).mono fun e w' ⟨he, pv', hp, ho, hk⟩ => ⟨he, pv', {
    plan := hp
    x := h.x.keeps hk (fun g hg e => (h.xo g hg).2.2.1 e)
    px := h.px
    po := fun g hg => h.po g (by rw [← ho]; exact hg)
    xo := fun g hg => ⟨(h.xo g hg).1, Nat.lt_of_lt_of_le (h.xo g hg).2.1 hk.size, (h.xo g hg).2.2.1, by rw [ho]; exact (h.xo g hg).2.2.2⟩
    le := ⟨by have := h.le.1; simp at this; omega, h.le.2⟩
    low := Keeps.below h.low hk h.low.size (fun x hx e => by have := h.px; omega) }⟩
theorem two_cut {g off cap : Nat} {f : Flt} {l : List Flt} (h : Two w0 p pv (.slice (some ⟨g, off, none⟩) (l.length + 1) cap) lp (f :: l) w) (hc : ¬ cap = 1) :
    Two w0 p pv (.slice (some ⟨g, off + 2, none⟩) l.length (cap - 1)) lp l w where
  plan := h.plan
  x := by
    have := Sl.cut h.x 1 (by simp)
    rw [if_neg hc] at this
    simpa [add_none, fltCells] using this
  px := h.px
  po := h.po
  xo := fun x hx => h.xo x hx
  le := ⟨h.le.1, by have := h.le.2; simp at this; omega⟩
  low := h.low
end
def lenV : Value → Nat
  | .slice _ n _ => n
  | _ => 0
end Go.Proofs.Ytcchofaheaddbaa
