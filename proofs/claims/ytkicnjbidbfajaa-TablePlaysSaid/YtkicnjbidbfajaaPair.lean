/- Two sets of tables, side by side; lists of changes as arguments. -/
import Derived.Test.YtkicnjbidbfajaaChanges
namespace Go.Proofs.Ytkicnjbidbfajaa
open Go.ChangeShapes Go.WideShapes Go.ChangeAt Go.RowKit Go.Deep
set_option linter.unusedVariables false
set_option linter.unusedSimpArgs false
theorem open_cgs {H : Type} {enc : TypeId × Value → H} {P : Program} {w : World} {base t e : Nat} {fs : Array Field} {v : Value} {d : DataW H} {p : List MemPlace} (ht : P.underlying t = some (.slice e)) (he : P.underlying e = some (.struct fs))
    (hone : oneCellFields P fs = true) (hC : P.cellsOf e = fs.size) (hfs : fs.size = 4) (h0 : ∀ f, fs[0]? = some f → P.underlying f.type = some (.int .i64)) (h1 : ∀ f, fs[1]? = some f → P.underlying f.type = some (.int .i64)) (h2 : ∀ f, fs[2]? = some f → P.underlying f.type = some .bool) (h3 : ∀ f, fs[3]? = some f → P.underlying f.type = some .string)
    (hv : Value.okWide P w .any base t v) (h : DataW.Trod enc P w 0 (fun _ => true) true t v d p) (hl : ∀ x ∈ p, x.block < w.heap.size) :
    ∃ n F, Cs w v n F ∧ ∀ i, i < n → (F i).vl.size ≤ maxLen := by
  obtain ⟨A, len, cap, rfl⟩ := okWide_slice ht hv
  obtain ⟨fuel, hf⟩ := h
  rcases open_slice_fields ht he hone hC hf with ⟨hcs, _⟩ | ⟨a, len', cap', m, D, Pl, hcs, hb, hle, hcm, hm, hx, hi⟩
  · have : len = 0 := by simp [Value.cells] at hcs; exact hcs.2.1
    subst this
    have hc0 : cap = 0 := by simp [Value.cells] at hcs; omega
    subst hc0
    exact ⟨0, fun _ => default, ⟨A, 0, rfl, Nat.le_refl _, by unfold maxLen; omega, fun h => absurd h (by omega)⟩, fun i hi => by omega⟩
  · have e1 : A = some a ∧ len = len' ∧ cap = cap' := by simpa [Value.cells] using hcs
    obtain ⟨rfl, rfl, rfl⟩ := e1
    simp at hm
    subst hm
    have hall' : ∀ i, i < len → ∃ x : Cg, (w.cell? (a.add (i * 4)) = some (.int .i64 x.tb) ∧ w.cell? (a.add (i * 4 + 1)) = some (.int .i64 x.ky) ∧ w.cell? (a.add (i * 4 + 2)) = some (.bool x.gn) ∧ w.cell? (a.add (i * 4 + 3)) = some (.string x.vl)) ∧ x.vl.size ≤ maxLen := by
      intro i hil
      obtain ⟨ys, n, _, _, _, hfj⟩ := hi i (by omega)
      obtain ⟨v0, y0, hc0, _, ht0⟩ := hfj 0 fs[0] (by simp)
      obtain ⟨x0, e0, _, _⟩ := DataW.trod_int (h0 fs[0] (by simp)) ht0
      obtain ⟨v1, y1, hc1, _, ht1⟩ := hfj 1 fs[1] (by simp)
      obtain ⟨x1, e1, _, _⟩ := DataW.trod_int (h1 fs[1] (by simp)) ht1
      obtain ⟨v2, y2, hc2, _, ht2⟩ := hfj 2 fs[2] (by simp)
      obtain ⟨x2, e2, _⟩ := DataW.trod_bool (h2 fs[2] (by simp)) ht2
      obtain ⟨v3, y3, hc3, _, ht3⟩ := hfj 3 fs[3] (by simp)
      obtain ⟨s, e3, _, ws⟩ := DataW.trod_string (h3 fs[3] (by simp)) ht3
      simp at e0 e1 e2 e3
      subst e0
      subst e1
      subst e2
      subst e3
      rw [hfs] at hc0 hc1 hc2 hc3
      exact ⟨⟨x0, x1, x2, s⟩, ⟨hc0, hc1, hc2, hc3⟩, ws⟩
    have hch : ∃ F : Nat → Cg, ∀ i, i < len → (w.cell? (a.add (i * 4)) = some (.int .i64 (F i).tb) ∧ w.cell? (a.add (i * 4 + 1)) = some (.int .i64 (F i).ky) ∧ w.cell? (a.add (i * 4 + 2)) = some (.bool (F i).gn) ∧ w.cell? (a.add (i * 4 + 3)) = some (.string (F i).vl)) ∧ (F i).vl.size ≤ maxLen :=
      ⟨fun i => if h : i < len then Classical.choose (hall' i h) else default, fun i hil => by simp only [dif_pos hil]; exact Classical.choose_spec (hall' i hil)⟩
    obtain ⟨F, hF⟩ := hch
    refine ⟨len, F, ⟨some a, _, rfl, hle, hcm, fun hlen => ?_⟩, fun i hi => (hF i hi).2⟩
    have hc0 := (hF 0 hlen).1.1
    simp only [Nat.zero_mul, add_zero'] at hc0
    have ha := spot_none hc0
    refine ⟨a.block, a.off, by rw [← ha], World.block_lt_of_cell? _ _ hc0, fun i hi => ?_⟩
    have := (hF i hi).1
    rw [ha] at this
    simp only [add_none, ← Nat.add_assoc] at this
    exact this
section
variable {tag : Nat} {f f' : Nat → Nat} {r n : Nat} {w w' : World} {ls : Nat → List Rw} {sv : Value} {P : Nat → Nat} {V : Nat → Value}
/-- what is not its own counts as nobody's -/
theorem Ts.norm (h : Ts tag f r w n ls sv P V) : Ts tag (fun g => if tag ≤ f g ∧ f g < tag + 2 + n then f g else 0) r w n ls sv P V := by
  have key : ∀ g x, f g = tag + x → x < 2 + n → (if tag ≤ f g ∧ f g < tag + 2 + n then f g else 0) = f g := fun g x h1 h2 => if_pos (by omega)
  exact {
    blk := h.blk
    sl := h.sl
    fr := (key r 0 (by rw [h.fr]; rfl) (by omega)).trans h.fr
    fs := fun g hg => ⟨(key g 1 (h.fs g hg).1 (by omega)).trans (h.fs g hg).1, (h.fs g hg).2⟩
    ix := h.ix
    up := h.up
    fp := fun t ht => (key (P t) (2 + t) (by rw [h.fp t ht]; omega) (by omega)).trans (h.fp t ht)
    fv := fun t ht g hg => ⟨(key g (2 + t) (by rw [(h.fv t ht g hg).1]; omega) (by omega)).trans (h.fv t ht g hg).1, (h.fv t ht g hg).2⟩ }
theorem tse_below (h : TsE tag f r w n ls) (hb : Below w.heap.size w w') : TsE tag f r w' n ls := by
  obtain ⟨sv, P, V, h⟩ := h; exact ⟨sv, P, V, h.below hb⟩
theorem tse_keeps {S : Nat → Prop} (h : TsE tag f r w n ls) (k : Keeps S w w') (hf : ∀ g, g < w.heap.size → f' g = f g) (hS : ∀ g, S g → g < w.heap.size → f g < tag ∨ tag + 2 + n ≤ f g) : TsE tag f' r w' n ls := by
  obtain ⟨sv, P, V, h⟩ := h; exact ⟨sv, P, V, h.keeps k hf hS⟩
end
def Pair (B : Nat) (f : Nat → Nat) (ra rb : Nat) (w : World) (n : Nat) (la lb : Nat → List Rw) : Prop := (∀ g, g < B → f g = 0) ∧ TsE 100 f ra w n la ∧ TsE 200 f rb w n lb
section
variable {B ra rb n : Nat} {f : Nat → Nat} {w w' : World} {la lb : Nat → List Rw}
theorem pair_below (h : Pair B f ra rb w n la lb) (hb : Below w.heap.size w w') : Pair B f ra rb w' n la lb := ⟨h.1, tse_below h.2.1 hb, tse_below h.2.2 hb⟩
theorem pair_fresh (h : Pair B f ra rb w n la lb) : Pair B (fun g => if w.heap.size ≤ g then 0 else f g) ra rb w n la lb := by
  obtain ⟨h1, ⟨s1, P1, V1, h2⟩, ⟨s2, P2, V2, h3⟩⟩ := h
  exact ⟨fun g hg => (by show (if w.heap.size ≤ g then 0 else f g) = 0; split <;> first | rfl | exact h1 g hg), ⟨s1, P1, V1, h2.retag 0⟩, ⟨s2, P2, V2, h3.retag 0⟩⟩
theorem pair_a (a b : Int) (c : Bool) (d : ByteArray) (h : Pair B f ra rb w n la lb) (ha : 0 ≤ a ∧ a < n) (hn : n ≤ 8) (hB : B ≤ w.heap.size) (hl : ∀ t, t < n → (la t).length ≤ 1200) :
    Calls Try.prog 35 #[.pointer (some ⟨ra, 0, none⟩), .slice (some ⟨w.heap.size, 0, none⟩) 1 1] (w.alloc (.cells #[.int .i64 a, .int .i64 b, .bool c, .string d] 65)) fun e w' =>
      e = .returned (.bool true) ∧ ∃ f', (∀ g, g < w.heap.size → f' g = f g) ∧ Pair B f' ra rb w' n (stepL la ⟨a, b, c, d⟩) lb ∧ Keeps (fun g => 102 ≤ f g) w w' := by
  refine (tapply_one a b c d h.2.1 ha hl).mono ?_
  rintro e w' ⟨he, f', h1, h2, h3⟩
  exact ⟨he, f', h1, ⟨fun g hg => by rw [h1 g (by omega)]; exact h.1 g hg, h2, tse_keeps h.2.2 h3 h1 (fun g hg _ => .inl (by omega))⟩, h3.mono (fun g hg => by omega)⟩
theorem pair_b (a b : Int) (c : Bool) (d : ByteArray) (h : Pair B f ra rb w n la lb) (ha : 0 ≤ a ∧ a < n) (hn : n ≤ 8) (hB : B ≤ w.heap.size) (hl : ∀ t, t < n → (lb t).length ≤ 1200) :
    Calls Try.prog 35 #[.pointer (some ⟨rb, 0, none⟩), .slice (some ⟨w.heap.size, 0, none⟩) 1 1] (w.alloc (.cells #[.int .i64 a, .int .i64 b, .bool c, .string d] 65)) fun e w' =>
      e = .returned (.bool true) ∧ ∃ f', (∀ g, g < w.heap.size → f' g = f g) ∧ Pair B f' ra rb w' n la (stepL lb ⟨a, b, c, d⟩) ∧ Keeps (fun g => 102 ≤ f g) w w' := by
  refine (tapply_one a b c d h.2.2 ha hl).mono ?_
  rintro e w' ⟨he, f', h1, h2, h3⟩
  exact ⟨he, f', h1, ⟨fun g hg => by rw [h1 g (by omega)]; exact h.1 g hg, tse_keeps h.2.1 h3 h1 (fun g hg _ => .inr (by omega)), h2⟩, h3.mono (fun g hg => by omega)⟩
theorem pair_rows_a (t : Nat) (h : Pair B f ra rb w n la lb) (ht : t < n) (hl : (la t).length ≤ 2000) : Calls Try.prog 36 #[.pointer (some ⟨ra, 0, none⟩), .int .i64 t] w (ClonePost (la t) w) := by
  obtain ⟨_, ⟨s1, P1, V1, h2⟩, _⟩ := h; exact trows t h2 ht hl
theorem pair_rows_b (t : Nat) (h : Pair B f ra rb w n la lb) (ht : t < n) (hl : (lb t).length ≤ 2000) : Calls Try.prog 36 #[.pointer (some ⟨rb, 0, none⟩), .int .i64 t] w (ClonePost (lb t) w) := by
  obtain ⟨_, _, ⟨s1, P1, V1, h2⟩⟩ := h; exact trows t h2 ht hl
theorem pair_len_b (t : Nat) (h : Pair B f ra rb w n la lb) (ht : t < n) : Calls Try.prog 37 #[.pointer (some ⟨rb, 0, none⟩), .int .i64 t] w fun e w' => e = .returned (.int .i64 (lb t).length) ∧ w = w' := by
  obtain ⟨_, _, ⟨s1, P1, V1, h2⟩⟩ := h; exact tlen t h2 ht
theorem pair_up_b (h : Pair B f ra rb w n la lb) (t : Nat) (ht : t < n) : Up (lb t) := by
  obtain ⟨_, _, ⟨s1, P1, V1, h2⟩⟩ := h; exact h2.up t ht
theorem pair_up_a (h : Pair B f ra rb w n la lb) (t : Nat) (ht : t < n) : Up (la t) := by
  obtain ⟨_, ⟨s1, P1, V1, h2⟩, _⟩ := h; exact h2.up t ht
end
end Go.Proofs.Ytkicnjbidbfajaa
