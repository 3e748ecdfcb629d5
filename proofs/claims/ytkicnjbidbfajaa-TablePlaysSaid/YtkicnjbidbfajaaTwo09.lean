/- The program's set of tables and the document's, side by side; lists of lists of changes as arguments. -/
import Derived.Test.YtkicnjbidbfajaaAlike
import Derived.Test.YtkicnjbidbfajaaChangesK
import Derived.Test.YtkicnjbidbfajaaNest
namespace Go.Proofs.Ytkicnjbidbfajaa
open Go.ChangeShapes Go.WideShapes Go.ChangeAt Go.RowKit Go.Deep
set_option linter.unusedVariables false
set_option linter.unusedSimpArgs false
instance : Inhabited (Nat × (Nat → Cg)) := ⟨(0, fun _ => default)⟩
/-- changes to be read: their texts and keys may be -/
def Cw (w : World) (v : Value) (y : Nat × (Nat → Cg)) : Prop := Cs w v y.1 y.2 ∧ ∀ i, i < y.1 → (y.2 i).vl.size ≤ maxLen ∧ (Lit.int .i64 (y.2 i).ky).wf = true
theorem cgs_of_trod {H : Type} {enc : TypeId × Value → H} {P : Program} {w : World} {t e : Nat} {fs : Array Field} {u : Value} {fuel : Nat} {x : DataW H × List MemPlace} (ht : P.underlying t = some (.slice e)) (he : P.underlying e = some (.struct fs))
    (hone : oneCellFields P fs = true) (hC : P.cellsOf e = fs.size) (hfs : fs.size = 4) (h0 : ∀ f, fs[0]? = some f → P.underlying f.type = some (.int .i64)) (h1 : ∀ f, fs[1]? = some f → P.underlying f.type = some (.int .i64)) (h2 : ∀ f, fs[2]? = some f → P.underlying f.type = some .bool) (h3 : ∀ f, fs[3]? = some f → P.underlying f.type = some .string)
    (hf : DataW.trod enc P w 0 (fun _ => true) true fuel t [u] = some x) : ∃ y, Cw w u y := by
  rcases open_slice_fields ht he hone hC hf with ⟨hcs, _⟩ | ⟨a, len, cap, m, D, Pl, hcs, hb, hle, hcm, hm, hx, hi⟩
  · simp at hcs
    subst hcs
    exact ⟨(0, fun _ => default), ⟨none, 0, rfl, Nat.le_refl _, by unfold maxLen; omega, fun h => absurd h (by simp)⟩, fun i hi => by simp at hi⟩
  · simp at hcs
    subst hcs
    simp at hm
    have hall' : ∀ i, i < len → ∃ x : Cg, (w.cell? (a.add (i * 4)) = some (.int .i64 x.tb) ∧ w.cell? (a.add (i * 4 + 1)) = some (.int .i64 x.ky) ∧ w.cell? (a.add (i * 4 + 2)) = some (.bool x.gn) ∧ w.cell? (a.add (i * 4 + 3)) = some (.string x.vl)) ∧ x.vl.size ≤ maxLen ∧ (Lit.int .i64 x.ky).wf = true := by
      intro i hil
      obtain ⟨ys, n, _, _, _, hfj⟩ := hi i (by omega)
      obtain ⟨v0, y0, hc0, _, ht0⟩ := hfj 0 fs[0] (by simp)
      obtain ⟨x0, e0, _, _⟩ := DataW.trod_int (h0 fs[0] (by simp)) ht0
      obtain ⟨v1, y1, hc1, _, ht1⟩ := hfj 1 fs[1] (by simp)
      obtain ⟨x1, e1, _, wx⟩ := DataW.trod_int (h1 fs[1] (by simp)) ht1
      obtain ⟨v2, y2, hc2, _, ht2⟩ := hfj 2 fs[2] (by simp)
      obtain ⟨x2, e2, _⟩ := DataW.trod_bool (h2 fs[2] (by simp)) ht2
      obtain ⟨v3, y3, hc3, _, ht3⟩ := hfj 3 fs[3] (by simp)
      obtain ⟨s, e3, _, ws⟩ := DataW.trod_string (h3 fs[3] (by simp)) ht3
      simp at e0 e1 e2 e3
      subst e0
      subst e1
      subst e2
      subst e3
      rw [hfs] at hc0 hc1 hc2 hc3
      exact ⟨⟨x0, x1, x2, s⟩, ⟨hc0, hc1, hc2, hc3⟩, ws, wx⟩
    have hch : ∃ F : Nat → Cg, ∀ i, i < len → (w.cell? (a.add (i * 4)) = some (.int .i64 (F i).tb) ∧ w.cell? (a.add (i * 4 + 1)) = some (.int .i64 (F i).ky) ∧ w.cell? (a.add (i * 4 + 2)) = some (.bool (F i).gn) ∧ w.cell? (a.add (i * 4 + 3)) = some (.string (F i).vl)) ∧ (F i).vl.size ≤ maxLen ∧ (Lit.int .i64 (F i).ky).wf = true :=
      ⟨fun i => if h : i < len then Classical.choose (hall' i h) else default, fun i hil => by simp only [dif_pos hil]; exact Classical.choose_spec (hall' i hil)⟩
    obtain ⟨F, hF⟩ := hch
    refine ⟨(len, F), ⟨some a, cap, rfl, hle, by omega, fun hlen => ?_⟩, fun i hi => (hF i hi).2⟩
    have hc0 := (hF 0 hlen).1.1
    simp only [Nat.zero_mul, add_zero'] at hc0
    have ha := spot_none hc0
    refine ⟨a.block, a.off, by rw [← ha], World.block_lt_of_cell? _ _ hc0, fun i hi => ?_⟩
    have := (hF i hi).1
    rw [ha] at this
    simp only [add_none, ← Nat.add_assoc] at this
    exact this
/-- the first of them -/
theorem Cs.take {w : World} {A : Option Addr} {n cap m : Nat} {F : Nat → Cg} (h : Cs w (.slice A n cap) n F) (hm : m ≤ n) : Cs w (.slice A m cap) m F := by
  obtain ⟨A', cap', hv, h1, h2, h3⟩ := h
  simp at hv
  obtain ⟨rfl, rfl⟩ := hv
  refine ⟨A, cap, rfl, by omega, h2, fun hp => ?_⟩
  obtain ⟨g, off, hA, hg, hat⟩ := h3 (by omega)
  exact ⟨g, off, hA, hg, fun i hi => hat i (by omega)⟩
/-- both sets; f: whose a block is; 50: the document's -/
structure Tw (w0 : World) (n r rb gT : Nat) (f : Nat → Nat) (ls lx : Nat → List Rw) (w : World) : Prop where
  T : TsE 100 f r w n ls
  R : ∃ U, Rf (fun g => f g = 50) rb gT w n lx U
  fresh : ∀ g, w.heap.size ≤ g → f g = 0
  old : ∀ g, g < w0.heap.size → f g = 0
  low : Below w0.heap.size w0 w
section
variable {w0 w w' : World} {n r rb gT : Nat} {f : Nat → Nat} {ls lx : Nat → List Rw}
theorem Tw.below (h : Tw w0 n r rb gT f ls lx w) (hb : Below w.heap.size w w') : Tw w0 n r rb gT f ls lx w' where
  T := tse_below h.T hb
  R := by obtain ⟨U, h1⟩ := h.R; exact ⟨U, h1.below hb⟩
  fresh := fun g hg => h.fresh g (Nat.le_trans hb.size hg)
  old := h.old
  low := h.low.trans (hb.mono h.low.size)
theorem tw_first {f1 : Nat → Nat} {U : Nat → Value} {w1 : World} (hT : TsE 100 f1 r w n ls) (hf : ∀ g, g < w0.heap.size → f1 g = 0) (hb : Below w0.heap.size w0 w) (hR : Rf (fun g => w.heap.size ≤ g) rb gT w1 n lx U) (hb1 : Below w.heap.size w w1) :
    Tw w0 n r rb gT (fun g => if w.heap.size ≤ g then if w1.heap.size ≤ g then 0 else 50 else f1 g) ls lx w1 where
  T := tse_keeps (S := fun _ => False) hT (Keeps.of_below hb1) (fun g hg => if_neg (by omega)) (fun _ h => h.elim)
  R := ⟨U, hR.zmap (fun g hg hz => by show (if w.heap.size ≤ g then if w1.heap.size ≤ g then 0 else 50 else f1 g) = 50; rw [if_pos hz, if_neg (by omega)])⟩
  fresh := fun g hg => by show (if w.heap.size ≤ g then if w1.heap.size ≤ g then 0 else 50 else f1 g) = 0; rw [if_pos (by have := hb1.size; omega), if_pos hg]
  old := fun g hg => by show (if w.heap.size ≤ g then if w1.heap.size ≤ g then 0 else 50 else f1 g) = 0; rw [if_neg (by have := hb.size; omega)]; exact hf g hg
  low := hb.trans (hb1.mono hb.size)
def TwPost (w0 : World) (n r rb gT : Nat) (f : Nat → Nat) (ls lx : Nat → List Rw) (v : Value) (m : Nat) (F : Nat → Cg) (w : World) (e : Ending) (w' : World) : Prop :=
  e = .returned (.bool true) ∧ ∃ f', Tw w0 n r rb gT f' ls lx w' ∧ Cs w' v m F ∧ (0 < m → ∀ g, v.ownBlock = some g → g < w'.heap.size ∧ f' g = 0)
theorem tw_apply (v : Value) (m : Nat) (F : Nat → Cg) (h : Tw w0 n r rb gT f ls lx w) (hC : Cs w v m F) (hO : 0 < m → ∀ g, v.ownBlock = some g → g < w.heap.size ∧ f g = 0) (hF : inR F n m) (hm : m ≤ 500) (hn : n ≤ 8) (hl : ∀ t, t < n → (ls t).length ≤ 1200) :
    Calls Try.prog 35 #[.pointer (some ⟨r, 0, none⟩), v] w (TwPost w0 n r rb gT f (applyN ls F m) lx v m F w) := by
  obtain ⟨sv, P, V, hT⟩ := h.T
  rcases Nat.eq_zero_or_pos m with rfl | hp
  · exact (tapply_zero v F hT hC).mono fun e w' ⟨he, hb⟩ => ⟨he, f, h.below hb, hC.below hb, fun h => absurd h (by omega)⟩
  · refine (tapply v m F hT hC hF hm hl (fun g hg => .inl (by rw [(hO hp g hg).2]; omega))).mono ?_
    rintro e w' ⟨he, f', hf, hT', hk⟩
    refine ⟨he, fun g => if w'.heap.size ≤ g then 0 else f' g, ?_, hC.keeps hk (fun g hg _ hs => by have := (hO hp g hg).2; omega), fun _ g hg => ?_⟩
    · obtain ⟨U, hR⟩ := h.R
      exact {
        T := by obtain ⟨s2, P2, V2, h2⟩ := hT'; exact ⟨s2, P2, V2, h2.retag 0⟩
        R := ⟨U, (hR.zmap (Z' := fun g => (if w'.heap.size ≤ g then 0 else f' g) = 50) (fun g hg hz => by
          show (if w'.heap.size ≤ g then 0 else f' g) = 50
          have := hk.size
          rw [if_neg (by omega), hf g hg]; exact hz)).keeps hk (fun g hs hg hz => by
            have := hk.size
            rw [if_neg (by omega), hf g hg] at hz
            omega)⟩
        fresh := fun g hg => if_pos hg
        old := fun g hg => by
          have h1 := hk.size
          have h2 := h.low.size
          show (if w'.heap.size ≤ g then 0 else f' g) = 0
          rw [if_neg (by omega), hf g (by omega)]; exact h.old g hg
        low := Keeps.below h.low hk h.low.size (fun x hx hs => by have := h.old x hx; omega) }
    · have h1 := hO hp g hg
      have h2 := hk.size
      exact ⟨by omega, by show (if w'.heap.size ≤ g then 0 else f' g) = 0; rw [if_neg (by omega), hf g h1.1]; exact h1.2⟩
theorem tw_rapply (v : Value) (m : Nat) (F : Nat → Cg) (h : Tw w0 n r rb gT f ls lx w) (hC : Cs w v m F) (hO : 0 < m → ∀ g, v.ownBlock = some g → g < w.heap.size ∧ f g = 0) (hF : inR F n m) (hm : m ≤ 500) (h0 : 0 < n) (hn : n ≤ 8) (hl : ∀ t, t < n → (lx t).length ≤ 1200) :
    Calls Try.prog 43 #[.pointer (some ⟨rb, 0, none⟩), v] w (TwPost w0 n r rb gT f ls (applyN lx F m) v m F w) := by
  obtain ⟨U, hR⟩ := h.R
  have hne : 0 < m → ∀ g, v.ownBlock = some g → g ≠ gT := fun hp g hg e => by
    have h1 := (hO hp g hg).2
    have h2 : f gT = 50 := hR.zt
    rw [e] at h1; omega
  have hgl := hR.gl
  have hz : f gT = 50 := hR.zt
  refine (rapply v m F hR hC hF hm h0 hn hl hne).mono ?_
  rintro e w' ⟨he, U', hR', hk⟩
  have hs := hk.size
  refine ⟨he, fun g => if w'.heap.size ≤ g then 0 else if w.heap.size ≤ g then 50 else f g, ?_, ?_, fun hp g hg => ?_⟩
  · exact {
      T := tse_keeps h.T hk (fun g hg => by show (if w'.heap.size ≤ g then 0 else if w.heap.size ≤ g then 50 else f g) = f g; rw [if_neg (by omega), if_neg (by omega)]) (fun g hg _ => .inl (by rw [hg]; omega))
      R := ⟨U', hR'.zmap (fun g hg hzz => by
        show (if w'.heap.size ≤ g then 0 else if w.heap.size ≤ g then 50 else f g) = 50
        rw [if_neg (by omega)]
        rcases hzz with e | e
        · split
          · rfl
          · exact e
        · rw [if_pos e])⟩
      fresh := fun g hg => if_pos hg
      old := fun g hg => by
        have h2 := h.low.size
        show (if w'.heap.size ≤ g then 0 else if w.heap.size ≤ g then 50 else f g) = 0
        rw [if_neg (by omega), if_neg (by omega)]; exact h.old g hg
      low := Keeps.below h.low hk h.low.size (fun x hx e => by have := h.old x hx; rw [e] at this; omega) }
  · rcases Nat.eq_zero_or_pos m with rfl | hp
    · obtain ⟨A, cap, hv, h1, h2, _⟩ := hC
      exact ⟨A, cap, hv, h1, h2, fun h => absurd h (by omega)⟩
    · exact hC.keeps hk (fun g hg _ e => hne hp g hg e)
  · have h1 := hO hp g hg
    exact ⟨by omega, by show (if w'.heap.size ≤ g then 0 else if w.heap.size ≤ g then 50 else f g) = 0; rw [if_neg (by omega), if_neg (by omega)]; exact h1.2⟩
theorem Tw.up (h : Tw w0 n r rb gT f ls lx w) (t : Nat) (ht : t < n) : Up (ls t) := by obtain ⟨_, _, _, hT⟩ := h.T; exact hT.up t ht
end
end Go.Proofs.Ytkicnjbidbfajaa
