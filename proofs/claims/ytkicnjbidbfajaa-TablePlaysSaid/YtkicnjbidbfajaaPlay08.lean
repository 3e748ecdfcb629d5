/- An index and the document's rows, side by side; operations as arguments. -/
import Derived.Test.YtkicnjbidbfajaaRef09
namespace Go.Proofs.Ytkicnjbidbfajaa
open Go.ChangeShapes Go.WideShapes Go.ChangeAt Go.RowKit Go.Deep
set_option linter.unusedVariables false
set_option linter.unusedSimpArgs false
theorem Rs.take {w : World} {A : Option Addr} {n cap : Nat} {l : List Rw} (h : Rs w (.slice A n cap) n l) (k : Nat) (hk : k ≤ n) : Rs w (.slice A k cap) k (l.take k) := by
  obtain ⟨h0, A', cap', hv, h2, h3, h4⟩ := h
  simp at hv
  obtain ⟨rfl, rfl⟩ := hv
  refine ⟨by simp; omega, A, cap, rfl, by omega, h3, fun hn => ?_⟩
  obtain ⟨g, off, rfl, h5, h6⟩ := h4 (by omega)
  refine ⟨g, off, rfl, h5, fun j u hu => h6 j u ?_⟩
  rw [rowCells_take, List.getElem?_take] at hu
  split at hu
  · exact hu
  · cases hu
/-- kind, n, key, val -/
structure Po where
  (kd nn ky : Int) (vl : ByteArray)
theorem open_ops {H : Type} {enc : TypeId × Value → H} {P : Program} {w : World} {base t e : Nat} {fs : Array Field} {v : Value} {d : DataW H} {p : List MemPlace} (ht : P.underlying t = some (.slice e)) (he : P.underlying e = some (.struct fs))
    (hone : oneCellFields P fs = true) (hC : P.cellsOf e = fs.size) (hfs : fs.size = 4) (h0 : ∀ f, fs[0]? = some f → P.underlying f.type = some (.int .i64)) (h1 : ∀ f, fs[1]? = some f → P.underlying f.type = some (.int .i64)) (h2 : ∀ f, fs[2]? = some f → P.underlying f.type = some (.int .i64)) (h3 : ∀ f, fs[3]? = some f → P.underlying f.type = some .string)
    (hv : Value.okWide P w .any base t v) (h : DataW.Trod enc P w 0 (fun _ => true) true t v d p) (hl : ∀ x ∈ p, x.block < w.heap.size) :
    ∃ (A : Option Addr) (len cap : Nat) (F : Nat → Po), v = .slice A len cap ∧ len ≤ cap ∧ cap ≤ maxLen ∧ (0 < len → ∃ b off, A = some ⟨b, off, none⟩ ∧ b < w.heap.size ∧ ∀ i, i < len → w.cell? ⟨b, off + i * 4, none⟩ = some (.int .i64 (F i).kd) ∧ w.cell? ⟨b, off + i * 4 + 1, none⟩ = some (.int .i64 (F i).nn) ∧ w.cell? ⟨b, off + i * 4 + 2, none⟩ = some (.int .i64 (F i).ky) ∧ w.cell? ⟨b, off + i * 4 + 3, none⟩ = some (.string (F i).vl)) := by
  obtain ⟨A, len, cap, rfl⟩ := okWide_slice ht hv
  obtain ⟨fuel, hf⟩ := h
  rcases open_slice_fields ht he hone hC hf with ⟨hcs, _⟩ | ⟨a, len', cap', m, D, Pl, hcs, hb, hle, hcm, hm, hx, hi⟩
  · have : len = 0 := by simp [Value.cells] at hcs; exact hcs.2.1
    subst this
    have hc0 : cap = 0 := by simp [Value.cells] at hcs; omega
    subst hc0
    exact ⟨A, 0, 0, fun _ => ⟨0, 0, 0, ByteArray.empty⟩, rfl, Nat.le_refl _, by unfold maxLen; omega, fun h => absurd h (by omega)⟩
  · have e1 : A = some a ∧ len = len' ∧ cap = cap' := by simpa [Value.cells] using hcs
    obtain ⟨rfl, rfl, rfl⟩ := e1
    simp at hm
    subst hm
    have hall' : ∀ i, i < len → ∃ x : Po, w.cell? (a.add (i * 4)) = some (.int .i64 x.kd) ∧ w.cell? (a.add (i * 4 + 1)) = some (.int .i64 x.nn) ∧ w.cell? (a.add (i * 4 + 2)) = some (.int .i64 x.ky) ∧ w.cell? (a.add (i * 4 + 3)) = some (.string x.vl) := by
      intro i hil
      obtain ⟨ys, n, _, _, _, hfj⟩ := hi i (by omega)
      obtain ⟨v0, y0, hc0, _, ht0⟩ := hfj 0 fs[0] (by simp)
      obtain ⟨x0, e0, _, _⟩ := DataW.trod_int (h0 fs[0] (by simp)) ht0
      obtain ⟨v1, y1, hc1, _, ht1⟩ := hfj 1 fs[1] (by simp)
      obtain ⟨x1, e1, _, _⟩ := DataW.trod_int (h1 fs[1] (by simp)) ht1
      obtain ⟨v2, y2, hc2, _, ht2⟩ := hfj 2 fs[2] (by simp)
      obtain ⟨x2, e2, _, _⟩ := DataW.trod_int (h2 fs[2] (by simp)) ht2
      obtain ⟨v3, y3, hc3, _, ht3⟩ := hfj 3 fs[3] (by simp)
      obtain ⟨s, e3, _, _⟩ := DataW.trod_string (h3 fs[3] (by simp)) ht3
      simp at e0 e1 e2 e3
      subst e0
      subst e1
      subst e2
      subst e3
      rw [hfs] at hc0 hc1 hc2 hc3
      exact ⟨⟨x0, x1, x2, s⟩, hc0, hc1, hc2, hc3⟩
    have hch : ∃ F : Nat → Po, ∀ i, i < len → w.cell? (a.add (i * 4)) = some (.int .i64 (F i).kd) ∧ w.cell? (a.add (i * 4 + 1)) = some (.int .i64 (F i).nn) ∧ w.cell? (a.add (i * 4 + 2)) = some (.int .i64 (F i).ky) ∧ w.cell? (a.add (i * 4 + 3)) = some (.string (F i).vl) :=
      ⟨fun i => if h : i < len then Classical.choose (hall' i h) else ⟨0, 0, 0, ByteArray.empty⟩, fun i hil => by simp only [dif_pos hil]; exact Classical.choose_spec (hall' i hil)⟩
    obtain ⟨F, hF⟩ := hch
    refine ⟨some a, len, _, F, rfl, hle, hcm, fun hlen => ?_⟩
    have hc0 := (hF 0 hlen).1
    simp only [Nat.zero_mul, add_zero'] at hc0
    have ha := spot_none hc0
    refine ⟨a.block, a.off, by rw [← ha], World.block_lt_of_cell? _ _ hc0, fun i hi => ?_⟩
    have := hF i hi
    rw [ha] at this
    simp only [add_none, ← Nat.add_assoc] at this
    exact this
def keyS (k : Int) : Int := if bigS k 13 = 12 then k else bigS k 20
theorem key_any (a b k : Int) (s : ByteArray) (w : World) :
    Calls Try.prog 24 #[.agg #[.int .i64 a, .int .i64 b, .int .i64 k, .string s]] w fun e w' => e = .returned (.int .i64 (keyS k)) ∧ Below w.heap.size w w' := by
  by_cases h : bigS k 13 = 12
  · have g1 : (bigS k 13 == 12) = true := beq_iff_eq.2 h
    have HK := Lib.hid (show keyS k = k by simp [keyS, h])
    clear h
    go_enter Try.func24, Try.ntmps24
    go_wp2_with (go_at_call 50; refine (big_any _ _ _ (by omega) (by omega)).mono ?_; rintro e w' ⟨rfl, rfl⟩)
    go_ret
    exact ⟨by rw [HK.out]; rfl, (Below.refl _ _).alloc (Nat.le_refl _) _⟩
  · have g1 : (bigS k 13 == 12) = false := beq_eq_false_iff_ne.2 h
    have HK := Lib.hid (show keyS k = bigS k 20 by simp [keyS, h])
    clear h
    go_enter Try.func24, Try.ntmps24
    go_wp2_with (go_at_call 50; refine (big_any _ _ _ (by omega) (by omega)).mono ?_; rintro e w' ⟨rfl, rfl⟩)
    go_ret
    exact ⟨by rw [HK.out]; rfl, (Below.refl _ _).alloc (Nat.le_refl _) _⟩
def Mid (w0 : World) (r : Nat) (wr : World) (A : Option Addr) (c : Nat) (L' L : List Rw) : Prop :=
  Sl wr 26 2 (.slice A L'.length c) L'.length (rowCells L') ∧ (∀ g, (Value.slice A L'.length c).ownBlock = some g → g < wr.heap.size) ∧ Ix w0 r (fun x => (Value.slice A L'.length c).ownBlock = some x) wr L
section
variable {w0 wr w' : World} {r : Nat} {A : Option Addr} {c : Nat} {L L' : List Rw}
theorem mid_below (h : Mid w0 r wr A c L' L) (hb : Below wr.heap.size wr w') : Mid w0 r w' A c L' L :=
  ⟨h.1.below hb, fun g hg => Nat.lt_of_lt_of_le (h.2.1 g hg) hb.size, h.2.2.below hb⟩
theorem mid_keeps (h : Mid w0 r wr A c L' L) {L2 : List Rw} (hI : Ix w0 r (fun x => (Value.slice A L'.length c).ownBlock = some x) w' L2) (k : Keeps (fun x => r ≤ x ∧ ¬ (Value.slice A L'.length c).ownBlock = some x) wr w') : Mid w0 r w' A c L' L2 :=
  ⟨h.1.keeps k (fun g hg e => e.2 hg), fun g hg => Nat.lt_of_lt_of_le (h.2.1 g hg) k.size, hI⟩
theorem mid_new {A2 : Option Addr} {c2 : Nat} {L2 : List Rw} (h : Mid w0 r wr A c L' L) (hb : Below wr.heap.size wr w') (hS : Sl w' 26 2 (.slice A2 L2.length c2) L2.length (rowCells L2)) (hO : ∀ g, (Value.slice A2 L2.length c2).ownBlock = some g → (Value.slice A L'.length c).ownBlock = some g ∨ (wr.heap.size ≤ g ∧ g < w'.heap.size)) : Mid w0 r w' A2 c2 L2 L := by
  refine ⟨hS, fun g hg => ?_, ?_⟩
  · rcases hO g hg with h1 | h1
    · exact Nat.lt_of_lt_of_le (h.2.1 g h1) hb.size
    · exact h1.2
  · have h5 := (h.2.2.more (fun x => (Value.slice A L'.length c).ownBlock = some x ∨ wr.heap.size ≤ x) (fun x hx => hx)).below hb
    exact h5.more _ (fun x hx => .inl ((hO x hx).imp id And.left))
theorem p_rput (k : Int) (s : ByteArray) (h : Mid w0 r wr A c L L) (hn : L.length ≤ 2000) :
    Calls Try.prog 25 #[.slice A L.length c, .int .i64 k, .string s] wr fun e w' => ∃ A' c', e = .returned (.tuple #[.slice A' (putL L k s).length c', .bool (!has L k)]) ∧ Mid w0 r w' A' c' (putL L k s) L ∧ Below wr.heap.size wr w' := by
  refine (rput_any _ L k s wr h.1 h.2.2.up hn).mono ?_
  rintro e w' ⟨A', c', rfl, hF, hb⟩
  exact ⟨A', c', rfl, mid_new h hb hF.1 (fun g hg => .inr (hF.2 g hg)), hb⟩
theorem p_rdel (k : Int) (h : Mid w0 r wr A c L L) (hn : L.length ≤ 2000) :
    Calls Try.prog 27 #[.slice A L.length c, .int .i64 k] wr fun e w' => ∃ A' c', e = .returned (.tuple #[.slice A' (delL L k).length c', .bool (has L k)]) ∧ Mid w0 r w' A' c' (delL L k) L ∧ Below wr.heap.size wr w' := by
  refine (rdel_any _ L k wr h.1 h.2.2.up hn).mono ?_
  rintro e w' ⟨A', c', rfl, hS, hO, hb⟩
  exact ⟨A', c', rfl, mid_new h hb hS hO, hb⟩
theorem p_iput (k : Int) (s : ByteArray) (h : Mid w0 r wr A c (putL L k s) L) (hn : L.length ≤ 2000) :
    Calls Try.prog 26 #[.pointer (some ⟨r, 0, none⟩), .int .i64 k, .string s] wr fun e w' => e = .returned (.bool (!has L k)) ∧ Mid w0 r w' A c (putL L k s) (putL L k s) := by
  refine (iput k s h.2.2 hn (fun x hx => h.2.1 x hx)).mono ?_
  rintro e w' ⟨he, hI, hk⟩
  exact ⟨he, mid_keeps h hI hk⟩
theorem p_idel (k : Int) (h : Mid w0 r wr A c (delL L k) L) (hn : L.length ≤ 2000) :
    Calls Try.prog 28 #[.pointer (some ⟨r, 0, none⟩), .int .i64 k] wr fun e w' => e = .returned (.bool (has L k)) ∧ Mid w0 r w' A c (delL L k) (delL L k) := by
  refine (idel k h.2.2 hn (fun x hx => h.2.1 x hx)).mono ?_
  rintro e w' ⟨he, hI, hk⟩
  exact ⟨he, mid_keeps h hI hk⟩
end
end Go.Proofs.Ytkicnjbidbfajaa
