/- Package index: Put, Del. -/
import Derived.Test.YtkicnjbidbfajaaIndex
namespace Go.Proofs.Ytkicnjbidbfajaa
open Go.ChangeShapes Go.WideShapes Go.ChangeAt Go.RowKit
set_option linter.unusedVariables false
set_option linter.unusedSimpArgs false
theorem rowCells_set (l : List Rw) (i : Nat) (k : Int) (v : ByteArray) (hi : i < l.length) (hk : l[i].1 = k) : rowCells (l.set i (k, v)) = (rowCells l).set (i * 2 + 1) (.string v) := by
  induction l generalizing i with
  | nil => simp at hi
  | cons f l ih =>
    cases i with
    | zero =>
      simp at hk
      subst hk
      simp [rowCells_cons]
    | succ i =>
      rw [List.set_cons_succ, rowCells_cons, rowCells_cons, show (i + 1) * 2 + 1 = i * 2 + 1 + 1 + 1 by omega, List.set_cons_succ, List.set_cons_succ, ih i (by simpa using hi) (by simpa using hk)]
theorem Sl.set {w : World} {e size n g off cap : Nat} {xs : List Value} (h : Sl w e size (.slice (some ⟨g, off, none⟩) n cap) n xs) (hn : 0 < n) (j : Nat) (u : Value) (hj : j < xs.length) : Sl (w.setCell ⟨g, off + j, none⟩ u) e size (.slice (some ⟨g, off, none⟩) n cap) n (xs.set j u) := by
  refine ⟨by rw [List.length_set]; exact h.1, ?_⟩
  rcases h.2 with ⟨A', hv, rfl⟩ | ⟨g', off', cap', cs, hv, hh, h1, h0, h2, h3, hc⟩
  · omega
  · simp at hv
    obtain ⟨⟨rfl, rfl⟩, rfl⟩ := hv
    refine .inr ⟨g, off, cap, _, rfl, block_set hh (off + j) u, h1, h0, h2, by simpa using h3, fun i y hy => ?_⟩
    have hle : n * size ≤ cap * size := Nat.mul_le_mul_right _ h1
    have hlen := h.1
    rw [Array.getElem?_setIfInBounds]
    rw [List.getElem?_set] at hy
    by_cases e : j = i
    · subst e
      rw [if_pos rfl, if_pos hj] at hy
      rw [if_pos rfl, if_pos (by omega)]; exact hy
    · rw [if_neg e] at hy
      rw [if_neg (by omega)]; exact hc i y hy
def PutPost (p : Nat) (v : Value) (l l' : List Rw) (b : Bool) (w : World) (e : Ending) (w' : World) : Prop :=
  e = .returned (.bool b) ∧ ∃ v', ixAt w' p v' l' ∧ Keeps (fun g => g = p ∨ v.ownBlock = some g) w w' ∧ (v'.ownBlock = v.ownBlock ∨ ∃ g, v'.ownBlock = some g ∧ w.heap.size ≤ g)
set_option maxRecDepth 100000 in
theorem put_any (p : Nat) (v : Value) (l : List Rw) (k : Int) (s : ByteArray) (w : World) (h : ixAt w p v l) (hU : Up l) (hn : l.length ≤ 2000) :
    Calls Try.prog 26 #[.pointer (some ⟨p, 0, none⟩), .int .i64 k, .string s] w (PutPost p v l (putL l k s) (!has l k) w) := by
  have HF := Lib.hid (find_any p v l k w h hU hn)
  have H := Lib.hid h
  clear h
  cases hh : has l k with
  | true =>
    obtain ⟨hp, hk⟩ := has_lt hU hh
    have hl' : putL l k s = l.set (pos l k) (k, s) := by simp [putL, hh]
    rw [hl']
    rw [hh] at HF
    obtain ⟨q, hq⟩ : ∃ q, pos l k = q := ⟨_, rfl⟩
    rw [hq] at HF ⊢
    simp only [hq] at hk
    rw [hq] at hp
    have HS := Lib.hid (rowCells_set l q k s hp hk)
    have HC := Lib.hid (rowCells_at l q hp).2
    generalize l[q].2 = y at *
    clear hU hk hl' hh hq
    go_enter Try.func26, Try.ntmps26
    go_wp2_with fail
    refine HF.out.mono ?_
    rintro e w1 ⟨rfl, b1⟩
    have h2 := H.out.below b1
    obtain ⟨g, off, cap, rfl, hnc, hcm, hgl, hat, hfz⟩ := h2.2.1.at_ (by omega)
    have x1 : w1.cell? ⟨g, off + q * 2 + 1, none⟩ = some (.string y) := hat _ _ HC.out
    have c0 := h2.1.cell 0
    simp at c0
    have hgp : g ≠ p := fun e => h2.2.2.1 (by simp [Value.ownBlock, e])
    have q1 : (0 : Int) ≤ q := by omega
    have q2 : (q : Int) < l.length := by omega
    have fz := hfz
    have hK : Keeps (fun x => x = p ∨ (Value.slice (some ⟨g, off, none⟩) l.length cap).ownBlock = some x) w (w1.setCell ⟨g, off + q * 2 + 1, none⟩ (.string s)) := (Keeps.of_below b1).setCell (p := ⟨g, off + q * 2 + 1, none⟩) (.inr rfl) _
    have hk1 : Keeps (· = g) w1 (w1.setCell ⟨g, off + q * 2 + 1, none⟩ (.string s)) := (Keeps.refl (· = g) w1).setCell (p := ⟨g, off + q * 2 + 1, none⟩) rfl _
    have hI : ixAt (w1.setCell ⟨g, off + q * 2 + 1, none⟩ (.string s)) p (.slice (some ⟨g, off, none⟩) l.length cap) (l.set q (k, s)) := by
      refine ⟨hk1.at_ h2.1 (fun e => hgp e.symm), ?_, h2.2.2.1, fun x hx => Nat.lt_of_lt_of_le (h2.2.2.2 x hx) hk1.size⟩
      have := Sl.set h2.2.1 (by omega) (q * 2 + 1) (.string s) (by rw [rowCells_len]; omega)
      rw [HS.out, List.length_set]
      exact this
    have HK := Lib.hid hK
    have HI := Lib.hid hI
    clear b1 h2 hat hK hk1 hI
    go_wp2_with fail
    go_ret
    exact ⟨rfl, _, HI.out, HK.out, .inl rfl⟩
  | false =>
    have hl' : putL l k s = l.take (pos l k) ++ (k, s) :: l.drop (pos l k) := by simp [putL, hh]
    have hpl := pos_le l k
    have hpu := put_len hU k s
    rw [hl'] at hpu ⊢
    rw [hh] at HF
    obtain ⟨q, hq⟩ : ∃ q, pos l k = q := ⟨_, rfl⟩
    rw [hq] at HF hpl hpu ⊢
    have HN := Lib.hid (show (l.take q ++ (k, s) :: l.drop q).length = l.length + 1 by simp; omega)
    clear hU hl' hh hq hpu
    go_enter Try.func26, Try.ntmps26
    go_wp2_with fail
    refine HF.out.mono ?_
    rintro e w1 ⟨rfl, b1⟩
    have h2 := H.out.below b1
    have c0 := h2.1.cell 0
    simp at c0
    have H2 := Lib.hid h2
    have B1 := Lib.hid b1
    clear h2 b1
    go_wp2_with fail
    have h3 := H2.out.below ((Below.refl w1.heap.size w1).alloc (Nat.le_refl _) (.cells #[.int .i64 k, .string s] 26))
    refine (insert_any v l q (k, s) w1.heap.size _ h3.2.1 (heap_alloc_new w1 _) (fun e => by have := H2.out.2.2.2 _ e; omega) hpl hn).mono ?_
    rintro e w2 ⟨v', rfl, hS, hK, hO⟩
    have hB : Blk w2 p 79 #[v] := hK.at_ h3.1 (fun e => h3.2.2.1 e)
    have hK2 : Keeps (fun x => x = p ∨ v.ownBlock = some x) w w2 := ((Keeps.of_below (S := fun x => x = p ∨ v.ownBlock = some x) B1.out).alloc _).trans (hK.mono (fun x hx => .inr hx))
    have hn1 : v'.ownBlock ≠ some p := by
      rcases hO with e | ⟨g, e, hg⟩
      · rw [e]; exact H2.out.2.2.1
      · rw [e]; intro e2; injection e2 with e2; have := h3.1.lt; omega
    have hlt : ∀ g, v'.ownBlock = some g → g < w2.heap.size := fun g hg => by
      obtain ⟨g', off, cap', hv, _, _, hlt, _⟩ := hS.at_ (by omega)
      rw [hv] at hg
      injection hg with hg
      subst hg
      exact hlt
    have hfin : v'.ownBlock = v.ownBlock ∨ ∃ g, v'.ownBlock = some g ∧ w.heap.size ≤ g := hO.imp id fun ⟨g, e, hg⟩ => ⟨g, e, by have := B1.out.size; simp at hg; omega⟩
    have c0 := hB.cell 0
    simp at c0
    have fz := fun i => hB.frozen i
    have hpl2 := hB.lt
    have HB := Lib.hid hB
    have HS := Lib.hid hS
    have HK := Lib.hid hK2
    have HL := Lib.hid hlt
    have HFn := Lib.hid hfin
    obtain ⟨A9, c9, rfl, _, _⟩ := hS.form
    clear hB hS hK hK2 hlt hfin h3 hO H2 B1
    go_wp2_with fail
    go_ret
    have hk1 : Keeps (· = p) w2 (w2.setCell ⟨p, 0, none⟩ (.slice A9 (l.length + 1) c9)) := (Keeps.refl (· = p) w2).setCell (p := ⟨p, 0, none⟩) rfl _
    refine ⟨rfl, _, ⟨HB.out.set_ 0 _, ?_, hn1, fun g hg => Nat.lt_of_lt_of_le (HL.out g hg) hk1.size⟩, HK.out.setCell (p := ⟨p, 0, none⟩) (.inl rfl) _, HFn.out⟩
    rw [HN.out]
    exact HS.out.keeps hk1 (fun g hg e => hn1 (by rw [hg, e]))
set_option maxRecDepth 100000 in
theorem del_any (p : Nat) (v : Value) (l : List Rw) (k : Int) (w : World) (h : ixAt w p v l) (hU : Up l) (hn : l.length ≤ 2000) :
    Calls Try.prog 28 #[.pointer (some ⟨p, 0, none⟩), .int .i64 k] w (PutPost p v l (delL l k) (has l k) w) := by
  have HF := Lib.hid (find_any p v l k w h hU hn)
  have H := Lib.hid h
  clear h
  cases hh : has l k with
  | true =>
    obtain ⟨hp, hk⟩ := has_lt hU hh
    have hl' : delL l k = l.eraseIdx (pos l k) := by simp [delL, hh]
    rw [hl']
    rw [hh] at HF
    obtain ⟨q, hq⟩ : ∃ q, pos l k = q := ⟨_, rfl⟩
    rw [hq] at HF ⊢
    rw [hq] at hp
    clear hU hk hl' hh hq
    go_enter Try.func28, Try.ntmps28
    go_wp2_with fail
    refine HF.out.mono ?_
    rintro e w1 ⟨rfl, b1⟩
    have h2 := H.out.below b1
    have HK1 := Lib.hid (Keeps.of_below (S := fun x => x = p ∨ v.ownBlock = some x) b1)
    obtain ⟨g, off, cap, rfl, hnc, hcm, hgl, _, _⟩ := h2.2.1.at_ (by omega)
    have c0 := h2.1.cell 0
    simp at c0
    have hgp : g ≠ p := fun e => h2.2.2.1 (by simp [Value.ownBlock, e])
    have t1 : IntKind.i64.wrap ((q : Int) + 1) = (q : Int) + 1 := IntWalk.i64_in _ (by omega)
    have H2 := Lib.hid h2
    clear b1 h2
    go_wp2_with fail
    refine (delete_any g off l.length cap q l w1 H2.out.2.1 rfl hp hn).mono ?_
    rintro e w2 ⟨rfl, hS, hK⟩
    have hB : Blk w2 p 79 #[.slice (some ⟨g, off, none⟩) l.length cap] := hK.at_ H2.out.1 (fun e => hgp e.symm)
    have c0 := hB.cell 0
    simp at c0
    have fz := fun i => hB.frozen i
    have hpl := hB.lt
    have HS := Lib.hid hS
    have HK := Lib.hid hK
    have HB := Lib.hid hB
    have hgl2 := Lib.hid hgl
    have HLen := Lib.hid (show (l.eraseIdx q).length = l.length - 1 by rw [List.length_eraseIdx_of_lt hp])
    clear hS hK hB hgl
    go_wp2_with fail
    go_ret
    have hk1 : Keeps (· = p) w2 (w2.setCell ⟨p, 0, none⟩ (.slice (some ⟨g, off, none⟩) (l.length - 1) cap)) := (Keeps.refl (· = p) w2).setCell (p := ⟨p, 0, none⟩) rfl _
    refine ⟨rfl, .slice (some ⟨g, off, none⟩) (l.length - 1) cap, ⟨HB.out.set_ 0 _, ?_, by simpa [Value.ownBlock] using hgp, fun x hx => ?_⟩, ?_, .inl rfl⟩
    · rw [HLen.out]
      exact HS.out.keeps hk1 fun x hx e => hgp (by simp [Value.ownBlock] at hx; omega)
    · simp [Value.ownBlock] at hx
      subst hx
      exact Nat.lt_of_lt_of_le hgl2.out (Nat.le_trans HK.out.size hk1.size)
    · exact (HK1.out.trans (HK.out.mono (fun x hx => .inr (by rw [hx]; rfl)))).setCell (p := ⟨p, 0, none⟩) (.inl rfl) _
  | false =>
    have hl' : delL l k = l := by simp [delL, hh]
    rw [hl']
    rw [hh] at HF
    clear hl' hU hh
    go_enter Try.func28, Try.ntmps28
    go_wp2_with fail
    refine HF.out.mono ?_
    rintro e w1 ⟨rfl, b1⟩
    have h2 := Lib.hid (H.out.below b1)
    have HK := Lib.hid (Keeps.of_below (S := fun x => x = p ∨ v.ownBlock = some x) b1)
    clear b1
    go_wp2_with fail
    go_ret
    exact ⟨rfl, v, h2.out, HK.out, .inl rfl⟩
section
variable {w0 w w' : World} {r : Nat} {X : Nat → Prop} {l : List Rw}
theorem ix_of_put {v : Value} {l' : List Rw} {b : Bool} {e : Ending} (h1 : ixAt w r v l) (h2 : ∀ g, v.ownBlock = some g → r ≤ g ∧ ¬ X g) (hx : ¬ X r) (h3 : Below r w0 w) (hX : ∀ x, X x → x < w.heap.size) (hU : Up l') (hp : PutPost r v l l' b w e w') :
    e = .returned (.bool b) ∧ Ix w0 r X w' l' ∧ Keeps (fun x => r ≤ x ∧ ¬ X x) w w' := by
  obtain ⟨he, v', p1, p2, p3⟩ := hp
  have k : Keeps (fun x => r ≤ x ∧ ¬ X x) w w' := p2.mono fun x hx' => by
    rcases hx' with rfl | hx'
    · exact ⟨Nat.le_refl _, hx⟩
    · exact h2 x hx'
  refine ⟨he, ⟨v', p1, fun g hg => ?_, hx, Keeps.below h3 k (Nat.le_of_lt h1.1.lt) (fun x hx e => by omega), hU⟩, k⟩
  rcases p3 with e | ⟨g', e, hg'⟩
  · exact h2 g (by rw [← e]; exact hg)
  · rw [e] at hg; injection hg with hg; subst hg
    have := h1.1.lt
    exact ⟨by omega, fun h => by have := hX _ h; omega⟩
theorem iput (k : Int) (s : ByteArray) (h : Ix w0 r X w l) (hn : l.length ≤ 2000) (hX : ∀ x, X x → x < w.heap.size) :
    Calls Try.prog 26 #[.pointer (some ⟨r, 0, none⟩), .int .i64 k, .string s] w fun e w' => e = .returned (.bool (!has l k)) ∧ Ix w0 r X w' (putL l k s) ∧ Keeps (fun x => r ≤ x ∧ ¬ X x) w w' := by
  obtain ⟨v, h1, h2, hx, h3, h4⟩ := h
  exact (put_any r v l k s w h1 h4 hn).mono fun e w' hp => ix_of_put h1 h2 hx h3 hX (up_put h4 k s) hp
theorem idel (k : Int) (h : Ix w0 r X w l) (hn : l.length ≤ 2000) (hX : ∀ x, X x → x < w.heap.size) :
    Calls Try.prog 28 #[.pointer (some ⟨r, 0, none⟩), .int .i64 k] w fun e w' => e = .returned (.bool (has l k)) ∧ Ix w0 r X w' (delL l k) ∧ Keeps (fun x => r ≤ x ∧ ¬ X x) w w' := by
  obtain ⟨v, h1, h2, hx, h3, h4⟩ := h
  exact (del_any r v l k w h1 h4 hn).mono fun e w' hp => ix_of_put h1 h2 hx h3 hX (up_del h4 k) hp
end
end Go.Proofs.Ytkicnjbidbfajaa
