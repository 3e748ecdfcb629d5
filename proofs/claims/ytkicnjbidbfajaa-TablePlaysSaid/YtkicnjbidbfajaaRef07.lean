/- The document's rows: Put, Get. -/
import Derived.Test.YtkicnjbidbfajaaModBig
namespace Go.Proofs.Ytkicnjbidbfajaa
open Go.ChangeShapes Go.WideShapes Go.ChangeAt Go.RowKit
set_option linter.unusedVariables false
set_option linter.unusedSimpArgs false
/-- a list of the call's own, in the making -/
def Nw (w0 w : World) (v : Value) (n : Nat) (xs : List Value) : Prop := Sl w 26 2 v n xs ∧ (∀ g, v.ownBlock = some g → w0.heap.size ≤ g ∧ g < w.heap.size) ∧ Below w0.heap.size w0 w
theorem nw_zero (w : World) (o : Obj) : Nw w (w.alloc o) (.slice (some ⟨w.heap.size, 0, none⟩) 0 0) 0 [] :=
  ⟨Sl.nil _ _ _ _, fun g hg => by simp [Value.ownBlock] at hg; subst hg; simp, (Below.refl _ _).alloc (Nat.le_refl _) _⟩
theorem nw_alloc {w0 w : World} {v : Value} {n : Nat} {xs : List Value} (h : Nw w0 w v n xs) (o : Obj) : Nw w0 (w.alloc o) v n xs :=
  ⟨h.1.alloc o, fun g hg => ⟨(h.2.1 g hg).1, by have := (h.2.1 g hg).2; simp; omega⟩, h.2.2.alloc h.2.2.size o⟩
theorem nw_more {w0 w w' : World} {v v' : Value} {n m : Nat} {xs ys : List Value} (h : Nw w0 w v n xs) (hS : Sl w' 26 2 v' (n + m) (xs ++ ys)) (hK : Keeps (fun k => v.ownBlock = some k) w w') (hO : v'.ownBlock = v.ownBlock ∨ ∃ g, v'.ownBlock = some g ∧ w.heap.size ≤ g ∧ g < w'.heap.size) : Nw w0 w' v' (n + m) (xs ++ ys) := by
  have hs := h.2.2.size
  refine ⟨hS, fun g hg => ?_, Keeps.below h.2.2 hK hs (fun x hx e => by have := (h.2.1 x e).1; omega)⟩
  rcases hO with e | ⟨g', e, hg', hl⟩
  · rw [e] at hg
    have := h.2.1 g hg
    exact ⟨this.1, Nat.lt_of_lt_of_le this.2 hK.size⟩
  · rw [e] at hg
    injection hg with hg
    subst hg
    exact ⟨by omega, hl⟩
theorem rs_take {w : World} {A : Option Addr} {l : List Rw} {n cap : Nat} (h : Sl w 26 2 (.slice A n cap) n (rowCells l)) (i : Nat) (hi : i ≤ n) : Rs w (.slice A i cap) i (l.take i) := by
  refine Rs.of ?_
  rw [rowCells_take]; exact h.take i hi
theorem rs_drop {w : World} {A : Option Addr} {l : List Rw} {n cap : Nat} (h : Sl w 26 2 (.slice A n cap) n (rowCells l)) (i : Nat) (hi : i ≤ n) : Rs w (.slice (if cap = i then A else A.map (·.add (i * 2))) (n - i) (cap - i)) (n - i) (l.drop i) := by
  refine Rs.of ?_
  rw [rowCells_drop]; exact h.cut i hi
def RPost (l' : List Rw) (b : Bool) (w : World) (e : Ending) (w' : World) : Prop :=
  ∃ A c, e = .returned (.tuple #[.slice A l'.length c, .bool b]) ∧ Fr w.heap.size w' (.slice A l'.length c) l' ∧ Below w.heap.size w w'
theorem rpost_of {w w3 : World} {A : Option Addr} {c m : Nat} {xs : List Value} {l' : List Rw} {b : Bool} (h : Nw w w3 (.slice A m c) m xs) (hl : l'.length = m) (hx : xs = rowCells l') : RPost l' b w (.returned (.tuple #[.slice A m c, .bool b])) w3 := by
  subst hl
  subst hx
  exact ⟨A, c, rfl, ⟨h.1, h.2.1⟩, h.2.2⟩
set_option maxRecDepth 100000 in
set_option maxHeartbeats 1000000 in
theorem rput_any (v : Value) (l : List Rw) (k : Int) (s : ByteArray) (w : World) (h : Sl w 26 2 v l.length (rowCells l)) (hU : Up l) (hn : l.length ≤ 2000) :
    Calls Try.prog 25 #[v, .int .i64 k, .string s] w (RPost (putL l k s) (!has l k) w) := by
  obtain ⟨i0, hi0, hz0, hz1, hz2⟩ := info_parts infoRow
  obtain ⟨A, cap, rfl, hlc, hcm⟩ := h.form
  unfold maxLen at hcm
  have H := Lib.hid h
  have HU := Lib.hid hU
  clear h hU
  obtain ⟨n, hnl⟩ : ∃ n, l.length = n := ⟨_, rfl⟩
  have HN := Lib.hid hnl
  rw [hnl] at H hlc hn ⊢
  clear hnl
  go_enter Try.func25, Try.ntmps25
  go_wp2_with fail
  go_loopw [8] (fun s8 wr => ∃ i : Nat, i ≤ n ∧ s8 = .int .i64 i ∧ Hid (∀ t (ht : t < l.length), t < i → l[t].1 < k) ∧ wr = w) (fun s8 _ => n - (intOf s8).toNat)
  case atStart => exact ⟨0, by omega, rfl, Lib.hid (fun t _ h => by omega), rfl⟩
  case round =>
    obtain ⟨i, hi, rfl, hI, rfl⟩ := hrel
    have u1 : IntKind.i64.wrap ((i : Int) + 1) = (i : Int) + 1 := IntWalk.i64_in _ (by omega)
    by_cases hlt : i < n
    · obtain ⟨g, off, cap', hv, _, _, hg, hat, _⟩ := H.out.at_ (by omega)
      simp at hv
      obtain ⟨rfl, rfl⟩ := hv
      have hil : i < l.length := by rw [HN.out]; exact hlt
      have x0 : wr.cell? ⟨g, off + i * 2, none⟩ = _ := hat _ _ (rowCells_at l i hil).1
      have q1 : (0 : Int) ≤ i := by omega
      have q2 : (i : Int) < n := by omega
      clear hat
      by_cases hk : l[i].1 < k
      · have HI2 := Lib.hid (show ∀ t (ht : t < l.length), t < i + 1 → l[t].1 < k from fun t ht hti => by
          by_cases e : t = i
          · subst e; exact hk
          · exact hI.out t ht (by omega))
        have hil2 := Lib.hid hil
        generalize l[i].1 = y at *
        clear hil
        go_wp2_with fail
        go_roundw
        case rel => exact ⟨i + 1, by omega, by go_num, HI2, by first | rfl | trivial⟩
        case measure => simp [intOf]; omega
      · have hp : pos l k = i := pos_of l k i (by omega) hI.out (fun t ht hti => by
          by_cases e : t = i
          · subst e; omega
          · have := up_lt HU.out i t ht (by omega); omega)
        by_cases he : l[i].1 = k
        · have hh : has l k = true := by rw [has_pos HU.out]; simp only [hp]; rw [dif_pos hil]; simp [he]
          have hput : putL l k s = l.take i ++ (k, s) :: l.drop (i + 1) := by
            unfold putL
            rw [if_pos hh, hp, List.set_eq_take_append_cons_drop, if_pos hil]
          have HH := Lib.hid hh
          have HPut := Lib.hid hput
          have g1 : (l[i].1 == k) = true := beq_iff_eq.2 he
          have g2 : ¬ k < l[i].1 := by omega
          have hil2 := Lib.hid hil
          generalize l[i].1 = y at *
          clear hh hput hp hil
          have u2 : IntKind.i64.wrap ((i : Int) + 1) = (i : Int) + 1 := u1
          have p3 : (0 : Int) ≤ (i : Int) + 1 := by omega
          have p4 : (i : Int) + 1 ≤ n := by omega
          have p5 : ((i : Int) + 1).toNat = i + 1 := by omega
          go_upto_region 4 with fail
          have N0 := Lib.hid (nw_zero wr (.cells #[] 26))
          have HT1 := Lib.hid (rs_take H.out i (by omega))
          have p1 : (i : Int) ≤ cap := by omega
          have p2 : i ≤ cap := by omega
          go_upto_region 5 with (refine wpList_append_rs (by rfl) (.tmp 25) (.tmp 28) _ (by rfl) 26 i0 _ 24 Try.underlying22 hi0 hz0 hz1 hz2 rfl _ 0 [] (by rfl) N0.out.1 _ i (l.take i) (by rfl) (HT1.out.below ((Below.refl wr.heap.size wr).alloc (Nat.le_refl _) _) (Nat.le_refl _)) (by unfold maxLen; omega) (by omega) ?_; intro v1 w1 hS hK hO; have hN := nw_more N0.out hS hK hO; simp only [Nat.zero_add, List.nil_append] at hS hN; obtain ⟨A1, c1, rfl, _, _⟩ := hS.form; have N1 := Lib.hid hN; clear hS hK hO hN)
          have HM := Lib.hid (show Sl (w1.alloc (.cells #[.int .i64 k, .string s] 26)) 26 2 (.slice (some ⟨w1.heap.size, 0, none⟩) 1 1) 1 (rowCells [(k, s)]) from made_rows rfl (by omega) (by unfold maxLen; omega) (heap_alloc_new w1 _))
          go_upto_region 6 with (refine wpList_append_rs (by rfl) (.tmp 30) (.tmp 34) _ (by rfl) 26 i0 _ 24 Try.underlying22 hi0 hz0 hz1 hz2 rfl _ i (rowCells (l.take i)) (by rfl) (nw_alloc N1.out _).1 _ 1 [(k, s)] (by rfl) (Rs.of HM.out) (by unfold maxLen; omega) (by omega) ?_; intro v2 w2 hS hK hO; have hN := nw_more (nw_alloc N1.out _) hS hK hO; obtain ⟨A2, c2, rfl, _, _⟩ := hS.form; have N2 := Lib.hid hN; clear hS hK hO hN)
          have y0 := (N2.out.2.2.cell hg).trans x0
          have HT3 := Lib.hid ((rs_drop H.out (i + 1) (by omega)).below N2.out.2.2 (Nat.le_refl _))
          clear N0 N1 HT1 HM
          clear x0
          obtain ⟨M, hM⟩ : ∃ M, (i + 1 + (n - (i + 1))) = M := ⟨_, rfl⟩
          have HMM := Lib.hid hM
          clear hM
          go_wp2_with (refine wpList_append_rs (by rfl) (.tmp 49) (.tmp 53) _ (by rfl) 26 i0 _ 24 Try.underlying22 hi0 hz0 hz1 hz2 rfl _ (i + 1) _ (by rfl) N2.out.1 _ (n - (i + 1)) (l.drop (i + 1)) (by show Value.slice _ _ _ = Value.slice _ _ _; congr 1 <;> first | rfl | (simp [Addr.add_lit]; done) | (simp [Addr.add_lit, p6]; done) | (simp [p7]; done)) HT3.out (by unfold maxLen; omega) (by omega) ?_; intro v3 w3 hS hK hO; have hN := nw_more N2.out hS hK hO; rw [HMM.out] at hS hN; obtain ⟨A3, c3, rfl, _, _⟩ := hS.form; have N3 := Lib.hid hN; clear hS hK hO hN)
          all_goals (have hq := rpost_of (b := !has l k) N3.out (l' := putL l k s) (by rw [HPut.out]; have := HN.out; have := HMM.out; simp; omega) (by rw [HPut.out]; simp [rowCells_app, rowCells]); rw [HH.out] at hq; go_ret2; rw [HH.out]; exact hq)
        · have hh : has l k = false := by rw [has_pos HU.out]; simp only [hp]; rw [dif_pos hil]; simp [he]
          have hput : putL l k s = l.take i ++ (k, s) :: l.drop i := by
            unfold putL
            rw [if_neg (by rw [hh]; simp), hp]
          have HH := Lib.hid hh
          have HPut := Lib.hid hput
          have g1 : (l[i].1 == k) = false := beq_eq_false_iff_ne.2 he
          have hil2 := Lib.hid hil
          generalize l[i].1 = y at *
          clear hh hput hp hil
          have p4 : (i : Int) ≤ n := by omega
          go_upto_region 4 with fail
          have N0 := Lib.hid (nw_zero wr (.cells #[] 26))
          have HT1 := Lib.hid (rs_take H.out i (by omega))
          have p1 : (i : Int) ≤ cap := by omega
          have p2 : i ≤ cap := by omega
          go_upto_region 5 with (refine wpList_append_rs (by rfl) (.tmp 25) (.tmp 28) _ (by rfl) 26 i0 _ 24 Try.underlying22 hi0 hz0 hz1 hz2 rfl _ 0 [] (by rfl) N0.out.1 _ i (l.take i) (by rfl) (HT1.out.below ((Below.refl wr.heap.size wr).alloc (Nat.le_refl _) _) (Nat.le_refl _)) (by unfold maxLen; omega) (by omega) ?_; intro v1 w1 hS hK hO; have hN := nw_more N0.out hS hK hO; simp only [Nat.zero_add, List.nil_append] at hS hN; obtain ⟨A1, c1, rfl, _, _⟩ := hS.form; have N1 := Lib.hid hN; clear hS hK hO hN)
          have HM := Lib.hid (show Sl (w1.alloc (.cells #[.int .i64 k, .string s] 26)) 26 2 (.slice (some ⟨w1.heap.size, 0, none⟩) 1 1) 1 (rowCells [(k, s)]) from made_rows rfl (by omega) (by unfold maxLen; omega) (heap_alloc_new w1 _))
          go_upto_region 6 with (refine wpList_append_rs (by rfl) (.tmp 30) (.tmp 34) _ (by rfl) 26 i0 _ 24 Try.underlying22 hi0 hz0 hz1 hz2 rfl _ i (rowCells (l.take i)) (by rfl) (nw_alloc N1.out _).1 _ 1 [(k, s)] (by rfl) (Rs.of HM.out) (by unfold maxLen; omega) (by omega) ?_; intro v2 w2 hS hK hO; have hN := nw_more (nw_alloc N1.out _) hS hK hO; obtain ⟨A2, c2, rfl, _, _⟩ := hS.form; have N2 := Lib.hid hN; clear hS hK hO hN)
          have y0 := (N2.out.2.2.cell hg).trans x0
          have HT3 := Lib.hid ((rs_drop H.out i (by omega)).below N2.out.2.2 (Nat.le_refl _))
          clear N0 N1 HT1 HM
          clear x0
          have p6 : ¬ cap = i := by omega
          obtain ⟨M, hM⟩ : ∃ M, (i + 1 + (n - i)) = M := ⟨_, rfl⟩
          have HMM := Lib.hid hM
          clear hM
          go_wp2_with (refine wpList_append_rs (by rfl) (.tmp 55) (.tmp 58) _ (by rfl) 26 i0 _ 24 Try.underlying22 hi0 hz0 hz1 hz2 rfl _ (i + 1) _ (by rfl) N2.out.1 _ (n - i) (l.drop i) (by show Value.slice _ _ _ = Value.slice _ _ _; congr 1 <;> first | rfl | (simp [Addr.add_lit]; done) | (simp [Addr.add_lit, p6]; done) | (simp [p7]; done)) HT3.out (by unfold maxLen; omega) (by omega) ?_; intro v3 w3 hS hK hO; have hN := nw_more N2.out hS hK hO; rw [HMM.out] at hS hN; obtain ⟨A3, c3, rfl, _, _⟩ := hS.form; have N3 := Lib.hid hN; clear hS hK hO hN)
          all_goals (have hq := rpost_of (b := !has l k) N3.out (l' := putL l k s) (by rw [HPut.out]; have := HN.out; have := HMM.out; simp; omega) (by rw [HPut.out]; simp [rowCells_app, rowCells]); rw [HH.out] at hq; go_ret2; rw [HH.out]; exact hq)
    · obtain rfl : i = n := by omega
      have hp : pos l k = i := pos_of l k i (by have := HN.out; omega) hI.out (fun t ht hti => by have := HN.out; omega)
      have hh : has l k = false := by rw [has_pos HU.out, dif_neg (by rw [hp]; have := HN.out; omega)]
      have hput : putL l k s = l.take i ++ (k, s) :: l.drop i := by
        unfold putL
        rw [if_neg (by rw [hh]; simp), hp]
      have HH := Lib.hid hh
      have HPut := Lib.hid hput
      have q2 : ¬ (i : Int) < i := by omega
      have q1 : (0 : Int) ≤ i := by omega
      clear hh hput hp
      go_upto_region 4 with fail
      have N0 := Lib.hid (nw_zero wr (.cells #[] 26))
      have HT1 := Lib.hid (rs_take H.out i (by omega))
      have p1 : (i : Int) ≤ cap := by omega
      have p2 : i ≤ cap := by omega
      go_upto_region 5 with (refine wpList_append_rs (by rfl) (.tmp 25) (.tmp 28) _ (by rfl) 26 i0 _ 24 Try.underlying22 hi0 hz0 hz1 hz2 rfl _ 0 [] (by rfl) N0.out.1 _ i (l.take i) (by rfl) (HT1.out.below ((Below.refl wr.heap.size wr).alloc (Nat.le_refl _) _) (Nat.le_refl _)) (by unfold maxLen; omega) (by omega) ?_; intro v1 w1 hS hK hO; have hN := nw_more N0.out hS hK hO; simp only [Nat.zero_add, List.nil_append] at hS hN; obtain ⟨A1, c1, rfl, _, _⟩ := hS.form; have N1 := Lib.hid hN; clear hS hK hO hN)
      have HM := Lib.hid (show Sl (w1.alloc (.cells #[.int .i64 k, .string s] 26)) 26 2 (.slice (some ⟨w1.heap.size, 0, none⟩) 1 1) 1 (rowCells [(k, s)]) from made_rows rfl (by omega) (by unfold maxLen; omega) (heap_alloc_new w1 _))
      go_upto_region 6 with (refine wpList_append_rs (by rfl) (.tmp 30) (.tmp 34) _ (by rfl) 26 i0 _ 24 Try.underlying22 hi0 hz0 hz1 hz2 rfl _ i (rowCells (l.take i)) (by rfl) (nw_alloc N1.out _).1 _ 1 [(k, s)] (by rfl) (Rs.of HM.out) (by unfold maxLen; omega) (by omega) ?_; intro v2 w2 hS hK hO; have hN := nw_more (nw_alloc N1.out _) hS hK hO; obtain ⟨A2, c2, rfl, _, _⟩ := hS.form; have N2 := Lib.hid hN; clear hS hK hO hN)
      have HT3 := Lib.hid ((rs_drop H.out i (by omega)).below N2.out.2.2 (Nat.le_refl _))
      clear N0 N1 HT1 HM
      have p7 : i - i = 0 := by omega
      obtain ⟨M, hM⟩ : ∃ M, (i + 1 + (i - i)) = M := ⟨_, rfl⟩
      have HMM := Lib.hid hM
      clear hM
      go_wp2_with (refine wpList_append_rs (by rfl) (.tmp 55) (.tmp 58) _ (by rfl) 26 i0 _ 24 Try.underlying22 hi0 hz0 hz1 hz2 rfl _ (i + 1) _ (by rfl) N2.out.1 _ (i - i) (l.drop i) (by show Value.slice _ _ _ = Value.slice _ _ _; congr 1 <;> first | rfl | (simp [Addr.add_lit]; done) | (simp [Addr.add_lit, p6]; done) | (simp [p7]; done)) HT3.out (by unfold maxLen; omega) (by omega) ?_; intro v3 w3 hS hK hO; have hN := nw_more N2.out hS hK hO; rw [HMM.out] at hS hN; obtain ⟨A3, c3, rfl, _, _⟩ := hS.form; have N3 := Lib.hid hN; clear hS hK hO hN)
      all_goals (have hq := rpost_of (b := !has l k) N3.out (l' := putL l k s) (by rw [HPut.out]; have := HN.out; have := HMM.out; simp; omega) (by rw [HPut.out]; simp [rowCells_app, rowCells]); rw [HH.out] at hq; go_ret2; rw [HH.out]; exact hq)
end Go.Proofs.Ytkicnjbidbfajaa
