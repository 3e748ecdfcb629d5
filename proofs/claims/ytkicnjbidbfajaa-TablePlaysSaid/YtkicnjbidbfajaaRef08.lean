/- The document's rows: Get, Del, After, Make. -/
import Derived.Test.YtkicnjbidbfajaaRef07
import Derived.Test.YtkicnjbidbfajaaChain
namespace Go.Proofs.Ytkicnjbidbfajaa
open Go.ChangeShapes Go.WideShapes Go.ChangeAt Go.RowKit
set_option linter.unusedVariables false
set_option linter.unusedSimpArgs false
theorem get_at {l : List Rw} (hU : Up l) (i : Nat) (hi : i < l.length) (k : Int) (hk : l[i].1 = k) : getL l k = l[i].2 ∧ has l k = true := by
  subst hk
  exact ⟨get_of_mem hU (List.getElem_mem hi), (has_iff _ _).2 ⟨_, List.getElem_mem hi, rfl⟩⟩
theorem has_no {l : List Rw} {k : Int} (h : ∀ t (ht : t < l.length), l[t].1 ≠ k) : has l k = false := by
  cases hh : has l k with
  | false => rfl
  | true =>
    obtain ⟨m, hm, hk⟩ := (has_iff l k).1 hh
    obtain ⟨t, ht, rfl⟩ := List.getElem_of_mem hm
    exact absurd hk (h t ht)
set_option maxRecDepth 100000 in
theorem rget_any (v : Value) (l : List Rw) (k : Int) (w : World) (h : Sl w 26 2 v l.length (rowCells l)) (hU : Up l) (hn : l.length ≤ 2000) :
    Calls Try.prog 30 #[v, .int .i64 k] w fun e w' => e = .returned (.tuple #[.string (getL l k), .bool (has l k)]) ∧ w' = w := by
  obtain ⟨A, cap, rfl, hlc, hcm⟩ := h.form
  unfold maxLen at hcm
  have H := Lib.hid h
  have HU := Lib.hid hU
  clear h hU
  go_enter Try.func30, Try.ntmps30
  go_wp2_with fail
  go_loopw [6] (fun s6 wr => ∃ i : Nat, i ≤ l.length ∧ s6 = .int .i64 i ∧ Hid (∀ t (ht : t < l.length), t < i → l[t].1 ≠ k) ∧ wr = w) (fun s6 _ => l.length - (intOf s6).toNat)
  case atStart => exact ⟨0, by omega, rfl, Lib.hid (fun t _ h => by omega), rfl⟩
  case round =>
    obtain ⟨i, hi, rfl, hI, rfl⟩ := hrel
    have u1 : IntKind.i64.wrap ((i : Int) + 1) = (i : Int) + 1 := IntWalk.i64_in _ (by omega)
    by_cases hlt : i < l.length
    · obtain ⟨g, off, cap', hv, _, _, hg, hat, _⟩ := H.out.at_ (by omega)
      simp at hv
      obtain ⟨rfl, rfl⟩ := hv
      have x0 : wr.cell? ⟨g, off + i * 2, none⟩ = _ := hat _ _ (rowCells_at l i hlt).1
      have x1 : wr.cell? ⟨g, off + i * 2 + 1, none⟩ = _ := hat _ _ (rowCells_at l i hlt).2
      have q1 : (0 : Int) ≤ i := by omega
      have q2 : (i : Int) < l.length := by omega
      clear hat
      have HE := Lib.hid (fun (e : l[i].1 = k) => get_at HU.out i hlt k e)
      have HI2 := Lib.hid (show l[i].1 ≠ k → ∀ t (ht : t < l.length), t < i + 1 → l[t].1 ≠ k from fun hk t ht hti => by
        by_cases e : t = i
        · subst e; exact hk
        · exact hI.out t ht (by omega))
      have hlt2 := Lib.hid hlt
      generalize l[i].1 = y at *
      generalize l[i].2 = z at *
      clear hlt
      by_cases he : y = k
      · have g1 : (y == k) = true := beq_iff_eq.2 he
        have HG := Lib.hid (HE.out he)
        clear HE HI2 he
        go_wp2_with fail
        go_ret2
        exact ⟨by rw [HG.out.1, HG.out.2]; rfl, rfl⟩
      · have g1 : (y == k) = false := beq_eq_false_iff_ne.2 he
        have HI3 := Lib.hid (HI2.out he)
        clear HE HI2 he
        go_wp2_with fail
        go_roundw
        case rel => exact ⟨i + 1, by have := hlt2.out; omega, by go_num, HI3, by first | rfl | trivial⟩
        case measure => have := hlt2.out; simp [intOf]; omega
    · obtain rfl : i = l.length := by omega
      have q2 : ¬ (l.length : Int) < l.length := by omega
      have HH := Lib.hid (has_no (fun t ht => hI.out t ht ht))
      have HG := Lib.hid (get_none HH.out)
      clear hI
      go_wp2_with fail
      go_ret2
      exact ⟨by rw [HG.out, HH.out]; rfl, rfl⟩
/-- append(append([]Row{}, s[:i]...), s[i+1:]...) -/
theorem run_two_rows {P : Program} (w : World) (t : TypeId) (i0 : TypeInfo) (z : Value) (ht : P.underlying t = some (.slice 26)) (hi : P.info? 26 = some i0) (hz : i0.zero = some z)
    (hsize : i0.size = 2) (hby : i0.bytes = 24) (hzs : z.cells.size = 2) (o : Obj) (A : Option Addr) (n cap i : Nat) (l : List Rw) (h : Sl w 26 2 (.slice A n cap) n (rowCells l)) (hin : i < n) (hn : n ≤ 2000) :
    ∃ v1 W2 A2 c2 W3, (∀ ty, (Builtin.append_ #[t, t] ty #[.slice (some ⟨w.heap.size, 0, none⟩) 0 0, .slice A i cap]).run P (w.alloc o) = .ok v1 W2) ∧ (∀ ty, (Builtin.append_ #[t, t] ty #[v1, .slice (if cap = i + 1 then A else A.map (·.add ((i + 1) * 2))) (n - (i + 1)) (cap - (i + 1))]).run P W2 = .ok (.slice A2 (n - 1) c2) W3) ∧
      Below w.heap.size w W2 ∧ Nw w W3 (.slice A2 (n - 1) c2) (n - 1) (rowCells (l.eraseIdx i)) := by
  have hT := rs_take h i (by omega)
  have N0 := nw_zero w o
  obtain ⟨v1, W2, hr1, hS1, hK1, hO1⟩ := run_append_rs (P := P) (w.alloc o) t t 26 i0 z 24 ht hi hz hsize hby hzs _ 0 [] N0.1 _ i (l.take i) (hT.below N0.2.2 (Nat.le_refl _)) (by unfold maxLen; omega) (by omega)
  have N1 := nw_more N0 hS1 hK1 hO1
  have hD := (rs_drop h (i + 1) (by omega)).below N1.2.2 (Nat.le_refl _)
  obtain ⟨v2, W3, hr2, hS2, hK2, hO2⟩ := run_append_rs (P := P) W2 t t 26 i0 z 24 ht hi hz hsize hby hzs v1 (0 + i) _ N1.1 _ (n - (i + 1)) (l.drop (i + 1)) hD (by unfold maxLen; omega) (by omega)
  have N2 := nw_more N1 hS2 hK2 hO2
  have e2 : 0 + i + (n - (i + 1)) = n - 1 := by omega
  have e : [] ++ rowCells (l.take i) ++ rowCells (l.drop (i + 1)) = rowCells (l.eraseIdx i) := by rw [List.eraseIdx_eq_take_drop_succ, rowCells_app]; rfl
  rw [e2, e] at N2
  obtain ⟨A2, c2, rfl, _, _⟩ := N2.1.form
  exact ⟨v1, W2, A2, c2, W3, fun ty => hr1, fun ty => hr2, N1.2.2, N2⟩
def DPost (v : Value) (l' : List Rw) (b : Bool) (w : World) (e : Ending) (w' : World) : Prop :=
  ∃ A c, e = .returned (.tuple #[.slice A l'.length c, .bool b]) ∧ Sl w' 26 2 (.slice A l'.length c) l'.length (rowCells l') ∧ (∀ g, (Value.slice A l'.length c).ownBlock = some g → v.ownBlock = some g ∨ (w.heap.size ≤ g ∧ g < w'.heap.size)) ∧ Below w.heap.size w w'
set_option maxRecDepth 100000 in
set_option maxHeartbeats 1000000 in
theorem rdel_any (v : Value) (l : List Rw) (k : Int) (w : World) (h : Sl w 26 2 v l.length (rowCells l)) (hU : Up l) (hn : l.length ≤ 2000) :
    Calls Try.prog 27 #[v, .int .i64 k] w (DPost v (delL l k) (has l k) w) := by
  obtain ⟨i0, hi0, hz0, hz1, hz2⟩ := info_parts infoRow
  obtain ⟨A, cap, rfl, hlc, hcm⟩ := h.form
  unfold maxLen at hcm
  have H := Lib.hid h
  have HU := Lib.hid hU
  clear h hU
  obtain ⟨n, hnl⟩ : ∃ n, l.length = n := ⟨_, rfl⟩
  have HN := Lib.hid hnl
  rw [hnl] at H hlc hn ⊢
  clear hnl
  go_enter Try.func27, Try.ntmps27
  go_wp2_with fail
  go_loopw [6] (fun s6 wr => ∃ i : Nat, i ≤ n ∧ s6 = .int .i64 i ∧ Hid (∀ t (ht : t < l.length), t < i → l[t].1 ≠ k) ∧ wr = w) (fun s6 _ => n - (intOf s6).toNat)
  case atStart => exact ⟨0, by omega, rfl, Lib.hid (fun t _ h => by omega), rfl⟩
  case round =>
    obtain ⟨i, hi, rfl, hI, rfl⟩ := hrel
    have u1 : IntKind.i64.wrap ((i : Int) + 1) = (i : Int) + 1 := IntWalk.i64_in _ (by omega)
    by_cases hlt : i < n
    · have hil : i < l.length := by rw [HN.out]; exact hlt
      have x0 : ∃ g off, A = some ⟨g, off, none⟩ ∧ wr.cell? ⟨g, off + i * 2, none⟩ = some (.int .i64 l[i].1) := by
        obtain ⟨g, off, cap', hv, _, _, hg, hat, _⟩ := H.out.at_ (by omega)
        simp at hv
        obtain ⟨rfl, rfl⟩ := hv
        exact ⟨g, off, rfl, hat _ _ (rowCells_at l i hil).1⟩
      have q1 : (0 : Int) ≤ i := by omega
      have q2 : (i : Int) < n := by omega
      have HE := Lib.hid (fun (e : l[i].1 = k) => show delL l k = l.eraseIdx i ∧ has l k = true from by
        have hp : pos l k = i := pos_of l k i (by omega) (fun t ht hti => by have := up_lt HU.out t i hil hti; omega) (fun t ht hti => by
          by_cases e2 : t = i
          · subst e2; omega
          · have := up_lt HU.out i t ht (by omega); omega)
        have hh := (get_at HU.out i hil k e).2
        exact ⟨by unfold delL; rw [if_pos hh, hp], hh⟩)
      have HI2 := Lib.hid (show l[i].1 ≠ k → ∀ t (ht : t < l.length), t < i + 1 → l[t].1 ≠ k from fun hk t ht hti => by
        by_cases e : t = i
        · subst e; exact hk
        · exact hI.out t ht (by omega))
      have hil2 := Lib.hid hil
      generalize l[i].1 = y at *
      clear hil
      by_cases he : y = k
      · have g1 : (y == k) = true := beq_iff_eq.2 he
        have HG := Lib.hid (HE.out he)
        clear HE HI2 he
        obtain ⟨g, off, rfl, x0⟩ := x0
        go_upto_region 5 with fail
        clear x0
        have p3 : (0 : Int) ≤ (i : Int) + 1 := by omega
        have p4 : (i : Int) + 1 ≤ n := by omega
        have p5 : ((i : Int) + 1).toNat = i + 1 := by omega
        have p6 : (i : Int) ≤ cap := by omega
        have p7 : i ≤ cap := by omega
        obtain ⟨WD, hWD⟩ : ∃ WD, wr.drew = WD := ⟨_, rfl⟩
        have hSD : Sl WD 26 2 (.slice (some ⟨g, off, none⟩) n cap) n (rowCells l) := by rw [← hWD]; exact H.out.drewN 1
        have hsz : WD.heap.size = wr.heap.size := by rw [← hWD]; rfl
        obtain ⟨v1, W2, A2, c2, W3, hr1, hr2, hb2, hN⟩ := run_two_rows (P := Try.prog) WD 22 i0 _ Try.underlying22 hi0 hz0 hz1 hz2 rfl (.cells #[] 26) _ n cap i l hSD hlt hn
        rw [hsz] at hr1 hb2
        obtain ⟨W1, hW1⟩ : ∃ W1, WD.alloc (.cells #[] 26) = W1 := ⟨_, rfl⟩
        rw [hW1] at hr1
        have hne : Nonempty (WSt (Ch4 WD W1 W2 W3)) := ⟨⟨0, _, .inl ⟨rfl, rfl⟩⟩⟩
        have HR1 := Lib.hid hr1
        have HR2 := Lib.hid hr2
        have HW1 := Lib.hid hW1
        have HNw := Lib.hid (show Nw wr W3 (.slice A2 (n - 1) c2) (n - 1) (rowCells (l.eraseIdx i)) from ⟨hN.1, fun g hg => by have := hN.2.1 g hg; omega, by
          have := hN.2.2
          rw [hsz] at this
          exact Below.trans (by rw [← hWD]; exact (Below.refl _ _).drew) this⟩)
        clear hr1 hr2 hW1 hb2 hSD hN
        refine wp_region_stage2 (Ch4 WD W1 W2 W3) [0, 4, 9] 10 (by kernel_rfl) (by kernel_rfl) (by kernel_rfl) (.inl ⟨rfl, hWD⟩) ?_
        simp only [List.take_succ_cons, List.take_zero, List.drop_succ_cons, List.drop_zero]
        refine wpS_eff 0 (by rfl) (by rfl) (by rfl) (.slice (some ⟨wr.heap.size, 0, none⟩) 0 0) ?_ ?_
        · rintro ⟨Y, hY⟩
          obtain rfl : Y = WD := by simpa [Ch4] using hY
          go_simp
          exact .inr (.inl ⟨rfl, HW1.out⟩)
        iterate 3 (refine wpS_pure (by rfl) (fun K hK => ?_); go_simp; refine hK _ ?_; clear hK K)
        refine wpS_eff 1 (by rfl) (by rfl) (by rfl) v1 ?_ ?_
        · rintro ⟨Y, hY⟩
          obtain rfl : Y = W1 := by simpa [Ch4] using hY
          exact upTo_append (.tmp 20) (.tmp 23) _ (by rfl) _ _ (by rfl) (by rfl) (HR1.out _) (.inr (.inr (.inl ⟨rfl, rfl⟩)))
        iterate 4 (refine wpS_pure (by rfl) (fun K hK => ?_); go_simp; refine hK _ ?_; clear hK K)
        refine wpS_eff 2 (by rfl) (by rfl) (by rfl) (.slice A2 (n - 1) c2) ?_ ?_
        · rintro ⟨Y, hY⟩
          obtain rfl : Y = W2 := by simpa [Ch4] using hY
          exact upTo_append (.tmp 24) (.tmp 28) _ (by rfl) _ _ (by rfl) (by show Value.slice _ _ _ = Value.slice _ _ _; congr 1 <;> simp [Addr.add_lit]) (HR2.out _) (.inr (.inr (.inr ⟨rfl, rfl⟩)))
        refine wpS_nil ?_
        intro y
        have hyw : y.w = W3 := by simpa [Ch4] using y.ok
        rw [hyw]
        clear hyw y hne HR1 HR2 HW1 hWD
        go_wp2_with fail
        all_goals
          go_ret2
          have e : (l.eraseIdx i).length = n - 1 := by rw [List.length_eraseIdx_of_lt hil2.out, HN.out]
          exact ⟨A2, c2, by rw [HG.out.1, HG.out.2, e]; rfl, by rw [HG.out.1, e]; exact HNw.out.1, fun x hx => .inr (HNw.out.2.1 x (by rw [HG.out.1, e] at hx; exact hx)), HNw.out.2.2⟩
      · have g1 : (y == k) = false := beq_eq_false_iff_ne.2 he
        have HI3 := Lib.hid (HI2.out he)
        obtain ⟨g, off, rfl, x0⟩ := x0
        clear HE HI2 he
        go_wp2_with fail
        go_roundw
        case rel => exact ⟨i + 1, by omega, by go_num, HI3, by first | rfl | trivial⟩
        case measure => simp [intOf]; omega
    · obtain rfl : i = n := by omega
      have q2 : ¬ (i : Int) < i := by omega
      have HH := Lib.hid (has_no (fun t ht => hI.out t ht (by have := HN.out; omega)))
      have HD := Lib.hid (show delL l k = l by unfold delL; rw [if_neg (by rw [HH.out]; simp)])
      clear hI
      go_wp2_with fail
      go_ret2
      exact ⟨A, cap, by rw [HH.out, HD.out, HN.out]; rfl, by rw [HD.out, HN.out]; exact H.out, fun g hg => .inl (by rw [HD.out, HN.out] at hg; exact hg), Below.refl _ _⟩
theorem filter_drop {l : List Rw} (hU : Up l) (k : Int) : l.filter (fun m => decide (k < m.1)) = l.drop (behind l k) := by
  have hb := behind_le hU k
  have h1 : ∀ t (ht : t < l.length), t < behind l k → l[t].1 ≤ k := fun t ht hti => by
    unfold behind at hti
    split at hti
    · rename_i hh
      obtain ⟨hp, he⟩ := has_lt hU hh
      rcases Nat.lt_or_ge t (pos l k) with c | c
      · have := pos_below l k t ht c; omega
      · obtain rfl : t = pos l k := by omega
        omega
    · have := pos_below l k t ht hti; omega
  have h2 : ∀ t (ht : t < l.length), behind l k ≤ t → k < l[t].1 := fun t ht hti => by
    unfold behind at hti
    split at hti
    · rename_i hh
      obtain ⟨hp, he⟩ := has_lt hU hh
      have := up_lt hU (pos l k) t ht (by omega); omega
    · rename_i hh
      have := hasnt hU (by simpa using hh) (show pos l k < l.length by omega)
      rcases Nat.eq_or_lt_of_le hti with c | c
      · subst c; exact this
      · have := up_lt hU (pos l k) t ht c; omega
  conv => lhs; rw [← List.take_append_drop (behind l k) l]
  rw [List.filter_append]
  have e1 : (l.take (behind l k)).filter (fun m => decide (k < m.1)) = [] := by
    rw [List.filter_eq_nil_iff]
    intro m hm
    obtain ⟨t, ht, rfl⟩ := List.getElem_of_mem hm
    rw [List.getElem_take]
    simp at ht
    have := h1 t (by omega) (by omega)
    simp; omega
  have e2 : (l.drop (behind l k)).filter (fun m => decide (k < m.1)) = l.drop (behind l k) := by
    rw [List.filter_eq_self]
    intro m hm
    obtain ⟨t, ht, rfl⟩ := List.getElem_of_mem hm
    rw [List.getElem_drop]
    simp at ht
    simpa using h2 (behind l k + t) (by omega) (by omega)
  rw [e1, e2]; rfl
theorem after_filter {l : List Rw} (hU : Up l) (k n : Int) : afterL l k n = (l.filter (fun m => decide (k < m.1))).take n.toNat := by
  rw [filter_drop hU]
  unfold afterL cntN
  rw [← List.length_drop (i := behind l k) (l := l), ← List.take_take]
  rw [List.take_length]
end Go.Proofs.Ytkicnjbidbfajaa
