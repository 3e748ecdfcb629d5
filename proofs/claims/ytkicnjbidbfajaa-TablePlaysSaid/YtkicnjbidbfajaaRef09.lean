/- The document's rows: After, Make. -/
import Derived.Test.YtkicnjbidbfajaaRef08
import Derived.Deep.RegionHeld3
namespace Go.Proofs.Ytkicnjbidbfajaa
open Go.ChangeShapes Go.WideShapes Go.ChangeAt Go.RowKit
set_option linter.unusedVariables false
set_option linter.unusedSimpArgs false
def beyond (l : List Rw) (k : Int) (i : Nat) : List Rw := (l.take i).filter (fun m => decide (k < m.1))
theorem beyond_succ (l : List Rw) (k : Int) (i : Nat) (hi : i < l.length) : beyond l k (i + 1) = if k < l[i].1 then beyond l k i ++ [(l[i].1, l[i].2)] else beyond l k i := by
  unfold beyond
  rw [List.take_succ_eq_append_getElem hi, List.filter_append]
  split <;> simp_all
theorem beyond_end {l : List Rw} (hU : Up l) (k n : Int) (i : Nat) (hi : i ≤ l.length) (h1 : (beyond l k i).length ≤ n.toNat) (h2 : i = l.length ∨ n ≤ (beyond l k i).length) : beyond l k i = afterL l k n := by
  rw [after_filter hU]
  rcases h2 with rfl | h2
  · unfold beyond at *
    rw [List.take_length] at *
    rw [List.take_of_length_le h1]
  · have e : l.filter (fun m => decide (k < m.1)) = beyond l k i ++ (l.drop i).filter (fun m => decide (k < m.1)) := by
      unfold beyond
      rw [← List.filter_append, List.take_append_drop]
    have e2 : n.toNat = (beyond l k i).length := by omega
    rw [e, e2, List.take_left]
set_option maxRecDepth 100000 in
theorem rafter_any (v : Value) (l : List Rw) (k n : Int) (w : World) (h : Sl w 26 2 v l.length (rowCells l)) (hU : Up l) (hn : l.length ≤ 2000) :
    Calls Try.prog 29 #[v, .int .i64 k, .int .i64 n] w (ClonePost (afterL l k n) w) := by
  obtain ⟨i0, hi0, hz0, hz1, hz2⟩ := info_parts infoRow
  obtain ⟨A, cap, rfl, hlc, hcm⟩ := h.form
  unfold maxLen at hcm
  have H := Lib.hid h
  have HU := Lib.hid hU
  clear h hU
  go_enter Try.func29, Try.ntmps29
  go_wp2_with fail
  go_loopw [7, 8] (fun s7 s8 wr => ∃ (i m : Nat) (A7 : Option Addr) (c7 : Nat), i ≤ l.length ∧ s8 = .int .i64 i ∧ s7 = .slice A7 m c7 ∧ m ≤ i ∧ m ≤ n.toNat ∧ Hid ((beyond l k i).length = m) ∧ Nw w wr (.slice A7 m c7) m (rowCells (beyond l k i))) (fun _ s8 _ => l.length - (intOf s8).toNat)
  case atStart => exact ⟨0, 0, none, 0, by omega, rfl, rfl, by omega, by omega, Lib.hid rfl, ⟨Sl.nil _ _ _ _, by simp [Value.ownBlock], Below.refl _ _⟩⟩
  case round =>
    obtain ⟨i, m, A7, c7, hi, rfl, rfl, hmi, hmn, hO, hN⟩ := hrel
    have HN := Lib.hid hN
    clear hN
    have u1 : IntKind.i64.wrap ((i : Int) + 1) = (i : Int) + 1 := IntWalk.i64_in _ (by omega)
    have hend : (i = l.length ∨ n ≤ m) → Hid (afterL l k n = beyond l k i) := fun he => Lib.hid (beyond_end HU.out k n i hi (by rw [hO.out]; exact hmn) (by rw [hO.out]; exact he)).symm
    by_cases hlt : i < l.length
    · have q1 : (0 : Int) ≤ i := by omega
      have q2 : (i : Int) < l.length := by omega
      by_cases hm : (m : Int) < n
      · obtain ⟨g, off, cap', hv, _, _, hg, hat, _⟩ := H.out.at_ (by omega)
        simp at hv
        obtain ⟨rfl, rfl⟩ := hv
        have hb := HN.out.2.2
        have x0 : wr.cell? ⟨g, off + i * 2, none⟩ = some (.int .i64 l[i].1) := (hb.cell hg).trans (hat _ _ (rowCells_at l i hlt).1)
        have x1 : wr.cell? ⟨g, off + i * 2 + 1, none⟩ = some (.string l[i].2) := (hb.cell hg).trans (hat _ _ (rowCells_at l i hlt).2)
        have HS := Lib.hid (beyond_succ l k i hlt)
        have hlt2 := Lib.hid hlt
        generalize l[i].1 = y at *
        generalize l[i].2 = z at *
        clear hlt hat hb hend
        by_cases hy : k < y
        · have HS2 := Lib.hid (show beyond l k (i + 1) = beyond l k i ++ [(y, z)] by rw [HS.out, if_pos hy])
          have HM := Lib.hid (show Sl (wr.alloc (.cells #[.int .i64 y, .string z] 26)) 26 2 (.slice (some ⟨wr.heap.size, 0, none⟩) 1 1) 1 (rowCells [(y, z)]) from made_rows rfl (by omega) (by unfold maxLen; omega) (heap_alloc_new wr _))
          clear HS
          go_wp2_with (refine wpList_append_rs (by rfl) (.tmp 28) (.tmp 33) _ (by rfl) 26 i0 _ 24 Try.underlying22 hi0 hz0 hz1 hz2 rfl _ m (rowCells (beyond l k i)) (by rfl) (nw_alloc HN.out _).1 _ 1 [(y, z)] (by rfl) (Rs.of HM.out) (by unfold maxLen; omega) (by omega) ?_; intro v2 w2 hS hK hO2; have hN := nw_more (nw_alloc HN.out _) hS hK hO2; obtain ⟨A2, c2, rfl, _, _⟩ := hS.form; have N2 := Lib.hid hN; clear hS hK hO2 hN)
          go_roundw
          case rel => exact ⟨i + 1, m + 1, A2, c2, by have := hlt2.out; omega, by go_num, rfl, by omega, by omega, Lib.hid (by rw [HS2.out, List.length_append, hO.out]; rfl), by rw [HS2.out, rowCells_app]; exact N2.out⟩
          case measure => have := hlt2.out; simp [intOf]; omega
        · have HS2 := Lib.hid (show beyond l k (i + 1) = beyond l k i by rw [HS.out, if_neg hy])
          clear HS
          go_wp2_with fail
          go_roundw
          case rel => exact ⟨i + 1, m, A7, c7, by have := hlt2.out; omega, by go_num, rfl, by omega, hmn, Lib.hid (by rw [HS2.out]; exact hO.out), by rw [HS2.out]; exact HN.out⟩
          case measure => have := hlt2.out; simp [intOf]; omega
      · have HE := hend (.inr (by omega))
        clear hend
        go_wp2_with fail
        go_ret
        exact ⟨A7, c7, by rw [HE.out, hO.out]; rfl, ⟨by rw [HE.out, hO.out]; exact HN.out.1, fun g hg => HN.out.2.1 g (by rw [HE.out, hO.out] at hg; exact hg)⟩, HN.out.2.2⟩
    · obtain rfl : i = l.length := by omega
      have q2 : ¬ (l.length : Int) < l.length := by omega
      have HE := hend (.inl rfl)
      clear hend
      go_wp2_with fail
      go_ret
      exact ⟨A7, c7, by rw [HE.out, hO.out]; rfl, ⟨by rw [HE.out, hO.out]; exact HN.out.1, fun g hg => HN.out.2.1 g (by rw [HE.out, hO.out] at hg; exact hg)⟩, HN.out.2.2⟩
set_option maxRecDepth 100000 in
set_option maxHeartbeats 1000000 in
theorem rmake_any (v : Value) (a : List Rw) (w : World) (h : Rs w v a.length a) (hn : a.length ≤ 1000) :
    Calls Try.prog 23 #[v] w (ClonePost (putAll a) w) := by
  obtain ⟨A, cap, rfl, hlc, hcm⟩ := h.form
  unfold maxLen at hcm
  have H := Lib.hid h
  clear h
  go_enter Try.func23, Try.ntmps23
  go_wp2_with fail
  go_loopw [3, 4] (fun s3 s4 wr => ∃ (i m : Nat) (A3 : Option Addr) (c3 : Nat), i ≤ a.length ∧ s4 = .int .i64 i ∧ s3 = .slice A3 m c3 ∧ Hid ((putAll (a.take i)).length = m) ∧ Nw w wr (.slice A3 m c3) m (rowCells (putAll (a.take i)))) (fun _ s4 _ => a.length - (intOf s4).toNat)
  case atStart => exact ⟨0, 0, none, 0, by omega, rfl, rfl, Lib.hid rfl, ⟨Sl.nil _ _ _ _, by simp [Value.ownBlock], Below.refl _ _⟩⟩
  case round =>
    obtain ⟨i, m, A3, c3, hi, rfl, rfl, hO, hN⟩ := hrel
    have HN := Lib.hid hN
    clear hN
    have u1 : IntKind.i64.wrap ((i : Int) + 1) = (i : Int) + 1 := IntWalk.i64_in _ (by omega)
    by_cases hlt : i < a.length
    · have q1 : (0 : Int) ≤ i := by omega
      have q2 : (i : Int) < a.length := by omega
      obtain ⟨g, off, cap', hv, _, _, hg, hat, _⟩ := H.out.at_ (by omega)
      simp at hv
      obtain ⟨rfl, rfl⟩ := hv
      have x0 : w.cell? ⟨g, off + i * 2, none⟩ = some (.int .i64 a[i].1) := hat _ _ (rowCells_at a i hlt).1
      have x1 : w.cell? ⟨g, off + i * 2 + 1, none⟩ = some (.string a[i].2) := hat _ _ (rowCells_at a i hlt).2
      have HP := Lib.hid (putAll_take a i hlt)
      have hlen : (putAll (a.take i)).length ≤ 2000 := by have := all_len (a.take i); simp at this; omega
      have hUp := up_all (a.take i)
      have hlt2 := Lib.hid hlt
      generalize a[i].1 = k at *
      generalize a[i].2 = s at *
      have hI : Bh w wr.drew := Below.drew HN.out.2.2
      have hne : Nonempty (WIn (Bh w)) := ⟨⟨_, hI⟩⟩
      have z0 : ∀ y : WIn (Bh w), y.w.cell? ⟨g, off + i * 2, none⟩ = some (.int .i64 k) := fun y => (Below.cell y.ok hg).trans x0
      have z1 : ∀ y : WIn (Bh w), y.w.cell? ⟨g, off + i * 2 + 1, none⟩ = some (.string s) := fun y => (Below.cell y.ok hg).trans x1
      have HI := Lib.hid hI
      have HUp := Lib.hid hUp
      have HND := Lib.hid (show Sl wr.drew 26 2 (.slice A3 (putAll (a.take i)).length c3) (putAll (a.take i)).length (rowCells (putAll (a.take i))) by rw [hO.out]; exact HN.out.1.drewN 1)
      clear hlt hat x0 x1 hI hUp
      go_upto_region 5 with fail
      refine wp_region_noPanic ?_
      refine wp_region_held_drew (S := fun w' => Bh w w') (by kernel_rfl) HI.out (fun hHeld => ?_)
      (refine takeE (i := 0) rfl (by kernel_rfl) (by kernel_rfl) (by kernel_rfl) (fun _ _ _ _ h => h) hHeld (fun K hK => ?_); go_simp; refine hK _ ?_; clear hK K)
      (refine takeE (i := 1) rfl (by kernel_rfl) (by kernel_rfl) (by kernel_rfl) (fun _ _ _ _ h => h) hHeld (fun K hK => ?_); go_simp; refine hK _ ?_; clear hK K)
      (refine takeE (i := 2) rfl (by kernel_rfl) (by kernel_rfl) (by kernel_rfl) (fun _ _ _ _ h => h) hHeld (fun K hK => ?_); go_simp; refine hK _ ?_; clear hK K)
      (refine takeE (i := 3) rfl (by kernel_rfl) (by kernel_rfl) (by kernel_rfl) (fun _ _ _ _ h => h) hHeld (fun K hK => ?_); go_simp; refine hK _ ?_; clear hK K)
      (refine takeE (i := 4) rfl (by kernel_rfl) (by kernel_rfl) (by kernel_rfl) (fun _ _ _ _ h => h) hHeld (fun K hK => ?_); go_simp; refine hK _ ?_; clear hK K)
      (refine takeE (i := 5) rfl (by kernel_rfl) (by kernel_rfl) (by kernel_rfl) (fun _ _ _ _ h => h) hHeld (fun K hK => ?_); go_simp; refine hK _ ?_; clear hK K)
      (refine takeE (i := 6) rfl (by kernel_rfl) (by kernel_rfl) (by kernel_rfl) (fun _ _ _ _ h => h) hHeld (fun K hK => ?_); go_simp; refine hK _ ?_; clear hK K)
      (refine takeE (i := 7) rfl (by kernel_rfl) (by kernel_rfl) (by kernel_rfl) (fun _ _ _ _ h => h) hHeld (fun K hK => ?_); go_simp; refine hK _ ?_; clear hK K)
      (refine takeE (i := 8) rfl (by kernel_rfl) (by kernel_rfl) (by kernel_rfl) (fun _ _ _ _ h => h) hHeld (fun K hK => ?_); go_simp; refine hK _ ?_; clear hK K)
      (refine takeE (i := 9) rfl (by kernel_rfl) (by kernel_rfl) (by kernel_rfl) (fun _ _ _ _ h => h) hHeld (fun K hK => ?_); go_simp; refine hK _ ?_; clear hK K)
      (refine takeE (i := 10) rfl (by kernel_rfl) (by kernel_rfl) (by kernel_rfl) (fun _ _ _ _ h => h) hHeld (fun K hK => ?_); go_simp; refine hK _ ?_; clear hK K)
      refine wpAnyH_ready (rs := [11]) (by kernel_rfl) (by simp) ?_
      refine AllReadyH.cons rfl (fun K hK => ?_) AllReadyH.nil
      go_simp
      have hp := rput_any _ _ k s _ HND.out HUp.out hlen
      rw [hO.out] at hp
      refine hp.mono ?_
      rintro e w7 ⟨A9, c9, he9, hF9, hb9⟩
      obtain ⟨M, hM⟩ : ∃ M, (putL (putAll (a.take i)) k s).length = M := ⟨_, rfl⟩
      rw [hM] at he9 hF9
      subst he9
      refine hK.out _ _ (Bh.more hHeld hb9) (fun hHeld => ?_)
      have HF9 := Lib.hid (show Nw w w7 (.slice A9 M c9) M (rowCells (putL (putAll (a.take i)) k s)) from ⟨by have := hF9.1; rwa [hM] at this, fun x hx => by have h1 := hF9.2 x hx; have h2 := HN.out.2.2.size; exact ⟨Nat.le_trans h2 h1.1, h1.2⟩, hHeld⟩)
      have HM := Lib.hid hM
      clear hK K hp hb9 hF9 hM
      try simp only [List.getElem_toArray, List.getElem_cons_succ, List.getElem_cons_zero, Act.put, List.setIfInBounds_toArray, List.set_cons_zero, List.set_cons_succ]
      (refine takeE (i := 12) rfl (by kernel_rfl) (by kernel_rfl) (by kernel_rfl) (fun _ _ _ _ h => h) hHeld (fun K hK => ?_); go_simp; refine hK _ ?_; clear hK K)
      (refine takeE (i := 13) rfl (by kernel_rfl) (by kernel_rfl) (by kernel_rfl) (fun _ _ _ _ h => h) hHeld (fun K hK => ?_); go_simp; refine hK _ ?_; clear hK K)
      (refine takeE (i := 14) rfl (by kernel_rfl) (by kernel_rfl) (by kernel_rfl) (fun _ _ _ _ h => h) hHeld (fun K hK => ?_); go_simp; refine hK _ ?_; clear hK K)
      (refine takeE (i := 15) rfl (by kernel_rfl) (by kernel_rfl) (by kernel_rfl) (fun _ _ _ _ h => h) hHeld (fun K hK => ?_); go_simp; refine hK _ ?_; clear hK K)
      refine wpAnyH_done (by kernel_rfl) ?_ _
      refine NoPanic.normal ?_
      clear hHeld z0 z1 hne HI HND
      go_wp2_with fail
      go_roundw
      case rel => exact ⟨i + 1, M, A9, c9, by have := hlt2.out; omega, by go_num, by first | rfl | trivial, Lib.hid (by rw [HP.out]; exact HM.out), by rw [HP.out]; exact HF9.out⟩
      case measure => have := hlt2.out; simp [intOf]; omega
    · obtain rfl : i = a.length := by omega
      have q2 : ¬ (a.length : Int) < a.length := by omega
      rw [List.take_length] at hO HN
      go_wp2_with fail
      go_ret
      exact ⟨A3, c3, by rw [hO.out]; rfl, ⟨by rw [hO.out]; exact HN.out.1, fun x hx => HN.out.2.1 x (by rw [hO.out] at hx; exact hx)⟩, HN.out.2.2⟩
end Go.Proofs.Ytkicnjbidbfajaa
