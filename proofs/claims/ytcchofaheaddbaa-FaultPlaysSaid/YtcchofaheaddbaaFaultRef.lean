/- Faults that may be, of any ones; the document's Push. -/
import Derived.Test.YtcchofaheaddbaaFaultMake
import Derived.Test.YtcchofaheaddbaaSlx
import Derived.Test.YtcchofaheaddbaaFast
import Derived.Test.YtcchofaheaddbaaHeld
import Derived.IntWalk
import Derived.Deep.RegionHeld3
import Derived.Deep.RegionLaw
namespace Go.Proofs.Ytcchofaheaddbaa
open Go.ChangeShapes Go.WideShapes Go.ChangeAt Go.RowKit
set_option linter.unusedVariables false
set_option linter.unusedSimpArgs false
def playF (f : Flt) : Flt := if 1 + bigS f.1 3 = 2 then (1 + bigS f.1 3, bigS f.2 300) else (1 + bigS f.1 3, 0)
theorem pfault_any (f : Flt) (w : World) :
    Calls Try.prog 11 #[fltV f] w fun e w' => e = .returned (fltV (playF f)) ∧ Below w.heap.size w w' := by
  obtain ⟨a, b⟩ := f
  have m1 := bigS_bd a 3 (by decide)
  have m2 := bigS_bd b 300 (by decide)
  have u1 : IntKind.i64.wrap (1 + bigS a 3) = 1 + bigS a 3 := IntWalk.i64_in _ (by omega)
  have hb : ∀ u0 u1 : Int, Below w.heap.size w ((w.alloc (.cells #[.int .i64 a, .int .i64 b] 23)).alloc (.cells #[.int .i64 u0, .int .i64 u1] 23)) := fun u0 u1 =>
    ((Below.refl _ _).alloc (Nat.le_refl _) _).alloc (by simp) _
  have HB := Lib.hid hb
  clear hb
  unfold fltV
  by_cases h2 : 1 + bigS a 3 = 2
  · have g1 : (1 + bigS a 3 == 2) = true := beq_iff_eq.2 h2
    have HP := Lib.hid (show playF (a, b) = (1 + bigS a 3, bigS b 300) by unfold playF; rw [if_pos h2])
    clear h2
    go_enter Try.func11, Try.ntmps11
    go_wp2_with (go_at_call 6; refine (mod_any _ _ _ (by omega) (by omega)).mono ?_; rintro e w' ⟨rfl, rfl⟩)
    exact bodyPost_ret (v := .agg #[.int .i64 (1 + bigS a 3), .int .i64 (bigS b 300)]) (by simp [results, Try.results11, go_sem]) rfl ⟨by rw [HP.out], HB.out _ _⟩
  · have g1 : (1 + bigS a 3 == 2) = false := beq_eq_false_iff_ne.2 h2
    have HP := Lib.hid (show playF (a, b) = (1 + bigS a 3, 0) by unfold playF; rw [if_neg h2])
    clear h2
    go_enter Try.func11, Try.ntmps11
    go_wp2_with (go_at_call 6; refine (mod_any _ _ _ (by omega) (by omega)).mono ?_; rintro e w' ⟨rfl, rfl⟩)
    exact bodyPost_ret (v := .agg #[.int .i64 (1 + bigS a 3), .int .i64 0]) (by simp [results, Try.results11, go_sem]) rfl ⟨by rw [HP.out], HB.out _ _⟩
/-- a list of faults, made since -/
def NwF (w0 w : World) (v : Value) (n : Nat) (xs : List Value) : Prop := Sl w 23 2 v n xs ∧ (∀ g, v.ownBlock = some g → w0.heap.size ≤ g ∧ g < w.heap.size) ∧ Below w0.heap.size w0 w
theorem nwf_app {w0 w w' : World} {v v' : Value} {n m : Nat} {xs ys : List Value} (h : NwF w0 w v n xs) (hS : Sl w' 23 2 v' (n + m) (xs ++ ys)) (hK : Keeps (fun k => v.ownBlock = some k) w w') (hO : v'.ownBlock = v.ownBlock ∨ ∃ g, v'.ownBlock = some g ∧ w.heap.size ≤ g ∧ g < w'.heap.size) : NwF w0 w' v' (n + m) (xs ++ ys) := by
  have hb := h.2.2.size
  refine ⟨hS, fun g hg => ?_, Keeps.below h.2.2 hK hb (fun x hx e => by have := h.2.1 x e; omega)⟩
  rcases hO with e | ⟨g', e, hg', hl⟩
  · rw [e] at hg
    have := h.2.1 g hg
    exact ⟨this.1, Nat.lt_of_lt_of_le this.2 hK.size⟩
  · rw [e] at hg
    injection hg with hg
    omega
theorem sl_one {w : World} {g : Nat} {a b : Int} (h : Blk w g 23 #[.int .i64 a, .int .i64 b]) : Sl w 23 2 (.slice (some ⟨g, 0, none⟩) 1 1) 1 [.int .i64 a, .int .i64 b] :=
  ⟨rfl, .inr ⟨g, 0, 1, _, rfl, h, Nat.le_refl _, by omega, by unfold maxLen; omega, by simp, fun j u hu => by rw [Nat.zero_add]; simpa using hu⟩⟩
theorem flt_one (l : List Flt) : ∀ u ∈ fltCells l, u.oneCell' = true := by
  intro u hu
  simp only [fltCells, List.mem_flatMap] at hu
  obtain ⟨f, _, hf⟩ := hu
  simp at hf
  rcases hf with rfl | rfl <;> rfl
theorem nwf_zero (w : World) : NwF w (w.alloc (.cells #[] 23)).drew (.slice (some ⟨w.heap.size, 0, none⟩) 0 0) 0 [] :=
  ⟨Sl.nil _ _ _ _, fun g hg => by simp [Value.ownBlock] at hg; subst hg; simp, ((Below.refl _ _).alloc (Nat.le_refl _) _).drew⟩
theorem nwf_zero1 (w : World) : NwF w (w.alloc (.cells #[] 23)) (.slice (some ⟨w.heap.size, 0, none⟩) 0 0) 0 [] :=
  ⟨Sl.nil _ _ _ _, fun g hg => by simp [Value.ownBlock] at hg; subst hg; simp, (Below.refl _ _).alloc (Nat.le_refl _) _⟩
theorem nwf_below {w0 w w' : World} {v : Value} {n : Nat} {xs : List Value} (h : NwF w0 w v n xs) (hb : Below w.heap.size w w') : NwF w0 w' v n xs :=
  ⟨h.1.below hb, fun g hg => ⟨(h.2.1 g hg).1, Nat.lt_of_lt_of_le (h.2.1 g hg).2 hb.size⟩, h.2.2.trans (hb.mono h.2.2.size)⟩
theorem nwf_mono {w1 w0 w : World} {v : Value} {n : Nat} {xs : List Value} (h : NwF w0 w v n xs) (hb : Below w1.heap.size w1 w0) : NwF w1 w v n xs :=
  ⟨h.1, fun g hg => ⟨Nat.le_trans hb.size (h.2.1 g hg).1, (h.2.1 g hg).2⟩, hb.trans (h.2.2.mono hb.size)⟩
def RPush (ps gs : List Flt) (v : Value) (w : World) (e : Ending) (w' : World) : Prop :=
  ∃ A c, e = .returned (.slice A (pushS ps gs).length c) ∧ Sl w' 23 2 (.slice A (pushS ps gs).length c) (pushS ps gs).length (fltCells (pushS ps gs)) ∧ (∀ g, (Value.slice A (pushS ps gs).length c).ownBlock = some g → v.ownBlock = some g ∨ w.heap.size ≤ g ∧ g < w'.heap.size) ∧ Below w.heap.size w w'
theorem round_ref {w w2 w4 : World} {ps gs xs : List Flt} {a b : Int} {k : Nat} {vo : Value} {A4 : Option Addr} {c4 : Nat} (hk : k + 1 ≤ gs.length) (hT : pushS ps (gs.take (k + 1)) = push1 xs (a, b)) (hN : push1 xs (a, b) = xs ++ [(a, b)]) (hb : Below w.heap.size w w2)
    (h : NwF w2 w4 (.slice A4 (0 + xs.length + 1) c4) (0 + xs.length + 1) ([] ++ fltCells xs ++ [.int .i64 a, .int .i64 b])) :
    ∃ (k' : Nat) (A1 : Option Addr) (c1 : Nat) (ys : List Flt), k' ≤ gs.length ∧ Value.int .i64 ((k : Int) + 1) = .int .i64 k' ∧ Value.slice A4 (0 + xs.length + 1) c4 = .slice A1 ys.length c1 ∧ Hid (ys = pushS ps (gs.take k')) ∧ Sl w4 23 2 (.slice A1 ys.length c1) ys.length (fltCells ys) ∧ Hid (∀ g, (Value.slice A1 ys.length c1).ownBlock = some g → vo.ownBlock = some g ∨ w.heap.size ≤ g ∧ g < w4.heap.size) ∧ Below w.heap.size w w4 := by
  have e : [] ++ fltCells xs ++ [.int .i64 a, .int .i64 b] = fltCells (xs ++ [(a, b)]) := by simp [fltCells]
  have el : 0 + xs.length + 1 = (xs ++ [(a, b)]).length := by simp
  rw [e, el] at h
  rw [el]
  exact ⟨k + 1, A4, c4, _, hk, by go_num, rfl, Lib.hid (by rw [hT, hN]), h.1, Lib.hid (fun g hg => .inr ⟨Nat.le_trans hb.size (h.2.1 g hg).1, (h.2.1 g hg).2⟩), hb.trans (h.2.2.mono hb.size)⟩
set_option maxRecDepth 100000 in
set_option maxHeartbeats 2000000 in
theorem rpush_any (v sl : Value) (ps gs : List Flt) (w : World) (h : Sl w 23 2 v ps.length (fltCells ps)) (hr : RdF w sl gs) (hps : ps.length ≤ 1024) (hgs : gs.length ≤ 1000) :
    Calls Try.prog 12 #[v, sl] w (RPush ps gs v w) := by
  obtain ⟨i0, hi0, hz0, hz1, hz2⟩ := info_parts info23
  obtain ⟨A0, c0, rfl, hc0, hm0⟩ := h.form
  obtain ⟨A, cap, rfl, hgl, hrd⟩ := hr
  unfold maxLen at hgl hm0
  have HR := Lib.hid hrd
  have H := Lib.hid h
  clear hrd h
  go_enter Try.func12, Try.ntmps12
  go_wp2_with fail
  go_loopw [0, 5] (fun s0 s5 wr => ∃ (k : Nat) (A1 : Option Addr) (c1 : Nat) (xs : List Flt), k ≤ gs.length ∧ s5 = .int .i64 k ∧ s0 = .slice A1 xs.length c1 ∧ Hid (xs = pushS ps (gs.take k)) ∧ Sl wr 23 2 (.slice A1 xs.length c1) xs.length (fltCells xs) ∧ Hid (∀ g, (Value.slice A1 xs.length c1).ownBlock = some g → (Value.slice A0 ps.length c0).ownBlock = some g ∨ w.heap.size ≤ g ∧ g < wr.heap.size) ∧ Below w.heap.size w wr) (fun _ s5 _ => gs.length - (intOf s5).toNat)
  case atStart => exact ⟨0, A0, c0, ps, by omega, rfl, rfl, Lib.hid (by simp [pushS]), H.out, Lib.hid (fun g hg => .inl hg), Below.refl _ _⟩
  case round =>
    obtain ⟨k, A1, c1, xs, hk, rfl, rfl, hX, hS, hO, hb⟩ := hrel
    have u1 : IntKind.i64.wrap ((k : Int) + 1) = (k : Int) + 1 := IntWalk.i64_in _ (by omega)
    obtain ⟨_, _, hvv, hc1, hm1⟩ := hS.form
    simp at hvv
    obtain ⟨rfl, rfl⟩ := hvv
    unfold maxLen at hm1
    have HS := Lib.hid hS
    have HB := Lib.hid hb
    clear hS hb
    have hx1 : xs.length ≤ 1024 := by rw [hX.out]; exact pushS_cap _ _ hps
    by_cases hlt : k < gs.length
    · obtain ⟨g, off, rfl, hg, hc⟩ := HR.out (by omega)
      have x0 : wr.cell? ⟨g, off + k * 2, none⟩ = some (.int .i64 gs[k].1) := (HB.out.cell (p := ⟨g, off + k * 2, none⟩) hg).trans (hc _ _ (fltCells_at gs k hlt).1)
      have x1 : wr.cell? ⟨g, off + k * 2 + 1, none⟩ = some (.int .i64 gs[k].2) := (HB.out.cell (p := ⟨g, off + k * 2 + 1, none⟩) hg).trans (hc _ _ (fltCells_at gs k hlt).2)
      have hgr : g < wr.heap.size := Nat.lt_of_lt_of_le hg HB.out.size
      have hq1 : (k : Int) < gs.length := by omega
      have hq0 : (0 : Int) ≤ k := by omega
      have HT := Lib.hid ((pushS_take ps gs k hlt).trans (by rw [← hX.out]))
      have hl2 := Lib.hid hlt
      generalize hf : gs[k] = f at *
      have hf2 := Lib.hid hf
      clear hf hc hlt
      obtain ⟨a, b⟩ := f
      simp only at x0 x1
      go_wp2_with fail
      refine (rmay_any (a, b) _).mono ?_
      rintro e w2 ⟨rfl, b2⟩
      have HB2 := Lib.hid (HB.out.trans (b2.mono HB.out.size))
      have HS2 := Lib.hid (HS.out.below b2)
      have HO2 := Lib.hid (show ∀ g, (Value.slice A1 xs.length c1).ownBlock = some g → (Value.slice A0 ps.length c0).ownBlock = some g ∨ w.heap.size ≤ g ∧ g < w2.heap.size from fun g hg => (hO.out g hg).imp id fun h => ⟨h.1, Nat.lt_of_lt_of_le h.2 b2.size⟩)
      have y0 := (b2.cell (p := ⟨g, off + k * 2, none⟩) hgr).trans x0
      have y1 := (b2.cell (p := ⟨g, off + k * 2 + 1, none⟩) hgr).trans x1
      have hg2 : g < w2.heap.size := Nat.lt_of_lt_of_le hgr b2.size
      clear x0 x1 hgr b2 HB HS hO
      by_cases hmay : mayF (a, b) = true
      · by_cases h10 : xs.length < 1024
        · have h10' : (xs.length : Int) < 1024 := by omega
          have HN := Lib.hid (show push1 xs (a, b) = xs ++ [(a, b)] by simp [push1, hmay, h10])
          go_upto_region 5 with fail
          have hS0 : Below w2.heap.size w2 w2.drew := (Below.refl _ _).drew
          have hne : Nonempty (WIn (Below w2.heap.size w2)) := ⟨⟨_, hS0⟩⟩
          have z0 : ∀ y : WIn (Below w2.heap.size w2), y.w.cell? ⟨g, off + k * 2, none⟩ = some (.int .i64 a) := fun y => (y.ok.cell (p := ⟨g, off + k * 2, none⟩) hg2).trans y0
          have z1 : ∀ y : WIn (Below w2.heap.size w2), y.w.cell? ⟨g, off + k * 2 + 1, none⟩ = some (.int .i64 b) := fun y => (y.ok.cell (p := ⟨g, off + k * 2 + 1, none⟩) hg2).trans y1
          have HS0 := Lib.hid hS0
          clear hS0 y0 y1
          refine wp_region_noPanic ?_
          refine wp_region_held_drew (S := Below w2.heap.size w2) (by kernel_rfl) HS0.out (fun hHeld => ?_)
          (refine takeE (i := 1) rfl (by kernel_rfl) (by kernel_rfl) (by kernel_rfl) (fun _ _ _ _ h => h) hHeld (fun K hK => ?_); go_simp; refine hK _ ?_; clear hK K)
          (refine takeE (i := 3) rfl (by kernel_rfl) (by kernel_rfl) (by kernel_rfl) (fun _ _ _ _ h => h) hHeld (fun K hK => ?_); go_simp; refine hK _ ?_; clear hK K)
          (refine takeE (i := 4) rfl (by kernel_rfl) (by kernel_rfl) (by kernel_rfl) (fun _ _ _ _ h => h) hHeld (fun K hK => ?_); go_simp; refine hK _ ?_; clear hK K)
          (refine takeE (i := 5) rfl (by kernel_rfl) (by kernel_rfl) (by kernel_rfl) (fun _ _ _ _ h => h) hHeld (fun K hK => ?_); go_simp; refine hK _ ?_; clear hK K)
          (refine takeE (i := 6) rfl (by kernel_rfl) (by kernel_rfl) (by kernel_rfl) (fun _ _ _ _ h => h) hHeld (fun K hK => ?_); go_simp; refine hK _ ?_; clear hK K)
          refine wpAnyH_ready (rs := [0, 7]) (by kernel_rfl) (by simp) ?_
          refine AllReadyH.cons rfl (fun K hK => ?_) (AllReadyH.cons rfl (fun K hK => ?_) AllReadyH.nil)
          · go_simp
            have hN := nwf_zero w2
            refine hK.out _ _ hN.2.2 (fun hHeld => ?_)
            try simp only [List.getElem_toArray, List.getElem_cons_succ, List.getElem_cons_zero, Act.put, List.setIfInBounds_toArray, List.set_cons_zero, List.set_cons_succ]
            have N1 := Lib.hid hN
            clear hK K hN
            generalize World.drew (World.alloc w2 _) = W1 at *
            refine wpAnyH_ready (rs := [2, 7]) (by kernel_rfl) (by simp) ?_
            refine AllReadyH.cons rfl (fun K hK => ?_) (AllReadyH.cons rfl (fun K hK => ?_) AllReadyH.nil)
            · refine step_append_sls (by rfl) (.tmp 22) (.tmp 23) _ (by rfl) 23 i0 _ 2 16 Try.underlying32 hi0 hz0 hz1 hz2 rfl (by omega) _ 0 [] (by rfl) N1.out.1 _ xs.length (fltCells xs) (by rfl) (HS2.out.below N1.out.2.2) (flt_one xs) (by unfold maxLen; omega) (by omega) ?_
              intro v2 W2 hS hK2 hO2
              have hN := nwf_app N1.out hS hK2 hO2
              refine hK.out _ _ hN.2.2 (fun hHeld => ?_)
              try simp only [List.getElem_toArray, List.getElem_cons_succ, List.getElem_cons_zero, Act.put, List.setIfInBounds_toArray, List.set_cons_zero, List.set_cons_succ]
              have N2 := Lib.hid hN
              clear hK K hN hS hK2 hO2 N1
              refine wpAnyH_ready (rs := [7]) (by kernel_rfl) (by simp) ?_
              refine AllReadyH.cons rfl (fun K hK => ?_) AllReadyH.nil
              go_simp
              have hb3 : Below W2.heap.size W2 (W2.alloc (.cells #[.int .i64 a, .int .i64 b] 23)) := (Below.refl _ _).alloc (Nat.le_refl _) _
              have hN := nwf_below N2.out hb3
              refine hK.out _ _ hN.2.2 (fun hHeld => ?_)
              try simp only [List.getElem_toArray, List.getElem_cons_succ, List.getElem_cons_zero, Act.put, List.setIfInBounds_toArray, List.set_cons_zero, List.set_cons_succ]
              have HX := Lib.hid (show Blk (W2.alloc (.cells #[.int .i64 a, .int .i64 b] 23)) W2.heap.size 23 #[.int .i64 a, .int .i64 b] from heap_alloc_new W2 _)
              clear N2
              have N2 := Lib.hid hN
              clear hK K hN hb3
              generalize World.alloc W2 _ = W3 at *
              refine wpAnyH_ready (rs := [8]) (by kernel_rfl) (by simp) ?_
              refine AllReadyH.cons rfl (fun K hK => ?_) AllReadyH.nil
              refine step_append_sls (by rfl) (.tmp 24) (.tmp 29) _ (by rfl) 23 i0 _ 2 16 Try.underlying32 hi0 hz0 hz1 hz2 rfl (by omega) _ (0 + xs.length) ([] ++ fltCells xs) (by rfl) N2.out.1 _ 1 [.int .i64 a, .int .i64 b] (by rfl) (sl_one HX.out) (by simp [Value.oneCell']) (by unfold maxLen; omega) (by omega) ?_
              intro v4 W4 hS hK2 hO2
              have hN := nwf_app N2.out hS hK2 hO2
              refine hK.out _ _ hN.2.2 (fun hHeld => ?_)
              try simp only [List.getElem_toArray, List.getElem_cons_succ, List.getElem_cons_zero, Act.put, List.setIfInBounds_toArray, List.set_cons_zero, List.set_cons_succ]
              have N3 := Lib.hid hN
              clear hK K hN hS hK2 hO2 N2 HX
              refine wpAnyH_ready (rs := [9]) (by kernel_rfl) (by simp) ?_
              refine AllReadyH.cons rfl (fun K hK => ?_) AllReadyH.nil
              go_simp
              refine hK.out _ _ hHeld (fun hHeld => ?_)
              try simp only [List.getElem_toArray, List.getElem_cons_succ, List.getElem_cons_zero, Act.put, List.setIfInBounds_toArray, List.set_cons_zero, List.set_cons_succ]
              clear hK K
              refine wpAnyH_done (by kernel_rfl) ?_ _
              refine NoPanic.normal ?_
              clear hHeld z0 z1 hne HS0
              obtain ⟨A4, c4, rfl, _, _⟩ := N3.out.1.form
              go_wp2_with fail
              go_roundw
              case rel => exact round_ref (by have := hl2.out; omega) HT.out HN.out HB2.out N3.out
              case measure => have := hl2.out; simp [intOf]; omega
            · go_simp
              have hb3 : Below W1.heap.size W1 (W1.alloc (.cells #[.int .i64 a, .int .i64 b] 23)) := (Below.refl _ _).alloc (Nat.le_refl _) _
              have hN := nwf_below N1.out hb3
              refine hK.out _ _ hN.2.2 (fun hHeld => ?_)
              try simp only [List.getElem_toArray, List.getElem_cons_succ, List.getElem_cons_zero, Act.put, List.setIfInBounds_toArray, List.set_cons_zero, List.set_cons_succ]
              have HX := Lib.hid (show Blk (W1.alloc (.cells #[.int .i64 a, .int .i64 b] 23)) W1.heap.size 23 #[.int .i64 a, .int .i64 b] from heap_alloc_new W1 _)
              have HNE := Lib.hid (show w2.heap.size < W1.heap.size from (N1.out.2.1 w2.heap.size rfl).2)
              clear N1
              have N1 := Lib.hid hN
              clear hK K hN hb3
              generalize World.alloc W1 _ = W2 at *
              refine wpAnyH_ready (rs := [2]) (by kernel_rfl) (by simp) ?_
              refine AllReadyH.cons rfl (fun K hK => ?_) AllReadyH.nil
              refine step_append_sls (by rfl) (.tmp 22) (.tmp 23) _ (by rfl) 23 i0 _ 2 16 Try.underlying32 hi0 hz0 hz1 hz2 rfl (by omega) _ 0 [] (by rfl) N1.out.1 _ xs.length (fltCells xs) (by rfl) (HS2.out.below N1.out.2.2) (flt_one xs) (by unfold maxLen; omega) (by omega) ?_
              intro v2 W3 hS hK2 hO2
              have hN := nwf_app N1.out hS hK2 hO2
              refine hK.out _ _ hN.2.2 (fun hHeld => ?_)
              try simp only [List.getElem_toArray, List.getElem_cons_succ, List.getElem_cons_zero, Act.put, List.setIfInBounds_toArray, List.set_cons_zero, List.set_cons_succ]
              have N2 := Lib.hid hN
              have HX2 := Lib.hid (show Blk W3 W1.heap.size 23 #[.int .i64 a, .int .i64 b] from hK2.at_ HX.out (fun e => by simp [Value.ownBlock] at e; have := HNE.out; omega))
              clear HX
              have HX := HX2
              clear hK K hN hS hK2 hO2 N1 HNE HX2
              refine wpAnyH_ready (rs := [8]) (by kernel_rfl) (by simp) ?_
              refine AllReadyH.cons rfl (fun K hK => ?_) AllReadyH.nil
              refine step_append_sls (by rfl) (.tmp 24) (.tmp 29) _ (by rfl) 23 i0 _ 2 16 Try.underlying32 hi0 hz0 hz1 hz2 rfl (by omega) _ (0 + xs.length) ([] ++ fltCells xs) (by rfl) N2.out.1 _ 1 [.int .i64 a, .int .i64 b] (by rfl) (sl_one HX.out) (by simp [Value.oneCell']) (by unfold maxLen; omega) (by omega) ?_
              intro v4 W4 hS hK2 hO2
              have hN := nwf_app N2.out hS hK2 hO2
              refine hK.out _ _ hN.2.2 (fun hHeld => ?_)
              try simp only [List.getElem_toArray, List.getElem_cons_succ, List.getElem_cons_zero, Act.put, List.setIfInBounds_toArray, List.set_cons_zero, List.set_cons_succ]
              have N3 := Lib.hid hN
              clear hK K hN hS hK2 hO2 N2 HX
              refine wpAnyH_ready (rs := [9]) (by kernel_rfl) (by simp) ?_
              refine AllReadyH.cons rfl (fun K hK => ?_) AllReadyH.nil
              go_simp
              refine hK.out _ _ hHeld (fun hHeld => ?_)
              try simp only [List.getElem_toArray, List.getElem_cons_succ, List.getElem_cons_zero, Act.put, List.setIfInBounds_toArray, List.set_cons_zero, List.set_cons_succ]
              clear hK K
              refine wpAnyH_done (by kernel_rfl) ?_ _
              refine NoPanic.normal ?_
              clear hHeld z0 z1 hne HS0
              obtain ⟨A4, c4, rfl, _, _⟩ := N3.out.1.form
              go_wp2_with fail
              go_roundw
              case rel => exact round_ref (by have := hl2.out; omega) HT.out HN.out HB2.out N3.out
              case measure => have := hl2.out; simp [intOf]; omega
          · go_simp
            have hb1 : Below w2.heap.size w2 (w2.alloc (.cells #[.int .i64 a, .int .i64 b] 23)).drew := ((Below.refl _ _).alloc (Nat.le_refl _) _).drew
            have HX := Lib.hid (show Blk (w2.alloc (.cells #[.int .i64 a, .int .i64 b] 23)).drew w2.heap.size 23 #[.int .i64 a, .int .i64 b] from heap_alloc_new w2 _)
            refine hK.out _ _ hb1 (fun hHeld => ?_)
            try simp only [List.getElem_toArray, List.getElem_cons_succ, List.getElem_cons_zero, Act.put, List.setIfInBounds_toArray, List.set_cons_zero, List.set_cons_succ]
            have HB1 := Lib.hid hb1
            clear hK K hb1
            generalize World.drew (World.alloc w2 _) = W1 at *
            refine wpAnyH_ready (rs := [0]) (by kernel_rfl) (by simp) ?_
            refine AllReadyH.cons rfl (fun K hK => ?_) AllReadyH.nil
            go_simp
            have hN := nwf_mono (nwf_zero1 W1) HB1.out
            refine hK.out _ _ hN.2.2 (fun hHeld => ?_)
            try simp only [List.getElem_toArray, List.getElem_cons_succ, List.getElem_cons_zero, Act.put, List.setIfInBounds_toArray, List.set_cons_zero, List.set_cons_succ]
            have N1 := Lib.hid hN
            have HNE := Lib.hid (HX.out.lt)
            have HX2 := Lib.hid (HX.out.below (nwf_zero1 W1).2.2 HX.out.lt)
            clear HX
            have HX := HX2
            clear hK K hN HB1 HX2
            generalize World.alloc W1 _ = W2 at *
            refine wpAnyH_ready (rs := [2]) (by kernel_rfl) (by simp) ?_
            refine AllReadyH.cons rfl (fun K hK => ?_) AllReadyH.nil
            refine step_append_sls (by rfl) (.tmp 22) (.tmp 23) _ (by rfl) 23 i0 _ 2 16 Try.underlying32 hi0 hz0 hz1 hz2 rfl (by omega) _ 0 [] (by rfl) N1.out.1 _ xs.length (fltCells xs) (by rfl) (HS2.out.below N1.out.2.2) (flt_one xs) (by unfold maxLen; omega) (by omega) ?_
            intro v2 W3 hS hK2 hO2
            have hN := nwf_app N1.out hS hK2 hO2
            refine hK.out _ _ hN.2.2 (fun hHeld => ?_)
            try simp only [List.getElem_toArray, List.getElem_cons_succ, List.getElem_cons_zero, Act.put, List.setIfInBounds_toArray, List.set_cons_zero, List.set_cons_succ]
            have N2 := Lib.hid hN
            have HX2 := Lib.hid (show Blk W3 w2.heap.size 23 #[.int .i64 a, .int .i64 b] from hK2.at_ HX.out (fun e => by simp [Value.ownBlock] at e; have := HNE.out; omega))
            clear HX
            have HX := HX2
            clear hK K hN hS hK2 hO2 N1 HNE HX2
            refine wpAnyH_ready (rs := [8]) (by kernel_rfl) (by simp) ?_
            refine AllReadyH.cons rfl (fun K hK => ?_) AllReadyH.nil
            refine step_append_sls (by rfl) (.tmp 24) (.tmp 29) _ (by rfl) 23 i0 _ 2 16 Try.underlying32 hi0 hz0 hz1 hz2 rfl (by omega) _ (0 + xs.length) ([] ++ fltCells xs) (by rfl) N2.out.1 _ 1 [.int .i64 a, .int .i64 b] (by rfl) (sl_one HX.out) (by simp [Value.oneCell']) (by unfold maxLen; omega) (by omega) ?_
            intro v4 W4 hS hK2 hO2
            have hN := nwf_app N2.out hS hK2 hO2
            refine hK.out _ _ hN.2.2 (fun hHeld => ?_)
            try simp only [List.getElem_toArray, List.getElem_cons_succ, List.getElem_cons_zero, Act.put, List.setIfInBounds_toArray, List.set_cons_zero, List.set_cons_succ]
            have N3 := Lib.hid hN
            clear hK K hN hS hK2 hO2 N2 HX
            refine wpAnyH_ready (rs := [9]) (by kernel_rfl) (by simp) ?_
            refine AllReadyH.cons rfl (fun K hK => ?_) AllReadyH.nil
            go_simp
            refine hK.out _ _ hHeld (fun hHeld => ?_)
            try simp only [List.getElem_toArray, List.getElem_cons_succ, List.getElem_cons_zero, Act.put, List.setIfInBounds_toArray, List.set_cons_zero, List.set_cons_succ]
            clear hK K
            refine wpAnyH_done (by kernel_rfl) ?_ _
            refine NoPanic.normal ?_
            clear hHeld z0 z1 hne HS0
            obtain ⟨A4, c4, rfl, _, _⟩ := N3.out.1.form
            go_wp2_with fail
            go_roundw
            case rel => exact round_ref (by have := hl2.out; omega) HT.out HN.out HB2.out N3.out
            case measure => have := hl2.out; simp [intOf]; omega
        · have h10' : ¬ (xs.length : Int) < 1024 := by omega
          have HN := Lib.hid (show push1 xs (a, b) = xs by simp [push1, h10])
          go_wp2_with fail
          go_roundw
          case rel => exact ⟨k + 1, A1, c1, xs, by have := hl2.out; omega, by go_num, rfl, Lib.hid (by rw [HT.out, HN.out]), HS2.out, HO2, HB2.out⟩
          case measure => have := hl2.out; simp [intOf]; omega
      · have hmay' : mayF (a, b) = false := by simpa using hmay
        have HN := Lib.hid (show push1 xs (a, b) = xs by simp [push1, hmay'])
        clear hmay
        go_wp2_with fail
        go_roundw
        case rel => exact ⟨k + 1, A1, c1, xs, by have := hl2.out; omega, by go_num, rfl, Lib.hid (by rw [HT.out, HN.out]), HS2.out, HO2, HB2.out⟩
        case measure => have := hl2.out; simp [intOf]; omega
    · obtain rfl : k = gs.length := by omega
      have HE := Lib.hid (show RPush ps gs (.slice A0 ps.length c0) w (.returned (.slice A1 xs.length c1)) wr from by
        have e : xs = pushS ps gs := by rw [hX.out, List.take_length]
        subst e
        exact ⟨A1, c1, rfl, HS.out, hO.out, HB.out⟩)
      clear hO
      go_wp2_with fail
      go_ret
      exact HE.out
end Go.Proofs.Ytcchofaheaddbaa
