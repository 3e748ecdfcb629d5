/- The law qanat/qanatlaw17.FaultPlays returns true for all arguments of its types; no condition. -/
import Derived.Test.YtcchofaheaddbaaFaultTwo
import Derived.Test.YtcchofaheaddbaaArgs
import Derived.WalkKit
import Derived.ProofKit
import Derived.OpenShut
import Derived.WideKeyArgs
import Derived.ChangeMaps5
namespace Go.Proofs.Ytcchofaheaddbaa.faultPlays
open Go.ChangeShapes Go.WideShapes Go.ChangeAt Go.RowKit
open Go.ChangeMaps (open_string shut_string)
set_option linter.unusedVariables false
set_option linter.unusedSimpArgs false
theorem own : ownKnob Try.prog.godebug = none := by kernel_rfl
theorem laidOut : laidOutB Try.prog = true := by kernel_rfl
theorem nwf_one {w0 w w' : World} {v v' : Value} {n : Nat} {xs : List Value} {a b : Value} (h : NwF w0 w v n xs) (hS : Sl w' 23 2 v' (n + 1) (xs ++ [a, b])) (hK : Keeps (fun k => v.ownBlock = some k) w w') (hO : v'.ownBlock = v.ownBlock ∨ ∃ g, v'.ownBlock = some g ∧ w.heap.size ≤ g) : NwF w0 w' v' (n + 1) (xs ++ [a, b]) :=
  nwf_app h hS hK (hO.imp id fun ⟨g, e, hg⟩ => ⟨g, e, hg, by
    obtain ⟨g2, off2, cap2, hv, _, _, hlt, _⟩ := hS.at_ (by omega)
    rw [hv] at e
    injection e with e
    subst e
    exact hlt⟩)
theorem nwf_store {w0 w : World} {v : Value} {n g : Nat} {xs : List Value} (h : NwF w0 w v n xs) (hg : w0.heap.size ≤ g) (hne : v.ownBlock ≠ some g) (i : Nat) (u : Value) : NwF w0 (w.setCell ⟨g, i, none⟩ u) v n xs := by
  have hk : Keeps (· = g) w (w.setCell ⟨g, i, none⟩ u) := (Keeps.refl (· = g) w).setCell (p := ⟨g, i, none⟩) rfl _
  exact ⟨h.1.keeps hk (fun x hx e => hne (by rw [hx, e])), fun x hx => ⟨(h.2.1 x hx).1, Nat.lt_of_lt_of_le (h.2.1 x hx).2 hk.size⟩, Keeps.below h.2.2 hk h.2.2.size (fun x hx e => by omega)⟩

set_option maxRecDepth 100000 in
set_option maxHeartbeats 3000000 in
theorem walk {H : Type} {enc : TypeId × Value → H} (w : World) {base : Nat} (v0 : Value) (d0 : DataW H) (p0 : List MemPlace) (o0 : Value.okWide Try.prog w .any base 28 v0) (h0 : DataW.Trod enc Try.prog w 0 (fun _ => true) true 28 v0 d0 p0) (l0 : ∀ x ∈ p0, x.block < w.heap.size) (v1 : Value) (d1 : DataW H) (p1 : List MemPlace) (o1 : Value.okWide Try.prog w .any base 29 v1) (h1 : DataW.Trod enc Try.prog w 0 (fun _ => true) true 29 v1 d1 p1) (l1 : ∀ x ∈ p1, x.block < w.heap.size) :
    Calls Try.prog 4 #[v0, v1] w fun e w' => e = .returned (.bool true) ∧ Below w.heap.size w w' := by
  obtain ⟨A0, len, cap0, V, G, rfl, hlc, hcm, hat⟩ := open_nested (P := Try.prog) (fun u l => RdF w u l) Try.underlying28 (by kernel_rfl) (fun u fuel x hx => flts_of_trod Try.underlying32 Try.underlying23 (by kernel_rfl) (by kernel_rfl) (by rfl) (fun f hf => by simp at hf; subst hf; exact Try.underlying3) (fun f hf => by simp at hf; subst hf; exact Try.underlying3) hx) o0 h0
  obtain ⟨A1, tl, cap1, B, rfl, hlc1, hcm1, hat1⟩ := open_bools (P := Try.prog) Try.underlying29 Try.underlying4 (by kernel_rfl) o1 h1
  obtain ⟨i0, hi0, hz0, hz1, hz2⟩ := info_parts info23
  unfold maxLen at hcm hcm1
  have HAT := Lib.hid hat
  have HBT := Lib.hid hat1
  clear hat hat1 h0 l0 o0 h1 l1 o1
  go_enter Try.func4, Try.ntmps4
  go_wp2_with fail
  refine (new_any w).mono ?_
  rintro e w1 ⟨rfl, h1, b1⟩
  have T1 := Lib.hid (two_new w h1 b1)
  clear h1 b1
  obtain ⟨p, hp⟩ : ∃ p, w.heap.size = p := ⟨_, rfl⟩
  rw [hp] at T1 ⊢
  have HP := Lib.hid hp
  clear hp
  go_wp2_with fail
  go_loopw [6, 7, 8, 9, 10, 11, 12, 13] (fun s6 s7 s8 s9 s10 s11 s12 s13 wr => ∃ (i : Nat) (A6 : Option Addr) (c6 : Nat) (l : List Flt) (pv : Value), i ≤ len ∧ i ≤ 30 ∧ s7 = .int .i64 i ∧ s6 = .slice A6 l.length c6 ∧ Two w p pv (.slice A6 l.length c6) l l wr) (fun _ s7 _ _ _ _ _ _ _ => 30 - (intOf s7).toNat)
  case atStart => exact ⟨0, none, 0, [], .slice none 0 0, by omega, by omega, rfl, rfl, T1.out⟩
  case round =>
    clear T1
    obtain ⟨i, A6, c6, l, pv, hi1, hi2, rfl, rfl, hT⟩ := hrel
    have u1 : IntKind.i64.wrap ((i : Int) + 1) = (i : Int) + 1 := IntWalk.i64_in _ (by omega)
    have HT := Lib.hid hT
    clear hT
    by_cases hlt : i < len ∧ i < 30
    · obtain ⟨b, off, rfl, hb, hcell⟩ := HAT.out (by omega)
      obtain ⟨k0, hrd⟩ := hcell i hlt.1
      obtain ⟨Ai, ci, hV, hgl, hrd2⟩ := hrd
      rw [hV] at k0
      have HRd := Lib.hid hrd2
      unfold maxLen at hgl
      generalize G i = gs at *
      have k0r := (HT.out.low.cell (p := ⟨b, off + i, none⟩) hb).trans k0
      have q1 : (i : Int) < len := by omega
      have q2 : (i : Int) < 30 := by omega
      have q3 : (0 : Int) ≤ i := by omega
      have HQ := Lib.hid hlt
      clear hlt hcell hV hrd2
      rename World => wo
      go_wp2_with fail
      go_loopw [8, 9, 10] (fun s8 s9 s10 wx => ∃ (k : Nat) (A8 : Option Addr) (c8 : Nat) (ins : List Flt), k ≤ gs.length ∧ k ≤ 30 ∧ s9 = .int .i64 k ∧ s8 = .slice A8 k c8 ∧ Hid (ins.length = k) ∧ NwF wo wx (.slice A8 k c8) k (fltCells ins)) (fun _ s9 _ _ => 30 - (intOf s9).toNat)
      case atStart => exact ⟨0, none, 0, [], by omega, by omega, rfl, rfl, Lib.hid rfl, Sl.nil _ _ _ _, by simp [Value.ownBlock], Below.refl _ _⟩
      case round =>
        clear k0r
        obtain ⟨k, A8, c8, ins, hk1, hk2, rfl, rfl, hil, hN⟩ := hrel
        have v1 : IntKind.i64.wrap ((k : Int) + 1) = (k : Int) + 1 := IntWalk.i64_in _ (by omega)
        have HN := Lib.hid hN
        have HBW := Lib.hid (HT.out.low.trans (hN.2.2.mono HT.out.low.size))
        clear hN
        have k1 := (HBW.out.cell (p := ⟨b, off + i, none⟩) hb).trans k0
        by_cases hlt2 : k < gs.length ∧ k < 30
        · have HQ2 := Lib.hid hlt2
          have r1 : (k : Int) < gs.length := by omega
          have r2 : (k : Int) < 30 := by omega
          have r3 : (0 : Int) ≤ k := by omega
          obtain ⟨g, o, rfl, hg, hc⟩ := HRd.out (by omega)
          have x0 : wr.cell? ⟨g, o + k * 2, none⟩ = some (.int .i64 gs[k].1) := (HBW.out.cell (p := ⟨g, o + k * 2, none⟩) hg).trans (hc _ _ (fltCells_at gs k hlt2.1).1)
          have x1 : wr.cell? ⟨g, o + k * 2 + 1, none⟩ = some (.int .i64 gs[k].2) := (HBW.out.cell (p := ⟨g, o + k * 2 + 1, none⟩) hg).trans (hc _ _ (fltCells_at gs k hlt2.1).2)
          generalize gs[k].1 = fa at *
          generalize gs[k].2 = fb at *
          clear hc hlt2
          have HN3 := Lib.hid (nwf_below HN.out ((Below.refl _ _).alloc (Nat.le_refl _) (.cells #[.int .i64 fa, .int .i64 fb] 23)))
          have HX3 := Lib.hid (show Blk (wr.alloc (.cells #[.int .i64 fa, .int .i64 fb] 23)) wr.heap.size 23 #[.int .i64 fa, .int .i64 fb] from heap_alloc_new wr _)
          have HZ := Lib.hid (show wo.heap.size ≤ wr.heap.size ∧ (Value.slice A8 k c8).ownBlock ≠ some wr.heap.size from ⟨HN.out.2.2.size, fun e => by have := (HN.out.2.1 _ e).2; omega⟩)
          go_upto_region 13 with fail
          clear HN x0 x1 HBW k1
          generalize wr.heap.size = q at *
          generalize World.alloc wr _ = W at *
          have x2 := HX3.out.cell 0
          have x3 := HX3.out.cell 1
          simp at x2 x3
          by_cases h3 : 0 < (k : Int) % 3
          · go_wp2_with fail
            refine (pfault_any (fa, fb) _).mono ?_
            rintro e w9 ⟨rfl, b9⟩
            obtain ⟨fa2, fb2⟩ := playF (fa, fb)
            have HN4a := Lib.hid (nwf_below HN3.out b9)
            have HX4 := Lib.hid (HX3.out.below b9 HX3.out.lt)
            clear x2 x3 HN3 HX3 b9
            have x2 := HX4.out.cell 0
            have x3 := HX4.out.cell 1
            simp at x2 x3
            have fz := fun j => HX4.out.frozen j
            have HN4 := Lib.hid (show NwF wo ((w9.setCell ⟨q, 0, none⟩ (.int .i64 fa2)).setCell ⟨q, 1, none⟩ (.int .i64 fb2)) (.slice A8 k c8) k (fltCells ins) from nwf_store (nwf_store HN4a.out HZ.out.1 HZ.out.2 _ _) HZ.out.1 HZ.out.2 _ _)
            have HX5 := Lib.hid ((HX4.out.set_ 0 (.int .i64 fa2)).set_ 1 (.int .i64 fb2))
            simp only [fltV]
            go_upto_region 15 with fail
            clear HN4a HX4 fz x2 x3
            generalize World.setCell _ ⟨q, 1, none⟩ _ = W5 at *
            have x2 := HX5.out.cell 0
            have x3 := HX5.out.cell 1
            simp at x2 x3
            go_wp2_with (refine wpList_append_sl (by rfl) (.tmp 57) (.tmp 59) _ (by rfl) 23 i0 _ 2 16 Try.underlying32 hi0 hz0 hz1 hz2 rfl (by omega) _ k (fltCells ins) (by rfl) (HN4.out.1.alloc _) _ 1 1 [.int .i64 fa2, .int .i64 fb2] (by rfl) (by rfl) (World.news_of_block (cs := #[.int .i64 fa2, .int .i64 fb2]) (t := 23) (fr := (0, 0)) (heap_alloc_new _ _)) (by simp [Value.oneCell']) (by omega) (by unfold maxLen; omega) (by omega) ?_; intro v9 w9 hS hK hO; obtain ⟨A9, c9, rfl, _, _⟩ := hS.form; have N9 := Lib.hid (nwf_one (nwf_below HN4.out ((Below.refl _ _).alloc (Nat.le_refl _) _)) hS hK hO); clear hS hK hO)
            go_roundw
            case rel => exact ⟨k + 1, A9, c9, ins ++ [(fa2, fb2)], by have := HQ2.out; omega, by have := HQ2.out; omega, by go_num, rfl, Lib.hid (by rw [List.length_append, hil.out]; rfl), by have := N9.out; simpa [fltCells] using this⟩
            case measure => have := HQ2.out; simp [intOf]; omega
          · have HN4 := HN3
            clear HN3
            go_wp2_with (refine wpList_append_sl (by rfl) (.tmp 57) (.tmp 59) _ (by rfl) 23 i0 _ 2 16 Try.underlying32 hi0 hz0 hz1 hz2 rfl (by omega) _ k (fltCells ins) (by rfl) (HN4.out.1.alloc _) _ 1 1 [.int .i64 fa, .int .i64 fb] (by rfl) (by rfl) (World.news_of_block (cs := #[.int .i64 fa, .int .i64 fb]) (t := 23) (fr := (0, 0)) (heap_alloc_new _ _)) (by simp [Value.oneCell']) (by omega) (by unfold maxLen; omega) (by omega) ?_; intro v9 w9 hS hK hO; obtain ⟨A9, c9, rfl, _, _⟩ := hS.form; have N9 := Lib.hid (nwf_one (nwf_below HN4.out ((Below.refl _ _).alloc (Nat.le_refl _) _)) hS hK hO); clear hS hK hO)
            go_roundw
            case rel => exact ⟨k + 1, A9, c9, ins ++ [(fa, fb)], by have := HQ2.out; omega, by have := HQ2.out; omega, by go_num, rfl, Lib.hid (by rw [List.length_append, hil.out]; rfl), by have := N9.out; simpa [fltCells] using this⟩
            case measure => have := HQ2.out; simp [intOf]; omega
        · have hex : (¬ (k : Int) < gs.length) ∨ ((k : Int) < gs.length ∧ ¬ (k : Int) < 30) := by omega
          obtain rfl : ins.length = k := hil.out
          have T2 := Lib.hid (HT.out.below HN.out.2.2)
          have HD := Lib.hid (show (Value.slice A8 ins.length c8).ownBlock ≠ some p ∧ ∀ g, pv.ownBlock = some g → (Value.slice A8 ins.length c8).ownBlock ≠ some g from ⟨fun e => by have := (HN.out.2.1 _ e).1; have := lt_of_block HT.out.plan.1; omega, fun g hg e => by have := (HN.out.2.1 _ e).1; have := HT.out.plan.2.2.2 g hg; omega⟩)
          have HR1 := Lib.hid (rdf_of_sl HN.out.1)
          clear HN HT HBW hil hlt2 k0 HRd
          rcases hex with g1 | ⟨g1, g2⟩
          all_goals
            go_upto_region 17 with fail
            clear k1
            try clear g1
            try clear g2
            go_wp2_with fail
            refine (two_rpush _ ins T2.out HR1.out (by omega)).mono ?_
            rintro e w3 ⟨A7, c7, rfl, t3, b3⟩
            have hL1 := (pushS_len l ins).1
            have hL2 := t3.le.2
            have T3 := Lib.hid t3
            have HR3 := Lib.hid (RdF.keeps HR1.out (Keeps.of_below (S := fun _ => False) b3) (fun _ _ h => h))
            clear t3 b3 T2 HR1
            go_wp2_with fail
            refine (two_push _ ins T3.out HR3.out HD.out.1 HD.out.2).mono ?_
            rintro e w4 ⟨rfl, pv4, t4⟩
            have T4 := Lib.hid t4
            clear t4 T3 HR3 HD
            generalize pushS l ins = L at *
            have u2 : IntKind.i64.wrap ((L.length : Int) - l.length) = (L.length : Int) - l.length := IntWalk.i64_in _ (by omega)
            go_wp2_with fail
            refine (len_any p pv4 L w4 T4.out.plan).mono ?_
            rintro e w5 ⟨rfl, rfl⟩
            go_wp2_with fail
            go_loopw [6, 12, 13] (fun s6 s12 s13 wx => ∃ (A9 : Option Addr) (c9 : Nat) (l9 : List Flt) (pv9 : Value), s6 = .slice A9 l9.length c9 ∧ Two w p pv9 (.slice A9 l9.length c9) l9 l9 wx) (fun s6 _ _ _ => lenV s6)
            case atStart => exact ⟨A7, c7, L, pv4, rfl, T4.out⟩
            case round =>
              clear T4 hL1 hL2 u2
              obtain ⟨A9, c9, l9, pv9, rfl, hT9⟩ := hrel
              have T9 := Lib.hid hT9
              clear hT9
              by_cases h1 : i < tl
              · obtain ⟨bb, ob, rfl, hbb, hbc⟩ := HBT.out (by omega)
                have y0 := (T9.out.low.cell (p := ⟨bb, ob + i, none⟩) hbb).trans (hbc i h1)
                have h1' : (i : Int) < tl := by omega
                clear hbc h1
                generalize B i = bi at *
                cases bi with
                | false =>
                  go_wp2_with fail
                  go_roundw
                  case rel => exact ⟨i + 1, A9, c9, l9, pv9, by have := HQ.out; omega, by have := HQ.out; omega, by go_num, rfl, T9.out⟩
                  case measure => have := HQ.out; simp [intOf]; omega
                | true =>
                  by_cases h2 : 2 < l9.length
                  · obtain ⟨f, l2, rfl⟩ : ∃ f l2, l9 = f :: l2 := by
                      cases l9 with
                      | nil => simp at h2
                      | cons f l2 => exact ⟨f, l2, rfl⟩
                    obtain ⟨fa, fb⟩ := f
                    simp only [List.length_cons] at T9 h2 ⊢
                    have h3 : (2 : Int) < (l2.length : Int) + 1 := by omega
                    obtain ⟨g, o, c, hv, hcl, _, _, _, _⟩ := T9.out.x.at_ (by simp)
                    simp at hv hcl
                    obtain ⟨rfl, rfl⟩ := hv
                    have hc1 : ¬ c9 = 1 := by omega
                    have hm1 := T9.out.x.form
                    go_upto_region 21 with fail
                    go_wp2_with fail
                    refine (two_next T9.out).mono ?_
                    rintro e w5 ⟨rfl, pv5, t5⟩
                    have hX := Lib.hid (show Blk (w5.alloc (.cells #[.int .i64 fa, .int .i64 fb] 23)) w5.heap.size 23 #[.int .i64 fa, .int .i64 fb] from heap_alloc_new w5 _)
                    have T5 := Lib.hid (t5.below ((Below.refl _ _).alloc (Nat.le_refl _) (.cells #[.int .i64 fa, .int .i64 fb] 23)))
                    clear t5 T9 y0
                    simp only [fltV]
                    go_upto_region 22 with fail
                    generalize w5.heap.size = q at *
                    generalize World.alloc w5 _ = W at *
                    have hX0 := hX.out.cell 0
                    have hX1 := hX.out.cell 1
                    simp at hX0 hX1
                    have hS0 : Below W.heap.size W W.drew := (Below.refl _ _).drew
                    have hne : Nonempty (WIn (Below W.heap.size W)) := ⟨⟨_, hS0⟩⟩
                    have z0 : ∀ y : WIn (Below W.heap.size W), y.w.cell? ⟨q, 0, none⟩ = some (.int .i64 fa) := fun y => (y.ok.cell (p := ⟨q, 0, none⟩) hX.out.lt).trans hX0
                    have z1 : ∀ y : WIn (Below W.heap.size W), y.w.cell? ⟨q, 1, none⟩ = some (.int .i64 fb) := fun y => (y.ok.cell (p := ⟨q, 1, none⟩) hX.out.lt).trans hX1
                    obtain ⟨_, _, _, hv, _, _, hg, hat, _⟩ := T5.out.x.at_ (by simp)
                    simp at hv
                    obtain ⟨⟨rfl, rfl⟩, rfl⟩ := hv
                    have z2 : ∀ y : WIn (Below W.heap.size W), y.w.cell? ⟨g, o, none⟩ = some (.int .i64 fa) := fun y => (y.ok.cell (p := ⟨g, o, none⟩) hg).trans (hat 0 _ (fltCells_at ((fa, fb) :: l2) 0 (by simp)).1)
                    have z3 : ∀ y : WIn (Below W.heap.size W), y.w.cell? ⟨g, o + 1, none⟩ = some (.int .i64 fb) := fun y => (y.ok.cell (p := ⟨g, o + 1, none⟩) hg).trans (hat 1 _ (fltCells_at ((fa, fb) :: l2) 0 (by simp)).2)
                    clear hat hg
                    have HS0 := Lib.hid hS0
                    clear hS0 hX0 hX1 hX
                    refine wp_region_noPanic ?_
                    refine wp_region_held_drew (S := Below W.heap.size W) (by kernel_rfl) HS0.out (fun hHeld => ?_)
                    (refine takeE (i := 0) rfl (by kernel_rfl) (by kernel_rfl) (by kernel_rfl) (fun _ _ _ _ h => h) hHeld (fun K hK => ?_); go_simp; refine hK _ ?_; clear hK K)
                    (refine takeE (i := 1) rfl (by kernel_rfl) (by kernel_rfl) (by kernel_rfl) (fun _ _ _ _ h => h) hHeld (fun K hK => ?_); go_simp; refine hK _ ?_; clear hK K)
                    (refine takeE (i := 2) rfl (by kernel_rfl) (by kernel_rfl) (by kernel_rfl) (fun _ _ _ _ h => h) hHeld (fun K hK => ?_); go_simp; refine hK _ ?_; clear hK K)
                    (refine takeE (i := 3) rfl (by kernel_rfl) (by kernel_rfl) (by kernel_rfl) (fun _ _ _ _ h => h) hHeld (fun K hK => ?_); go_simp; refine hK _ ?_; clear hK K)
                    (refine takeE (i := 4) rfl (by kernel_rfl) (by kernel_rfl) (by kernel_rfl) (fun _ _ _ _ h => h) hHeld (fun K hK => ?_); go_simp; refine hK _ ?_; clear hK K)
                    (refine takeE (i := 5) rfl (by kernel_rfl) (by kernel_rfl) (by kernel_rfl) (fun _ _ _ _ h => h) hHeld (fun K hK => ?_); go_simp; refine hK _ ?_; clear hK K)
                    (refine takeE (i := 6) rfl (by kernel_rfl) (by kernel_rfl) (by kernel_rfl) (fun _ _ _ _ h => h) hHeld (fun K hK => ?_); go_simp; refine hK _ ?_; clear hK K)
                    (refine takeE (i := 7) rfl (by kernel_rfl) (by kernel_rfl) (by kernel_rfl) (fun _ _ _ _ h => h) hHeld (fun K hK => ?_); go_simp; refine hK _ ?_; clear hK K)
                    (refine takeE (i := 8) rfl (by kernel_rfl) (by kernel_rfl) (by kernel_rfl) (fun _ _ _ _ h => h) hHeld (fun K hK => ?_); go_simp; refine hK _ ?_; clear hK K)
                    refine wpAnyH_done (by kernel_rfl) ?_ _
                    refine NoPanic.normal ?_
                    clear hHeld z0 z1 z2 z3 hne HS0
                    have T6 := Lib.hid (two_cut (T5.out.below ((Below.refl _ _).drew)) hc1)
                    clear T5
                    go_wp2_with fail
                    go_roundw
                    case rel => exact ⟨_, _, l2, pv5, rfl, T6.out⟩
                    case measure => simp [lenV]
                  · have h2' : ¬ (2 : Int) < l9.length := by omega
                    go_wp2_with fail
                    go_roundw
                    case rel => exact ⟨i + 1, A9, c9, l9, pv9, by have := HQ.out; omega, by have := HQ.out; omega, by go_num, rfl, T9.out⟩
                    case measure => have := HQ.out; simp [intOf]; omega
              · have h1' : ¬ (i : Int) < tl := by omega
                clear h1
                go_wp2_with fail
                go_roundw
                case rel => exact ⟨i + 1, A9, c9, l9, pv9, by have := HQ.out; omega, by have := HQ.out; omega, by go_num, rfl, T9.out⟩
                case measure => have := HQ.out; simp [intOf]; omega
    · have hex : (¬ (i : Int) < len) ∨ ((i : Int) < len ∧ ¬ (i : Int) < 30) := by omega
      clear hlt
      obtain ⟨_, _, hvv, hc6, hm6⟩ := HT.out.x.form
      simp at hvv
      obtain ⟨rfl, rfl⟩ := hvv
      have hl6 := HT.out.le.1
      rcases hex with g1 | ⟨g1, g2⟩
      all_goals
        go_upto_region 25 with fail
        try clear g1
        try clear g2
        go_wp2_with fail
        go_loopw [14, 15, 16] (fun s14 s15 s16 wx => ∃ (j : Nat) (pv9 : Value), j ≤ l.length ∧ s14 = .int .i64 j ∧ Two w p pv9 (.slice A6 l.length c6) (l.drop j) l wx) (fun s14 _ _ _ => l.length - (intOf s14).toNat)
        case atStart => exact ⟨0, pv, by omega, rfl, HT.out⟩
        case round =>
          clear HT
          obtain ⟨j, pv9, hj, rfl, hT9⟩ := hrel
          have T9 := Lib.hid hT9
          clear hT9
          have v1 : IntKind.i64.wrap ((j : Int) + 1) = (j : Int) + 1 := IntWalk.i64_in _ (by omega)
          by_cases hjl : j < l.length
          · have r1 : (j : Int) < l.length := by omega
            have r2 : (0 : Int) ≤ j := by omega
            have HJ := Lib.hid hjl
            have hd : l.drop j = (l[j].1, l[j].2) :: l.drop (j + 1) := List.drop_eq_getElem_cons hjl
            rw [hd] at T9
            clear hd
            obtain ⟨fa, hfa⟩ : ∃ fa, l[j].1 = fa := ⟨_, rfl⟩
            obtain ⟨fb, hfb⟩ : ∃ fb, l[j].2 = fb := ⟨_, rfl⟩
            rw [hfa, hfb] at T9
            have HFA := Lib.hid hfa
            have HFB := Lib.hid hfb
            clear hfa hfb
            obtain ⟨g, o, c, hv, _, _, _, _, _⟩ := T9.out.x.at_ (by omega)
            simp at hv
            obtain ⟨rfl, rfl⟩ := hv
            go_wp2_with fail
            refine (two_next T9.out).mono ?_
            rintro e w5 ⟨rfl, pv5, t5⟩
            have hX := Lib.hid (show Blk (w5.alloc (.cells #[.int .i64 fa, .int .i64 fb] 23)) w5.heap.size 23 #[.int .i64 fa, .int .i64 fb] from heap_alloc_new w5 _)
            have T5 := Lib.hid (t5.below ((Below.refl _ _).alloc (Nat.le_refl _) (.cells #[.int .i64 fa, .int .i64 fb] 23)))
            clear t5 T9 hjl
            simp only [fltV]
            go_upto_region 29 with fail
            generalize w5.heap.size = q at *
            generalize World.alloc w5 _ = W at *
            have hX0 := hX.out.cell 0
            have hX1 := hX.out.cell 1
            simp at hX0 hX1
            have hS0 : Below W.heap.size W W.drew := (Below.refl _ _).drew
            have hne : Nonempty (WIn (Below W.heap.size W)) := ⟨⟨_, hS0⟩⟩
            have z0 : ∀ y : WIn (Below W.heap.size W), y.w.cell? ⟨q, 0, none⟩ = some (.int .i64 fa) := fun y => (y.ok.cell (p := ⟨q, 0, none⟩) hX.out.lt).trans hX0
            have z1 : ∀ y : WIn (Below W.heap.size W), y.w.cell? ⟨q, 1, none⟩ = some (.int .i64 fb) := fun y => (y.ok.cell (p := ⟨q, 1, none⟩) hX.out.lt).trans hX1
            obtain ⟨_, _, _, hv, _, _, hg, hat, _⟩ := T5.out.x.at_ (by have := HJ.out; omega)
            simp at hv
            obtain ⟨⟨rfl, rfl⟩, rfl⟩ := hv
            have z2 : ∀ y : WIn (Below W.heap.size W), y.w.cell? ⟨g, o + j * 2, none⟩ = some (.int .i64 fa) := fun y => (y.ok.cell (p := ⟨g, o + j * 2, none⟩) hg).trans (by rw [← HFA.out]; exact hat _ _ (fltCells_at l j HJ.out).1)
            have z3 : ∀ y : WIn (Below W.heap.size W), y.w.cell? ⟨g, o + j * 2 + 1, none⟩ = some (.int .i64 fb) := fun y => (y.ok.cell (p := ⟨g, o + j * 2 + 1, none⟩) hg).trans (by rw [← HFB.out]; exact hat _ _ (fltCells_at l j HJ.out).2)
            clear hat hg
            have HS0 := Lib.hid hS0
            clear hS0 hX0 hX1 hX
            refine wp_region_noPanic ?_
            refine wp_region_held_drew (S := Below W.heap.size W) (by kernel_rfl) HS0.out (fun hHeld => ?_)
            (refine takeE (i := 0) rfl (by kernel_rfl) (by kernel_rfl) (by kernel_rfl) (fun _ _ _ _ h => h) hHeld (fun K hK => ?_); go_simp; refine hK _ ?_; clear hK K)
            (refine takeE (i := 1) rfl (by kernel_rfl) (by kernel_rfl) (by kernel_rfl) (fun _ _ _ _ h => h) hHeld (fun K hK => ?_); go_simp; refine hK _ ?_; clear hK K)
            (refine takeE (i := 2) rfl (by kernel_rfl) (by kernel_rfl) (by kernel_rfl) (fun _ _ _ _ h => h) hHeld (fun K hK => ?_); go_simp; refine hK _ ?_; clear hK K)
            (refine takeE (i := 3) rfl (by kernel_rfl) (by kernel_rfl) (by kernel_rfl) (fun _ _ _ _ h => h) hHeld (fun K hK => ?_); go_simp; refine hK _ ?_; clear hK K)
            (refine takeE (i := 4) rfl (by kernel_rfl) (by kernel_rfl) (by kernel_rfl) (fun _ _ _ _ h => h) hHeld (fun K hK => ?_); go_simp; refine hK _ ?_; clear hK K)
            (refine takeE (i := 5) rfl (by kernel_rfl) (by kernel_rfl) (by kernel_rfl) (fun _ _ _ _ h => h) hHeld (fun K hK => ?_); go_simp; refine hK _ ?_; clear hK K)
            (refine takeE (i := 6) rfl (by kernel_rfl) (by kernel_rfl) (by kernel_rfl) (fun _ _ _ _ h => h) hHeld (fun K hK => ?_); go_simp; refine hK _ ?_; clear hK K)
            (refine takeE (i := 7) rfl (by kernel_rfl) (by kernel_rfl) (by kernel_rfl) (fun _ _ _ _ h => h) hHeld (fun K hK => ?_); go_simp; refine hK _ ?_; clear hK K)
            (refine takeE (i := 8) rfl (by kernel_rfl) (by kernel_rfl) (by kernel_rfl) (fun _ _ _ _ h => h) hHeld (fun K hK => ?_); go_simp; refine hK _ ?_; clear hK K)
            (refine takeE (i := 9) rfl (by kernel_rfl) (by kernel_rfl) (by kernel_rfl) (fun _ _ _ _ h => h) hHeld (fun K hK => ?_); go_simp; refine hK _ ?_; clear hK K)
            refine wpAnyH_done (by kernel_rfl) ?_ _
            refine NoPanic.normal ?_
            clear hHeld z0 z1 z2 z3 hne HS0
            go_wp2_with fail
            go_roundw
            case rel => exact ⟨j + 1, pv5, by have := HJ.out; omega, by go_num, T5.out.below ((Below.refl _ _).drew)⟩
            case measure => have := HJ.out; simp [intOf]; omega
          · obtain rfl : j = l.length := by omega
            have r1 : ¬ (l.length : Int) < l.length := by omega
            rw [List.drop_length] at T9
            clear hjl
            go_wp2_with fail
            refine (next_no p pv9 _ T9.out.plan).mono ?_
            rintro e w5 ⟨rfl, b5⟩
            have T5 := Lib.hid ((T9.out.below b5).below ((Below.refl _ _).alloc (Nat.le_refl _) (.cells #[.int .i64 0, .int .i64 0] 23)))
            clear T9 b5
            simp only [fltV]
            go_upto_region 32 with fail
            generalize World.alloc w5 _ = W at *
            go_wp2_with fail
            refine (awake17 _).mono ?_
            rintro e w6 ⟨rfl, b6⟩
            have T6 := Lib.hid (T5.out.below b6)
            clear T5 b6
            go_wp2_with fail
            refine (len_any p pv9 [] w6 T6.out.plan).mono ?_
            rintro e w7 ⟨rfl, rfl⟩
            go_wp2_with fail
            go_ret
            exact ⟨rfl, T6.out.low⟩

set_option maxRecDepth 100000 in
theorem lifted (os : Os) (started : os.Started) (H : Type) (enc : TypeId × Value → H) :
    ReturnsInHanded {} Try.checked os 4 .any (Rows.faultPlaysSpec.pre6 enc Try.prog Try.f4 Rows.faultPlaysRow.domain false) (Rows.faultPlaysSpec.post enc Try.prog Try.f4 false true false false) := by
  refine returnsInHanded_of_change (C := Try.checked) own started (by kernel_rfl) Try.func4
    (ChangeSpec.witness6 (enc := enc) (C := Try.checked) false ⟨#[], #[.slice none 0 0, .slice none 0 0], []⟩ 8 (by kernel_rfl) (by kernel_rfl) (by kernel_rfl) (by kernel_rfl)) ?_
  intro W base args ds gs before hval0 hW hcnd _
  have hval : ∀ (j : Nat) t v, Try.f4.params[j]? = some t → args[j]? = some v → Value.okWide Try.prog W .any base t v := hval0
  have hW' := hW
  obtain ⟨p, q, hA0, hV, rfl, hfz, hnd⟩ := hW
  have hA : DataW.TrodAll enc Try.prog W 0 (fun _ => true) true Try.f4.params.toList args.toList ds p := hA0
  rw [Try.params4] at hA hval
  obtain ⟨v0, vs0, d0, ds0, p0, q0, hargs, rfl, rfl, h0, r0⟩ := trodAll_cons hA
  obtain ⟨v1, vs1, d1, ds1, p1, q1, rfl, rfl, rfl, h1, r1⟩ := trodAll_cons r0
  obtain ⟨rfl, rfl, rfl⟩ := trodAll_nil r1
  obtain rfl : args = #[v0, v1] := by cases args; simp_all
  obtain ⟨rfl, rfl⟩ := trodVars_none hV
  clear hA0 hval0
  have hlt := hW'.lt
  refine (walk W v0 d0 p0 (hval 0 28 v0 rfl rfl) h0 (fun x hx => hlt x (by simp [hx])) v1 d1 p1 (hval 1 29 v1 rfl rfl) h1 (fun x hx => hlt x (by simp [hx]))).mono fun e W' ⟨he, hb⟩ => ?_
  subst he
  exact ⟨_, rfl, post_of_below (pv := []) hW' (fun _ _ _ => (trodAll_cons_mk (shut_bool Try.underlying4 _) trodAll_mk0)) (fun sp hsp => (trodAll_cons_mk (WideElems.Trod_stays laidOut (by kernel_rfl) (of_decide_eq_true (by kernel_rfl)) h0 (fun x hx => hb.same (hlt x (by simp [hx]))) (fun x hx => hsp x (by simp [hx]))) (trodAll_cons_mk (WideElems.Trod_stays laidOut (by kernel_rfl) (of_decide_eq_true (by kernel_rfl)) h1 (fun x hx => hb.same (hlt x (by simp [hx]))) (fun x hx => hsp x (by simp [hx]))) trodAll_mk0))) (fun _ _ => rfl) (by simp) hb (ok_one (by kernel_rfl) rfl (okWide_bool_mk Try.underlying4 _))⟩

theorem over : Rows.faultPlaysRow.holds Try.pinned (OpenSpec.ofChange Rows.faultPlaysSpec) :=
  OpenClaim.holds_of_wide 4 Try.f4 rfl rfl rfl rfl rfl rfl rfl ⟨rfl, rfl, rfl, rfl, rfl⟩ rfl rfl rfl rfl rfl (by kernel_rfl) Try.func4 (by kernel_rfl)
    (of_decide_eq_true (by kernel_rfl)) (by unfold Func.isWrapper; first | (rw [if_pos (by decide +kernel)]; kernel_rfl) | (rw [if_neg (by decide +kernel)]; exact ⟨rfl, rfl⟩))
    (fun os started H enc _ => lifted os started H enc)

theorem proved : Rows.FaultPlaysSaid := over
#print axioms proved
end Go.Proofs.Ytcchofaheaddbaa.faultPlays
