/- The law qanat/qanatlaw08.IndexPlays returns true for all arguments of its types; no condition. -/
import Derived.Test.YtkicnjbidbfajaaPlay08
import Derived.Test.YtkicnjbidbfajaaArgs
import Derived.WalkKit
import Derived.ProofKit
import Derived.OpenShut
import Derived.WideKeyArgs
namespace Go.Proofs.Ytkicnjbidbfajaa.indexPlays
open Go.ChangeShapes Go.WideShapes Go.ChangeAt Go.RowKit
set_option linter.unusedVariables false
set_option linter.unusedSimpArgs false
theorem own : ownKnob Try.prog.godebug = none := by kernel_rfl
theorem laidOut : laidOutB Try.prog = true := by kernel_rfl
theorem after_len (l : List Rw) (k n : Int) : (afterL l k n).length ≤ l.length := by unfold afterL; simp; omega
def AfS (w0 : World) (r ob : Nat) (A : Option Addr) (c : Nat) (L : List Rw) (cs : Array Value) (w : World) : Prop := Mid w0 r w A c L L ∧ Blk w ob 44 cs
theorem afs_below {w0 w w' : World} {r ob : Nat} {A : Option Addr} {c : Nat} {L : List Rw} {cs : Array Value} (h : AfS w0 r ob A c L cs w) (hb : Below w.heap.size w w') : AfS w0 r ob A c L cs w' := ⟨mid_below h.1 hb, h.2.below hb h.2.lt⟩

set_option maxRecDepth 100000 in
set_option maxHeartbeats 3000000 in
theorem walk {H : Type} {enc : TypeId × Value → H} (w : World) {base : Nat} (v0 : Value) (d0 : DataW H) (p0 : List MemPlace) (o0 : Value.okWide Try.prog w .any base 22 v0) (h0 : DataW.Trod enc Try.prog w 0 (fun _ => true) true 22 v0 d0 p0) (l0 : ∀ x ∈ p0, x.block < w.heap.size) (v1 : Value) (d1 : DataW H) (p1 : List MemPlace) (o1 : Value.okWide Try.prog w .any base 41 v1) (h1 : DataW.Trod enc Try.prog w 0 (fun _ => true) true 41 v1 d1 p1) (l1 : ∀ x ∈ p1, x.block < w.heap.size) :
    Calls Try.prog 6 #[v0, v1] w fun e w' => e = .returned (.bool true) ∧ Below w.heap.size w w' := by
  obtain ⟨n, a0, hR, _⟩ := open_rows (P := Try.prog) Try.underlying22 Try.underlying26 (by kernel_rfl) (by kernel_rfl) (by rfl) (fun f hf => by simp at hf; subst hf; exact Try.underlying2) (fun f hf => by simp at hf; subst hf; exact Try.underlying9) o0 h0 l0
  obtain ⟨A1, len, cap1, F, rfl, hlc1, hcm1, hat1⟩ := open_ops (P := Try.prog) Try.underlying41 Try.underlying44 (by kernel_rfl) (by kernel_rfl) (by rfl) (fun f hf => by simp at hf; subst hf; exact Try.underlying3) (fun f hf => by simp at hf; subst hf; exact Try.underlying3) (fun f hf => by simp at hf; subst hf; exact Try.underlying2) (fun f hf => by simp at hf; subst hf; exact Try.underlying9) o1 h1 l1
  obtain ⟨A, cap, rfl, hlc, hcm⟩ := hR.form
  unfold maxLen at hcm hcm1
  have HRs := Lib.hid hR
  have HAT := Lib.hid hat1
  clear hR hat1 h0 l0 o0 h1 l1 o1
  obtain ⟨m, hm⟩ : ∃ m, min n 30 = m := ⟨_, rfl⟩
  have HR2 := Lib.hid (HRs.out.take m (by omega))
  obtain ⟨a, ha⟩ : ∃ a, a0.take m = a := ⟨_, rfl⟩
  rw [ha] at HR2
  have hal := HR2.out.1
  have hmn : m ≤ n ∧ m ≤ 30 ∧ (m = n ∨ m = 30 ∧ 30 ≤ n) := by omega
  clear ha HRs hm
  go_enter Try.func6, Try.ntmps6
  have p1 : (m : Int) ≤ cap := by omega
  have p2 : m ≤ cap := by omega
  go_upto_region 2 with fail
  have hmi : (if (30 : Int) < (n : Int) then 30 else (n : Int)) = (m : Int) := by split <;> omega
  simp only [hmi, Int.toNat_natCast]
  clear hmi p1 p2
  subst hal
  have hmn2 : a.length ≤ 30 := by omega
  clear hmn
  go_wp2_with fail
  refine (inew _ a w HR2.out (by omega)).mono ?_
  rintro e w1 ⟨rfl, h1⟩
  have H1 := Lib.hid h1
  clear h1
  obtain ⟨r, hr⟩ : ∃ r, w.heap.size = r := ⟨_, rfl⟩
  have HR3 := Lib.hid (HR2.out.below H1.out.low (Nat.le_refl _))
  rw [hr] at H1 ⊢
  have HR := Lib.hid hr
  clear hr HR2
  have hLl := all_len a
  go_wp2_with fail
  refine (rmake_any _ a w1 HR3.out (by omega)).mono ?_
  rintro e w2 ⟨A2, c2, rfl, hF2, hb2⟩
  have hM : Mid w r w2 A2 c2 (putAll a) (putAll a) := by
    refine ⟨hF2.1, fun g hg => (hF2.2 g hg).2, ?_⟩
    have h5 := (H1.out.more (fun x => w1.heap.size ≤ x) (fun x hx => .inr hx)).below hb2
    exact h5.more _ (fun x hx => .inl (hF2.2 x hx).1)
  have HM := Lib.hid hM
  clear hM hF2 hb2 H1 HR3
  obtain ⟨L, hL⟩ : ∃ L, putAll a = L := ⟨_, rfl⟩
  rw [hL] at HM hLl ⊢
  clear hL
  go_wp2_with fail
  go_loopw [6, 7, 8, 9, 10, 11, 12, 13, 14, 15, 16] (fun s6 s7 s8 s9 s10 s11 s12 s13 s14 s15 s16 wr => ∃ (i : Nat) (L : List Rw) (A6 : Option Addr) (c6 : Nat), i ≤ len ∧ i ≤ 80 ∧ s7 = .int .i64 i ∧ s6 = .slice A6 L.length c6 ∧ L.length ≤ 30 + i ∧ Mid w r wr A6 c6 L L) (fun _ s7 _ _ _ _ _ _ _ _ _ _ => 80 - (intOf s7).toNat)
  case atStart => exact ⟨0, L, A2, c2, by omega, by omega, rfl, rfl, by omega, HM.out⟩
  case round =>
    clear HM hLl
    obtain ⟨i, L, A6, c6, hi1, hi2, rfl, rfl, hLi, hM⟩ := hrel
    have HM := Lib.hid hM
    clear hM
    by_cases hlt : i < len ∧ i < 80
    · obtain ⟨bl, off, rfl, hbl, hcell⟩ := HAT.out (by omega)
      obtain ⟨k0, k1, k2, k3⟩ := hcell i hlt.1
      have hbr : bl < r := by have := HR.out; omega
      have b3 := HM.out.2.2.low
      have e0 : wr.cell? ⟨bl, off + i * 4, none⟩ = some (.int .i64 (F i).kd) := (b3.cell hbr).trans k0
      have e1 : wr.cell? ⟨bl, off + i * 4 + 1, none⟩ = some (.int .i64 (F i).nn) := (b3.cell hbr).trans k1
      have e2 : wr.cell? ⟨bl, off + i * 4 + 2, none⟩ = some (.int .i64 (F i).ky) := (b3.cell hbr).trans k2
      have e3 : wr.cell? ⟨bl, off + i * 4 + 3, none⟩ = some (.string (F i).vl) := (b3.cell hbr).trans k3
      have q1 : (i : Int) < len := by omega
      have q2 : (i : Int) < 80 := by omega
      have u1 : IntKind.i64.wrap ((i : Int) + 1) = (i : Int) + 1 := IntWalk.i64_in _ (by omega)
      clear k0 k1 k2 k3 hcell b3
      have HQ := Lib.hid hlt
      clear hlt
      generalize (F i).kd = o0 at *
      generalize (F i).nn = o1 at *
      generalize (F i).ky = o2 at *
      generalize (F i).vl = o3 at *
      have hB := (Below.refl wr.heap.size wr).alloc (Nat.le_refl _) (.cells #[.int .i64 o0, .int .i64 o1, .int .i64 o2, .string o3] 44)
      have HM2 := Lib.hid (mid_below HM.out hB)
      have hO : Blk (wr.alloc (.cells #[.int .i64 o0, .int .i64 o1, .int .i64 o2, .string o3] 44)) wr.heap.size 44 #[.int .i64 o0, .int .i64 o1, .int .i64 o2, .string o3] := heap_alloc_new wr _
      have HO := Lib.hid hO
      clear hB hO
      go_upto_region 10 with fail
      clear HM e0 e1 e2 e3
      generalize wr.heap.size = ob at *
      generalize World.alloc wr _ = W at *
      have v0 := HO.out.cell 0
      have v1 := HO.out.cell 1
      have v2 := HO.out.cell 2
      have v3 := HO.out.cell 3
      simp at v0 v1 v2 v3
      go_wp2_with fail
      refine (key_any o0 o1 o2 o3 W).mono ?_
      rintro e w3 ⟨rfl, hb3⟩
      have HM3 := Lib.hid (mid_below HM2.out hb3)
      have HO3 := Lib.hid (HO.out.below hb3 HO.out.lt)
      clear hb3 HM2 HO v0 v1 v2 v3
      obtain ⟨k, hk⟩ : ∃ k, keyS o2 = k := ⟨_, rfl⟩
      rw [hk]
      clear hk
      have v0 := HO3.out.cell 0
      have v1 := HO3.out.cell 1
      have v3 := HO3.out.cell 3
      simp at v0 v1 v3
      have m4 := bigS_bd o0 8 (by decide)
      have hn : L.length ≤ 2000 := by omega
      go_upto_block 2 with (go_at_call 21; refine (mod_any _ _ _ (by omega) (by omega)).mono ?_; rintro e w' ⟨rfl, rfl⟩)
      generalize bigS o0 8 = kk at *
      clear v0
      go_cut [6, 10, 11, 13, 14, 15, 16] (fun s6 s10 s11 s13 s14 s15 s16 wx => ∃ (L' : List Rw) (A' : Option Addr) (c' : Nat), s6 = .slice A' L'.length c' ∧ s10 = .bool true ∧ L'.length ≤ 30 + (i + 1) ∧ Mid w r wx A' c' L' L')
      case first =>
        have hU := HM3.out.2.2.up
        by_cases h4 : kk < 4
        · have HPL := Lib.hid (put_len hU k o3)
          clear hU
          go_wp2_with fail
          refine (p_rput k o3 HM3.out hn).mono ?_
          rintro e w4 ⟨A4, c4, rfl, hM4, hb4⟩
          have HM4 := Lib.hid hM4
          have HO4 := Lib.hid (HO3.out.below hb4 HO3.out.lt)
          clear hM4 hb4 HM3 HO3 v1 v3
          have v3 := HO4.out.cell 3
          simp at v3
          go_wp2_with fail
          refine (p_iput k o3 HM4.out hn).mono ?_
          rintro e w5 ⟨rfl, hM5⟩
          have HM5 := Lib.hid hM5
          clear hM5 HM4 HO4 v3
          generalize has L k = hs at *
          generalize putL L k o3 = P at *
          go_wp2_with fail
          go_meet
          case rel => exact ⟨P, A4, c4, rfl, by cases hs <;> rfl, by have := HPL.out; omega, HM5.out⟩
        · by_cases h6 : kk < 6
          · have HPL := Lib.hid (del_len L k)
            clear hU
            go_wp2_with fail
            refine (p_rdel k HM3.out hn).mono ?_
            rintro e w4 ⟨A4, c4, rfl, hM4, _⟩
            have HM4 := Lib.hid hM4
            clear hM4 HM3 HO3 v1 v3
            go_wp2_with fail
            refine (p_idel k HM4.out hn).mono ?_
            rintro e w5 ⟨rfl, hM5⟩
            have HM5 := Lib.hid hM5
            clear hM5 HM4
            generalize has L k = hs at *
            generalize delL L k = P at *
            go_wp2_with fail
            go_meet
            case rel => exact ⟨P, A4, c4, rfl, by cases hs <;> rfl, by have := HPL.out; omega, HM5.out⟩
          · by_cases h7 : kk = 6
            · have g7 : (kk == 6) = true := beq_iff_eq.2 h7
              have HAL := Lib.hid (after_len L k o1)
              obtain ⟨M, hM⟩ : ∃ M, (afterL L k o1).length = M := ⟨_, rfl⟩
              have HPL := Lib.hid hM
              have hMl : M ≤ 2000 := by have := HAL.out; omega
              have hS0 : AfS w r ob A6 c6 L #[.int .i64 o0, .int .i64 o1, .int .i64 o2, .string o3] w3.drew := afs_below ⟨HM3.out, HO3.out⟩ ⟨rfl, rfl, rfl, Nat.le_refl _, fun _ _ => rfl⟩
              have HS0 := Lib.hid hS0
              clear hM hU HM3 HO3 v1 v3 h7 hS0
              go_upto_region 23 with fail
              have hne : Nonempty (WIn (AfS w r ob A6 c6 L #[.int .i64 o0, .int .i64 o1, .int .i64 o2, .string o3])) := ⟨⟨_, HS0.out⟩⟩
              have z1 : ∀ y : WIn (AfS w r ob A6 c6 L #[.int .i64 o0, .int .i64 o1, .int .i64 o2, .string o3]), y.w.cell? ⟨ob, 1, none⟩ = some (.int .i64 o1) := fun y => y.ok.2.cell 1
              refine wp_region_noPanic ?_
              refine wp_region_held_drew (S := fun w' => (AfS w r ob A6 c6 L #[.int .i64 o0, .int .i64 o1, .int .i64 o2, .string o3]) w') (by kernel_rfl) HS0.out (fun hHeld => ?_)
              (refine takeE (i := 0) rfl (by kernel_rfl) (by kernel_rfl) (by kernel_rfl) (fun _ _ _ _ h => h) hHeld (fun K hK => ?_); go_simp; refine hK _ ?_; clear hK K)
              (refine takeE (i := 1) rfl (by kernel_rfl) (by kernel_rfl) (by kernel_rfl) (fun _ _ _ _ h => h) hHeld (fun K hK => ?_); go_simp; refine hK _ ?_; clear hK K)
              (refine takeE (i := 2) rfl (by kernel_rfl) (by kernel_rfl) (by kernel_rfl) (fun _ _ _ _ h => h) hHeld (fun K hK => ?_); go_simp; refine hK _ ?_; clear hK K)
              (refine takeE (i := 3) rfl (by kernel_rfl) (by kernel_rfl) (by kernel_rfl) (fun _ _ _ _ h => h) hHeld (fun K hK => ?_); go_simp; refine hK _ ?_; clear hK K)
              (refine takeE (i := 5) rfl (by kernel_rfl) (by kernel_rfl) (by kernel_rfl) (fun _ _ _ _ h => h) hHeld (fun K hK => ?_); go_simp; refine hK _ ?_; clear hK K)
              (refine takeE (i := 6) rfl (by kernel_rfl) (by kernel_rfl) (by kernel_rfl) (fun _ _ _ _ h => h) hHeld (fun K hK => ?_); go_simp; refine hK _ ?_; clear hK K)
              (refine takeE (i := 7) rfl (by kernel_rfl) (by kernel_rfl) (by kernel_rfl) (fun _ _ _ _ h => h) hHeld (fun K hK => ?_); go_simp; refine hK _ ?_; clear hK K)
              (refine takeE (i := 8) rfl (by kernel_rfl) (by kernel_rfl) (by kernel_rfl) (fun _ _ _ _ h => h) hHeld (fun K hK => ?_); go_simp; refine hK _ ?_; clear hK K)
              refine wpAnyH_ready (rs := [4]) (by kernel_rfl) (by simp) ?_
              refine AllReadyH.cons rfl (fun K hK => ?_) AllReadyH.nil
              go_simp
              refine (iafter k o1 hHeld.1.2.2 hn).mono ?_
              rintro e w7 ⟨A7, c7, he7, hF7, hb7⟩
              rw [HPL.out] at he7 hF7
              subst he7
              have HF7 := Lib.hid (show Sl w7 26 2 (.slice A7 M c7) M (rowCells (afterL L k o1)) by have := hF7.1; rwa [HPL.out] at this)
              refine hK.out _ _ (afs_below hHeld hb7) (fun hHeld => ?_)
              clear hK K hb7 hF7
              try simp only [List.getElem_toArray, List.getElem_cons_succ, List.getElem_cons_zero, Act.put, List.setIfInBounds_toArray, List.set_cons_zero, List.set_cons_succ]
              refine wpAnyH_ready (rs := [9]) (by kernel_rfl) (by simp) ?_
              refine AllReadyH.cons rfl (fun K hK => ?_) AllReadyH.nil
              go_simp
              refine (rafter_any _ L k o1 _ hHeld.1.1 hHeld.1.2.2.up hn).mono ?_
              rintro e w8 ⟨A8, c8, he8, hF8, hb8⟩
              rw [HPL.out] at he8 hF8
              subst he8
              have HF8 := Lib.hid (show Sl w8 26 2 (.slice A8 M c8) M (rowCells (afterL L k o1)) by have := hF8.1; rwa [HPL.out] at this)
              have HF9 := Lib.hid (HF7.out.below hb8)
              refine hK.out _ _ (afs_below hHeld hb8) (fun hHeld => ?_)
              clear hK K hb8 hF8 HF7
              try simp only [List.getElem_toArray, List.getElem_cons_succ, List.getElem_cons_zero, Act.put, List.setIfInBounds_toArray, List.set_cons_zero, List.set_cons_succ]
              refine wpAnyH_ready (rs := [10]) (by kernel_rfl) (by simp) ?_
              refine AllReadyH.cons rfl (fun K hK => ?_) AllReadyH.nil
              go_simp
              refine (plain_row _ _ M (afterL L k o1) _ (Rs.of HF9.out) (Rs.of HF8.out) (by omega)).mono ?_
              rintro e w9 ⟨rfl, hb9⟩
              refine hK.out _ _ (afs_below hHeld hb9) (fun hHeld => ?_)
              clear hK K hb9 HF8 HF9
              try simp only [List.getElem_toArray, List.getElem_cons_succ, List.getElem_cons_zero, Act.put, List.setIfInBounds_toArray, List.set_cons_zero, List.set_cons_succ]
              (refine takeE (i := 11) rfl (by kernel_rfl) (by kernel_rfl) (by kernel_rfl) (fun _ _ _ _ h => h) hHeld (fun K hK => ?_); go_simp; refine hK _ ?_; clear hK K)
              refine wpAnyH_done (by kernel_rfl) ?_ _
              refine NoPanic.normal ?_
              have HM9 := Lib.hid hHeld.1
              clear hHeld z1 hne HS0
              go_wp2_with fail
              go_meet
              case rel => exact ⟨L, A6, c6, rfl, rfl, by omega, HM9.out⟩
            · have g7 : (kk == 6) = false := beq_eq_false_iff_ne.2 h7
              clear hU HO3 v1 v3 h7
              go_wp2_with fail
              refine (iget k HM3.out.2.2 hn).mono ?_
              rintro e w4 ⟨rfl, _, hb4⟩
              have HM4 := Lib.hid (mid_below HM3.out hb4)
              clear hb4 HM3
              go_wp2_with fail
              refine (rget_any _ L k w4 HM4.out.1 HM4.out.2.2.up hn).mono ?_
              rintro e w5 ⟨rfl, rfl⟩
              generalize has L k = hs at *
              generalize getL L k = gs at *
              go_wp2_with fail
              go_meet
              case rel => exact ⟨L, A6, c6, rfl, by cases hs <;> simp, by omega, HM4.out⟩
      case rest =>
        clear HM3 HO3 v1 v3
        obtain ⟨L', A', c', rfl, rfl, hL', hM⟩ := hcut
        have HM := Lib.hid hM
        clear hM
        go_wp2_with fail
        refine (ilen HM.out.2.2).mono ?_
        rintro e w5 ⟨rfl, rfl⟩
        go_wp2_with fail
        go_roundw
        case rel => exact ⟨i + 1, L', A', c', by have := HQ.out; omega, by have := HQ.out; omega, by go_num, rfl, hL', HM.out⟩
        case measure => have := HQ.out; simp [intOf]; omega
    · have g1 : ¬ ((i : Int) < len ∧ (i : Int) < 80) := by omega
      have hn : L.length ≤ 2000 := by omega
      by_cases g2 : (i : Int) < len
      · have g3 : ¬ (i : Int) < 80 := by omega
        clear g1
        go_wp2_with fail
        refine (awake08 _).mono ?_
        rintro e w5 ⟨rfl, hb5⟩
        have HM5 := Lib.hid (mid_below HM.out hb5)
        clear hb5 HM
        go_wp2_with fail
        refine (iall HM5.out.2.2 hn).mono ?_
        rintro e w6 ⟨A9, c9, rfl, hF6, hb6⟩
        have HM6 := Lib.hid (mid_below HM5.out hb6)
        have HF6 := Lib.hid hF6.1
        clear hb6 hF6 HM5
        go_wp2_with fail
        refine (plain_row _ _ L.length L _ (Rs.of HF6.out) (Rs.of HM6.out.1) (by omega)).mono ?_
        rintro e w7 ⟨rfl, hb7⟩
        have HM7 := Lib.hid (mid_below HM6.out hb7)
        clear hb7 HM6 HF6
        go_wp2_with fail
        go_ret
        exact ⟨rfl, by rw [HR.out]; exact HM7.out.2.2.low⟩
      · clear g1
        go_wp2_with fail
        refine (awake08 _).mono ?_
        rintro e w5 ⟨rfl, hb5⟩
        have HM5 := Lib.hid (mid_below HM.out hb5)
        clear hb5 HM
        go_wp2_with fail
        refine (iall HM5.out.2.2 hn).mono ?_
        rintro e w6 ⟨A9, c9, rfl, hF6, hb6⟩
        have HM6 := Lib.hid (mid_below HM5.out hb6)
        have HF6 := Lib.hid hF6.1
        clear hb6 hF6 HM5
        go_wp2_with fail
        refine (plain_row _ _ L.length L _ (Rs.of HF6.out) (Rs.of HM6.out.1) (by omega)).mono ?_
        rintro e w7 ⟨rfl, hb7⟩
        have HM7 := Lib.hid (mid_below HM6.out hb7)
        clear hb7 HM6 HF6
        go_wp2_with fail
        go_ret
        exact ⟨rfl, by rw [HR.out]; exact HM7.out.2.2.low⟩

set_option maxRecDepth 100000 in
theorem lifted (os : Os) (started : os.Started) (H : Type) (enc : TypeId × Value → H) :
    ReturnsInHanded {} Try.checked os 6 .any (Rows.indexPlaysSpec.pre6 enc Try.prog Try.f6 Rows.indexPlaysRow.domain false) (Rows.indexPlaysSpec.post enc Try.prog Try.f6 false true false false) := by
  refine returnsInHanded_of_change (C := Try.checked) own started (by kernel_rfl) Try.func6
    (ChangeSpec.witness6 (enc := enc) (C := Try.checked) false ⟨#[], #[.slice none 0 0, .slice none 0 0], []⟩ 8 (by kernel_rfl) (by kernel_rfl) (by kernel_rfl) (by kernel_rfl)) ?_
  intro W base args ds gs before hval0 hW hcnd _
  have hval : ∀ (j : Nat) t v, Try.f6.params[j]? = some t → args[j]? = some v → Value.okWide Try.prog W .any base t v := hval0
  have hW' := hW
  obtain ⟨p, q, hA0, hV, rfl, hfz, hnd⟩ := hW
  have hA : DataW.TrodAll enc Try.prog W 0 (fun _ => true) true Try.f6.params.toList args.toList ds p := hA0
  rw [Try.params6] at hA hval
  obtain ⟨v0, vs0, d0, ds0, p0, q0, hargs, rfl, rfl, h0, r0⟩ := trodAll_cons hA
  obtain ⟨v1, vs1, d1, ds1, p1, q1, rfl, rfl, rfl, h1, r1⟩ := trodAll_cons r0
  obtain ⟨rfl, rfl, rfl⟩ := trodAll_nil r1
  obtain rfl : args = #[v0, v1] := by cases args; simp_all
  obtain ⟨rfl, rfl⟩ := trodVars_none hV
  clear hA0 hval0
  have hlt := hW'.lt
  refine (walk W v0 d0 p0 (hval 0 22 v0 rfl rfl) h0 (fun x hx => hlt x (by simp [hx])) v1 d1 p1 (hval 1 41 v1 rfl rfl) h1 (fun x hx => hlt x (by simp [hx]))).mono fun e W' ⟨he, hb⟩ => ?_
  subst he
  exact ⟨_, rfl, post_of_below (pv := []) hW' (fun _ _ _ => (trodAll_cons_mk (shut_bool Try.underlying4 _) trodAll_mk0)) (fun sp hsp => (trodAll_cons_mk (WideElems.Trod_stays laidOut (by kernel_rfl) (of_decide_eq_true (by kernel_rfl)) h0 (fun x hx => hb.same (hlt x (by simp [hx]))) (fun x hx => hsp x (by simp [hx]))) (trodAll_cons_mk (WideElems.Trod_stays laidOut (by kernel_rfl) (of_decide_eq_true (by kernel_rfl)) h1 (fun x hx => hb.same (hlt x (by simp [hx]))) (fun x hx => hsp x (by simp [hx]))) trodAll_mk0))) (fun _ _ => rfl) (by simp) hb (ok_one (by kernel_rfl) rfl (okWide_bool_mk Try.underlying4 _))⟩

theorem over : Rows.indexPlaysRow.holds Try.pinned (OpenSpec.ofChange Rows.indexPlaysSpec) :=
  OpenClaim.holds_of_wide 6 Try.f6 rfl rfl rfl rfl rfl rfl rfl ⟨rfl, rfl, rfl, rfl, rfl⟩ rfl rfl rfl rfl rfl (by kernel_rfl) Try.func6 (by kernel_rfl)
    (of_decide_eq_true (by kernel_rfl)) (by unfold Func.isWrapper; first | (rw [if_pos (by decide +kernel)]; kernel_rfl) | (rw [if_neg (by decide +kernel)]; exact ⟨rfl, rfl⟩))
    (fun os started H enc _ => lifted os started H enc)

theorem proved : Rows.IndexPlaysSaid := over
#print axioms proved
end Go.Proofs.Ytkicnjbidbfajaa.indexPlays
