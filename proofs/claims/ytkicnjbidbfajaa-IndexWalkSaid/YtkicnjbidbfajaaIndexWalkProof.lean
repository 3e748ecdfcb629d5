/- The law qanat/qanatlaw08.IndexWalk returns true for all arguments of its types; no condition. -/
import Derived.Test.YtkicnjbidbfajaaModBig
import Derived.Test.YtkicnjbidbfajaaArgs
import Derived.WalkKit
import Derived.ProofKit
import Derived.OpenShut
import Derived.WideKeyArgs
namespace Go.Proofs.Ytkicnjbidbfajaa.indexWalk
open Go.ChangeShapes Go.WideShapes Go.ChangeAt Go.RowKit
set_option linter.unusedVariables false
set_option linter.unusedSimpArgs false
theorem own : ownKnob Try.prog.godebug = none := by kernel_rfl
theorem laidOut : laidOutB Try.prog = true := by kernel_rfl
theorem mem_all (a : List Rw) (x : Rw) : x ∈ putAll a → x ∈ a := by
  suffices ∀ (a l : List Rw), Up l → x ∈ a.foldl (fun l x => putL l x.1 x.2) l → x ∈ l ∨ x ∈ a from fun h => by
    rcases this a [] List.Pairwise.nil h with h | h
    · cases h
    · exact h
  intro a
  induction a with
  | nil => intro l h hx; exact .inl hx
  | cons y a ih =>
    intro l h hx
    rcases ih _ (up_put h y.1 y.2) hx with h1 | h1
    · rcases (mem_put h y.1 y.2 x).1 h1 with rfl | ⟨h2, _⟩
      · exact .inr (by simp)
      · exact .inl h2
    · exact .inr (by simp [h1])
theorem behind_at {L : List Rw} (hU : Up L) (t : Nat) (ht : t < L.length) : behind L L[t].1 = t + 1 := by
  have hp : pos L L[t].1 = t := by
    refine pos_of L _ t (by omega) (fun i hi hit => up_lt hU i t ht hit) (fun i hi hti => ?_)
    rcases Nat.eq_or_lt_of_le hti with rfl | h
    · omega
    · have := up_lt hU t i hi h; omega
  have hh : has L L[t].1 = true := (has_iff _ _).2 ⟨_, List.getElem_mem ht, rfl⟩
  unfold behind
  rw [if_pos hh, hp]
theorem behind_low {L : List Rw} (k : Int) (h : ∀ m ∈ L, k ≤ m.1) (hh : has L k = false) : behind L k = 0 := by
  unfold behind
  rw [if_neg (by rw [hh]; simp)]
  exact pos_of L k 0 (by omega) (fun t ht h => by omega) (fun t ht _ => h _ (List.getElem_mem ht))
theorem first_low {L : List Rw} (hU : Up L) (k : Int) (h : ∀ m ∈ L, k ≤ m.1) (hh : has L k = true) : behind L k = 1 ∧ 0 < L.length ∧ L.take 1 = [(k, getL L k)] := by
  have hp : pos L k = 0 := pos_of L k 0 (by omega) (fun t ht h => by omega) (fun t ht _ => h _ (List.getElem_mem ht))
  obtain ⟨h0, hk⟩ := has_lt hU hh
  simp only [hp] at hk h0
  refine ⟨by unfold behind; rw [if_pos hh, hp], h0, ?_⟩
  cases L with
  | nil => simp at h0
  | cons f L =>
    simp at hk
    have := get_of_mem hU (m := f) (by simp)
    subst hk
    rw [this]
    simp
theorem after_at (L : List Rw) (k : Int) (n : Int) (j : Nat) (h : behind L k = j) : afterL L k n = (L.drop j).take (cntN n (L.length - j)) := by
  unfold afterL; rw [h]
theorem take_more (L : List Rw) (j m : Nat) : L.take (j + m) = L.take j ++ (L.drop j).take m := List.take_add
theorem walk_key {L P : List Rw} {j m : Nat} (hU : Up L) (hm : 0 < m) (h : j + m ≤ L.length) (hP : (L.drop j).take m = P) : ∃ af, (rowCells P)[(m - 1) * 2]? = some (.int .i64 af) ∧ behind L af = j + m := by
  have hPl : P.length = m := by rw [← hP]; simp; omega
  have hPe : P[m - 1]'(by omega) = L[j + (m - 1)]'(by omega) := by subst hP; rw [List.getElem_take, List.getElem_drop]
  have hc := (rowCells_at P (m - 1) (by omega)).1
  rw [hPe] at hc
  exact ⟨_, hc, by rw [behind_at hU]; omega⟩
def WalkAt (w0 : World) (r : Nat) (L : List Rw) (wr : World) (v : Value) (j : Nat) : Prop :=
  Sl wr 26 2 v j (rowCells (L.take j)) ∧ (∀ g, v.ownBlock = some g → r ≤ g ∧ g < wr.heap.size) ∧ Ix w0 r (fun x => v.ownBlock = some x) wr L ∧ j ≤ L.length
theorem walk_below {w0 wr w' : World} {r j : Nat} {L : List Rw} {v : Value} (h : WalkAt w0 r L wr v j) (hb : Below wr.heap.size wr w') : WalkAt w0 r L w' v j :=
  ⟨h.1.below hb, fun g hg => ⟨(h.2.1 g hg).1, Nat.lt_of_lt_of_le (h.2.1 g hg).2 hb.size⟩, h.2.2.1.below hb, h.2.2.2⟩
theorem walk_grow {w0 wr w' : World} {r j m : Nat} {L ys : List Rw} {v v' : Value} (h : WalkAt w0 r L wr v j) (hS : Sl w' 26 2 v' (j + m) (rowCells (L.take j) ++ rowCells ys)) (hy : L.take (j + m) = L.take j ++ ys)
    (hK : Keeps (fun k => v.ownBlock = some k) wr w') (hO : v'.ownBlock = v.ownBlock ∨ ∃ g, v'.ownBlock = some g ∧ wr.heap.size ≤ g ∧ g < w'.heap.size) (hj : j + m ≤ L.length) : WalkAt w0 r L w' v' (j + m) := by
  obtain ⟨h1, h2, h3, h4⟩ := h
  have hlt := h3.lt
  have hO2 : ∀ g, v'.ownBlock = some g → (v.ownBlock = some g ∨ wr.heap.size ≤ g) ∧ g < w'.heap.size := fun g hg => by
    rcases hO with e | ⟨g', e, hg', hl⟩
    · rw [e] at hg
      exact ⟨.inl hg, Nat.lt_of_lt_of_le (h2 g hg).2 hK.size⟩
    · rw [e] at hg
      injection hg with hg
      subst hg
      exact ⟨.inr hg', hl⟩
  refine ⟨by rw [hy, rowCells_app]; exact hS, fun g hg => ?_, ?_, hj⟩
  · obtain ⟨c, hl⟩ := hO2 g hg
    refine ⟨?_, hl⟩
    rcases c with c | c
    · exact (h2 g c).1
    · omega
  · have h5 := h3.more (fun x => v.ownBlock = some x ∨ wr.heap.size ≤ x) (fun x hx => hx)
    have h6 := h5.other hK (fun x hx => ⟨.inl hx, (h2 x hx).1⟩)
    exact h6.more _ (fun x hx => .inl (hO2 x hx).1)
theorem walk_first {w0 wr : World} {r : Nat} {L : List Rw} (h : Ix w0 r (fun _ => False) wr L) : WalkAt w0 r L wr (.slice none 0 0) 0 :=
  ⟨Sl.nil _ _ _ _, by simp [Value.ownBlock], h.more _ (fun x hx => by simp [Value.ownBlock] at hx), by omega⟩

set_option maxRecDepth 100000 in
set_option maxHeartbeats 3000000 in
theorem walk {H : Type} {enc : TypeId × Value → H} (w : World) {base : Nat} (v0 : Value) (d0 : DataW H) (p0 : List MemPlace) (o0 : Value.okWide Try.prog w .any base 22 v0) (h0 : DataW.Trod enc Try.prog w 0 (fun _ => true) true 22 v0 d0 p0) (l0 : ∀ x ∈ p0, x.block < w.heap.size) (a1 : Int) (w1 : (Lit.int .i64 a1).wf = true) :
    Calls Try.prog 5 #[v0, .int .i64 a1] w fun e w' => e = .returned (.bool true) ∧ Below w.heap.size w w' := by
  obtain ⟨n, a, hR, hwf⟩ := open_rows (P := Try.prog) Try.underlying22 Try.underlying26 (by kernel_rfl) (by kernel_rfl) (by rfl) (fun f hf => by simp at hf; subst hf; exact Try.underlying2) (fun f hf => by simp at hf; subst hf; exact Try.underlying9) o0 h0 l0
  obtain ⟨A, cap, rfl, hlc, hcm⟩ := hR.form
  unfold maxLen at hcm
  have HRs := Lib.hid hR
  have hal := hR.1
  have hlow : ∀ m ∈ putAll a, (-9223372036854775808 : Int) ≤ m.1 := fun m hm => (bounds_i64 (hwf m (mem_all a m hm)).1).1
  clear hR h0 l0 o0 hwf
  by_cases hbig : 200 < n
  · have g1 : (200 : Int) < n := by omega
    clear hlow
    go_enter Try.func5, Try.ntmps5
    go_wp2_with fail
    refine (awake08 _).mono ?_
    rintro e w5 ⟨rfl, b5⟩
    go_wp2_with fail
    go_ret
    exact ⟨rfl, b5⟩
  · have g1 : ¬ (200 : Int) < n := by omega
    have HLow := Lib.hid hlow
    clear hlow
    go_enter Try.func5, Try.ntmps5
    go_wp2_with fail
    subst hal
    refine (inew _ a w HRs.out (by omega)).mono ?_
    rintro e w1 ⟨rfl, h1⟩
    have H1 := Lib.hid h1
    clear h1 HRs
    obtain ⟨r, hr⟩ : ∃ r, w.heap.size = r := ⟨_, rfl⟩
    rw [hr] at H1 ⊢
    have HR := Lib.hid hr
    clear hr
    obtain ⟨L, hL⟩ : ∃ L, putAll a = L := ⟨_, rfl⟩
    have hLl := all_len a
    rw [hL] at H1 hLl HLow
    clear hL
    have hk9 := bigS_bd a1 9 (by decide)
    have HU := Lib.hid H1.out.up
    go_upto_region 7 with (go_at_call 21; refine (mod_any _ _ _ (by omega) (by omega)).mono ?_; rintro e w' ⟨rfl, rfl⟩)
    obtain ⟨k, hk⟩ : ∃ k : Nat, 1 + bigS a1 9 = k := ⟨(1 + bigS a1 9).toNat, by omega⟩
    rw [hk]
    have hk1 : 1 ≤ k ∧ k ≤ 9 := by omega
    clear hk hk9
    go_wp2_with fail
    refine (iget _ H1.out (by omega)).mono ?_
    rintro e w2 ⟨rfl, h2, b2⟩
    have H2 := Lib.hid h2
    clear h2 H1 b2
    have HW2 := Lib.hid (walk_first H2.out)
    clear H2
    obtain ⟨i0, hi0, hz0, hz1, hz2⟩ := info_parts infoRow
    obtain ⟨lo, hlo⟩ : ∃ lo : Int, lo = -9223372036854775808 := ⟨_, rfl⟩
    rw [← hlo] at HLow ⊢
    clear hlo
    obtain ⟨y, hy⟩ : ∃ y, getL L lo = y := ⟨_, rfl⟩
    obtain ⟨hs, hhs⟩ : ∃ hs, has L lo = hs := ⟨_, rfl⟩
    rw [hy, hhs]
    have HY := Lib.hid hy
    have HS := Lib.hid hhs
    clear hy hhs
    go_upto_if 31 with fail
    go_cut [7] (fun s7 wx => ∃ j : Nat, ∃ A7 c7, s7 = .slice A7 j c7 ∧ behind L lo = j ∧ WalkAt w r L wx (.slice A7 j c7) j)
    case first =>
      cases hs with
      | false =>
        have HB := Lib.hid (behind_low lo HLow.out HS.out)
        go_wp2_with fail
        go_meet
        case rel => exact ⟨0, none, 0, rfl, HB.out, HW2.out⟩
      | true =>
        obtain ⟨hb1, hl1, ht1⟩ := first_low HU.out lo HLow.out HS.out
        rw [HY.out] at ht1
        have HB := Lib.hid hb1
        have HT := Lib.hid ht1
        clear hb1 ht1
        have hbb : Below w2.heap.size w2 (w2.alloc (.cells #[.int .i64 lo, .string y] 26)) := (Below.refl _ _).alloc (Nat.le_refl _) _
        have HW3 := Lib.hid (walk_below HW2.out hbb)
        have HN3 := Lib.hid (show Sl (w2.alloc (.cells #[.int .i64 lo, .string y] 26)) 26 2 (.slice (some ⟨w2.heap.size, 0, none⟩) 1 1) 1 (rowCells [(lo, y)]) from made_rows rfl (by omega) (by unfold maxLen; omega) (heap_alloc_new w2 _))
        clear hbb HW2
        go_wp2_with (refine wpList_append_rs (by rfl) (.tmp 32) (.tmp 36) _ (by rfl) 26 i0 _ 24 Try.underlying22 hi0 hz0 hz1 hz2 rfl _ 0 (rowCells (L.take 0)) (by rfl) HW3.out.1 _ 1 [(lo, y)] (by rfl) (Rs.of HN3.out) (by unfold maxLen; omega) (by omega) ?_; intro v3 w3 hS hK hO; have hG := walk_grow HW3.out hS (by rw [Nat.zero_add, HT.out]; rfl) hK hO (by omega); obtain ⟨A3, c3, rfl, _, _⟩ := hS.form; have HG := Lib.hid hG; clear hS hK hO hG)
        go_meet
        case rel => exact ⟨1, A3, c3, rfl, HB.out, HG.out⟩
    case rest =>
      clear HW2
      obtain ⟨j0, A0, c0, rfl, hbj, hW⟩ := hcut
      have HW := Lib.hid hW
      have HBj := Lib.hid hbj
      clear hW hbj
      go_upto_region 13 with fail
      go_loopw [7, 8, 11, 12] (fun s7 s8 s11 s12 wx => ∃ (i j : Nat) (af : Int) (A7 : Option Addr) (c7 : Nat), s7 = .slice A7 j c7 ∧ s8 = .int .i64 af ∧ s11 = .int .i64 i ∧ i ≤ j ∧ behind L af = j ∧ WalkAt w r L wx (.slice A7 j c7) j) (fun _ _ s11 _ _ => 300 - (intOf s11).toNat)
      case atStart => exact ⟨0, j0, lo, A0, c0, rfl, rfl, rfl, by omega, HBj.out, HW.out⟩
      case round =>
        clear HW HBj
        obtain ⟨i, j, af, A7, c7, rfl, rfl, rfl, hij, hbj, hW⟩ := hrel
        have hjl := hW.2.2.2
        have HW := Lib.hid hW
        have HBj := Lib.hid hbj
        clear hW hbj
        have q1 : (i : Int) < 300 := by omega
        have u1 : IntKind.i64.wrap ((i : Int) + 1) = (i : Int) + 1 := IntWalk.i64_in _ (by omega)
        go_wp2_with fail
        refine (iafter af k HW.out.2.2.1 (by omega)).mono ?_
        rw [after_at L af k j HBj.out]
        obtain ⟨m, hm⟩ : ∃ m, cntN k (L.length - j) = m := ⟨_, rfl⟩
        have hm2 : m = min k (L.length - j) := by rw [← hm]; unfold cntN; simp
        have hm3 : m ≤ k ∧ m ≤ L.length - j ∧ (0 < m ∨ L.length ≤ j) := by omega
        rw [hm]
        clear hm2
        obtain ⟨P, hP⟩ : ∃ P, (L.drop j).take m = P := ⟨_, rfl⟩
        have hPl : P.length = m := by rw [← hP]; simp; omega
        rw [hP]
        rintro e w4 ⟨A4, c4, rfl, hF4, hb4⟩
        rw [hPl]
        have HW4 := Lib.hid (walk_below HW.out hb4)
        have HF4 := Lib.hid hF4
        have HOW := Lib.hid (fun g hg => (HW.out.2.1 g hg).2)
        clear hF4 hb4 HW hm
        have hW1 := HW4.out.2.1
        have q2 : ¬ ((k : Int) < (m : Int)) := by omega
        by_cases hm0 : m = 0
        · subst hm0
          have hjL : j = L.length := by omega
          subst hjL
          clear hm3 hP hPl HF4 hW1
          have HS4 := Lib.hid (show Sl w4 26 2 (.slice A7 L.length c7) L.length (rowCells L) by have := HW4.out.1; rwa [List.take_length] at this)
          go_upto_region 22 with fail
          go_loopw [13] (fun s13 wx => ∃ t : Nat, 1 ≤ t ∧ (t ≤ L.length ∨ t = 1) ∧ s13 = .int .i64 t ∧ ∃ q, wx = w4.drewN q) (fun s13 _ => L.length - (intOf s13).toNat)
          case atStart => exact ⟨1, by omega, .inr rfl, rfl, 0, rfl⟩
          case round =>
            obtain ⟨t, ht1, ht2, rfl, q, rfl⟩ := hrel
            by_cases htl : t < L.length
            · obtain ⟨g7, off7, d7, hv7, _, _, hg7, hat7, _⟩ := HS4.out.at_ (by omega)
              simp at hv7
              obtain ⟨rfl, rfl⟩ := hv7
              have x0 : w4.cell? ⟨g7, off7 + t * 2, none⟩ = _ := hat7 _ _ (rowCells_at L t htl).1
              have x1 : w4.cell? ⟨g7, off7 + (t - 1) * 2, none⟩ = _ := hat7 _ _ (rowCells_at L (t - 1) (by omega)).1
              have hlt := up_lt HU.out (t - 1) t htl (by omega)
              generalize L[t].1 = y1 at *
              generalize (L[t - 1]'(by omega)).1 = y0 at *
              have d1 : decide (y1 ≤ y0) = false := decide_eq_false (by omega)
              have p1 : (t : Int) < L.length := by omega
              have p2 : (0 : Int) ≤ t := by omega
              have p3 : (0 : Int) ≤ (t : Int) - 1 := by omega
              have p4 : (t : Int) - 1 < L.length := by omega
              have p5 : ((t : Int) - 1).toNat = t - 1 := by omega
              have p6 : IntKind.i64.wrap ((t : Int) - 1) = (t : Int) - 1 := IntWalk.i64_in _ (by omega)
              have p7 : IntKind.i64.wrap ((t : Int) + 1) = (t : Int) + 1 := IntWalk.i64_in _ (by omega)
              clear hat7
              go_wp2_with fail
              go_quiet (fail)
              go_wp2_with fail
              go_roundw
              case rel => exact ⟨t + 1, by omega, by omega, by go_num, _, rfl⟩
              case measure => simp [intOf]; omega
            · have p1 : ¬ (t : Int) < L.length := by omega
              have HI5 := Lib.hid (HW4.out.2.2.1.drewN q)
              have HS5 := Lib.hid (HS4.out.drewN q)
              clear HW4 HS4
              generalize World.drewN w4 q = w5 at *
              go_wp2_with fail
              refine (awake08 _).mono ?_
              rintro e w6 ⟨rfl, b6⟩
              have HI6 := Lib.hid (HI5.out.below b6)
              have HS6 := Lib.hid (HS5.out.below b6)
              clear b6 HI5 HS5
              go_wp2_with fail
              refine (iall HI6.out (by omega)).mono ?_
              rintro e w7 ⟨A8, c8, rfl, hF7, b7⟩
              have HI7 := Lib.hid (HI6.out.below b7)
              have HS7 := Lib.hid (HS6.out.below b7)
              have HF7 := Lib.hid hF7.1
              clear b7 hF7 HI6 HS6
              go_wp2_with fail
              refine (plain_row _ _ L.length L _ (Rs.of HS7.out) (Rs.of HF7.out) (by omega)).mono ?_
              rintro e w8 ⟨rfl, b8⟩
              have HI8 := Lib.hid (HI7.out.below b8)
              clear b8 HI7 HS7 HF7
              go_wp2_with fail
              refine (ilen HI8.out).mono ?_
              rintro e w9 ⟨rfl, rfl⟩
              go_wp2_with fail
              go_ret
              exact ⟨rfl, by rw [HR.out]; exact HI8.out.low⟩
        · have q3 : ((m : Int) == 0) = false := beq_eq_false_iff_ne.2 (by omega)
          have ht : L.take (j + m) = L.take j ++ P := by rw [take_more, hP]
          obtain ⟨af2, hc1, hbn⟩ := walk_key HU.out (by omega) (by omega) hP
          have HC1 := Lib.hid hc1
          have HBn := Lib.hid hbn
          have HT := Lib.hid ht
          clear hc1 hbn ht
          obtain ⟨g4, off4, d4, hv4, _, _, hg4, hat4, _⟩ := (hPl ▸ HF4.out.1 : Sl w4 26 2 (.slice A4 m c4) m (rowCells P)).at_ (by omega)
          simp at hv4
          obtain ⟨rfl, rfl⟩ := hv4
          have hnl : ∀ g, (Value.slice A7 j c7).ownBlock = some g → g ≠ g4 := fun g hg e => by
            have h1 := HOW.out g hg
            have h2 := (HF4.out.2 g4 rfl).1
            omega
          have HX := Lib.hid (hat4 _ _ HC1.out)
          have HNL := Lib.hid hnl
          have HRs := Lib.hid (Rs.of (hPl ▸ HF4.out.1 : Sl w4 26 2 (.slice (some ⟨g4, off4, none⟩) m c4) m (rowCells P)))
          have p3 : (0 : Int) ≤ (m : Int) - 1 := by omega
          have p4 : (m : Int) - 1 < m := by omega
          have p5 : ((m : Int) - 1).toNat = m - 1 := by omega
          have p6 : IntKind.i64.wrap ((m : Int) - 1) = (m : Int) - 1 := IntWalk.i64_in _ (by omega)
          clear hat4 HF4 HC1 hnl hP hPl hW1
          go_upto_region 20 with (refine wpList_append_rs (by rfl) (.tmp 53) (.tmp 54) _ (by rfl) 26 i0 _ 24 Try.underlying22 hi0 hz0 hz1 hz2 rfl _ j (rowCells (L.take j)) (by rfl) HW4.out.1 _ m P (by rfl) HRs.out (by unfold maxLen; omega) (by omega) ?_; intro v5 w5 hS hK hO; have hG := walk_grow HW4.out hS HT.out hK hO (by omega); have hx : w5.cell? ⟨g4, off4 + (m - 1) * 2, none⟩ = some (.int .i64 af2) := (World.cell?_of_block (hK.block g4 hg4 (fun e => HNL.out g4 e rfl))).trans HX.out; obtain ⟨A5, c5, rfl, _, _⟩ := hS.form; have HG := Lib.hid hG; clear hS hK hO hG)
          go_wp2_with fail
          go_roundw
          case rel => exact ⟨i + 1, j + m, af2, A5, c5, by first | rfl | go_num, rfl, by go_num, by omega, HBn.out, HG.out⟩
          case measure => simp [intOf]; omega

set_option maxRecDepth 100000 in
theorem lifted (os : Os) (started : os.Started) (H : Type) (enc : TypeId × Value → H) :
    ReturnsInHanded {} Try.checked os 5 .any (Rows.indexWalkSpec.pre6 enc Try.prog Try.f5 Rows.indexWalkRow.domain false) (Rows.indexWalkSpec.post enc Try.prog Try.f5 false true false false) := by
  refine returnsInHanded_of_change (C := Try.checked) own started (by kernel_rfl) Try.func5
    (ChangeSpec.witness6 (enc := enc) (C := Try.checked) false ⟨#[], #[.slice none 0 0, .int .i64 0], []⟩ 8 (by kernel_rfl) (by kernel_rfl) (by kernel_rfl) (by kernel_rfl)) ?_
  intro W base args ds gs before hval0 hW hcnd _
  have hval : ∀ (j : Nat) t v, Try.f5.params[j]? = some t → args[j]? = some v → Value.okWide Try.prog W .any base t v := hval0
  have hW' := hW
  obtain ⟨p, q, hA0, hV, rfl, hfz, hnd⟩ := hW
  have hA : DataW.TrodAll enc Try.prog W 0 (fun _ => true) true Try.f5.params.toList args.toList ds p := hA0
  rw [Try.params5] at hA hval
  obtain ⟨v0, vs0, d0, ds0, p0, q0, hargs, rfl, rfl, h0, r0⟩ := trodAll_cons hA
  obtain ⟨v1, vs1, d1, ds1, p1, q1, rfl, rfl, rfl, h1, r1⟩ := trodAll_cons r0
  obtain ⟨rfl, rfl, rfl⟩ := trodAll_nil r1
  obtain rfl : args = #[v0, v1] := by cases args; simp_all
  obtain ⟨rfl, rfl⟩ := trodVars_none hV
  obtain ⟨a1, rfl, rfl, rfl, w1⟩ := open_int Try.underlying3 (hval 1 3 v1 rfl rfl) h1
  clear hA0 hval0
  have hlt := hW'.lt
  refine (walk W v0 d0 p0 (hval 0 22 v0 rfl rfl) h0 (fun x hx => hlt x (by simp [hx])) a1 w1).mono fun e W' ⟨he, hb⟩ => ?_
  subst he
  exact ⟨_, rfl, post_of_below (pv := []) hW' (fun _ _ _ => (trodAll_cons_mk (shut_bool Try.underlying4 _) trodAll_mk0)) (fun sp hsp => (trodAll_cons_mk (WideElems.Trod_stays laidOut (by kernel_rfl) (of_decide_eq_true (by kernel_rfl)) h0 (fun x hx => hb.same (hlt x (by simp [hx]))) (fun x hx => hsp x (by simp [hx]))) (trodAll_cons_mk (shut_int Try.underlying3 w1) trodAll_mk0))) (fun _ _ => rfl) (by simp) hb (ok_one (by kernel_rfl) rfl (okWide_bool_mk Try.underlying4 _))⟩

theorem over : Rows.indexWalkRow.holds Try.pinned (OpenSpec.ofChange Rows.indexWalkSpec) :=
  OpenClaim.holds_of_wide 5 Try.f5 rfl rfl rfl rfl rfl rfl rfl ⟨rfl, rfl, rfl, rfl, rfl⟩ rfl rfl rfl rfl rfl (by kernel_rfl) Try.func5 (by kernel_rfl)
    (of_decide_eq_true (by kernel_rfl)) (by unfold Func.isWrapper; first | (rw [if_pos (by decide +kernel)]; kernel_rfl) | (rw [if_neg (by decide +kernel)]; exact ⟨rfl, rfl⟩))
    (fun os started H enc _ => lifted os started H enc)

theorem proved : Rows.IndexWalkSaid := over
#print axioms proved
end Go.Proofs.Ytkicnjbidbfajaa.indexWalk
