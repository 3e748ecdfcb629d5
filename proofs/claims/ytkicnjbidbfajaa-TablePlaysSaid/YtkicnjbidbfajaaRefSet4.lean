/- The document's set of tables: Fits; both sets side by side. -/
import Derived.Test.YtkicnjbidbfajaaRefSet3
namespace Go.Proofs.Ytkicnjbidbfajaa
open Go.ChangeShapes Go.WideShapes Go.ChangeAt Go.RowKit
set_option linter.unusedVariables false
set_option linter.unusedSimpArgs false
section
variable {Z : Nat → Prop} {rb gT n : Nat} {w w' : World} {ls : Nat → List Rw} {U : Nat → Value}
theorem rfits (v : Value) (m : Nat) (F : Nat → Cg) (h : Rf Z rb gT w n ls U) (hC : Cs w v m F) (hm : m ≤ 500) (h0 : 0 < n) (hn : n ≤ 8) (hl : ∀ t, t < n → (ls t).length ≤ 1200) :
    Calls Try.prog 41 #[.pointer (some ⟨rb, 0, none⟩), v] w fun e w' => e = .returned (.bool (fitsB ls F n m)) ∧ Below w.heap.size w w' := by
  have HCp := Lib.hid (rcopy h h0 hn (fun t ht => by have := hl t ht; omega))
  have HC := Lib.hid hC
  have HL := Lib.hid hl
  have HUp := Lib.hid h.up
  obtain ⟨A, cap, rfl, h1, h2, h3⟩ := hC
  clear h hl h3
  by_cases hF : inR F n m
  · go_enter Try.func41, Try.ntmps41
    go_wp2_with fail
    refine HCp.out.mono ?_
    rintro e w1 ⟨rb1, gT1, U1, rfl, hR, hb⟩
    have HR := Lib.hid hR
    have HB := Lib.hid hb
    have hO : 0 < m → ∀ g, (Value.slice A m cap).ownBlock = some g → g ≠ gT1 := fun hpos g hg e => by
      obtain ⟨A', cap', hv, _, _, h4⟩ := HC.out
      simp at hv
      obtain ⟨rfl, rfl⟩ := hv
      obtain ⟨g', off, rfl, h5, _⟩ := h4 hpos
      simp [Value.ownBlock] at hg
      subst hg
      have h6 : w.heap.size ≤ gT1 := hR.zt
      omega
    have HAp := Lib.hid (rapply _ m F HR.out (HC.out.below HB.out) hF hm h0 hn HL.out hO)
    clear hR hb HCp hO
    go_wp2_with fail
    refine HAp.out.mono ?_
    rintro e w2 ⟨rfl, U2, hR2, hk2⟩
    have HR2 := Lib.hid hR2
    have HB2 := Lib.hid (Keeps.below HB.out hk2 HB.out.size (fun x hx e => by have h6 : w.heap.size ≤ gT1 := HR.out.zt; have e2 : x = gT1 := e; omega))
    have hbd : ∀ t, t < n → (applyN ls F m t).length ≤ 1700 := fun t ht => by
      have h1 := apply_len (n := n) HUp.out F m t ht
      have h2 := HL.out t ht
      omega
    obtain ⟨L, hL⟩ : ∃ L, applyN ls F m = L := ⟨_, rfl⟩
    have HE := Lib.hid (show fitsB ls F n m = decide (∀ t, t < n → (L t).length ≤ 1000) by unfold fitsB; rw [hL]; simp [hF])
    rw [hL] at HR2 hbd
    have c0 := HR2.out.blk.cell 0
    simp at c0
    clear hL hR2 hk2 HAp HR HB HC HL HUp hF
    go_wp2_with fail
    go_loopw [6] (fun s6 wr => ∃ t : Nat, t ≤ n ∧ s6 = .int .i64 t ∧ Hid (∀ s, s < t → (L s).length ≤ 1000) ∧ w2 = wr) (fun s6 _ => n - (intOf s6).toNat)
    case atStart => exact ⟨0, by omega, rfl, Lib.hid (fun s hs => by omega), rfl⟩
    case round =>
      obtain ⟨t, ht, rfl, hS, rfl⟩ := hrel
      by_cases hlt2 : t < n
      · have q4 : (0 : Int) ≤ t := by omega
        have q5 : (t : Int) < n := by omega
        obtain ⟨A9, c9, hUf, _, _⟩ := (HR2.out.sl t hlt2).form
        have x0 := (HR2.out.at_ t hlt2).1
        rw [hUf] at x0
        clear hUf
        have u1 : IntKind.i64.wrap ((t : Int) + 1) = (t : Int) + 1 := IntWalk.i64_in _ (by omega)
        by_cases hbig : (L t).length ≤ 1000
        · have HS2 := Lib.hid (show ∀ s, s < t + 1 → (L s).length ≤ 1000 from fun s hs => by
            by_cases e : s = t
            · rw [e]; exact hbig
            · exact hS.out s (by omega))
          have g1 : ¬ ((1000 : Int) < (L t).length) := by omega
          go_wp2_with fail
          go_roundw
          case rel => exact ⟨t + 1, by omega, by go_num, HS2, by first | rfl | trivial⟩
          case measure => simp [intOf]; omega
        · have HD := Lib.hid (show decide (∀ t, t < n → (L t).length ≤ 1000) = false from decide_eq_false fun h => hbig (h t hlt2))
          have g1 : (1000 : Int) < (L t).length := by omega
          go_wp2_with fail
          go_ret
          exact ⟨by rw [HE.out, HD.out]; rfl, HB2.out⟩
      · obtain rfl : n = t := by omega
        have HD := Lib.hid (show decide (∀ t, t < n → (L t).length ≤ 1000) = true from decide_eq_true fun t ht => hS.out t ht)
        have q5 : ¬ (n : Int) < n := by omega
        go_wp2_with fail
        go_ret
        exact ⟨by rw [HE.out, HD.out]; rfl, HB2.out⟩
  · have HE := Lib.hid (show fitsB ls F n m = false by unfold fitsB; simp [hF])
    go_enter Try.func41, Try.ntmps41
    go_wp2_with fail
    refine HCp.out.mono ?_
    rintro e w1 ⟨rb1, gT1, U1, rfl, hR, hb⟩
    have HB := Lib.hid hb
    have HAp := Lib.hid (rapply_no _ m F hR (HC.out.below hb) hF hm hn)
    clear hR hb HCp hF
    go_wp2_with fail
    refine HAp.out.mono ?_
    rintro e w2 ⟨rfl, rfl⟩
    clear HAp
    go_wp2_with fail
    go_ret
    exact ⟨by rw [HE.out]; rfl, HB.out⟩
end
section
variable {tag : Nat} {f : Nat → Nat} {r n : Nat} {w w' : World} {ls : Nat → List Rw} {sv : Value} {P : Nat → Nat} {V : Nat → Value}
theorem tapply_no (v : Value) (m : Nat) (F : Nat → Cg) (h : Ts tag f r w n ls sv P V) (hC : Cs w v m F) (hF : ¬ inR F n m) (hm : m ≤ 500) :
    Calls Try.prog 35 #[.pointer (some ⟨r, 0, none⟩), v] w fun e w' => e = .returned (.bool false) ∧ Below w.heap.size w w' := by
  have ha := tallg v m F h hC (by omega)
  rw [decide_eq_false hF] at ha
  have HA := Lib.hid ha
  clear ha h hC hF
  go_enter Try.func35, Try.ntmps35
  go_wp2_with fail
  refine HA.out.mono ?_
  rintro e w1 ⟨rfl, b1⟩
  go_wp2_with fail
  go_ret
  exact ⟨rfl, b1⟩
theorem tapply_zero (v : Value) (F : Nat → Cg) (h : Ts tag f r w n ls sv P V) (hC : Cs w v 0 F) :
    Calls Try.prog 35 #[.pointer (some ⟨r, 0, none⟩), v] w fun e w' => e = .returned (.bool true) ∧ Below w.heap.size w w' := by
  have ha := tallg v 0 F h hC (by omega)
  rw [decide_eq_true (show inR F n 0 from fun i hi => by omega)] at ha
  have HA := Lib.hid ha
  obtain ⟨A, cap, rfl, h1, h2, h3⟩ := hC
  clear ha h h3
  go_enter Try.func35, Try.ntmps35
  go_wp2_with fail
  refine HA.out.mono ?_
  rintro e w1 ⟨rfl, b1⟩
  go_wp2_with fail
  go_loopw [6, 13] (fun s6 s13 wr => s13 = .int .i64 0 ∧ w1 = wr) (fun _ _ _ => 0)
  case atStart => exact ⟨rfl, rfl⟩
  case round =>
    obtain ⟨rfl, rfl⟩ := hrel
    go_wp2_with fail
    go_ret
    exact ⟨rfl, b1⟩
theorem trows_no (t : Int) (h : Ts tag f r w n ls sv P V) (ht : ¬ (0 ≤ t ∧ t < n)) : Calls Try.prog 36 #[.pointer (some ⟨r, 0, none⟩), .int .i64 t] w fun e w' => e = .returned (.slice none 0 0) ∧ w = w' := by
  have q1 : decide (0 ≤ t ∧ t < n) = false := decide_eq_false ht
  have H := Lib.hid h
  clear h ht
  go_enter Try.func36, Try.ntmps36
  go_wp2_with fail
  refine (thas _ H.out).mono ?_
  rintro e w1 ⟨rfl, rfl⟩
  rw [q1]
  go_wp2_with fail
  go_ret
  exact ⟨rfl, rfl⟩
theorem tlen_no (t : Int) (h : Ts tag f r w n ls sv P V) (ht : ¬ (0 ≤ t ∧ t < n)) : Calls Try.prog 37 #[.pointer (some ⟨r, 0, none⟩), .int .i64 t] w fun e w' => e = .returned (.int .i64 0) ∧ w = w' := by
  have q1 : decide (0 ≤ t ∧ t < n) = false := decide_eq_false ht
  have H := Lib.hid h
  clear h ht
  go_enter Try.func37, Try.ntmps37
  go_wp2_with fail
  refine (thas _ H.out).mono ?_
  rintro e w1 ⟨rfl, rfl⟩
  rw [q1]
  go_wp2_with fail
  go_ret
  exact ⟨rfl, rfl⟩
theorem tafter_no (t k m : Int) (h : Ts tag f r w n ls sv P V) (ht : ¬ (0 ≤ t ∧ t < n)) : Calls Try.prog 44 #[.pointer (some ⟨r, 0, none⟩), .int .i64 t, .int .i64 k, .int .i64 m] w fun e w' => e = .returned (.slice none 0 0) ∧ w = w' := by
  have q1 : decide (0 ≤ t ∧ t < n) = false := decide_eq_false ht
  have H := Lib.hid h
  clear h ht
  go_enter Try.func44, Try.ntmps44
  go_wp2_with fail
  refine (thas _ H.out).mono ?_
  rintro e w1 ⟨rfl, rfl⟩
  rw [q1]
  go_wp2_with fail
  go_ret
  exact ⟨rfl, rfl⟩
theorem tafter (t : Nat) (k m : Int) (h : Ts tag f r w n ls sv P V) (ht : t < n) (hl : (ls t).length ≤ 2000) : Calls Try.prog 44 #[.pointer (some ⟨r, 0, none⟩), .int .i64 t, .int .i64 k, .int .i64 m] w (ClonePost (afterL (ls t) k m) w) := by
  obtain ⟨g, off, cap, rfl, h1, h2, h3⟩ := h.at_ t ht
  have c0 := h.blk.cell 0
  simp at c0
  have H := Lib.hid h
  have HA := Lib.hid (iafter k m (h.index t ht) hl)
  have q1 : decide (0 ≤ (t : Int) ∧ (t : Int) < n) = true := decide_eq_true (by omega)
  have q2 : (0 : Int) ≤ t := by omega
  have q3 : (t : Int) < n := by omega
  obtain ⟨L, hL⟩ : ∃ L, afterL (ls t) k m = L := ⟨_, rfl⟩
  rw [hL] at HA ⊢
  clear h hL
  go_enter Try.func44, Try.ntmps44
  go_wp2_with fail
  refine (thas _ H.out).mono ?_
  rintro e w1 ⟨rfl, rfl⟩
  rw [q1]
  go_wp2_with fail
  refine HA.out.mono ?_
  rintro e w1 ⟨A2, c2, rfl, hF, hb⟩
  have HF := Lib.hid hF
  have HB := Lib.hid hb
  clear hF hb
  go_wp2_with fail
  go_ret
  exact ⟨A2, c2, rfl, HF.out, HB.out⟩
end
end Go.Proofs.Ytkicnjbidbfajaa
