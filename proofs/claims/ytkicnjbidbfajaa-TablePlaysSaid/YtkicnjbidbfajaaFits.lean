/- Package table: Fits: plain laws; whether all changes are of tables that are there. -/
import Derived.Test.YtkicnjbidbfajaaMap
namespace Go.Proofs.Ytkicnjbidbfajaa
open Go.ChangeShapes Go.WideShapes Go.ChangeAt Go.RowKit
set_option linter.unusedVariables false
set_option linter.unusedSimpArgs false
theorem mem_del {l : List Rw} (hU : Up l) (k : Int) (x : Rw) : x ∈ delL l k ↔ x ∈ l ∧ x.1 ≠ k := by
  unfold delL
  cases hh : has l k with
  | false =>
    simp only [Bool.false_eq_true, if_false]
    refine ⟨fun h => ⟨h, fun e => ?_⟩, fun h => h.1⟩
    have := (has_iff l k).2 ⟨x, h, e⟩
    rw [hh] at this; cases this
  | true =>
    obtain ⟨hp, hk⟩ := has_lt hU hh
    simp only [if_true]
    rw [List.mem_eraseIdx_iff_getElem]
    constructor
    · rintro ⟨i, hi, hne, rfl⟩
      exact ⟨List.getElem_mem _, fun e => hne (up_inj hU hi hp (by rw [e, hk]))⟩
    · rintro ⟨h1, h2⟩
      obtain ⟨i, hi, rfl⟩ := List.getElem_of_mem h1
      exact ⟨i, hi, fun e => h2 (by subst e; exact hk), rfl⟩
theorem has_del {l : List Rw} (hU : Up l) (k k' : Int) : has (delL l k) k' = (has l k' && !(k == k')) := by
  rw [Bool.eq_iff_iff, has_iff]
  simp only [Bool.and_eq_true, has_iff, mem_del hU]
  constructor
  · rintro ⟨m, ⟨h1, h2⟩, rfl⟩
    exact ⟨⟨m, h1, rfl⟩, by simp; exact fun e => h2 e.symm⟩
  · rintro ⟨⟨m, h1, rfl⟩, h2⟩
    exact ⟨m, ⟨h1, fun e => by simp [e] at h2⟩, rfl⟩
theorem has_chg {l : List Rw} (hU : Up l) (c : Cg) (k : Int) : has (chg l c) k = if k = c.ky then !c.gn else has l k := by
  unfold chg
  cases hg : c.gn with
  | true =>
    simp only [if_true]
    rw [has_del hU]
    by_cases e : k = c.ky
    · simp [e]
    · simp [e, Ne.symm e]
  | false =>
    simp only [Bool.false_eq_true, if_false]
    rw [(get_put hU _ _ _).1]
    by_cases e : k = c.ky
    · simp [e]
    · simp [e, Ne.symm e]
/-- what a change does to a table's rows' number -/
def dN (was gn : Bool) : Int := if was then (if gn then -1 else 0) else (if gn then 0 else 1)
theorem chg_count {l : List Rw} (hU : Up l) (c : Cg) : ((chg l c).length : Int) = l.length + dN (has l c.ky) c.gn := by
  unfold chg putL delL dN
  have hp := pos_le l c.ky
  cases hh : has l c.ky with
  | true =>
    obtain ⟨hp, hk⟩ := has_lt hU hh
    cases hg : c.gn <;> simp [List.length_eraseIdx, hp]
    omega
  | false =>
    cases hg : c.gn <;> simp
    omega
/-- what the map of places says -/
def MInv (M : Int → Int → Option Bool) (ls A : Nat → List Rw) (n : Nat) : Prop := ∀ (t : Nat) (k : Int), t < n → (M t k).getD (has (ls t) k) = has (A t) k
theorem minv_step {M : Int → Int → Option Bool} {ls A : Nat → List Rw} {n t : Nat} (h : MInv M ls A n) (hU : ∀ t, t < n → Up (A t)) (k : Int) (g : Bool) (v : ByteArray) (ht : t < n) :
    MInv (putM M t k (!g)) ls (updT A t (chg (A t) ⟨(t : Int), k, g, v⟩)) n := by
  intro t' k' ht'
  unfold putM updT
  by_cases e : t' = t
  · subst e
    simp only [if_true, true_and]
    rw [has_chg (hU _ ht)]
    by_cases e2 : k' = k
    · simp [e2]
    · simp only [e2, if_false]; exact h _ k' ht
  · have e3 : ¬ (t' : Int) = t := by omega
    simp only [e, e3, false_and, if_false]
    exact h t' k' ht'
def inR (F : Nat → Cg) (n m : Nat) : Prop := ∀ i, i < m → 0 ≤ (F i).tb ∧ (F i).tb < n
instance (F : Nat → Cg) (n m : Nat) : Decidable (inR F n m) := inferInstanceAs (Decidable (∀ i, i < m → _))
section
variable {tag : Nat} {f f' : Nat → Nat} {r n : Nat} {w w' : World} {ls : Nat → List Rw} {sv : Value} {P : Nat → Nat} {V : Nat → Value}
set_option maxRecDepth 100000 in
theorem tallg (v : Value) (m : Nat) (F : Nat → Cg) (h : Ts tag f r w n ls sv P V) (hC : Cs w v m F) (hm : m ≤ 1000) :
    Calls Try.prog 55 #[.pointer (some ⟨r, 0, none⟩), v] w fun e w' => e = .returned (.bool (decide (inR F n m))) ∧ Below w.heap.size w w' := by
  obtain ⟨A, cap, rfl, h1, h2, h3⟩ := hC
  unfold maxLen at h2
  have H := Lib.hid h
  have HC := Lib.hid h3
  clear h h3
  go_enter Try.func55, Try.ntmps55
  go_wp2_with fail
  go_loopw [6, 9] (fun s6 s9 wr => ∃ j : Nat, j ≤ m ∧ s9 = .int .i64 j ∧ Hid (inR F n j) ∧ Below w.heap.size w wr) (fun _ s9 _ => m - (intOf s9).toNat)
  case atStart => exact ⟨0, by omega, rfl, Lib.hid (fun i hi => by omega), Below.refl _ _⟩
  case round =>
    obtain ⟨j, hj, rfl, hI, hb⟩ := hrel
    by_cases hlt : j < m
    · obtain ⟨g, off, rfl, hg, hat⟩ := HC.out (by omega)
      obtain ⟨x0, x1, x2, x3⟩ := hat j hlt
      have y0 := (hb.cell (p := ⟨g, off + j * 4, none⟩) hg).trans x0
      have y1 := (hb.cell (p := ⟨g, off + j * 4 + 1, none⟩) hg).trans x1
      have y2 := (hb.cell (p := ⟨g, off + j * 4 + 2, none⟩) hg).trans x2
      have y3 := (hb.cell (p := ⟨g, off + j * 4 + 3, none⟩) hg).trans x3
      have q1 : (0 : Int) ≤ j := by omega
      have q2 : (j : Int) < m := by omega
      have u1 : IntKind.i64.wrap ((j : Int) + 1) = (j : Int) + 1 := IntWalk.i64_in _ (by omega)
      have HB := Lib.hid hb
      have HY := Lib.hid (show 0 ≤ (F j).tb ∧ (F j).tb < n → inR F n (j + 1) from fun h i hi => by
        by_cases e : i = j
        · rw [e]; exact h
        · exact hI.out i (by omega))
      have HN := Lib.hid (show ¬ (0 ≤ (F j).tb ∧ (F j).tb < n) → decide (inR F n m) = false from fun h => decide_eq_false fun h2 => h (h2 j hlt))
      clear x0 x1 x2 x3 hat hb
      generalize (F j).tb = a0 at *
      generalize (F j).ky = a1 at *
      generalize (F j).gn = a2 at *
      generalize (F j).vl = a3 at *
      have hb2 : Below w.heap.size w (wr.alloc (.cells #[.int .i64 a0, .int .i64 a1, .bool a2, .string a3] 65)) := HB.out.alloc HB.out.size _
      by_cases hin : 0 ≤ a0 ∧ a0 < n
      · have q3 : decide (0 ≤ a0 ∧ a0 < n) = true := decide_eq_true hin
        have HI2 := Lib.hid (HY.out hin)
        go_wp2_with fail
        refine (thas a0 (H.out.below hb2)).mono ?_
        rintro e w2 ⟨rfl, rfl⟩
        rw [q3]
        have HB2 := Lib.hid hb2
        clear y0 y1 y2 y3 hb2 HB
        go_wp2_with fail
        go_roundw
        case rel => exact ⟨j + 1, by omega, by go_num, HI2, HB2.out⟩
        case measure => simp [intOf]; omega
      · have q3 : decide (0 ≤ a0 ∧ a0 < n) = false := decide_eq_false hin
        have HD := Lib.hid (HN.out hin)
        go_wp2_with fail
        refine (thas a0 (H.out.below hb2)).mono ?_
        rintro e w2 ⟨rfl, rfl⟩
        rw [q3]
        have HB2 := Lib.hid hb2
        clear y0 y1 y2 y3 hb2 HB
        go_wp2_with fail
        go_ret
        exact ⟨by rw [HD.out]; rfl, HB2.out⟩
    · obtain rfl : j = m := by omega
      have q2 : ¬ (j : Int) < j := by omega
      have HD := Lib.hid (decide_eq_true hI.out)
      go_wp2_with fail
      go_ret
      exact ⟨by rw [HD.out]; rfl, hb⟩
end
theorem infoInt : (Try.prog.info? 3).map (fun i => (i.zero, i.size, i.bytes)) = some (some (.int .i64 0), 1, 8) := by kernel_rfl
end Go.Proofs.Ytkicnjbidbfajaa
