/- Where a key stands: the compare, the search. -/
import Derived.Test.YtkicnjbidbfajaaRow
namespace Go.Proofs.Ytkicnjbidbfajaa
open Go.ChangeShapes Go.WideShapes Go.ChangeAt Go.RowKit
set_option linter.unusedVariables false
set_option linter.unusedSimpArgs false
theorem nan_any (a : Int) (w : World) : Calls Try.prog 65 #[.int .i64 a] w fun e w' => e = .returned (.bool false) ∧ w = w' := by
  go_enter Try.func65, Try.ntmps65
  go_wp2
  go_ret
  exact ⟨rfl, rfl⟩
def cmpS (a b : Int) : Int := if a < b then -1 else if b < a then 1 else 0
theorem cmp_any (a b : Int) (w : World) : Calls Try.prog 62 #[.int .i64 a, .int .i64 b] w fun e w' => e = .returned (.int .i64 (cmpS a b)) ∧ w = w' := by
  by_cases h1 : a < b
  · have e : cmpS a b = -1 := by simp [cmpS, h1]
    rw [e]
    clear e
    go_enter Try.func62, Try.ntmps62
    go_wp2_with (go_at_call 65; refine (nan_any _ _).mono ?_; rintro e w' ⟨rfl, rfl⟩)
    go_ret
    exact ⟨rfl, rfl⟩
  · by_cases h2 : b < a
    · have e : cmpS a b = 1 := by simp [cmpS, h1, h2]
      rw [e]
      clear e
      go_enter Try.func62, Try.ntmps62
      go_wp2_with (go_at_call 65; refine (nan_any _ _).mono ?_; rintro e w' ⟨rfl, rfl⟩)
      go_ret
      exact ⟨rfl, rfl⟩
    · have e : cmpS a b = 0 := by simp [cmpS, h1, h2]
      rw [e]
      clear e
      go_enter Try.func62, Try.ntmps62
      go_wp2_with (go_at_call 65; refine (nan_any _ _).mono ?_; rintro e w' ⟨rfl, rfl⟩)
      go_ret
      exact ⟨rfl, rfl⟩
theorem by_key (k x : Int) (v : ByteArray) (w : World) : Calls Try.prog 61 #[.agg #[.int .i64 x, .string v], .int .i64 k] w fun e w' => e = .returned (.int .i64 (cmpS x k)) ∧ Below w.heap.size w w' := by
  go_enter Try.func61, Try.ntmps61
  go_wp2_with fail
  refine (cmp_any _ _ _).mono ?_
  rintro e w1 ⟨rfl, rfl⟩
  go_wp2_with fail
  go_ret
  exact ⟨rfl, (Below.refl _ _).alloc (Nat.le_refl _) _⟩
set_option maxRecDepth 100000 in
theorem search_any (v : Value) (l : List Rw) (k : Int) (w : World) (h : Sl w 26 2 v l.length (rowCells l)) (hU : Up l) (hn : l.length ≤ 2000) :
    Calls Try.prog 60 #[v, .int .i64 k, .func (.func 61) #[] #[]] w fun e w' => e = .returned (.tuple #[.int .i64 (pos l k), .bool (has l k)]) ∧ Below w.heap.size w w' := by
  obtain ⟨A, cap, rfl, hlc, hcm⟩ := h.form
  unfold maxLen at hcm
  have H := Lib.hid h
  have HU := Lib.hid hU
  clear h hU
  go_enter Try.func60, Try.ntmps60
  go_wp2_with fail
  go_loopw [9, 10] (fun s9 s10 wr => ∃ lo hi : Nat, s9 = .int .i64 lo ∧ s10 = .int .i64 hi ∧ lo ≤ hi ∧ hi ≤ l.length ∧ Hid ((∀ t (ht : t < l.length), t < lo → l[t].1 < k) ∧ (∀ t (ht : t < l.length), hi ≤ t → k ≤ l[t].1)) ∧ Below w.heap.size w wr) (fun s9 s10 _ => (intOf s10 - intOf s9).toNat)
  case atStart => exact ⟨0, l.length, rfl, rfl, by omega, by omega, Lib.hid ⟨fun t _ ht => by omega, fun t ht h => by omega⟩, Below.refl _ _⟩
  case round =>
    obtain ⟨lo, hi, rfl, rfl, hlh, hin, hI, hb⟩ := hrel
    by_cases hlt : lo < hi
    · obtain ⟨m, hm⟩ : ∃ m, (lo + hi) / 2 = m := ⟨_, rfl⟩
      have hml : m < l.length := by omega
      obtain ⟨g, off, cap', hv, _, _, hg, hat, _⟩ := H.out.at_ (by omega)
      simp at hv
      obtain ⟨rfl, rfl⟩ := hv
      have x0 : wr.cell? ⟨g, off + m * 2, none⟩ = some (.int .i64 l[m].1) := (hb.cell hg).trans (hat _ _ (rowCells_at l m hml).1)
      have x1 : wr.cell? ⟨g, off + m * 2 + 1, none⟩ = some (.string l[m].2) := (hb.cell hg).trans (hat _ _ (rowCells_at l m hml).2)
      have HBb := Lib.hid hb
      have hx1 := Lib.hid (show l[m].1 < k → ∀ t (ht : t < l.length), t < m + 1 → l[t].1 < k from fun hk t ht htm => by
        by_cases e : t = m
        · subst e; exact hk
        · have := up_lt HU.out t m hml (by omega); omega)
      have hx2 := Lib.hid (show ¬ l[m].1 < k → ∀ t (ht : t < l.length), m ≤ t → k ≤ l[t].1 from fun hk t ht htm => by
        by_cases e : t = m
        · subst e; omega
        · have := up_lt HU.out m t ht (by omega); omega)
      have hml2 := Lib.hid hml
      generalize l[m].1 = y at *
      generalize l[m].2 = z at *
      clear hb hat hml
      have e1 : IntKind.i64.wrap ((lo : Int) + (hi : Int)) = (lo : Int) + (hi : Int) := IntWalk.i64_in _ (by omega)
      go_upto_region 5 with fail
      have em : ((lo : Int) + (hi : Int)) / 2 = (m : Int) := by omega
      rw [em]
      have q1 : (0 : Int) ≤ (m : Int) := by omega
      have q2 : (m : Int) < l.length := by have := hml2.out; omega
      have q3 : m < l.length := hml2.out
      have u1 : IntKind.i64.wrap ((m : Int) + 1) = (m : Int) + 1 := IntWalk.i64_in _ (by omega)
      clear em e1
      by_cases hy : y < k
      · have hc : cmpS y k = -1 := by simp [cmpS, hy]
        have HX := Lib.hid (hx1.out hy)
        clear hx1 hx2 hy
        go_wp2_with fail
        refine (by_key k y z _).mono ?_
        rintro e w2 ⟨rfl, b2⟩
        rw [hc]
        have b3 : Below w.heap.size w w2 := HBb.out.trans (b2.mono HBb.out.size)
        have HB3 := Lib.hid b3
        clear x0 x1 b2 b3 HBb hc
        go_wp2_with fail
        go_roundw
        case rel => exact ⟨m + 1, hi, by go_num, rfl, by omega, hin, Lib.hid ⟨HX.out, hI.out.2⟩, HB3.out⟩
        case measure => simp [intOf]; omega
      · have hc : ∃ c : Int, cmpS y k = c ∧ ¬ c < 0 := ⟨_, rfl, by unfold cmpS; split <;> (try split) <;> omega⟩
        obtain ⟨c, hc, hc0⟩ := hc
        have HX := Lib.hid (hx2.out hy)
        clear hx1 hx2 hy
        go_wp2_with fail
        refine (by_key k y z _).mono ?_
        rintro e w2 ⟨rfl, b2⟩
        rw [hc]
        have b3 : Below w.heap.size w w2 := HBb.out.trans (b2.mono HBb.out.size)
        have HB3 := Lib.hid b3
        clear x0 x1 b2 b3 HBb hc
        go_wp2_with fail
        go_roundw
        case rel => exact ⟨lo, m, rfl, rfl, by omega, by omega, Lib.hid ⟨hI.out.1, HX.out⟩, HB3.out⟩
        case measure => simp [intOf]; omega
    · obtain rfl : lo = hi := by omega
      have hp := pos_of l k lo hin hI.out.1 hI.out.2
      have HB3 := Lib.hid hb
      clear hb hI hlh
      by_cases hl : lo < l.length
      · obtain ⟨g, off, cap', hv, _, _, hg, hat, _⟩ := H.out.at_ (by omega)
        simp at hv
        obtain ⟨rfl, rfl⟩ := hv
        have x0 : wr.cell? ⟨g, off + lo * 2, none⟩ = some (.int .i64 l[lo].1) := (HB3.out.cell hg).trans (hat _ _ (rowCells_at l lo hl).1)
        have x1 : wr.cell? ⟨g, off + lo * 2 + 1, none⟩ = some (.string l[lo].2) := (HB3.out.cell hg).trans (hat _ _ (rowCells_at l lo hl).2)
        have q1 : (0 : Int) ≤ (lo : Int) := by omega
        have q2 : (lo : Int) < l.length := by omega
        have hh : has l k = (cmpS l[lo].1 k == 0) := by
          rw [has_pos HU.out, dif_pos (by rw [hp]; exact hl)]
          simp only [hp, cmpS]
          by_cases c1 : l[lo].1 < k
          · simp [c1]; omega
          · by_cases c2 : k < l[lo].1
            · simp [c1, c2]; omega
            · simp [c1, c2]; omega
        have HP := Lib.hid hp
        have HH := Lib.hid hh
        clear hp hh hat
        have hl2 := Lib.hid hl
        generalize l[lo].1 = y at *
        generalize l[lo].2 = z at *
        have q3 : ¬ ((lo : Int) < lo) := by omega
        have q4 : ¬ (lo < lo) := by omega
        clear hlt
        go_wp2_with fail
        refine (by_key k y z _).mono ?_
        rintro e w2 ⟨rfl, b2⟩
        have b3 : Below w.heap.size w w2 := HB3.out.trans (b2.mono HB3.out.size)
        have HB4 := Lib.hid b3
        clear x0 x1 b2 b3 HB3
        go_wp2_with fail
        go_ret2
        exact ⟨by rw [HP.out, HH.out]; rfl, HB4.out⟩
      · obtain rfl : lo = l.length := by omega
        have hh : has l k = false := by rw [has_pos HU.out, dif_neg (by rw [hp]; omega)]
        have HP := Lib.hid hp
        have HH := Lib.hid hh
        clear hp hh hlt hl
        go_wp2_with fail
        go_ret2
        exact ⟨by rw [HP.out, HH.out]; rfl, HB3.out⟩
/-- an index's rows -/
def ixAt (w : World) (p : Nat) (v : Value) (l : List Rw) : Prop :=
  Blk w p 79 #[v] ∧ Sl w 26 2 v l.length (rowCells l) ∧ v.ownBlock ≠ some p ∧ ∀ g, v.ownBlock = some g → g < w.heap.size
theorem ixAt.keeps {S : Nat → Prop} {w w' : World} {p : Nat} {v : Value} {l : List Rw} (h : ixAt w p v l) (k : Keeps S w w') (h1 : ¬ S p) (h2 : ∀ g, v.ownBlock = some g → ¬ S g) : ixAt w' p v l :=
  ⟨k.at_ h.1 h1, h.2.1.keeps k h2, h.2.2.1, fun g hg => Nat.lt_of_lt_of_le (h.2.2.2 g hg) k.size⟩
theorem ixAt.below {w w' : World} {p : Nat} {v : Value} {l : List Rw} (h : ixAt w p v l) (hb : Below w.heap.size w w') : ixAt w' p v l :=
  h.keeps (S := fun _ => False) ⟨hb.os, hb.tape, hb.output, hb.size, fun k hk _ => hb.block k hk⟩ id (fun _ _ => id)
theorem find_any (p : Nat) (v : Value) (l : List Rw) (k : Int) (w : World) (h : ixAt w p v l) (hU : Up l) (hn : l.length ≤ 2000) :
    Calls Try.prog 47 #[.pointer (some ⟨p, 0, none⟩), .int .i64 k] w fun e w' => e = .returned (.tuple #[.int .i64 (pos l k), .bool (has l k)]) ∧ Below w.heap.size w w' := by
  have H := Lib.hid (search_any v l k w h.2.1 hU hn)
  have c0 := h.1.cell 0
  simp at c0
  clear h hU hn
  go_enter Try.func47, Try.ntmps47
  go_wp2_with fail
  refine H.out.mono ?_
  rintro e w1 ⟨rfl, b1⟩
  have B1 := Lib.hid b1
  clear b1 c0
  go_wp2_with fail
  go_ret2
  exact ⟨rfl, B1.out⟩
end Go.Proofs.Ytkicnjbidbfajaa
