/- The statements' helper for two lists of rows that are alike. -/
import Derived.Test.YtkicnjbidbfajaaIndexNew
namespace Go.Proofs.Ytkicnjbidbfajaa
open Go.ChangeShapes Go.WideShapes Go.ChangeAt Go.RowKit
set_option linter.unusedVariables false
set_option linter.unusedSimpArgs false
theorem plain_fn (k : Int) (s : ByteArray) (w : World) : Calls Try.prog 49 #[.agg #[.int .i64 k, .string s], .agg #[.int .i64 k, .string s]] w fun e w' => e = .returned (.bool true) ∧ Below w.heap.size w w' := by
  go_enter Try.func49, Try.ntmps49
  go_wp2_with fail
  go_ret
  exact ⟨rfl, ((Below.refl _ _).alloc (Nat.le_refl _) _).alloc (by simp) _⟩
/-- worlds behind w -/
def Bh (w0 w : World) : Prop := Below w0.heap.size w0 w
theorem Bh.more {w0 w w' : World} (h : Bh w0 w) (hb : Below w.heap.size w w') : Bh w0 w' := Below.trans h (hb.mono (Below.size h))
set_option maxRecDepth 100000 in
theorem same_row (u v : Value) (n : Nat) (l : List Rw) (w : World) (hu : Rs w u n l) (hv : Rs w v n l) (hn : n ≤ 4000) :
    Calls Try.prog 48 #[u, v, .func (.func 49) #[] #[]] w fun e w' => e = .returned (.bool true) ∧ Below w.heap.size w w' := by
  obtain ⟨A1, c1, rfl, hl1, hm1⟩ := hu.form
  obtain ⟨A2, c2, rfl, hl2, hm2⟩ := hv.form
  unfold maxLen at hm1 hm2
  have HU := Lib.hid hu
  have HV := Lib.hid hv
  have hll : l.length = n := hu.1
  clear hu hv
  go_enter Try.func48, Try.ntmps48
  go_wp2_with fail
  go_loopw [7] (fun i wr => ∃ j : Nat, j ≤ n ∧ i = .int .i64 j ∧ Bh w wr) (fun i _ => n - (intOf i).toNat)
  case atStart => exact ⟨0, by omega, rfl, Below.refl _ _⟩
  case round =>
    obtain ⟨j, hj, rfl, hb⟩ := hrel
    by_cases hlt : j < n
    · obtain ⟨g1, o1, d1, e1, _, _, hg1, hat1, _⟩ := HU.out.at_ (by omega)
      obtain ⟨g2, o2, d2, e2, _, _, hg2, hat2, _⟩ := HV.out.at_ (by omega)
      simp at e1 e2
      obtain ⟨rfl, rfl⟩ := e1
      obtain ⟨rfl, rfl⟩ := e2
      have x0 : w.cell? ⟨g1, o1 + j * 2, none⟩ = _ := hat1 _ _ (rowCells_at l j (by omega)).1
      have x1 : w.cell? ⟨g1, o1 + j * 2 + 1, none⟩ = _ := hat1 _ _ (rowCells_at l j (by omega)).2
      have y0 : w.cell? ⟨g2, o2 + j * 2, none⟩ = _ := hat2 _ _ (rowCells_at l j (by omega)).1
      have y1 : w.cell? ⟨g2, o2 + j * 2 + 1, none⟩ = _ := hat2 _ _ (rowCells_at l j (by omega)).2
      generalize l[j].1 = k at *
      generalize l[j].2 = s at *
      have hI : Bh w wr.drew := Below.drew hb
      have hne : Nonempty (WIn (Bh w)) := ⟨⟨_, hI⟩⟩
      have z0 : ∀ y : WIn (Bh w), y.w.cell? ⟨g1, o1 + j * 2, none⟩ = some (.int .i64 k) := fun y => (Below.cell y.ok hg1).trans x0
      have z1 : ∀ y : WIn (Bh w), y.w.cell? ⟨g1, o1 + j * 2 + 1, none⟩ = some (.string s) := fun y => (Below.cell y.ok hg1).trans x1
      have z2 : ∀ y : WIn (Bh w), y.w.cell? ⟨g2, o2 + j * 2, none⟩ = some (.int .i64 k) := fun y => (Below.cell y.ok hg2).trans y0
      have z3 : ∀ y : WIn (Bh w), y.w.cell? ⟨g2, o2 + j * 2 + 1, none⟩ = some (.string s) := fun y => (Below.cell y.ok hg2).trans y1
      have HI := Lib.hid hI
      have q1 : (j : Int) < n := by omega
      have q2 : (0 : Int) ≤ j := by omega
      have u1 : IntKind.i64.wrap ((j : Int) + 1) = (j : Int) + 1 := IntWalk.i64_in _ (by omega)
      clear hat1 hat2 x0 x1 y0 y1 hI
      go_upto_region 6 with fail
      refine wp_region_quiet2 (Bh w) (by kernel_rfl) (by kernel_rfl) HI.out ?_
      repeat (refine wpQ_step (fun K hK => ?_); go_simp; first | (refine hK _ ?_; clear hK K) | (apply Exists.intro; refine ⟨fun y => ?_, hK _ ?_⟩; (go_at_call 49; exact (plain_fn _ _ _).mono fun e w' ⟨he, hb⟩ => ⟨he, ⟨w', Bh.more y.ok hb⟩, rfl⟩); clear hK K))
      refine wpQ_nil ?_
      intro Y
      have HY := Lib.hid Y.ok
      clear z0 z1 z2 z3 HI hne hb
      generalize Y.w = W2 at *
      go_wp2_with fail
      go_roundw
      case rel => exact ⟨j + 1, by omega, by go_num, HY.out⟩
      case measure => simp [intOf]; omega
    · obtain rfl : j = n := by omega
      have q1 : ¬ (j : Int) < j := by omega
      go_wp2_with fail
      go_ret
      exact ⟨rfl, hb⟩
theorem plain_row (u v : Value) (n : Nat) (l : List Rw) (w : World) (hu : Rs w u n l) (hv : Rs w v n l) (hn : n ≤ 4000) :
    Calls Try.prog 19 #[u, v] w fun e w' => e = .returned (.bool true) ∧ Below w.heap.size w w' := by
  have H := Lib.hid (same_row u v n l w hu hv hn)
  clear hu hv
  go_enter Try.func19, Try.ntmps19
  go_wp2_with fail
  refine H.out.mono ?_
  rintro e w1 ⟨rfl, hb⟩
  go_wp2_with fail
  go_ret
  exact ⟨rfl, hb⟩
/-- a slice of rows that the call itself laid -/
theorem made_rows {w : World} {g : Nat} {l : List Rw} {n : Nat} (hn : l.length = n) (h0 : 0 < n) (hm : n ≤ maxLen) (h : w.heap[g]? = some (.cells (rowCells l).toArray 26 (0, 0))) : Sl w 26 2 (.slice (some ⟨g, 0, none⟩) n n) n (rowCells l) :=
  ⟨by rw [rowCells_len, hn], .inr ⟨g, 0, n, _, rfl, h, Nat.le_refl _, h0, hm, by simp [rowCells_len, hn], fun j u hu => by simpa using hu⟩⟩
set_option maxRecDepth 100000 in
theorem awake08 (w : World) : Calls Try.prog 12 #[] w fun e w' => e = .returned (.bool true) ∧ Below w.heap.size w w' := by
  go_enter Try.func12, Try.ntmps12
  go_wp2_with fail
  have hb0 : Below w.heap.size w (w.alloc (.cells #[.int .i64 5, .string ⟨#[97]⟩, .int .i64 3, .string ⟨#[98]⟩] 26)) := (Below.refl _ _).alloc (Nat.le_refl _) _
  have hS0 : Sl (w.alloc (.cells #[.int .i64 5, .string ⟨#[97]⟩, .int .i64 3, .string ⟨#[98]⟩] 26)) 26 2 (.slice (some ⟨w.heap.size, 0, none⟩) 2 2) 2 (rowCells [(5, ⟨#[97]⟩), (3, ⟨#[98]⟩)]) := made_rows rfl (by omega) (by unfold maxLen; omega) (heap_alloc_new w _)
  generalize World.alloc w _ = w1 at *
  refine (inew _ [(5, ⟨#[97]⟩), (3, ⟨#[98]⟩)] w1 (Rs.of hS0) (by simp)).mono ?_
  rintro e w2 ⟨rfl, h2⟩
  have hl : putAll [(5, ⟨#[97]⟩), (3, ⟨#[98]⟩)] = [((3 : Int), (⟨#[98]⟩ : ByteArray)), (5, ⟨#[97]⟩)] := by simp [putAll, putL, has, pos]
  rw [hl] at h2
  have H2 := Lib.hid h2
  have B2 := Lib.hid (hb0.trans (h2.low.mono hb0.size))
  clear h2 hb0 hS0 hl
  generalize w1.heap.size = r at *
  go_wp2_with fail
  refine (ilen H2.out).mono ?_
  rintro e w3 ⟨rfl, rfl⟩
  go_wp2_with fail
  refine (iafter 3 9 H2.out (by simp)).mono ?_
  have hl : afterL [((3 : Int), (⟨#[98]⟩ : ByteArray)), (5, ⟨#[97]⟩)] 3 9 = [((5 : Int), (⟨#[97]⟩ : ByteArray))] := by simp [afterL, behind, has, pos, cntN]
  rw [hl]
  clear hl
  rintro e w3 ⟨A, c, rfl, hF, hb⟩
  have HF := Lib.hid hF
  have B3 := Lib.hid (B2.out.trans (hb.mono B2.out.size))
  clear hF hb
  go_wp2_with fail
  have hb4 : Below w3.heap.size w3 (w3.alloc (.cells #[.int .i64 5, .string ⟨#[97]⟩] 26)) := (Below.refl _ _).alloc (Nat.le_refl _) _
  refine (plain_row _ _ 1 [(5, ⟨#[97]⟩)] _ (Rs.of (HF.out.1.below hb4)) (Rs.of (made_rows rfl (by omega) (by unfold maxLen; omega) (heap_alloc_new w3 _))) (by omega)).mono ?_
  rintro e w5 ⟨rfl, hb5⟩
  have B5 := Lib.hid (B3.out.trans ((hb4.trans (hb5.mono hb4.size)).mono B3.out.size))
  clear hb4 hb5
  go_wp2_with fail
  go_ret
  exact ⟨rfl, B5.out⟩
end Go.Proofs.Ytkicnjbidbfajaa
