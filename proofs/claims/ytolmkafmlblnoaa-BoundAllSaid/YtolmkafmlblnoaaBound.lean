/- Package bound: sums, which loads and configs may be. -/
import Derived.Test.YtolmkafmlblnoaaRows
import Derived.Test.YtolmkafmlblnoaaCommon
import Derived.Test.YtolmkafmlblnoaaRegion
import Derived.Test.YtolmkafmlblnoaaStage
import Derived.Deep.DeepCutAuto
import Derived.Deep.CutBlock
namespace Go.Proofs.Ytolmkafmlblnoaa
open Go.ChangeShapes Go.WideShapes Go.ChangeAt Go.RowKit
set_option linter.unusedVariables false
set_option linter.unusedSimpArgs false
theorem mod_any (v n : Int) (w : World) (h0 : 1 ≤ n) (h1 : n ≤ 9223372036854775807) :
    Calls Try.prog 15 #[.int .i64 v, .int .i64 n] w fun e w' => e = .returned (.int .i64 (bigS v n)) ∧ w = w' := by
  have HF := Lib.hid (bigS_walk v n h0 h1)
  go_enter Try.func15, Try.ntmps15
  go_wp2
  all_goals go_ret
  exact ⟨ret_int HF.out, rfl⟩
theorem big_any (v n : Int) (w : World) (h0 : 1 ≤ n) (h1 : n ≤ 9223372036854775807) :
    Calls Try.prog 16 #[.int .i64 v, .int .i64 n] w fun e w' => e = .returned (.int .i64 (bigS v n)) ∧ w = w' := by
  have HF := Lib.hid (bigS_walk v n h0 h1)
  go_enter Try.func16, Try.ntmps16
  go_wp2
  all_goals go_ret
  exact ⟨ret_int HF.out, rfl⟩
def mayB (b m j : Int) : Bool := decide (1 ≤ b ∧ b ≤ 1073741824 ∧ b ≤ m ∧ m ≤ 1073741824 ∧ 0 ≤ j ∧ j ≤ 1073741824)
theorem mayb_any (b m j : Int) (w : World) :
    Calls Try.prog 28 #[.int .i64 b, .int .i64 m, .int .i64 j] w fun e w' => e = .returned (.bool (mayB b m j)) ∧ w = w' := by
  go_enter Try.func28, Try.ntmps28
  go_wp2
  all_goals (go_ret; exact ⟨ret_bool (by simp only [mayB]; first | (symm; rw [decide_eq_false_iff_not]; omega) | (rw [decide_eq_decide]; omega)), rfl⟩)
theorem rmayb_any (b m j : Int) (w : World) :
    Calls Try.prog 29 #[.int .i64 b, .int .i64 m, .int .i64 j] w fun e w' => e = .returned (.bool (mayB b m j)) ∧ w = w' := by
  go_enter Try.func29, Try.ntmps29
  go_wp2
  all_goals (go_ret; exact ⟨ret_bool (by simp only [mayB]; first | (symm; rw [decide_eq_false_iff_not]; omega) | (rw [decide_eq_decide]; omega)), rfl⟩)
def inB (n a b : Int) : Bool := decide (a ≤ n ∧ n ≤ b)
theorem within_any (n a b : Int) (w : World) :
    Calls Try.prog 27 #[.int .i64 n, .int .i64 a, .int .i64 b] w fun e w' => e = .returned (.bool (inB n a b)) ∧ w = w' := by
  go_enter Try.func27, Try.ntmps27
  go_wp2
  all_goals (go_ret; exact ⟨ret_bool (by simp only [inB]; first | (symm; rw [decide_eq_false_iff_not]; omega) | (rw [decide_eq_decide]; omega)), rfl⟩)
/-- the sum of the first k -/
def sumS (xs : List Int) : Int := xs.foldl (fun a x => wrap64 (a + x)) 0
theorem sumS_next (xs : List Int) (k : Nat) (h : k < xs.length) : sumS (xs.take (k + 1)) = wrap64 (sumS (xs.take k) + xs[k]) := by
  unfold sumS
  rw [List.take_succ_eq_append_getElem h, List.foldl_append]; rfl
theorem sum_any (g : Nat) (xs : List Int) (w : World) (h0 : 0 < xs.length) (h1 : xs.length < 100) (hg : ∀ k (hk : k < xs.length), w.cell? ⟨g, k, none⟩ = some (.int .i64 xs[k])) (cap : Nat) :
    Calls Try.prog 19 #[.slice (some ⟨g, 0, none⟩) xs.length cap] w fun e w' => e = .returned (.int .i64 (sumS xs)) ∧ w = w' := by
  have HG := Lib.hid hg
  clear hg
  go_enter Try.func19, Try.ntmps19
  go_wp2_with fail
  go_loopw [3, 8] (fun a i wr => ∃ q : Nat, q ≤ xs.length ∧ i = .int .i64 q ∧ a = .int .i64 (sumS (xs.take q)) ∧ wr = w) (fun _ i _ => xs.length - (intOf i).toNat)
  case atStart => exact ⟨0, by omega, rfl, rfl, rfl⟩
  case round =>
    obtain ⟨q, hq, rfl, rfl, rfl⟩ := hrel
    by_cases hlt : q < xs.length
    · have hq1 : (q : Int) < xs.length := by omega
      have e0 := HG.out q hlt
      have HN := Lib.hid (sumS_next xs q hlt)
      generalize sumS (xs.take q) = S at *
      generalize xs[q] = X at *
      go_wp2_with fail
      go_roundw
      case rel => exact ⟨q + 1, by omega, by go_num, by rw [HN.out], by first | rfl | trivial⟩
      case measure => simp [intOf]; omega
    · have hq1 : ¬ (q : Int) < xs.length := by omega
      obtain rfl : q = xs.length := by omega
      have HN := Lib.hid (show sumS (xs.take xs.length) = sumS xs by rw [List.take_length])
      go_wp2_with fail
      go_ret
      exact ⟨ret_int (by first | rfl | exact HN.out | simp), rfl⟩
@[go_sem] def loadV (u r q : Int) (t : Bool) (c f wt : Int) : Value := .agg #[.int .i64 u, .int .i64 r, .int .i64 q, .bool t, .int .i64 c, .int .i64 f, .int .i64 wt]
def okN (n : Int) : Prop := 0 ≤ n ∧ n ≤ 1048576
def mayL (u r q c f wt : Int) : Bool := decide ((0 ≤ u ∧ u ≤ 1048576) ∧ (0 ≤ r ∧ r ≤ 1048576) ∧ (0 ≤ q ∧ q ≤ 1048576) ∧ (0 ≤ c ∧ c ≤ 1048576) ∧ (0 ≤ f ∧ f ≤ 1048576) ∧ 0 ≤ wt ∧ wt ≤ 2147483648)
theorem mayL_all (u r q c f wt : Int) (h : ∀ k, k < 5 → 0 ≤ [u, r, q, c, f].getD k 0 ∧ [u, r, q, c, f].getD k 0 ≤ 1048576) : mayL u r q c f wt = decide (0 ≤ wt ∧ wt ≤ 2147483648) := by
  have a0 := h 0 (by decide)
  have a1 := h 1 (by decide)
  have a2 := h 2 (by decide)
  have a3 := h 3 (by decide)
  have a4 := h 4 (by decide)
  simp at a0 a1 a2 a3 a4
  simp only [mayL]; rw [decide_eq_decide]; omega
theorem mayL_one (u r q c f wt : Int) (k : Nat) (hk : k < 5) (h : [u, r, q, c, f].getD k 0 < 0 ∨ 1048576 < [u, r, q, c, f].getD k 0) : mayL u r q c f wt = false := by
  simp only [mayL]; rw [decide_eq_false_iff_not]
  have : k = 0 ∨ k = 1 ∨ k = 2 ∨ k = 3 ∨ k = 4 := by omega
  rcases this with rfl | rfl | rfl | rfl | rfl <;> simp at h <;> omega
theorem cells5 (w : World) (o : Obj) (t : TypeId) (a b c d e : Int) (k : Nat) (hk : k < 5) :
    ((w.alloc o).alloc (.cells #[.int .i64 a, .int .i64 b, .int .i64 c, .int .i64 d, .int .i64 e] t)).cell? ⟨w.heap.size + 1, k, none⟩ = some (.int .i64 ([a, b, c, d, e].getD k 0)) := by
  have h := heap_alloc_new (w.alloc o) (.cells #[.int .i64 a, .int .i64 b, .int .i64 c, .int .i64 d, .int .i64 e] t)
  have hs : (w.alloc o).heap.size = w.heap.size + 1 := Array.size_push ..
  rw [hs] at h
  rw [cells_of h]
  have : k = 0 ∨ k = 1 ∨ k = 2 ∨ k = 3 ∨ k = 4 := by omega
  rcases this with rfl | rfl | rfl | rfl | rfl <;> rfl
theorem mayl_any (u r q : Int) (t : Bool) (c f wt : Int) (w : World) :
    Calls Try.prog 18 #[loadV u r q t c f wt] w fun e w' => e = .returned (.bool (mayL u r q c f wt)) ∧ Below w.heap.size w w' := by
  unfold loadV
  have hA := Lib.hid (mayL_all u r q c f wt)
  have hO := Lib.hid (mayL_one u r q c f wt)
  go_enter Try.func18, Try.ntmps18
  go_wp2_with fail
  have HC := Lib.hid (cells5 w (.cells #[.int .i64 u, .int .i64 r, .int .i64 q, .bool t, .int .i64 c, .int .i64 f, .int .i64 wt] 25) 3 u r q c f)
  have HL := Lib.hid ((Blk.new w 25 #[.int .i64 u, .int .i64 r, .int .i64 q, .bool t, .int .i64 c, .int .i64 f, .int .i64 wt]).alloc (.cells #[.int .i64 u, .int .i64 r, .int .i64 q, .int .i64 c, .int .i64 f] 3))
  have HB := Lib.hid (((Below.refl w.heap.size w).alloc (Nat.le_refl _) (.cells #[.int .i64 u, .int .i64 r, .int .i64 q, .bool t, .int .i64 c, .int .i64 f, .int .i64 wt] 25)).alloc (by rw [show (w.alloc _).heap.size = w.heap.size + 1 from Array.size_push ..]; omega) (.cells #[.int .i64 u, .int .i64 r, .int .i64 q, .int .i64 c, .int .i64 f] 3))
  generalize hW : World.alloc (World.alloc _ _) _ = W1 at *
  clear hW
  obtain ⟨B, hr⟩ : ∃ r, w.heap.size = r := ⟨_, rfl⟩
  rw [hr] at HC HL HB ⊢
  generalize hxs : [u, r, q, c, f] = xs at hA hO HC
  clear hxs
  go_loopw [4, 17] (fun _ i wr => ∃ k : Nat, k ≤ 5 ∧ i = .int .i64 k ∧ (∀ j, j < k → 0 ≤ xs.getD j 0 ∧ xs.getD j 0 ≤ 1048576) ∧ wr = W1) (fun _ i _ => 5 - (intOf i).toNat)
  case atStart => exact ⟨0, by omega, rfl, by omega, rfl⟩
  case round =>
    obtain ⟨k, hk, rfl, hall, rfl⟩ := hrel
    by_cases hlt : k < 5
    · have hk1 : (k : Int) < 5 := by omega
      have e0 := HC.out k hlt
      have hone := Lib.hid (hO.out k hlt)
      have HX : ∃ X, xs.getD k 0 = X := ⟨_, rfl⟩
      obtain ⟨X, hX⟩ := HX
      have hX' := Lib.hid hX
      rw [hX] at e0 hone
      clear hX
      have hx3 : X < 0 ∨ ¬ X < 0 ∧ 1048576 < X ∨ ¬ X < 0 ∧ ¬ 1048576 < X := by omega
      rcases hx3 with h1 | ⟨h1, h2⟩ | ⟨h1, h2⟩
      · go_wp2_with fail
        go_ret
        exact ⟨ret_bool (hone.out (by omega)).symm, by first | exact HB.out | (rw [hr]; exact HB.out)⟩
      · go_wp2_with fail
        go_ret
        exact ⟨ret_bool (hone.out (by omega)).symm, by first | exact HB.out | (rw [hr]; exact HB.out)⟩
      · go_wp2_with fail
        go_roundw
        case rel =>
          refine ⟨k + 1, by omega, by go_num, ?_, by first | rfl | trivial⟩
          intro j hj
          by_cases hjk : j = k
          · subst hjk; rw [hX'.out]; omega
          · exact hall j (by omega)
        case measure => simp [intOf]; omega
    · have hk1 : ¬ (k : Int) < 5 := by omega
      have hfin := Lib.hid (hA.out (fun j hj => hall j (by omega)))
      have e6 := HL.out.cell 6
      go_wp2
      all_goals (go_ret; exact ⟨ret_bool (by rw [hfin.out]; first | (symm; rw [decide_eq_false_iff_not]; omega) | (rw [decide_eq_decide]; omega)), by first | exact HB.out | (rw [hr]; exact HB.out)⟩)
theorem rmayl_any (u r q : Int) (t : Bool) (c f wt : Int) (w : World) :
    Calls Try.prog 23 #[loadV u r q t c f wt] w fun e w' => e = .returned (.bool (mayL u r q c f wt)) ∧ Below w.heap.size w w' := by
  unfold loadV
  have hA := Lib.hid (mayL_all u r q c f wt)
  have hO := Lib.hid (mayL_one u r q c f wt)
  go_enter Try.func23, Try.ntmps23
  go_wp2_with fail
  have HC := Lib.hid (cells5 w (.cells #[.int .i64 u, .int .i64 r, .int .i64 q, .bool t, .int .i64 c, .int .i64 f, .int .i64 wt] 25) 3 u r q c f)
  have HL := Lib.hid ((Blk.new w 25 #[.int .i64 u, .int .i64 r, .int .i64 q, .bool t, .int .i64 c, .int .i64 f, .int .i64 wt]).alloc (.cells #[.int .i64 u, .int .i64 r, .int .i64 q, .int .i64 c, .int .i64 f] 3))
  have HB := Lib.hid (((Below.refl w.heap.size w).alloc (Nat.le_refl _) (.cells #[.int .i64 u, .int .i64 r, .int .i64 q, .bool t, .int .i64 c, .int .i64 f, .int .i64 wt] 25)).alloc (by rw [show (w.alloc _).heap.size = w.heap.size + 1 from Array.size_push ..]; omega) (.cells #[.int .i64 u, .int .i64 r, .int .i64 q, .int .i64 c, .int .i64 f] 3))
  generalize hW : World.alloc (World.alloc _ _) _ = W1 at *
  clear hW
  obtain ⟨B, hr⟩ : ∃ r, w.heap.size = r := ⟨_, rfl⟩
  rw [hr] at HC HL HB ⊢
  generalize hxs : [u, r, q, c, f] = xs at hA hO HC
  clear hxs
  go_loopw [4] (fun i wr => ∃ k : Nat, k ≤ 5 ∧ i = .int .i64 k ∧ (∀ j, j < k → 0 ≤ xs.getD j 0 ∧ xs.getD j 0 ≤ 1048576) ∧ wr = W1) (fun i _ => 5 - (intOf i).toNat)
  case atStart => exact ⟨0, by omega, rfl, by omega, rfl⟩
  case round =>
    obtain ⟨k, hk, rfl, hall, rfl⟩ := hrel
    by_cases hlt : k < 5
    · have hk1 : (k : Int) < 5 := by omega
      have e0 := HC.out k hlt
      have hone := Lib.hid (hO.out k hlt)
      have HX : ∃ X, xs.getD k 0 = X := ⟨_, rfl⟩
      obtain ⟨X, hX⟩ := HX
      have hX' := Lib.hid hX
      rw [hX] at e0 hone
      clear hX
      have hx3 : X < 0 ∨ ¬ X < 0 ∧ 1048576 < X ∨ ¬ X < 0 ∧ ¬ 1048576 < X := by omega
      rcases hx3 with h1 | ⟨h1, h2⟩ | ⟨h1, h2⟩
      · go_wp2_with fail
        go_ret
        exact ⟨ret_bool (hone.out (by omega)).symm, by first | exact HB.out | (rw [hr]; exact HB.out)⟩
      · go_wp2_with fail
        go_ret
        exact ⟨ret_bool (hone.out (by omega)).symm, by first | exact HB.out | (rw [hr]; exact HB.out)⟩
      · go_wp2_with fail
        go_roundw
        case rel =>
          refine ⟨k + 1, by omega, by go_num, ?_, by first | rfl | trivial⟩
          intro j hj
          by_cases hjk : j = k
          · subst hjk; rw [hX'.out]; omega
          · exact hall j (by omega)
        case measure => simp [intOf]; omega
    · have hk1 : ¬ (k : Int) < 5 := by omega
      have hfin := Lib.hid (hA.out (fun j hj => hall j (by omega)))
      have e6 := HL.out.cell 6
      go_wp2
      all_goals (go_ret; exact ⟨ret_bool (by rw [hfin.out]; first | (symm; rw [decide_eq_false_iff_not]; omega) | (rw [decide_eq_decide]; omega)), by first | exact HB.out | (rw [hr]; exact HB.out)⟩)
def costS (n : Int) : Int := 4 + 12 * min (max n 0) 16
theorem rcost_any (n : Int) (w : World) :
    Calls Try.prog 14 #[.int .i64 n] w fun e w' => e = .returned (.int .i64 (costS n)) ∧ Below w.heap.size w w' := by
  have h3 : n < 0 ∨ ¬ n < 0 ∧ n < 16 ∨ ¬ n < 0 ∧ ¬ n < 16 := by omega
  rcases h3 with h1 | ⟨h1, h2⟩ | ⟨h1, h2⟩ <;> (try have h2 : n < 16 := by omega)
  all_goals
    go_enter Try.func14, Try.ntmps14
    go_wp2
    all_goals go_ret
    all_goals exact ⟨ret_int (by unfold costS; (try simp only [wrap64]); omega), Below.refl _ _⟩
end Go.Proofs.Ytolmkafmlblnoaa
