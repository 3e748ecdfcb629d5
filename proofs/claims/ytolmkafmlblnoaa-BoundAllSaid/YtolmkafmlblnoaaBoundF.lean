/- Package bound: waits; Rounds and Lag of what may not be. -/
import Derived.Test.YtolmkafmlblnoaaBoundE
import Derived.Deep.RegionHeld3
namespace Go.Proofs.Ytolmkafmlblnoaa
open Go.ChangeShapes Go.WideShapes Go.ChangeAt Go.RowKit
set_option linter.unusedVariables false
set_option linter.unusedSimpArgs false
theorem alloc2_new (w : World) (o p : Obj) : ((w.alloc o).alloc p).heap[w.heap.size + 1]? = some p := by
  have h := heap_alloc_new (w.alloc o) p
  rwa [World.size_alloc] at h
theorem sum2' (a b : Int) (w : World) (B : Nat) {t : TypeId} (hB : w.heap[B]? = some (.cells #[.int .i64 a, .int .i64 b] t (0, 0))) (cap : Nat) (S : Int) (ha : -9223372036854775808 ≤ a ∧ a ≤ 9223372036854775807) (hS : wrap64 (a + b) = S) :
    Calls Try.prog 19 #[.slice (some ⟨B, 0, none⟩) 2 cap] w fun e w' => e = .returned (.int .i64 S) ∧ w = w' := by
  subst hS
  refine (sum_any B [a, b] _ (by simp) (by simp) (fun k hk => by rw [cells_of hB]; rcases k with _ | _ | _ | _ | k <;> first | rfl | (exfalso; simp at hk <;> omega)) cap).mono ?_
  rintro e w' ⟨rfl, rfl⟩
  refine ⟨ret_int ?_, rfl⟩
  simp only [sumS, List.foldl]
  rw [show (0 : Int) + a = a by omega, wrap64_of a ha.1 ha.2]
theorem sum3' (a b c : Int) (w : World) (B : Nat) {t : TypeId} (hB : w.heap[B]? = some (.cells #[.int .i64 a, .int .i64 b, .int .i64 c] t (0, 0))) (cap : Nat) (S : Int) (ha : -9223372036854775808 ≤ a ∧ a ≤ 9223372036854775807) (hS : wrap64 (wrap64 (a + b) + c) = S) :
    Calls Try.prog 19 #[.slice (some ⟨B, 0, none⟩) 3 cap] w fun e w' => e = .returned (.int .i64 S) ∧ w = w' := by
  subst hS
  refine (sum_any B [a, b, c] _ (by simp) (by simp) (fun k hk => by rw [cells_of hB]; rcases k with _ | _ | _ | _ | k <;> first | rfl | (exfalso; simp at hk <;> omega)) cap).mono ?_
  rintro e w' ⟨rfl, rfl⟩
  refine ⟨ret_int ?_, rfl⟩
  simp only [sumS, List.foldl]
  rw [show (0 : Int) + a = a by omega, wrap64_of a ha.1 ha.2]
theorem sum4' (a b c d : Int) (w : World) (B : Nat) {t : TypeId} (hB : w.heap[B]? = some (.cells #[.int .i64 a, .int .i64 b, .int .i64 c, .int .i64 d] t (0, 0))) (cap : Nat) (S : Int) (ha : -9223372036854775808 ≤ a ∧ a ≤ 9223372036854775807) (hS : wrap64 (wrap64 (wrap64 (a + b) + c) + d) = S) :
    Calls Try.prog 19 #[.slice (some ⟨B, 0, none⟩) 4 cap] w fun e w' => e = .returned (.int .i64 S) ∧ w = w' := by
  subst hS
  refine (sum_any B [a, b, c, d] _ (by simp) (by simp) (fun k hk => by rw [cells_of hB]; rcases k with _ | _ | _ | _ | k <;> first | rfl | (exfalso; simp at hk <;> omega)) cap).mono ?_
  rintro e w' ⟨rfl, rfl⟩
  refine ⟨ret_int ?_, rfl⟩
  simp only [sumS, List.foldl]
  rw [show (0 : Int) + a = a by omega, wrap64_of a ha.1 ha.2]
set_option maxRecDepth 100000 in
set_option maxHeartbeats 1000000 in
theorem waits_any (tb lt sz qu ch ba g cap jit ev : Int) (u r q : Int) (t : Bool) (c f wt : Int) (w : World) (hm : mayL u r q c f wt = true) (hc : mayB g cap jit = true) :
    Calls Try.prog 21 #[confV tb lt sz qu ch ba g cap jit ev, loadV u r q t c f wt] w fun e w' => e = .returned (.int .i64 (waitsS cap jit f wt)) ∧ Below w.heap.size w w' := by
  unfold loadV confV
  simp only [mayL, mayB, decide_eq_true_eq] at hm hc
  have hb := mul_bd f (2 + cap + jit) (by omega) (by omega) (by omega) (by omega)
  have hm1 := Lib.hid (show wrap64 (wrap64 (2 + cap) + jit) = 2 + cap + jit by simp only [wrap64]; omega)
  have hm2 := Lib.hid (show wrap64 (wt + f * (2 + cap + jit)) = waitsS cap jit f wt by unfold waitsS; rw [wrap64_of _ (by omega) (by omega)])
  have hw3 : IntKind.i64.wrap (f * (2 + cap + jit)) = f * (2 + cap + jit) := IntWalk.i64_in _ (by omega)
  have h2w : -9223372036854775808 ≤ (2 : Int) ∧ (2 : Int) ≤ 9223372036854775807 := by omega
  have hwt : -9223372036854775808 ≤ wt ∧ wt ≤ 9223372036854775807 := by omega
  go_enter Try.func21, Try.ntmps21
  go_wp2_with fail
  have hB := (((Below.refl w.heap.size w).alloc (Nat.le_refl _) (.cells #[.int .i64 tb, .int .i64 lt, .int .i64 sz, .int .i64 qu, .int .i64 ch, .int .i64 ba, .int .i64 g, .int .i64 cap, .int .i64 jit, .int .i64 ev] 23)).alloc (by simp) (.cells #[.int .i64 u, .int .i64 r, .int .i64 q, .bool t, .int .i64 c, .int .i64 f, .int .i64 wt] 25))
  have hC := (Blk.new w 23 #[.int .i64 tb, .int .i64 lt, .int .i64 sz, .int .i64 qu, .int .i64 ch, .int .i64 ba, .int .i64 g, .int .i64 cap, .int .i64 jit, .int .i64 ev]).alloc (.cells #[.int .i64 u, .int .i64 r, .int .i64 q, .bool t, .int .i64 c, .int .i64 f, .int .i64 wt] 25)
  have hL := Blk.new (w.alloc (.cells #[.int .i64 tb, .int .i64 lt, .int .i64 sz, .int .i64 qu, .int .i64 ch, .int .i64 ba, .int .i64 g, .int .i64 cap, .int .i64 jit, .int .i64 ev] 23)) 25 #[.int .i64 u, .int .i64 r, .int .i64 q, .bool t, .int .i64 c, .int .i64 f, .int .i64 wt]
  rw [World.size_alloc] at hL
  generalize hW : World.alloc (World.alloc w _) _ = W at *
  obtain ⟨x, hx⟩ : ∃ x, w.heap.size = x := ⟨_, rfl⟩
  rw [hx] at hB hC hL ⊢
  have e0 := hC.cell 7
  have e1 := hC.cell 8
  have e2 := hL.cell 5
  have e3 := hL.cell 6
  simp at e0 e1 e2 e3
  have HX := Lib.hid hx
  have HB := Lib.hid hB
  have hlt := hL.lt
  clear hx hW hB hC hL
  go_region_held3 (fun w' => w'.cell? ⟨x, 7, none⟩ = some (.int .i64 cap) ∧ w'.cell? ⟨x, 8, none⟩ = some (.int .i64 jit) ∧ w'.cell? ⟨x + 1, 5, none⟩ = some (.int .i64 f) ∧ w'.cell? ⟨x + 1, 6, none⟩ = some (.int .i64 wt)) (go_keep)
    (first | (go_at_call 19; (with_reducible refine (sum3' 2 cap jit _ _ (t := 2) ?_ _ _ h2w hm1.out).mono ?_); (exact heap_alloc_new _ _); rintro e w' ⟨rfl, rfl⟩) | (go_at_call 19; (with_reducible refine (sum2' wt (f * (2 + cap + jit)) _ _ (t := 2) ?_ _ _ hwt hm2.out).mono ?_); (exact alloc2_new _ _ _); rintro e w' ⟨rfl, rfl⟩))
  all_goals go_wp2
  all_goals go_ret
  all_goals exact ⟨rfl, by rw [HX.out]; exact (HB.out.drew.alloc (by simp; omega) _).alloc (by simp; omega) _⟩
end Go.Proofs.Ytolmkafmlblnoaa
