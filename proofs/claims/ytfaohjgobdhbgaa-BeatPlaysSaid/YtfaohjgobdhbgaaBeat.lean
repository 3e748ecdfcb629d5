/- Package beat and its reference: what each method returns and what it leaves in its object. -/
import Derived.Test.YtfaohjgobdhbgaaRows
import Derived.Test.YtfaohjgobdhbgaaCommon
import Derived.Test.YtfaohjgobdhbgaaRegion
namespace Go.Proofs.Ytfaohjgobdhbgaa
open Go.ChangeShapes Go.WideShapes Go.ChangeAt Go.RowKit
set_option linter.unusedVariables false
set_option linter.unusedSimpArgs false
theorem big_any (v n : Int) (w : World) (h0 : 1 ≤ n) (h1 : n ≤ 9223372036854775807) :
    Calls Try.prog 12 #[.int .i64 v, .int .i64 n] w fun e w' => e = .returned (.int .i64 (bigS v n)) ∧ w = w' := by
  have HF := Lib.hid (bigS_walk v n h0 h1)
  go_enter Try.func12, Try.ntmps12
  go_wp2
  all_goals go_ret
  exact ⟨ret_int HF.out, rfl⟩
theorem mod_any (v n : Int) (w : World) (h0 : 1 ≤ n) (h1 : n ≤ 9223372036854775807) :
    Calls Try.prog 14 #[.int .i64 v, .int .i64 n] w fun e w' => e = .returned (.int .i64 (bigS v n)) ∧ w = w' := by
  have HF := Lib.hid (bigS_walk v n h0 h1)
  go_enter Try.func14, Try.ntmps14
  go_wp2
  all_goals go_ret
  exact ⟨ret_int HF.out, rfl⟩
def clockS (n : Int) : Int := min (max n 0) 1125899906842624
theorem clockS_bd (n : Int) : 0 ≤ clockS n ∧ clockS n ≤ 1125899906842624 := by unfold clockS; omega
theorem clock_any (n : Int) (w : World) : Calls Try.prog 22 #[.int .i64 n] w fun e w' => e = .returned (.int .i64 (clockS n)) ∧ w = w' := by
  by_cases h0 : n < 0 <;> by_cases h1 : n < 1125899906842624
  all_goals
    go_enter Try.func22, Try.ntmps22
    go_wp2
    all_goals go_ret
    all_goals first | (exfalso; omega) | exact ⟨ret_int (by unfold clockS; omega), rfl⟩
@[go_sem] def itemV (l : Int) : Value := .agg #[.int .i64 l, .slice none 0 0, .slice none 0 0]
def readyS (d l now at_ c : Int) : Bool := decide (d ≤ now) && (decide (at_ ≤ l) || decide (0 < c))
def newS (e n l : Int) : Bool := decide (1 ≤ e ∧ e ≤ 1073741824 ∧ 0 ≤ n ∧ n ≤ 1125899906842624 ∧ 0 ≤ l ∧ l ≤ 1099511627776)
def beatAt (w : World) (b : Nat) (e d l : Int) : Prop := w.heap[b]? = some (.cells #[.int .i64 e, .int .i64 d, .int .i64 l] 53 (0, 0))
def rbeatAt (w : World) (b : Nat) (e d l : Int) : Prop := w.heap[b]? = some (.cells #[.int .i64 e, .int .i64 d, .int .i64 l] 31 (0, 0))
theorem beatAt_below {w w' : World} {b : Nat} {e d l : Int} (h : beatAt w b e d l) (hb : Below w.heap.size w w') : beatAt w' b e d l := (hb.block b (lt_of_block h)).trans h
theorem rbeatAt_below {w w' : World} {b : Nat} {e d l : Int} (h : rbeatAt w b e d l) (hb : Below w.heap.size w w') : rbeatAt w' b e d l := (hb.block b (lt_of_block h)).trans h
theorem queued_any (b : Nat) (e d l x : Int) (w : World) (hr : beatAt w b e d l) :
    Calls Try.prog 17 #[.pointer (some ⟨b, 0, none⟩), .int .i64 x] w fun r w' => r = .returned (.tuple #[]) ∧ beatAt w' b e d (max l x) ∧ Keeps (· = b) w w' := by
  have c0 := cells_of hr 0
  have c1 := cells_of hr 1
  have c2 := cells_of hr 2
  have f0 := fun i => free_of hr i
  have hlt := lt_of_block hr
  have HR := Lib.hid hr
  clear hr
  simp at c0 c1 c2
  by_cases h : l < x
  · go_enter Try.func17, Try.ntmps17
    go_wp2
    all_goals go_end0
    all_goals exact ⟨rfl, by rw [show max l x = x by omega]; simpa [beatAt] using block_set HR.out 2 (.int .i64 x), (Keeps.refl (· = b) w).setCell (p := ⟨b, 2, none⟩) rfl _⟩
  · go_enter Try.func17, Try.ntmps17
    go_wp2
    all_goals go_end0
    all_goals exact ⟨rfl, by rw [show max l x = l by omega]; simpa [beatAt] using block_set HR.out 2 (.int .i64 l), (Keeps.refl (· = b) w).setCell (p := ⟨b, 2, none⟩) rfl _⟩
theorem ready_any (b : Nat) (e d l now at_ c : Int) (w : World) (hr : beatAt w b e d l) :
    Calls Try.prog 19 #[.pointer (some ⟨b, 0, none⟩), .int .i64 now, .int .i64 at_, .int .i64 c] w fun r w' => r = .returned (.bool (readyS d l now at_ c)) ∧ ∃ n, w' = w.drewN n := by
  have c0 := cells_of hr 0
  have c1 := cells_of hr 1
  have c2 := cells_of hr 2
  have f0 := fun i => free_of hr i
  have hlt := lt_of_block hr
  have HR := Lib.hid hr
  clear hr
  simp at c0 c1 c2
  by_cases h1 : d ≤ now
  · by_cases h2 : at_ ≤ l
    · have HF := Lib.hid (show true = readyS d l now at_ c by simp [readyS, h1, h2])
      go_enter Try.func19, Try.ntmps19
      go_wp2; go_ret; exact ⟨ret_bool HF.out, 0, rfl⟩
    · have h2' : l < at_ := by omega
      by_cases h3 : 0 < c
      · have HF := Lib.hid (show true = readyS d l now at_ c by simp [readyS, h1, h3])
        go_enter Try.func19, Try.ntmps19
        go_wp2; go_ret; exact ⟨ret_bool HF.out, 0, rfl⟩
      · have HF := Lib.hid (show false = readyS d l now at_ c by simp [readyS, h2, h3])
        go_enter Try.func19, Try.ntmps19
        go_wp2; go_ret; exact ⟨ret_bool HF.out, 0, rfl⟩
  · have HF := Lib.hid (show false = readyS d l now at_ c by simp [readyS, h1])
    go_enter Try.func19, Try.ntmps19
    go_wp2; go_ret; exact ⟨ret_bool HF.out, 0, rfl⟩
theorem rqueued_any (b : Nat) (e d l x : Int) (w : World) (hr : rbeatAt w b e d l) :
    Calls Try.prog 18 #[.pointer (some ⟨b, 0, none⟩), .int .i64 x] w fun r w' => r = .returned (.tuple #[]) ∧ rbeatAt w' b e d (max l x) ∧ Keeps (· = b) w w' := by
  have c0 := cells_of hr 0
  have c1 := cells_of hr 1
  have c2 := cells_of hr 2
  have f0 := fun i => free_of hr i
  have hlt := lt_of_block hr
  have HR := Lib.hid hr
  clear hr
  simp at c0 c1 c2
  by_cases h : l < x
  · go_enter Try.func18, Try.ntmps18
    go_wp2
    all_goals go_end0
    all_goals exact ⟨rfl, by rw [show max l x = x by omega]; simpa [rbeatAt] using block_set HR.out 2 (.int .i64 x), (Keeps.refl (· = b) w).setCell (p := ⟨b, 2, none⟩) rfl _⟩
  · go_enter Try.func18, Try.ntmps18
    go_wp2
    all_goals go_end0
    all_goals exact ⟨rfl, by rw [show max l x = l by omega]; simpa [rbeatAt] using block_set HR.out 2 (.int .i64 l), (Keeps.refl (· = b) w).setCell (p := ⟨b, 2, none⟩) rfl _⟩
theorem rready_any (b : Nat) (e d l now at_ c : Int) (w : World) (hr : rbeatAt w b e d l) :
    Calls Try.prog 20 #[.pointer (some ⟨b, 0, none⟩), .int .i64 now, .int .i64 at_, .int .i64 c] w fun r w' => r = .returned (.bool (readyS d l now at_ c)) ∧ ∃ n, w' = w.drewN n := by
  have c0 := cells_of hr 0
  have c1 := cells_of hr 1
  have c2 := cells_of hr 2
  have f0 := fun i => free_of hr i
  have hlt := lt_of_block hr
  have HR := Lib.hid hr
  clear hr
  simp at c0 c1 c2
  by_cases h1 : d ≤ now
  · by_cases h2 : at_ ≤ l
    · have HF := Lib.hid (show true = readyS d l now at_ c by simp [readyS, h1, h2])
      go_enter Try.func20, Try.ntmps20
      go_wp2; go_ret; exact ⟨ret_bool HF.out, 0, rfl⟩
    · have h2' : l < at_ := by omega
      by_cases h3 : 0 < c
      · have HF := Lib.hid (show true = readyS d l now at_ c by simp [readyS, h1, h3])
        go_enter Try.func20, Try.ntmps20
        go_wp2; go_ret; exact ⟨ret_bool HF.out, 0, rfl⟩
      · have HF := Lib.hid (show false = readyS d l now at_ c by simp [readyS, h2, h3])
        go_enter Try.func20, Try.ntmps20
        go_wp2; go_ret; exact ⟨ret_bool HF.out, 0, rfl⟩
  · have HF := Lib.hid (show false = readyS d l now at_ c by simp [readyS, h1])
    go_enter Try.func20, Try.ntmps20
    go_wp2; go_ret; exact ⟨ret_bool HF.out, 0, rfl⟩
theorem next_any (b : Nat) (e d l now : Int) (w : World) (hr : beatAt w b e d l) (he : 0 ≤ e ∧ e ≤ 1073741824) :
    Calls Try.prog 21 #[.pointer (some ⟨b, 0, none⟩), .int .i64 now] w fun r w' => r = .returned (.tuple #[]) ∧ beatAt w' b e (clockS now + e) l ∧ Keeps (· = b) w w' := by
  have c0 := cells_of hr 0
  have c1 := cells_of hr 1
  have c2 := cells_of hr 2
  have f0 := fun i => free_of hr i
  have hlt := lt_of_block hr
  have HR := Lib.hid hr
  clear hr
  simp at c0 c1 c2
  have hend : ∀ v : Int, v = clockS now + e → beatAt (w.setCell ⟨b, 1, none⟩ (.int .i64 v)) b e (clockS now + e) l ∧ Keeps (· = b) w (w.setCell ⟨b, 1, none⟩ (.int .i64 v)) := by
    rintro _ rfl
    exact ⟨by simpa [beatAt] using block_set HR.out 1 _, (Keeps.refl (· = b) w).setCell (p := ⟨b, 1, none⟩) rfl _⟩
  have HE := Lib.hid hend
  clear hend
  by_cases h0 : now < 0
  · have hv := Lib.hid (show clockS now = 0 by unfold clockS; omega)
    go_enter Try.func21, Try.ntmps21
    go_wp2
    go_end0
    exact ⟨rfl, HE.out _ (by rw [hv.out]; omega)⟩
  · by_cases h1 : 1125899906842624 < now
    · have hv := Lib.hid (show clockS now = 1125899906842624 by unfold clockS; omega)
      go_enter Try.func21, Try.ntmps21
      go_wp2
      go_end0
      exact ⟨rfl, HE.out _ (by rw [hv.out])⟩
    · have hv := Lib.hid (show clockS now = now by unfold clockS; omega)
      go_enter Try.func21, Try.ntmps21
      go_wp2
      all_goals go_end0
      all_goals exact ⟨rfl, HE.out _ (by rw [hv.out])⟩
theorem new_ok (e n l : Int) (w : World) (h : newS e n l = true) :
    Calls Try.prog 7 #[.int .i64 e, .int .i64 n, .int .i64 l] w fun r w' => r = .returned (.tuple #[.pointer (some ⟨w.heap.size, 0, none⟩), .int .i64 0]) ∧ beatAt w' w.heap.size e (n + e) l ∧ Below w.heap.size w w' := by
  have h' := h
  simp only [newS, decide_eq_true_eq] at h'
  have hc := Lib.hid (show clockS n = n by unfold clockS; omega)
  go_enter Try.func7, Try.ntmps7
  go_wp2_with fail
  all_goals first
    | (exfalso; omega)
    | skip
  refine (next_any w.heap.size e 0 l n _ (heap_alloc_new w _) (by omega)).mono ?_
  rintro r w1 ⟨rfl, h1, k1⟩
  rw [hc.out] at h1
  have hB : Below w.heap.size w w1 := Keeps.below ((Below.refl w.heap.size w).alloc (Nat.le_refl _) _) k1 (by simp) (by intro v hv e; omega)
  go_wp2_with fail
  go_ret2
  exact ⟨rfl, h1, hB⟩
theorem new_no (e n l : Int) (w : World) (h : newS e n l = false) :
    Calls Try.prog 7 #[.int .i64 e, .int .i64 n, .int .i64 l] w fun r w' => r = .returned (.tuple #[.pointer none, .int .i64 1]) ∧ w = w' := by
  have h' := h
  simp only [newS, decide_eq_false_iff_not] at h'
  go_enter Try.func7, Try.ntmps7
  go_wp2_with fail
  all_goals first
    | (exfalso; omega)
    | (go_ret2; exact ⟨rfl, rfl⟩)
theorem rnew_ok (e n l : Int) (w : World) (h : newS e n l = true) :
    Calls Try.prog 8 #[.int .i64 e, .int .i64 n, .int .i64 l] w fun r w' => r = .returned (.pointer (some ⟨w.heap.size, 0, none⟩)) ∧ rbeatAt w' w.heap.size e (n + e) l ∧ Below w.heap.size w w' := by
  have h' := h
  simp only [newS, decide_eq_true_eq] at h'
  go_enter Try.func8, Try.ntmps8
  go_wp2_with fail
  all_goals first
    | (exfalso; omega)
    | (go_ret; exact ⟨rfl, heap_alloc_new w _, (Below.refl _ _).alloc (Nat.le_refl _) _⟩)
theorem rnew_no (e n l : Int) (w : World) (h : newS e n l = false) :
    Calls Try.prog 8 #[.int .i64 e, .int .i64 n, .int .i64 l] w fun r w' => r = .returned (.pointer none) ∧ w = w' := by
  have h' := h
  simp only [newS, decide_eq_false_iff_not] at h'
  go_enter Try.func8, Try.ntmps8
  go_wp2_with fail
  all_goals first
    | (exfalso; omega)
    | (go_ret; exact ⟨rfl, rfl⟩)
theorem due_any (b : Nat) (e d l : Int) (w : World) (hr : beatAt w b e d l) :
    Calls Try.prog 10 #[.pointer (some ⟨b, 0, none⟩)] w fun r w' => r = .returned (.int .i64 d) ∧ w = w' := by
  have c1 := cells_of hr 1
  clear hr
  simp at c1
  go_enter Try.func10, Try.ntmps10
  go_wp2
  go_ret
  exact ⟨rfl, rfl⟩
theorem last_any (b : Nat) (e d l : Int) (w : World) (hr : beatAt w b e d l) :
    Calls Try.prog 11 #[.pointer (some ⟨b, 0, none⟩)] w fun r w' => r = .returned (.int .i64 l) ∧ w = w' := by
  have c2 := cells_of hr 2
  clear hr
  simp at c2
  go_enter Try.func11, Try.ntmps11
  go_wp2
  go_ret
  exact ⟨rfl, rfl⟩
end Go.Proofs.Ytfaohjgobdhbgaa
