/- The plain law of a row's turns: rounds, in each as many as the weight. No program. -/
import Derived.Test.YtgfcfpoebmlppaaDrrRow
import Derived.Test.YtgfcfpoebmlppaaIntArr
namespace Go.Proofs.Ytgfcfpoebmlppaa
open Go.ChangeShapes Go.WideShapes Go.ChangeAt Go.RowKit
set_option linter.unusedVariables false
set_option linter.unusedSimpArgs false
def psum (W : Nat → Int) : Nat → Int
  | 0 => 0
  | k + 1 => psum W k + W k
def mems (W : Nat → Int) (n : Nat) : List Mem := (List.range n).map fun k => (W k, (k : Int) + 1)
theorem mems_len (W : Nat → Int) (n : Nat) : (mems W n).length = n := by simp [mems]
theorem mems_get (W : Nat → Int) (n k : Nat) (h : k < n) : (mems W n).getD k (0, 0) = (W k, (k : Int) + 1) := by simp [mems, h]
theorem mems_succ (W : Nat → Int) (n : Nat) : mems W (n + 1) = mems W n ++ [(W n, (n : Int) + 1)] := by simp [mems, List.range_succ]
theorem mems_find (W : Nat → Int) (n : Nat) (id : Int) (h : (n : Int) < id) : findS (mems W n) id = -1 := by
  refine findIdx_none _ _ fun j hj => ?_
  rw [mems_len] at hj
  have := mems_get W n j hj
  rw [List.getD_eq_getElem?_getD, List.getElem?_eq_getElem (by rw [mems_len]; exact hj), Option.getD_some] at this
  rw [this]
  show (j : Int) + 1 ≠ id
  omega
theorem psum_mono {W : Nat → Int} {n : Nat} (hW : ∀ j, j < n → 1 ≤ W j ∧ W j ≤ 8) (k : Nat) (hk : k ≤ n) : (k : Int) ≤ psum W k ∧ psum W k ≤ 8 * k := by
  induction k with
  | zero => simp [psum]
  | succ k ih =>
    have := ih (by omega)
    have := hW k (by omega)
    simp only [psum]; omega
theorem psum_le {W : Nat → Int} {n : Nat} (hW : ∀ j, j < n → 1 ≤ W j ∧ W j ≤ 8) (k : Nat) (hk : k < n) : psum W k + W k ≤ psum W n := by
  have : ∀ m, k + 1 ≤ m → m ≤ n → psum W k + W k ≤ psum W m := by
    intro m
    induction m with
    | zero => intro h; omega
    | succ m ih =>
      intro h1 h2
      by_cases e : m = k
      · subst e; simp [psum]
      · have := ih (by omega) (by omega)
        have := hW m (by omega)
        simp only [psum]; omega
  exact this n hk (Nat.le_refl _)
theorem psum_lt {W : Nat → Int} {n : Nat} (hW : ∀ j, j < n → 1 ≤ W j ∧ W j ≤ 8) (k : Nat) (hk : k + 1 < n) : psum W k + W k < psum W n := by
  have := psum_le hW (k + 1) hk
  have := hW (k + 1) hk
  simp only [psum] at *; omega
/-- round rd, member k has had o units -/
structure St (W : Nat → Int) (n rd k : Nat) (o : Int) (at_ : Nat) (turn : Bool) (left : Int) : Prop where
  kn : k < n
  run : (turn = true ∧ at_ = k ∧ left = W k - o ∧ 1 ≤ o ∧ o ≤ W k) ∨ (turn = false ∧ at_ = 0 ∧ left = 0 ∧ rd = 0 ∧ k = 0 ∧ o = 0)
/-- the next one -/
def Nx (W : Nat → Int) (n rd k : Nat) (o : Int) (rd' k' : Nat) (o' : Int) : Prop :=
  (o < W k ∧ rd' = rd ∧ k' = k ∧ o' = o + 1) ∨ (o = W k ∧ k + 1 < n ∧ rd' = rd ∧ k' = k + 1 ∧ o' = 1) ∨ (o = W k ∧ k + 1 = n ∧ rd' = rd + 1 ∧ k' = 0 ∧ o' = 1)
theorem st_next {W : Nat → Int} {n rd k at_ : Nat} {o left : Int} {turn : Bool} (hW : ∀ j, j < n → 1 ≤ W j ∧ W j ≤ 8) (h : St W n rd k o at_ turn left) :
    ∃ rd' k' o', Nx W n rd k o rd' k' o' ∧ k' < n ∧ 1 ≤ o' ∧ o' ≤ W k' ∧ nextAt (mems W n).length at_ turn left = k' ∧ nextLeft (mems W n) at_ turn left = W k' - o' ∧ nextId (mems W n) at_ turn left = (k' : Int) + 1 := by
  obtain ⟨hk, h | h⟩ := h
  · obtain ⟨rfl, rfl, rfl, h1, h2⟩ := h
    by_cases hl : W at_ - o = 0
    · by_cases hx : n ≤ at_ + 1
      · have e : nextAt (mems W n).length at_ true (W at_ - o) = 0 := by rw [mems_len]; simp [nextAt, hl, hx]
        have h0 := hW 0 (by omega)
        refine ⟨rd + 1, 0, 1, .inr (.inr ⟨by omega, by omega, rfl, rfl, rfl⟩), by omega, by omega, h0.1, e, ?_, ?_⟩
        · rw [nextLeft, e, mems_get W n 0 (by omega)]; simp [hl]
        · rw [nextId, e, mems_get W n 0 (by omega)]
      · have e : nextAt (mems W n).length at_ true (W at_ - o) = at_ + 1 := by rw [mems_len]; simp [nextAt, hl, hx]
        have h0 := hW (at_ + 1) (by omega)
        refine ⟨rd, at_ + 1, 1, .inr (.inl ⟨by omega, by omega, rfl, rfl, rfl⟩), by omega, by omega, h0.1, e, ?_, ?_⟩
        · rw [nextLeft, e, mems_get W n _ (by omega)]; simp [hl]
        · rw [nextId, e, mems_get W n _ (by omega)]
    · have e : nextAt (mems W n).length at_ true (W at_ - o) = at_ := by simp [nextAt, hl]
      refine ⟨rd, at_, o + 1, .inl ⟨by omega, rfl, rfl, rfl⟩, hk, by omega, by omega, e, ?_, ?_⟩
      · rw [nextLeft]; simp [hl] <;> omega
      · rw [nextId, e, mems_get W n _ hk]
  · obtain ⟨rfl, rfl, rfl, rfl, rfl, rfl⟩ := h
    have h0 := hW 0 hk
    have e : nextAt (mems W n).length 0 false 0 = 0 := by rw [mems_len]; simp [nextAt]
    refine ⟨0, 0, 1, .inl ⟨by omega, rfl, rfl, by omega⟩, hk, by omega, h0.1, e, ?_, ?_⟩
    · rw [nextLeft, e, mems_get W n _ hk]; simp
    · rw [nextId, e, mems_get W n _ hk]
def seenF (W : Nat → Int) (rd k : Nat) (o : Int) (j : Nat) : Int := (rd : Int) * W j + (if j < k then W j else if j = k then o else 0)
theorem seen_step {W : Nat → Int} {n rd k rd' k' : Nat} {o o' : Int} (h : Nx W n rd k o rd' k' o') (hk : k < n) (j : Nat) (hj : j < n) : seenF W rd' k' o' j = seenF W rd k o j + (if j = k' then 1 else 0) := by
  unfold seenF
  rcases h with ⟨h1, rfl, rfl, rfl⟩ | ⟨rfl, h2, rfl, rfl, rfl⟩ | ⟨rfl, h2, rfl, rfl, rfl⟩
  · by_cases e : j = k'
    · subst e; simp; omega
    · simp [e]
  · by_cases e : j = k
    · subst e; simp
    · by_cases e2 : j = k + 1
      · subst e2; simp; omega
      · have : (j < k + 1) = (j < k) := by apply propext; omega
        simp [e, e2, this]
  · have e1 : ((rd + 1 : Nat) : Int) * W j = (rd : Int) * W j + W j := by rw [Int.natCast_add, Int.add_mul]; simp
    rw [e1]
    by_cases e : j = 0
    · subst e
      by_cases e2 : 0 < k
      · simp [e2]
      · have : k = 0 := by omega
        subst this; simp
    · by_cases e2 : j < k
      · simp [e, e2]
      · have : j = k := by omega
        subst this; simp [e]
def lastF (W : Nat → Int) (n rd k : Nat) (o : Int) (j : Nat) : Int :=
  if j < k then (rd : Int) * psum W n + psum W (j + 1) else if j = k then (if rd = 0 ∧ o = 0 then 0 else (rd : Int) * psum W n + psum W k + o) else if rd = 0 then 0 else (rd : Int) * psum W n - psum W n + psum W (j + 1)
/-- the count of turns -/
def cnt (W : Nat → Int) (n rd k : Nat) (o : Int) : Int := (rd : Int) * psum W n + psum W k + o
theorem cnt_step {W : Nat → Int} {n rd k rd' k' : Nat} {o o' : Int} (h : Nx W n rd k o rd' k' o') : cnt W n rd' k' o' = cnt W n rd k o + 1 := by
  unfold cnt
  rcases h with ⟨h1, rfl, rfl, rfl⟩ | ⟨rfl, h2, rfl, rfl, rfl⟩ | ⟨rfl, rfl, rfl, rfl, rfl⟩
  · omega
  · simp only [psum]; omega
  · have e1 : ((rd + 1 : Nat) : Int) * psum W (k + 1) = (rd : Int) * psum W (k + 1) + psum W (k + 1) := by rw [Int.natCast_add, Int.add_mul]; simp
    rw [e1]
    simp only [psum]; omega
theorem last_step {W : Nat → Int} {n rd k rd' k' : Nat} {o o' : Int} (hW : ∀ j, j < n → 1 ≤ W j ∧ W j ≤ 8) (h : Nx W n rd k o rd' k' o') (hk : k < n) (ho : 1 ≤ o ∨ rd = 0 ∧ k = 0 ∧ o = 0) (ho' : 1 ≤ o') (j : Nat) (hj : j < n) : lastF W n rd' k' o' j = if j = k' then cnt W n rd' k' o' else lastF W n rd k o j := by
  unfold lastF cnt
  rcases h with ⟨h1, rfl, rfl, rfl⟩ | ⟨rfl, h2, rfl, rfl, rfl⟩ | ⟨rfl, h2, rfl, rfl, rfl⟩
  · by_cases e : j = k'
    · subst e
      simp
      intro _ h; omega
    · simp [e]
  · by_cases e : j = k + 1
    · subst e; simp
    · by_cases e2 : j = k
      · subst e2
        have := hW j hk
        have : ¬ (rd' = 0 ∧ W j = 0) := by omega
        simp [this, psum]; omega
      · have : (j < k + 1) = (j < k) := by apply propext; omega
        simp [e, e2, this]
  · by_cases e : j = 0
    · subst e; simp [psum]
    · have e1 : ((rd : Int) + 1) * psum W n = (rd : Int) * psum W n + psum W n := by rw [Int.add_mul]; simp
      by_cases e2 : j < k
      · simp [e, e2, e1]
      · have : j = k := by omega
        subst this
        have := hW j hk
        have : ¬ (rd = 0 ∧ W j = 0) := by omega
        simp [e, e1, this, psum]; omega
theorem gap {W : Nat → Int} {n rd k rd' k' : Nat} {o o' : Int} (hW : ∀ j, j < n → 1 ≤ W j ∧ W j ≤ 8) (h : Nx W n rd k o rd' k' o') (hk : k < n) (ho : (1 ≤ o ∧ o ≤ W k) ∨ rd = 0 ∧ k = 0 ∧ o = 0) : cnt W n rd' k' o' - lastF W n rd k o k' - 1 ≤ psum W n - W k' ∧ 0 ≤ lastF W n rd k o k' ∧ lastF W n rd k o k' ≤ cnt W n rd' k' o' := by
  have hT : 0 ≤ (rd : Int) * psum W n := by
    have := psum_mono hW n (Nat.le_refl _)
    exact Int.mul_nonneg (by omega) (by omega)
  rw [cnt_step h]
  unfold lastF cnt
  rcases h with ⟨h1, rfl, rfl, rfl⟩ | ⟨rfl, h2, rfl, rfl, rfl⟩ | ⟨rfl, h2, rfl, rfl, rfl⟩
  · have p1 := psum_le hW k' hk
    have p2 := psum_mono hW k' (by omega)
    by_cases e : rd' = 0 ∧ o = 0
    · obtain ⟨rfl, rfl⟩ := e
      have : k' = 0 := by omega
      subst this
      simp [psum] at *; omega
    · simp [e]; omega
  · have p1 := psum_le hW (k + 1) h2
    have p2 := psum_mono hW k (by omega)
    have p3 := psum_mono hW (k + 1) (by omega)
    have hk1 := hW k hk
    have hk2 := hW (k + 1) h2
    have hn1 : ¬ k + 1 < k := by omega
    by_cases e : rd' = 0
    · subst e
      simp [psum, hn1] at *; omega
    · have hT1 : psum W n ≤ (rd' : Int) * psum W n := by
        have := psum_mono hW n (Nat.le_refl _)
        have h3 : (1 : Int) * psum W n ≤ (rd' : Int) * psum W n := Int.mul_le_mul_of_nonneg_right (by omega) (by omega)
        omega
      simp [e, psum, hn1] at *; omega
  · have p2 := psum_mono hW k (by omega)
    have p3 := psum_mono hW n (Nat.le_refl _)
    have h0 := hW 0 (by omega)
    have hk1 := hW k hk
    have pn : psum W n = psum W k + W k := by rw [← h2]; rfl
    by_cases e : 0 < k
    · have p1 := psum_le hW 0 (by omega)
      simp [e, psum] at *; omega
    · have : k = 0 := by omega
      subst this
      have hn : ¬ (rd = 0 ∧ W 0 = 0) := by omega
      simp [hn, psum] at *; omega
theorem round_end {W : Nat → Int} {n rd k : Nat} {o : Int} (hW : ∀ j, j < n → 1 ≤ W j ∧ W j ≤ 8) (hk : k < n) (ho : 1 ≤ o ∧ o ≤ W k) :
    (k + 1 = n ∧ o = W k ∧ cnt W n rd k o % psum W n = 0 ∧ cnt W n rd k o / psum W n = (rd : Int) + 1 ∧ ∀ j, j < n → seenF W rd k o j = W j * ((rd : Int) + 1)) ∨ cnt W n rd k o % psum W n ≠ 0 := by
  have p2 := psum_mono hW k (by omega)
  have p1 := psum_le hW k hk
  have p3 := psum_mono hW n (Nat.le_refl _)
  by_cases e : k + 1 = n ∧ o = W k
  · obtain ⟨e1, rfl⟩ := e
    have pn : psum W n = psum W k + W k := by rw [← e1]; rfl
    have hc : cnt W n rd k (W k) = ((rd : Int) + 1) * psum W n := by unfold cnt; rw [Int.add_mul]; omega
    refine .inl ⟨e1, rfl, by rw [hc]; exact Int.mul_emod_left .., by rw [hc]; exact Int.mul_ediv_cancel _ (by omega), fun j hj => ?_⟩
    unfold seenF
    rw [Int.mul_comm (W j), Int.add_mul]
    by_cases e2 : j < k
    · simp [e2]
    · have : j = k := by omega
      subst this; simp
  · right
    have hlt : psum W k + o < psum W n := by
      by_cases e1 : k + 1 = n
      · have : o ≠ W k := fun h => e ⟨e1, h⟩
        omega
      · have := psum_lt hW k (by omega)
        omega
    have hc : cnt W n rd k o % psum W n = psum W k + o := by
      unfold cnt
      rw [Int.add_assoc, Int.add_comm, Int.add_mul_emod_self_right]
      exact Int.emod_eq_of_lt (by omega) hlt
    rw [hc]; omega
end Go.Proofs.Ytgfcfpoebmlppaa
