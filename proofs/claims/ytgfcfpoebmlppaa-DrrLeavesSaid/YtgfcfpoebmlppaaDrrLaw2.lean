/- The plain law of a row's turns where it begins in the middle: any members' names. No program. -/
import Derived.Test.YtgfcfpoebmlppaaDrrLaw
namespace Go.Proofs.Ytgfcfpoebmlppaa
open Go.ChangeShapes Go.WideShapes Go.ChangeAt Go.RowKit
set_option linter.unusedVariables false
set_option linter.unusedSimpArgs false
structure St2 (W : Nat → Int) (n rd k : Nat) (o : Int) (at_ : Nat) (turn : Bool) (left : Int) : Prop where
  kn : k < n
  run : (turn = true ∧ at_ = k ∧ left = W k - o ∧ 1 ≤ o ∧ o ≤ W k) ∨ (turn = false ∧ (at_ = k ∨ at_ = n ∧ k = 0) ∧ rd = 0 ∧ o = 0)
theorem st2_next {W ids : Nat → Int} {l : List Mem} {n rd k at_ : Nat} {o left : Int} {turn : Bool} (hl : l.length = n) (hg : ∀ j, j < n → l.getD j (0, 0) = (W j, ids j)) (hW : ∀ j, j < n → 1 ≤ W j ∧ W j ≤ 8) (h : St2 W n rd k o at_ turn left) :
    ∃ rd' k' o', Nx W n rd k o rd' k' o' ∧ k' < n ∧ 1 ≤ o' ∧ o' ≤ W k' ∧ nextAt l.length at_ turn left = k' ∧ nextLeft l at_ turn left = W k' - o' ∧ nextId l at_ turn left = ids k' := by
  obtain ⟨hk, h | h⟩ := h
  · obtain ⟨rfl, rfl, rfl, h1, h2⟩ := h
    by_cases hz : W at_ - o = 0
    · by_cases hx : n ≤ at_ + 1
      · have e : nextAt l.length at_ true (W at_ - o) = 0 := by rw [hl]; simp [nextAt, hz, hx]
        have h0 := hW 0 (by omega)
        refine ⟨rd + 1, 0, 1, .inr (.inr ⟨by omega, by omega, rfl, rfl, rfl⟩), by omega, by omega, h0.1, e, ?_, ?_⟩
        · rw [nextLeft, e, hg 0 (by omega)]; simp [hz]
        · rw [nextId, e, hg 0 (by omega)]
      · have e : nextAt l.length at_ true (W at_ - o) = at_ + 1 := by rw [hl]; simp [nextAt, hz, hx]
        have h0 := hW (at_ + 1) (by omega)
        refine ⟨rd, at_ + 1, 1, .inr (.inl ⟨by omega, by omega, rfl, rfl, rfl⟩), by omega, by omega, h0.1, e, ?_, ?_⟩
        · rw [nextLeft, e, hg _ (by omega)]; simp [hz]
        · rw [nextId, e, hg _ (by omega)]
    · have e : nextAt l.length at_ true (W at_ - o) = at_ := by simp [nextAt, hz]
      refine ⟨rd, at_, o + 1, .inl ⟨by omega, rfl, rfl, rfl⟩, hk, by omega, by omega, e, ?_, ?_⟩
      · rw [nextLeft]; simp [hz] <;> omega
      · rw [nextId, e, hg _ hk]
  · obtain ⟨rfl, h1, rfl, rfl⟩ := h
    have h0 := hW k hk
    have e : nextAt l.length at_ false left = k := by
      rw [hl]
      rcases h1 with rfl | ⟨rfl, rfl⟩
      · simp [nextAt]; omega
      · simp [nextAt]
    refine ⟨0, k, 1, .inl ⟨by omega, rfl, rfl, by omega⟩, hk, by omega, h0.1, e, ?_, ?_⟩
    · rw [nextLeft, e, hg _ hk]; simp
    · rw [nextId, e, hg _ hk]
/-- of N turns from (k0, o0) on each has its share, but for one -/
theorem seen2_end {W : Nat → Int} {n rd k k0 : Nat} {o o0 N : Int} (hW : ∀ j, j < n → 1 ≤ W j ∧ W j ≤ 8) (hk : k < n) (hk0 : k0 < n) (ho : 0 ≤ o ∧ o ≤ W k) (ho0 : 0 ≤ o0 ∧ o0 ≤ W k0) (hN : psum W n ≤ N) (hc : cnt W n rd k o = cnt W n 0 k0 o0 + N) (j : Nat) (hj : j < n) : N / psum W n - 1 ≤ seenF W rd k o j - seenF W 0 k0 o0 j := by
  have hT := psum_mono hW n (Nat.le_refl _)
  have hp := psum_le hW k hk
  have hpk := psum_mono hW k (by omega)
  have hp0 := psum_mono hW k0 (by omega)
  have hwj := hW j hj
  have hq : psum W n * (N / psum W n) ≤ N := Int.mul_ediv_self_le (by omega)
  obtain ⟨T, hTd⟩ : ∃ T, psum W n = T := ⟨_, rfl⟩
  obtain ⟨Q, hQd⟩ : ∃ Q, N / psum W n = Q := ⟨_, rfl⟩
  have hs0 : 0 ≤ seenF W 0 k0 o0 j ∧ seenF W 0 k0 o0 j ≤ W j := by
    unfold seenF
    split
    · simp; omega
    · split
      · rename_i e; subst e; simp; omega
      · simp; omega
  have hs : (rd : Int) * W j ≤ seenF W rd k o j := by
    unfold seenF
    split
    · omega
    · split <;> omega
  unfold cnt at hc
  rw [hQd] at hq ⊢
  rw [hTd] at hq hc hp hT
  rw [Int.mul_comm T Q] at hq
  simp only [Int.natCast_zero, Int.zero_mul] at hc
  rw [hTd] at hN
  have hQ1 : 1 ≤ Q := by rw [← hQd, hTd]; exact Int.le_ediv_of_mul_le (by omega) (by omega)
  have hr0 : (0 : Int) ≤ rd := by omega
  by_cases h1 : Q ≤ rd
  · have h2 : ((rd : Int) - 1) * 1 ≤ ((rd : Int) - 1) * W j := Int.mul_le_mul_of_nonneg_left (by omega) (by omega)
    have h3 : ((rd : Int) - 1) * W j = (rd : Int) * W j - W j := by rw [Int.sub_mul]; simp
    omega
  · have h2 : (rd : Int) * 1 ≤ (rd : Int) * W j := Int.mul_le_mul_of_nonneg_left (by omega) (by omega)
    have h3 : ((rd : Int) + 1) * T ≤ Q * T := Int.mul_le_mul_of_nonneg_right (by omega) (by omega)
    have h4 : ((rd : Int) + 1) * T = (rd : Int) * T + T := by rw [Int.add_mul]; simp
    have hk00 : k0 = 0 := by omega
    subst hk00
    have ho00 : o0 = 0 := by omega
    subst ho00
    have e0 : seenF W 0 0 0 j = 0 := by unfold seenF; simp
    by_cases h5 : Q = rd + 1
    · omega
    · have h6 : ((rd : Int) + 2) * T ≤ Q * T := Int.mul_le_mul_of_nonneg_right (by omega) (by omega)
      have h7 : ((rd : Int) + 2) * T = (rd : Int) * T + 2 * T := by rw [Int.add_mul]
      omega
/-- the members without the one at q -/
def outW (W : Nat → Int) (q j : Nat) : Int := if j < q then W j else W (j + 1)
def outId (q j : Nat) : Int := if j < q then (j : Int) + 1 else (j : Int) + 2
theorem out_bd {W : Nat → Int} {n q : Nat} (hW : ∀ j, j < n → 1 ≤ W j ∧ W j ≤ 8) : ∀ j, j < n - 1 → 1 ≤ outW W q j ∧ outW W q j ≤ 8 := fun j hj => by
  unfold outW; split <;> exact hW _ (by omega)
theorem mems_find_at (W : Nat → Int) (n q : Nat) (hq : q < n) : findS (mems W n) ((q : Int) + 1) = q := by
  refine findIdx_take _ _ q (by rw [mems_len]; exact hq) (fun j hj hjq => ?_) ?_
  · simp [mems]; omega
  · simp [mems]
theorem out_len (W : Nat → Int) (n q : Nat) (hq : q < n) : ((mems W n).eraseIdx q).length = n - 1 := by
  rw [List.length_eraseIdx_of_lt (by rw [mems_len]; exact hq), mems_len]
theorem out_get (W : Nat → Int) (n q : Nat) (hq : q < n) (j : Nat) (hj : j < n - 1) : ((mems W n).eraseIdx q).getD j (0, 0) = (outW W q j, outId q j) := by
  rw [List.getD_eq_getElem?_getD, List.getElem?_eraseIdx]
  unfold outW outId
  split
  · simp [mems, show j < n by omega]
  · simp [mems, show j + 1 < n by omega]; omega
theorem psum_out {W : Nat → Int} (q : Nat) : ∀ k, psum (outW W q) k = if k ≤ q then psum W k else psum W (k + 1) - W q := by
  intro k
  induction k with
  | zero => simp [psum]
  | succ k ih =>
    simp only [psum, ih]
    by_cases h1 : k < q
    · have h2 : k ≤ q := by omega
      have h3 : k + 1 ≤ q := by omega
      simp [h2, h3, outW, h1]
    · by_cases h2 : k = q
      · subst h2; simp [outW, psum]; omega
      · have h3 : ¬ k ≤ q := by omega
        have h4 : ¬ k + 1 ≤ q := by omega
        simp [h3, h4, outW, h1, psum]; omega
theorem psum_out_all {W : Nat → Int} {n q : Nat} (hq : q < n) : psum (outW W q) (n - 1) = psum W n - W q := by
  rw [psum_out]
  have e : n = n - 1 + 1 := by omega
  split
  · have : q = n - 1 := by omega
    subst this
    rw [e]; simp only [psum, Nat.add_sub_cancel]; omega
  · rw [← e]
/-- who goes: the state behind -/
theorem st_out {W : Nat → Int} {n rd k at_ q : Nat} {o left : Int} {turn : Bool} (hW : ∀ j, j < n → 1 ≤ W j ∧ W j ≤ 8) (hn : 2 ≤ n) (hq : q < n) (h : St W n rd k o at_ turn left) :
    ∃ k0 o0, 0 ≤ o0 ∧ o0 ≤ outW W q k0 ∧ St2 (outW W q) (n - 1) 0 k0 o0 (delAt q at_) (delTurn q at_ turn) left := by
  have hb := out_bd (q := q) hW
  obtain ⟨hk, ⟨rfl, rfl, rfl, h1, h2⟩ | ⟨rfl, rfl, rfl, rfl, rfl, rfl⟩⟩ := h
  · by_cases e : q = at_
    · subst e
      by_cases e2 : q < n - 1
      · exact ⟨q, 0, by omega, by have := hb q e2; omega, ⟨e2, .inr ⟨by simp [delTurn], .inl (by simp [delAt]), rfl, rfl⟩⟩⟩
      · exact ⟨0, 0, by omega, by have := hb 0 (by omega); omega, ⟨by omega, .inr ⟨by simp [delTurn], .inr ⟨by simp [delAt]; omega, rfl⟩, rfl, rfl⟩⟩⟩
    · by_cases e2 : q < at_
      · have ew : outW W q (at_ - 1) = W at_ := by
          unfold outW
          rw [if_neg (by omega), show at_ - 1 + 1 = at_ by omega]
        exact ⟨at_ - 1, o, by omega, by omega, ⟨by omega, .inl ⟨by simp [delTurn, e], by simp [delAt, e2], by rw [ew], h1, by omega⟩⟩⟩
      · have ew : outW W q at_ = W at_ := by
          unfold outW
          rw [if_pos (by omega)]
        exact ⟨at_, o, by omega, by omega, ⟨by omega, .inl ⟨by simp [delTurn, e], by simp [delAt, e2], by rw [ew], h1, by omega⟩⟩⟩
  · exact ⟨0, 0, by omega, by have := hb 0 (by omega); omega, ⟨by omega, .inr ⟨by simp [delTurn], .inl (by simp [delAt]), rfl, rfl⟩⟩⟩
/-- the name ahead of the next one, and of the one behind it -/
def nxId (n q : Nat) (x : Int) : Int := if x % n + 1 = (q : Int) + 1 then (x % n + 1) % n + 1 else x % n + 1
theorem nx_id {W : Nat → Int} {n rd k rd' k' q : Nat} {o o' : Int} (hn : 2 ≤ n) (hq : q < n) (h : Nx W (n - 1) rd k o rd' k' o') (hk : k < n - 1) : outId q k' = outId q k ∨ outId q k' = nxId n q (outId q k) := by
  rcases h with ⟨h1, rfl, rfl, rfl⟩ | ⟨rfl, h2, rfl, rfl, rfl⟩ | ⟨rfl, h2, rfl, rfl, rfl⟩
  · exact .inl rfl
  · right
    unfold outId nxId
    by_cases e : k < q
    · rw [if_pos e, Int.emod_eq_of_lt (a := (k : Int) + 1) (b := (n : Int)) (by omega) (by omega)]
      by_cases e2 : k + 1 = q
      · rw [if_neg (by omega), if_pos (by omega), Int.emod_eq_of_lt (by omega) (by omega)]; omega
      · rw [if_pos (by omega), if_neg (by omega)]; omega
    · rw [if_neg e, Int.emod_eq_of_lt (a := (k : Int) + 2) (b := (n : Int)) (by omega) (by omega), if_neg (by omega), if_neg (by omega)]; omega
  · right
    unfold outId nxId
    by_cases e : k < q
    · rw [if_pos e, Int.emod_eq_of_lt (a := (k : Int) + 1) (b := (n : Int)) (by omega) (by omega), if_pos (by omega), if_pos (by omega), show (k : Int) + 1 + 1 = n by omega, Int.emod_self]; rfl
    · rw [if_neg e, show (k : Int) + 2 = n by omega, Int.emod_self]
      by_cases e2 : q = 0
      · rw [if_neg (by omega), if_pos (by omega), Int.emod_eq_of_lt (by omega) (by omega)]; rfl
      · rw [if_pos (by omega), if_neg (by omega)]; rfl
end Go.Proofs.Ytgfcfpoebmlppaa
