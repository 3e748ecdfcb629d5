/- The statements' helper that makes so many faults. -/
import Derived.Test.YtcchofaheaddbaaFaultAwake
import Derived.OwnWalk
namespace Go.Proofs.Ytcchofaheaddbaa
open Go.ChangeShapes Go.WideShapes Go.ChangeAt Go.RowKit
set_option linter.unusedVariables false
set_option linter.unusedSimpArgs false
def MkAt (w : World) (g n i : Nat) : Prop := ∃ cs : Array Value, w.heap[g]? = some (.cells cs 23 (0, 0)) ∧ cs.size = n * 2 ∧ ∀ k, k < i → cs[k * 2]? = some (.int .i64 3) ∧ cs[k * 2 + 1]? = some (.int .i64 0)
theorem MkAt.rd {w : World} {g n cap : Nat} (h : MkAt w g n n) (hm : n ≤ maxLen) : RdF w (.slice (some ⟨g, 0, none⟩) n cap) (List.replicate n ((3, 0) : Flt)) := by
  obtain ⟨cs, hh, hs, hc⟩ := h
  refine ⟨_, cap, by simp, by simpa using hm, fun hp => ⟨g, 0, rfl, lt_of_block hh, fun j u hu => ?_⟩⟩
  rw [Nat.zero_add, cells_of hh]
  have hj := (List.getElem?_eq_some_iff.1 hu).1
  rw [fltCells_len, List.length_replicate] at hj
  have h2 := hc (j / 2) (by omega)
  have h3 := fltCells_at (List.replicate n ((3, 0) : Flt)) (j / 2) (by simp; omega)
  simp only [List.getElem_replicate] at h3
  rcases Nat.mod_two_eq_zero_or_one j with e | e
  · have e2 : j = j / 2 * 2 := by omega
    rw [e2] at hu ⊢
    rw [h2.1, ← hu, h3.1]
  · have e2 : j = j / 2 * 2 + 1 := by omega
    rw [e2] at hu ⊢
    rw [h2.2, ← hu, h3.2]
set_option maxRecDepth 100000 in
theorem make1_any (n : Nat) (w : World) (hn : n ≤ 2000) : Calls Try.prog 16 #[.int .i64 n] w fun e w' => e = .returned (.slice (some ⟨w.heap.size, 0, none⟩) n n) ∧ MkAt w' w.heap.size n n ∧ Below w.heap.size w w' := by
  obtain ⟨i0, hi0, hz0, hz1, hz2⟩ := info_parts info23
  go_enter Try.func16, Try.ntmps16
  go_wp2_with (refine wpList_make_full _ rfl _ _ _ rfl w.heap.size 23 i0 _ 2 Try.underlying32 hi0 hz0 hz1 _ _ _ _ n rfl rfl rfl rfl (by rw [hz2]; omega) (by unfold maxLen; omega) (Nat.le_refl _) ?_; intro w1 hown hgr)
  obtain ⟨cs, hcs, hsz⟩ : ∃ cs : Array Value, w1.heap[w.heap.size]? = some (.cells cs 23 (0, 0)) ∧ cs.size = n * 2 := by
    rcases hown.2 with ⟨h0, _⟩ | ⟨g, cap, cur, hv, _, hh, _, _, hsz, _⟩
    · simp at h0
    · simp at hv
      obtain ⟨rfl, rfl⟩ := hv
      exact ⟨cur, hh, hsz⟩
  have b1 : Below w.heap.size w w1 := (Below.refl _ _).grown hgr (Nat.le_refl _) (by simp)
  clear hown hgr
  generalize hg : w.heap.size = g at *
  have HG := Lib.hid hg
  clear hg
  go_loopw [4] (fun i wr => ∃ k : Nat, k ≤ n ∧ i = .int .i64 k ∧ MkAt wr g n k ∧ Below g w wr) (fun i _ => n - (intOf i).toNat)
  case atStart => exact ⟨0, by omega, rfl, ⟨cs, hcs, hsz, by intro k hk; omega⟩, b1⟩
  case round =>
    clear hcs hsz b1 cs
    obtain ⟨k, hk, rfl, ⟨cs, hcs, hsz, hc⟩, b1⟩ := hrel
    by_cases hlt : k < n
    · have hq : (k : Int) < n := by omega
      obtain ⟨u0, e0⟩ : ∃ u0, wr.cell? ⟨g, k * 2, none⟩ = some u0 := ⟨cs[k * 2]'(by omega), by rw [cells_of hcs]; simp [show k * 2 < cs.size by omega]⟩
      obtain ⟨u1, e1⟩ : ∃ u1, wr.cell? ⟨g, k * 2 + 1, none⟩ = some u1 := ⟨cs[k * 2 + 1]'(by omega), by rw [cells_of hcs]; simp [show k * 2 + 1 < cs.size by omega]⟩
      have fz := fun i => free_of hcs i
      have HC := Lib.hid hcs
      have HS := Lib.hid hsz
      have HA := Lib.hid hc
      have B1 := Lib.hid b1
      clear hcs hsz hc b1
      go_wp2_with fail
      go_roundw
      case rel =>
        refine ⟨k + 1, by omega, by go_num, ⟨(cs.setIfInBounds (k * 2) (.int .i64 3)).setIfInBounds (k * 2 + 1) (.int .i64 0), block_set (block_set HC.out _ _) _ _, by simp [HS.out], fun j hj => ?_⟩, (B1.out.setCell (p := ⟨g, k * 2, none⟩) (Nat.le_refl _) _).setCell (p := ⟨g, k * 2 + 1, none⟩) (Nat.le_refl _) _⟩
        have hs := HS.out
        by_cases e : j = k
        · subst e
          simp [Array.getElem?_setIfInBounds]; omega
        · have := HA.out j (by omega)
          simp only [Array.getElem?_setIfInBounds]
          rw [if_neg (by omega), if_neg (by omega), if_neg (by omega), if_neg (by omega)]
          exact this
      case measure => simp [intOf]; omega
    · obtain rfl : k = n := by omega
      have HM := Lib.hid (show MkAt wr g k k from ⟨cs, hcs, hsz, hc⟩)
      have B1 := Lib.hid b1
      clear hcs hsz hc b1
      go_wp2_with fail
      go_ret
      rw [HG.out]
      exact ⟨rfl, HM.out, B1.out⟩
end Go.Proofs.Ytcchofaheaddbaa
