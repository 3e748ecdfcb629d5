/- A map from places (table, key) to bools, of the call's own. -/
import Derived.Test.YtkicnjbidbfajaaLoad
import Derived.Maps.OwnSet
import Derived.DeepKeys4
namespace Go.Proofs.Ytkicnjbidbfajaa
open Go.ChangeShapes Go.WideShapes Go.ChangeAt Go.RowKit
set_option linter.unusedVariables false
set_option linter.unusedSimpArgs false
theorem laidOut : laidOutB Try.prog = true := by kernel_rfl
theorem placeRow : (101 : TypeId) < Try.prog.types.size := of_decide_eq_true (by kernel_rfl)
theorem mSmall : 2 + 1 ≤ 10000 := Nat.le_of_ble_eq_true rfl
set_option maxRecDepth 100000 in
theorem placeKT : Try.prog.keyTypeAt 2 101 = true := by kernel_rfl
theorem placeKeyed : Maps.Keyed Try.prog 101 := by
  refine Maps.Keyed.of_law (deep_law_laid laidOut (m := 2) mSmall placeRow placeKT ?_)
  rw [Try.underlying101]
theorem placeKey : Try.prog.keyType 101 = true := by kernel_rfl
theorem placeCells : Try.prog.cellsOf 101 = 2 := by kernel_rfl
theorem intCells : Try.prog.cellsOf 3 = 1 := by kernel_rfl
theorem int64Cells : Try.prog.cellsOf 2 = 1 := by kernel_rfl
theorem placeFormed (t k : Int) : (Value.agg #[.int .i64 t, .int .i64 k]).formed Try.prog 101 = true := by
  simp only [Value.formed, Try.underlying101, placeCells]
  rfl
theorem place_lits (N : Nat) (t k : Int) (ht : (Lit.int .i64 t).wf = true) (hk : (Lit.int .i64 k).wf = true) : ∃ ls, Try.prog.keyLits (N + 2) 101 [.int .i64 t, .int .i64 k] = some ls := by
  have h1 : Try.prog.keyLits (N + 1) 3 [.int .i64 t] = some [.int .i64 t] := by
    simp only [Program.keyLits, Try.underlying3]
    simp [ht]
  have h2 : Try.prog.keyLits (N + 1) 2 [.int .i64 k] = some [.int .i64 k] := by
    simp only [Program.keyLits, Try.underlying2]
    simp [hk]
  refine ⟨[.int .i64 t, .int .i64 k], ?_⟩
  rw [show N + 2 = (N + 1) + 1 from rfl]
  simp only [Program.keyLits, Try.underlying101, placeCells]
  rw [if_pos ⟨rfl, by simp⟩]
  simp only [List.mapM_cons, List.mapM_nil, intCells, int64Cells, List.drop_zero, List.take_succ_cons, List.take_zero, List.drop_succ_cons, h1, h2]
  simp [ht, hk]
set_option maxRecDepth 100000 in
theorem place_key (t k : Int) (ht : (Lit.int .i64 t).wf = true) (hk : (Lit.int .i64 k).wf = true) : ∃ kl, keyOf Try.prog 101 (.agg #[.int .i64 t, .int .i64 k]) = some kl := by
  have hl : ∃ ls, Try.prog.keyLits (Try.prog.types.size + 1) 101 [.int .i64 t, .int .i64 k] = some ls := by
    have key : ∀ N, 101 < N → ∃ ls, Try.prog.keyLits (N + 1) 101 [.int .i64 t, .int .i64 k] = some ls := by
      intro N h0
      obtain ⟨c, rfl⟩ := Nat.exists_eq_add_of_lt h0
      exact place_lits _ t k ht hk
    exact key _ placeRow
  obtain ⟨ls, hl⟩ := hl
  refine ⟨.string (keyBytes ls), ?_⟩
  unfold keyOf
  rw [Try.underlying101, placeKey, placeFormed]
  exact congrArg (Option.map fun ls => Lit.string (keyBytes ls)) hl
theorem wf64 {t : Int} (h1 : -9223372036854775808 ≤ t) (h2 : t ≤ 9223372036854775807) : (Lit.int .i64 t).wf = true := by
  exact WalkArith.wf_i64 ⟨h1, h2⟩
def Mp (w : World) (b n : Nat) (M : Int → Int → Option Bool) : Prop :=
  ∃ D : DataW Unit, w.ownsMap Try.prog 101 (plainElem Try.prog 4) b n D ∧ ∀ t k kl, keyOf Try.prog 101 (.agg #[.int .i64 t, .int .i64 k]) = some kl → match M t k with
    | none => Maps.has D kl = false
    | some v => Maps.has D kl = true ∧ ∀ z, D.atKey kl z = .lit (.bool v)
theorem mp_made (w : World) : Mp (w.alloc (.map #[] 0)) w.heap.size 0 (fun _ _ => none) := ⟨_, World.ownsMap_made w _ _ _, fun t k kl h => rfl⟩
theorem Mp.keeps {S : Nat → Prop} {w w' : World} {b n : Nat} {M : Int → Int → Option Bool} (h : Mp w b n M) (k : Keeps S w w') (hb : ¬ S b) : Mp w' b n M := by
  obtain ⟨D, ⟨es, clock, h1, h2⟩, h3⟩ := h
  exact ⟨D, ⟨es, clock, (k.block b (Array.getElem?_eq_some_iff.1 h1).1 hb).trans h1, h2⟩, h3⟩
def putM (M : Int → Int → Option Bool) (t k : Int) (v : Bool) (t' k' : Int) : Option Bool := if t' = t ∧ k' = k then some v else M t' k'
theorem bool_elem {v : Value} {x : Bool} {ps : List MemPlace} (h : plainElem (H := Unit) Try.prog 4 v = some (.lit (.bool x), ps)) : v = .bool x := by
  simp only [plainElem, Try.underlying4] at h
  cases v <;> simp_all
theorem Mp.look {w : World} {b n : Nat} {M : Int → Int → Option Bool} (h : Mp w b n M) (t k : Int) (ht : (Lit.int .i64 t).wf = true) (hk : (Lit.int .i64 k).wf = true) :
    (Instr.lookup 99 (.map (some b)) (.agg #[.int .i64 t, .int .i64 k]) true).run Try.prog w = .ok (.tuple #[.bool ((M t k).getD false), .bool (M t k).isSome]) w := by
  obtain ⟨D, h1, h3⟩ := h
  obtain ⟨kl, hkl⟩ := place_key t k ht hk
  obtain ⟨v, ps, hr, hv⟩ := h1.look_ok placeKeyed Try.underlying99 (z := .bool false) (by kernel_rfl) (plainElem_bool Try.underlying4 false) hkl
  have h4 := h3 t k kl hkl
  rw [hr]
  cases hM : M t k with
  | none =>
    rw [hM] at h4
    simp only at h4
    rw [Maps.atKey_of_not_has h4] at hv
    have e : v = .bool false := by
      exact bool_elem hv
    rw [h4, e]; rfl
  | some x =>
    rw [hM] at h4
    simp only at h4
    rw [h4.2] at hv
    have e : v = .bool x := by
      exact bool_elem hv
    rw [h4.1, e]; rfl
theorem Mp.put {w : World} {b n : Nat} {M : Int → Int → Option Bool} (h : Mp w b n M) (hn : n ≤ 10000) (t k : Int) (v : Bool) (ht : (Lit.int .i64 t).wf = true) (hk : (Lit.int .i64 k).wf = true) :
    ∃ w', (Instr.mapUpdate 99 (.map (some b)) (.agg #[.int .i64 t, .int .i64 k]) (.bool v)).run Try.prog w = .ok () w' ∧ Mp w' b (n + 1) (putM M t k v) ∧ Keeps (· = b) w w' := by
  obtain ⟨D, h1, h3⟩ := h
  obtain ⟨kl, hkl⟩ := place_key t k ht hk
  obtain ⟨w', hr, h4, h5⟩ := h1.update placeKeyed Try.underlying99 (by unfold maxLen; omega) hkl (plainElem_bool Try.underlying4 v)
  refine ⟨w', hr, ⟨_, h4, fun t' k' kl' hkl' => ?_⟩, ⟨h5.os, h5.tape, h5.output, h5.size, fun i hi hne => h5.block i hi (fun e => hne (Option.some.inj e))⟩⟩
  by_cases he : t' = t ∧ k' = k
  · obtain ⟨rfl, rfl⟩ := he
    rw [hkl] at hkl'
    obtain rfl := Option.some.inj hkl'
    simp only [putM, and_self, if_true]
    exact ⟨Maps.has_put_same h1.isMap (placeKeyed.key hkl) _, fun z => Maps.atKey_put_same h1.isMap (placeKeyed.key hkl) _ z⟩
  · have hne : kl' ≠ kl := fun e => by
      subst e
      have := placeKeyed.inj hkl hkl'
      simp at this
      exact he ⟨this.1.symm, this.2.symm⟩
    simp only [putM, if_neg he]
    have h6 := h3 t' k' kl' hkl'
    cases hM : M t' k' with
    | none =>
      rw [hM] at h6
      simp only at h6 ⊢
      rw [Maps.has_put_other hne]; exact h6
    | some x =>
      rw [hM] at h6
      simp only at h6 ⊢
      exact ⟨by rw [Maps.has_put_other hne]; exact h6.1, fun z => by rw [Maps.atKey_put_other hne]; exact h6.2 z⟩
end Go.Proofs.Ytkicnjbidbfajaa
