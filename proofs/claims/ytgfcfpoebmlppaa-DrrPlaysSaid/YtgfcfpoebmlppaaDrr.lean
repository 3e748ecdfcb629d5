/- Package drr: its members, where one stands. -/
import Derived.Test.YtgfcfpoebmlppaaRows
import Derived.Test.YtgfcfpoebmlppaaCommon
import Derived.Test.YtgfcfpoebmlppaaRegion
import Derived.Test.YtgfcfpoebmlppaaSlx
import Derived.Test.YtgfcfpoebmlppaaFast
import Derived.Test.YtgfcfpoebmlppaaHeld
import Derived.IntWalk
import Derived.Deep.DeepCutAuto
import Derived.Deep.CutBlock
namespace Go.Proofs.Ytgfcfpoebmlppaa
open Go.ChangeShapes Go.WideShapes Go.ChangeAt Go.RowKit
set_option linter.unusedVariables false
set_option linter.unusedSimpArgs false
theorem mod_any (v n : Int) (w : World) (h0 : 1 ≤ n) (h1 : n ≤ 9223372036854775807) :
    Calls Try.prog 9 #[.int .i64 v, .int .i64 n] w fun e w' => e = .returned (.int .i64 (bigS v n)) ∧ w = w' := by
  have HF := Lib.hid (bigS_walk v n h0 h1)
  go_enter Try.func9, Try.ntmps9
  go_wp2
  all_goals go_ret
  exact ⟨ret_int HF.out, rfl⟩
/-- weight and id -/
abbrev Mem := Int × Int
def memCells (l : List Mem) : List Value := l.flatMap fun f => [.int .i64 f.1, .int .i64 f.2]
theorem memCells_len (l : List Mem) : (memCells l).length = l.length * 2 := by
  induction l with
  | nil => rfl
  | cons f l ih => simp only [memCells, List.flatMap_cons, List.length_append, List.length_cons, List.length_nil] at *; rw [ih]; omega
theorem memCells_app (a b : List Mem) : memCells (a ++ b) = memCells a ++ memCells b := by simp [memCells, List.flatMap_append]
theorem memCells_at (l : List Mem) (k : Nat) (h : k < l.length) : (memCells l)[k * 2]? = some (.int .i64 l[k].1) ∧ (memCells l)[k * 2 + 1]? = some (.int .i64 l[k].2) := by
  induction l generalizing k with
  | nil => simp at h
  | cons f l ih =>
    cases k with
    | zero => exact ⟨rfl, rfl⟩
    | succ k =>
      have := ih k (by simpa using h)
      have e : memCells (f :: l) = .int .i64 f.1 :: .int .i64 f.2 :: memCells l := rfl
      rw [e, show (k + 1) * 2 = k * 2 + 1 + 1 by omega]
      simpa using this
theorem memCells_one (l : List Mem) : ∀ u ∈ memCells l, u.oneCell' = true := by
  intro u hu
  simp only [memCells, List.mem_flatMap] at hu
  obtain ⟨f, _, hf⟩ := hu
  simp at hf
  rcases hf with rfl | rfl <;> rfl
theorem memCells_take (l : List Mem) (k : Nat) : memCells (l.take k) = (memCells l).take (k * 2) := by
  induction l generalizing k with
  | nil => simp [memCells]
  | cons f l ih =>
    cases k with
    | zero => rfl
    | succ k =>
      have e : memCells (f :: l) = .int .i64 f.1 :: .int .i64 f.2 :: memCells l := rfl
      rw [e, show (k + 1) * 2 = k * 2 + 1 + 1 by omega, List.take_succ_cons, List.take_succ_cons, List.take_succ_cons, ← ih]; rfl
theorem memCells_drop (l : List Mem) (k : Nat) : memCells (l.drop k) = (memCells l).drop (k * 2) := by
  induction l generalizing k with
  | nil => simp [memCells]
  | cons f l ih =>
    cases k with
    | zero => rfl
    | succ k =>
      have e : memCells (f :: l) = .int .i64 f.1 :: .int .i64 f.2 :: memCells l := rfl
      rw [e, show (k + 1) * 2 = k * 2 + 1 + 1 by omega, List.drop_succ_cons, List.drop_succ_cons, List.drop_succ_cons, ← ih]
theorem memCells_cut (l : List Mem) (i : Nat) : cutOut 2 i (memCells l) = memCells (l.eraseIdx i) := by
  rw [List.eraseIdx_eq_take_drop_succ, memCells_app, memCells_take, memCells_drop]; rfl
/-- where an id stands; -1: nowhere -/
def findS (l : List Mem) (id : Int) : Int := match l.findIdx? (fun m => m.2 == id) with | some i => i | none => -1
theorem eq_any (wt id x : Int) (B : Nat) (w : World) (hB : w.cell? ⟨B, 0, none⟩ = some (.int .i64 x)) :
    Calls Try.prog 25 #[.agg #[.int .i64 wt, .int .i64 id], .pointer (some ⟨B, 0, none⟩)] w fun e w' => e = .returned (.bool (id == x)) ∧ Below w.heap.size w w' := by
  have hlt : B < w.heap.size := World.block_lt_of_cell? _ _ hB
  go_enter Try.func25, Try.ntmps25
  go_wp2
  go_ret
  exact ⟨rfl, (Below.refl _ _).alloc (Nat.le_refl _) _⟩
theorem findIdx_take (l : List Mem) (id : Int) (k : Nat) (hk : k < l.length) (h : ∀ j (hj : j < l.length), j < k → l[j].2 ≠ id) (hy : l[k].2 = id) : findS l id = k := by
  have e : l.findIdx? (fun m => m.2 == id) = some k := by
    rw [List.findIdx?_eq_some_iff_getElem]
    exact ⟨hk, by simpa using hy, fun j hj => by simpa using h j (by omega) hj⟩
  simp [findS, e]
theorem findIdx_none (l : List Mem) (id : Int) (h : ∀ j (hj : j < l.length), l[j].2 ≠ id) : findS l id = -1 := by
  have e : l.findIdx? (fun m => m.2 == id) = none := by
    rw [List.findIdx?_eq_none_iff]
    intro m hm
    obtain ⟨j, hj, rfl⟩ := List.getElem_of_mem hm
    simpa using h j hj
  simp [findS, e]
set_option maxRecDepth 100000 in
theorem index_any (v : Value) (l : List Mem) (x : Int) (B : Nat) (w : World) (h : Sl w 55 2 v l.length (memCells l)) (hB : w.cell? ⟨B, 0, none⟩ = some (.int .i64 x)) :
    Calls Try.prog 24 #[v, .func (.func 25) #[] #[.pointer (some ⟨B, 0, none⟩)]] w fun e w' => e = .returned (.int .i64 (findS l x)) ∧ Below w.heap.size w w' := by
  obtain ⟨A, cap, rfl, hlc, hcm⟩ := h.form
  unfold maxLen at hcm
  have H := Lib.hid h
  have HB := Lib.hid hB
  clear h hB
  go_enter Try.func24, Try.ntmps24
  go_wp2_with fail
  go_loopw [8] (fun i wr => ∃ k : Nat, k ≤ l.length ∧ i = .int .i64 k ∧ (∀ j (hj : j < l.length), j < k → l[j].2 ≠ x) ∧ Below w.heap.size w wr) (fun i _ => l.length - (intOf i).toNat)
  case atStart => exact ⟨0, by omega, rfl, by intro j hj h; omega, Below.refl _ _⟩
  case round =>
    obtain ⟨k, hk, rfl, hall, hb⟩ := hrel
    by_cases hlt : k < l.length
    · obtain ⟨g, off, cap', hv, _, _, hg, hat, _⟩ := H.out.at_ (by omega)
      simp at hv
      obtain ⟨rfl, rfl⟩ := hv
      have x0 : wr.cell? ⟨g, off + k * 2, none⟩ = some (.int .i64 l[k].1) := (hb.cell hg).trans (hat _ _ (memCells_at l k hlt).1)
      have x1 : wr.cell? ⟨g, off + k * 2 + 1, none⟩ = some (.int .i64 l[k].2) := (hb.cell hg).trans (hat _ _ (memCells_at l k hlt).2)
      have hBl : B < w.heap.size := World.block_lt_of_cell? _ _ HB.out
      have b0 : wr.cell? ⟨B, 0, none⟩ = some (.int .i64 x) := (hb.cell hBl).trans HB.out
      have hq : (k : Int) < l.length := by omega
      have HL := Lib.hid hall
      have HBb := Lib.hid hb
      have hF := Lib.hid (fun (e : l[k].2 = x) => findIdx_take l x k hlt hall e)
      have hN := Lib.hid (fun (e : l[k].2 ≠ x) (j : Nat) (hj : j < l.length) (hjk : j < k + 1) => show l[j].2 ≠ x by
        by_cases e2 : j = k
        · subst e2; exact e
        · exact hall j hj (by omega))
      clear hall hb hat
      have hlt2 := Lib.hid hlt
      generalize l[k].1 = wt at *
      generalize l[k].2 = id at *
      clear hlt
      have HB0 := Lib.hid b0
      clear b0
      go_wp2_with fail
      refine (eq_any wt id x B _ HB0.out).mono ?_
      rintro e w2 ⟨rfl, b2⟩
      have b3 : Below w.heap.size w w2 := HBb.out.trans (b2.mono HBb.out.size)
      have HB3 := Lib.hid b3
      clear x0 x1 b2 b3 HBb
      by_cases hid : id = x
      · have hid2 : (id == x) = true := by simp [hid]
        rw [hid2]
        have HF := Lib.hid (hF.out hid)
        clear hF hN hid hid2
        go_wp2_with fail
        go_ret
        exact ⟨ret_int HF.out.symm, HB3.out⟩
      · have hid2 : (id == x) = false := by simp [hid]
        rw [hid2]
        have HN := Lib.hid (hN.out hid)
        clear hF hN hid hid2
        go_wp2_with fail
        go_roundw
        case rel => exact ⟨k + 1, by omega, by go_num, HN.out, HB3.out⟩
        case measure => simp [intOf]; omega
    · obtain rfl : k = l.length := by omega
      have hq : ¬ (l.length : Int) < l.length := by omega
      have HN := Lib.hid (findIdx_none l x fun j hj => hall j hj hj)
      have HBb := Lib.hid hb
      clear hall hb
      go_wp2_with fail
      go_ret
      exact ⟨ret_int HN.out.symm, HBb.out⟩
end Go.Proofs.Ytgfcfpoebmlppaa
