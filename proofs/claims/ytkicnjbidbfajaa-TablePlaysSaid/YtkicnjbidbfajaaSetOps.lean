/- Package table: changes; Apply, Rows, Len, Tables. -/
import Derived.Test.YtkicnjbidbfajaaSetMake
import Derived.Deep.RegionHeld3
namespace Go.Proofs.Ytkicnjbidbfajaa
open Go.ChangeShapes Go.WideShapes Go.ChangeAt Go.RowKit
set_option linter.unusedVariables false
set_option linter.unusedSimpArgs false
/-- table, key, gone, val -/
structure Cg where
  (tb ky : Int) (gn : Bool) (vl : ByteArray)
/-- the slice v reads as the changes F 0 .. F (n-1) -/
def Cs (w : World) (v : Value) (n : Nat) (F : Nat → Cg) : Prop :=
  ∃ A cap, v = .slice A n cap ∧ n ≤ cap ∧ cap ≤ maxLen ∧ (0 < n → ∃ g off, A = some ⟨g, off, none⟩ ∧ g < w.heap.size ∧ ∀ i, i < n → w.cell? ⟨g, off + i * 4, none⟩ = some (.int .i64 (F i).tb) ∧ w.cell? ⟨g, off + i * 4 + 1, none⟩ = some (.int .i64 (F i).ky) ∧ w.cell? ⟨g, off + i * 4 + 2, none⟩ = some (.bool (F i).gn) ∧ w.cell? ⟨g, off + i * 4 + 3, none⟩ = some (.string (F i).vl))
theorem Cs.form {w : World} {v : Value} {n : Nat} {F : Nat → Cg} (h : Cs w v n F) : ∃ A cap, v = .slice A n cap ∧ n ≤ cap ∧ cap ≤ maxLen := by
  obtain ⟨A, cap, h1, h2, h3, _⟩ := h; exact ⟨A, cap, h1, h2, h3⟩
theorem Cs.keeps {S : Nat → Prop} {w w' : World} {v : Value} {n : Nat} {F : Nat → Cg} (h : Cs w v n F) (k : Keeps S w w') (hS : ∀ g, v.ownBlock = some g → g < w.heap.size → ¬ S g) : Cs w' v n F := by
  obtain ⟨A, cap, rfl, h2, h3, h4⟩ := h
  refine ⟨A, cap, rfl, h2, h3, fun hn => ?_⟩
  obtain ⟨g, off, rfl, h5, h6⟩ := h4 hn
  have hb := k.block g h5 (hS g rfl h5)
  refine ⟨g, off, rfl, Nat.lt_of_lt_of_le h5 k.size, fun i hi => ?_⟩
  have := h6 i hi
  exact ⟨(World.cell?_of_block hb).trans this.1, (World.cell?_of_block hb).trans this.2.1, (World.cell?_of_block hb).trans this.2.2.1, (World.cell?_of_block hb).trans this.2.2.2⟩
theorem Cs.below {w w' : World} {v : Value} {n : Nat} {F : Nat → Cg} (h : Cs w v n F) (hb : Below w.heap.size w w') : Cs w' v n F :=
  h.keeps (S := fun _ => False) ⟨hb.os, hb.tape, hb.output, hb.size, fun k hk _ => hb.block k hk⟩ (fun _ _ _ => id)
def cgV (c : Cg) : Value := .agg #[.int .i64 c.tb, .int .i64 c.ky, .bool c.gn, .string c.vl]
def chg (l : List Rw) (c : Cg) : List Rw := if c.gn then delL l c.ky else putL l c.ky c.vl
theorem up_chg {l : List Rw} (h : Up l) (c : Cg) : Up (chg l c) := by
  unfold chg
  split
  · exact up_del h _
  · exact up_put h _ _
theorem chg_len {l : List Rw} (h : Up l) (c : Cg) : (chg l c).length ≤ l.length + 1 := by
  unfold chg
  split
  · have := del_len l c.ky; omega
  · exact put_len h _ _
def DoPost (p : Nat) (v : Value) (l' : List Rw) (w : World) (e : Ending) (w' : World) : Prop :=
  (∃ u, e = .returned u) ∧ ∃ v', ixAt w' p v' l' ∧ Keeps (fun g => g = p ∨ v.ownBlock = some g) w w' ∧ (v'.ownBlock = v.ownBlock ∨ ∃ g, v'.ownBlock = some g ∧ w.heap.size ≤ g)
theorem do_any (p : Nat) (v : Value) (l : List Rw) (tb ky : Int) (gn : Bool) (vl : ByteArray) (w : World) (h : ixAt w p v l) (hU : Up l) (hn : l.length ≤ 2000) :
    Calls Try.prog 56 #[.agg #[.pointer (some ⟨p, 0, none⟩)], .agg #[.int .i64 tb, .int .i64 ky, .bool gn, .string vl]] w (DoPost p v (chg l ⟨tb, ky, gn, vl⟩) w) := by
  have hb : Below w.heap.size w ((w.alloc (.cells #[.pointer (some ⟨p, 0, none⟩)] 92)).alloc (.cells #[.int .i64 tb, .int .i64 ky, .bool gn, .string vl] 65)) := ((Below.refl _ _).alloc (Nat.le_refl _) _).alloc (by simp) _
  have H := Lib.hid (h.below hb)
  have HB := Lib.hid hb
  have HU := Lib.hid hU
  clear h hb hU
  cases gn with
  | true =>
    go_enter Try.func56, Try.ntmps56
    go_wp2_with fail
    refine (del_any p v l ky _ H.out HU.out hn).mono ?_
    rintro e w2 ⟨rfl, v', h1, h2, h3⟩
    have HF := Lib.hid (show DoPost p v (chg l ⟨tb, ky, true, vl⟩) w (.returned (.tuple #[])) w2 from ⟨⟨_, rfl⟩, v', h1, (Keeps.of_below HB.out).trans h2, h3.imp id fun ⟨g, e, hg⟩ => ⟨g, e, Nat.le_trans HB.out.size hg⟩⟩)
    clear h1 h2 h3
    go_wp2_with fail
    go_end0
    exact ⟨⟨_, rfl⟩, HF.out.2⟩
  | false =>
    go_enter Try.func56, Try.ntmps56
    go_wp2_with fail
    refine (put_any p v l ky vl _ H.out HU.out hn).mono ?_
    rintro e w2 ⟨rfl, v', h1, h2, h3⟩
    have HF := Lib.hid (show DoPost p v (chg l ⟨tb, ky, false, vl⟩) w (.returned (.tuple #[])) w2 from ⟨⟨_, rfl⟩, v', h1, (Keeps.of_below HB.out).trans h2, h3.imp id fun ⟨g, e, hg⟩ => ⟨g, e, Nat.le_trans HB.out.size hg⟩⟩)
    clear h1 h2 h3
    go_wp2_with fail
    go_end0
    exact ⟨⟨_, rfl⟩, HF.out.2⟩
section
variable {tag : Nat} {f f' : Nat → Nat} {r n : Nat} {w w' : World} {ls : Nat → List Rw} {sv : Value} {P : Nat → Nat} {V : Nat → Value}
theorem ttables (h : Ts tag f r w n ls sv P V) : Calls Try.prog 53 #[.pointer (some ⟨r, 0, none⟩)] w fun e w' => e = .returned (.int .i64 n) ∧ w = w' := by
  obtain ⟨A, cap, rfl, _, _⟩ := h.sl.form
  have c0 := h.blk.cell 0
  simp at c0
  clear h
  go_enter Try.func53, Try.ntmps53
  go_wp2_with fail
  go_ret
  exact ⟨rfl, rfl⟩
theorem tlen (t : Nat) (h : Ts tag f r w n ls sv P V) (ht : t < n) : Calls Try.prog 37 #[.pointer (some ⟨r, 0, none⟩), .int .i64 t] w fun e w' => e = .returned (.int .i64 (ls t).length) ∧ w = w' := by
  obtain ⟨g, off, cap, rfl, h1, h2, h3⟩ := h.at_ t ht
  have c0 := h.blk.cell 0
  simp at c0
  have H := Lib.hid h
  have q1 : decide (0 ≤ (t : Int) ∧ (t : Int) < n) = true := decide_eq_true (by omega)
  have q2 : (0 : Int) ≤ t := by omega
  have q3 : (t : Int) < n := by omega
  clear h
  go_enter Try.func37, Try.ntmps37
  go_wp2_with fail
  refine (thas _ H.out).mono ?_
  rintro e w1 ⟨rfl, rfl⟩
  rw [q1]
  go_wp2_with fail
  refine (ilen (H.out.index t ht)).mono ?_
  rintro e w1 ⟨rfl, rfl⟩
  go_wp2_with fail
  go_ret
  exact ⟨rfl, rfl⟩
theorem trows (t : Nat) (h : Ts tag f r w n ls sv P V) (ht : t < n) (hl : (ls t).length ≤ 2000) : Calls Try.prog 36 #[.pointer (some ⟨r, 0, none⟩), .int .i64 t] w (ClonePost (ls t) w) := by
  obtain ⟨g, off, cap, rfl, h1, h2, h3⟩ := h.at_ t ht
  have c0 := h.blk.cell 0
  simp at c0
  have H := Lib.hid h
  have q1 : decide (0 ≤ (t : Int) ∧ (t : Int) < n) = true := decide_eq_true (by omega)
  have q2 : (0 : Int) ≤ t := by omega
  have q3 : (t : Int) < n := by omega
  clear h
  go_enter Try.func36, Try.ntmps36
  go_wp2_with fail
  refine (thas _ H.out).mono ?_
  rintro e w1 ⟨rfl, rfl⟩
  rw [q1]
  go_wp2_with fail
  refine (iall (H.out.index t ht) hl).mono ?_
  rintro e w1 ⟨A2, c2, rfl, hF, hb⟩
  have HF := Lib.hid hF
  have HB := Lib.hid hb
  clear hF hb
  go_wp2_with fail
  go_ret
  exact ⟨A2, c2, rfl, HF.out, HB.out⟩
set_option maxRecDepth 100000 in
theorem tall (v : Value) (m : Nat) (F : Nat → Cg) (h : Ts tag f r w n ls sv P V) (hC : Cs w v m F) (hF : ∀ i, i < m → 0 ≤ (F i).tb ∧ (F i).tb < n) (hm : m ≤ 1000) :
    Calls Try.prog 55 #[.pointer (some ⟨r, 0, none⟩), v] w fun e w' => e = .returned (.bool true) ∧ Below w.heap.size w w' := by
  obtain ⟨A, cap, rfl, h1, h2, h3⟩ := hC
  unfold maxLen at h2
  have H := Lib.hid h
  have HF := Lib.hid hF
  have HC := Lib.hid h3
  clear h hF h3
  go_enter Try.func55, Try.ntmps55
  go_wp2_with fail
  go_loopw [6, 9] (fun s6 s9 wr => ∃ j : Nat, j ≤ m ∧ s9 = .int .i64 j ∧ Below w.heap.size w wr) (fun _ s9 _ => m - (intOf s9).toNat)
  case atStart => exact ⟨0, by omega, rfl, Below.refl _ _⟩
  case round =>
    obtain ⟨j, hj, rfl, hb⟩ := hrel
    by_cases hlt : j < m
    · obtain ⟨g, off, rfl, hg, hat⟩ := HC.out (by omega)
      obtain ⟨x0, x1, x2, x3⟩ := hat j hlt
      have y0 := (hb.cell (p := ⟨g, off + j * 4, none⟩) hg).trans x0
      have y1 := (hb.cell (p := ⟨g, off + j * 4 + 1, none⟩) hg).trans x1
      have y2 := (hb.cell (p := ⟨g, off + j * 4 + 2, none⟩) hg).trans x2
      have y3 := (hb.cell (p := ⟨g, off + j * 4 + 3, none⟩) hg).trans x3
      have hfj := HF.out j hlt
      have q1 : (0 : Int) ≤ j := by omega
      have q2 : (j : Int) < m := by omega
      have u1 : IntKind.i64.wrap ((j : Int) + 1) = (j : Int) + 1 := IntWalk.i64_in _ (by omega)
      have HB := Lib.hid hb
      clear x0 x1 x2 x3 hat hb
      generalize (F j).tb = a0 at *
      generalize (F j).ky = a1 at *
      generalize (F j).gn = a2 at *
      generalize (F j).vl = a3 at *
      have q3 : decide (0 ≤ a0 ∧ a0 < n) = true := decide_eq_true hfj
      have hb2 : Below w.heap.size w (wr.alloc (.cells #[.int .i64 a0, .int .i64 a1, .bool a2, .string a3] 65)) := HB.out.alloc HB.out.size _
      go_wp2_with fail
      refine (thas a0 (H.out.below hb2)).mono ?_
      rintro e w2 ⟨rfl, rfl⟩
      rw [q3]
      have HB2 := Lib.hid hb2
      clear y0 y1 y2 y3 hb2 HB
      go_wp2_with fail
      go_roundw
      case rel => exact ⟨j + 1, by omega, by go_num, HB2.out⟩
      case measure => simp [intOf]; omega
    · obtain rfl : j = m := by omega
      have q2 : ¬ (j : Int) < j := by omega
      go_wp2_with fail
      go_ret
      exact ⟨rfl, hb⟩
end
end Go.Proofs.Ytkicnjbidbfajaa
