/- Package index: After, New. -/
import Derived.Test.YtkicnjbidbfajaaIndexPut
import Derived.Test.YtkicnjbidbfajaaRead
import Derived.Test.YtkicnjbidbfajaaRowLaw
namespace Go.Proofs.Ytkicnjbidbfajaa
open Go.ChangeShapes Go.WideShapes Go.ChangeAt Go.RowKit
set_option linter.unusedVariables false
set_option linter.unusedSimpArgs false
theorem Fr.less {B B' : Nat} {w : World} {v : Value} {l : List Rw} (h : Fr B w v l) (hB : B' ≤ B) : Fr B' w v l := ⟨h.1, fun g hg => ⟨Nat.le_trans hB (h.2 g hg).1, (h.2 g hg).2⟩⟩
/-- the slice's part from b on, its first m -/
theorem part_sl {w : World} {A : Option Addr} {l : List Rw} {cap : Nat} (h : Sl w 26 2 (.slice A l.length cap) l.length (rowCells l)) (b m : Nat) (hb : b ≤ l.length) (hm : m ≤ l.length - b) :
    Sl w 26 2 (.slice (if cap = b then A else A.map (·.add (b * 2))) m (cap - b)) ((l.drop b).take m).length (rowCells ((l.drop b).take m)) := by
  have h1 := (h.cut b hb).take m hm
  rw [rowCells_take, rowCells_drop]
  rw [show ((l.drop b).take m).length = m by simp; omega]
  exact h1
set_option maxRecDepth 100000 in
theorem iafter {w0 w : World} {r : Nat} {X : Nat → Prop} {l : List Rw} (k n : Int) (h : Ix w0 r X w l) (hn : l.length ≤ 2000) :
    Calls Try.prog 18 #[.pointer (some ⟨r, 0, none⟩), .int .i64 k, .int .i64 n] w (ClonePost (afterL l k n) w) := by
  have hU := h.up
  have hbl := behind_le hU k
  obtain ⟨v, h1, _⟩ := h
  have HF := Lib.hid (find_any r v l k w h1 hU hn)
  have H := Lib.hid h1
  clear h1
  obtain ⟨b, hb⟩ : ∃ b, behind l k = b := ⟨_, rfl⟩
  obtain ⟨m, hm⟩ : ∃ m, cntN n (l.length - b) = m := ⟨_, rfl⟩
  have hml : m ≤ l.length - b := by rw [← hm]; exact Nat.min_le_right _ _
  have hpost : afterL l k n = (l.drop b).take m := by unfold afterL; rw [hb, hm]
  rw [hpost]
  rw [hb] at hbl
  have hal : ((l.drop b).take m).length = m := by simp; omega
  obtain ⟨A, cap, rfl, hlc, hcm⟩ := H.out.2.1.form
  unfold maxLen at hcm
  have HCl := Lib.hid (fun (w1 : World) (b1 : Below w.heap.size w w1) => clone_any _ ((l.drop b).take m) w1 (part_sl (H.out.below b1).2.1 b m hbl hml) (by omega))
  have e1 : (if has l k then (pos l k : Int) + 1 else pos l k) = (b : Int) := by
    rw [← hb]; unfold behind; split <;> simp
  have e2 : n ≤ 0 ∧ m = 0 ∨ 0 < n ∧ n < ((l.length - b : Nat) : Int) ∧ n = m ∨ ((l.length - b : Nat) : Int) ≤ n ∧ 0 < n ∧ m = l.length - b := by
    unfold cntN at hm; omega
  obtain ⟨P, hP⟩ : ∃ P, (l.drop b).take m = P := ⟨_, rfl⟩
  rw [hP] at HCl hal ⊢
  clear hpost hm hU hal hP
  have hpl := pos_le l k
  obtain ⟨q, hq⟩ : ∃ q, pos l k = q := ⟨_, rfl⟩
  rw [hq] at HF e1 hpl
  obtain ⟨hs, hhs⟩ : ∃ hs, has l k = hs := ⟨_, rfl⟩
  rw [hhs] at HF e1
  clear hq hhs hb
  go_enter Try.func18, Try.ntmps18
  go_wp2_with fail
  refine HF.out.mono ?_
  rintro e w1 ⟨rfl, b1⟩
  have B1 := Lib.hid b1
  have HC := Lib.hid (HCl.out w1 b1)
  have h2 := H.out.below b1
  have c0 := h2.1.cell 0
  simp at c0
  clear b1 h2 HCl
  go_upto_if 16 with fail
  go_cut [7] (fun s7 wx => s7 = .int .i64 b ∧ wx = w1)
  case first =>
    cases hs with
    | true =>
      have u1 : IntKind.i64.wrap ((q : Int) + 1) = b := by rw [IntWalk.i64_in _ (by omega)]; simpa using e1
      go_wp2_with fail
      go_meet
      case rel => exact ⟨by first | rfl | (congr 1; omega), rfl⟩
    | false =>
      have u1 : (q : Int) = b := by simpa using e1
      go_wp2_with fail
      go_meet
      case rel => exact ⟨by rw [u1], rfl⟩
  case rest =>
    obtain ⟨rfl, rfl⟩ := hcut
    clear e1 hpl
    have q1 : (0 : Int) ≤ b := by omega
    have q2 : (b : Int) ≤ l.length := by omega
    go_upto_region 5 with fail
    obtain ⟨A9, hA9⟩ : ∃ A9, (if cap = b then A else Option.map (fun x => x.add (b * 2)) A) = A9 := ⟨_, rfl⟩
    rw [hA9] at HC ⊢
    clear hA9 c0
    have q3 : (m : Int) ≤ (cap - b : Nat) := by omega
    have q4 : m ≤ cap - b := by omega
    obtain ⟨d, hd⟩ : ∃ d, l.length - b = d := ⟨_, rfl⟩
    obtain ⟨c, hc⟩ : ∃ c, cap - b = c := ⟨_, rfl⟩
    rw [hd] at e2 hml ⊢
    rw [hc] at HC q3 q4 ⊢
    have q7 : d ≤ c := by omega
    clear hd hc
    have q5 : (0 : Int) ≤ m := by omega
    have E2 := Lib.hid e2
    have q6 : (d : Int) ≤ c := by omega
    clear e2
    go_wp2_with fail
    all_goals
      have e2 := E2.out
      first
        | (exfalso; omega)
        | (have t : n.toNat = m := by omega
           rw [t])
        | (have t : d = m := by omega
           rw [t])
        | (obtain rfl : m = 0 := by omega
           skip)
      all_goals refine HC.out.mono ?_
      all_goals
        rintro e w3 ⟨A3, c3, rfl, hF, hb⟩
        have HF3 := Lib.hid hF
        have HB3 := Lib.hid hb
        clear hF hb
        go_wp2_with fail
        go_ret
        exact ⟨A3, c3, rfl, HF3.out.less B1.out.size, B1.out.trans (HB3.out.mono B1.out.size)⟩
set_option maxRecDepth 100000 in
theorem inew (v : Value) (a : List Rw) (w : World) (h : Rs w v a.length a) (hn : a.length ≤ 1000) :
    Calls Try.prog 14 #[v] w fun e w' => e = .returned (.pointer (some ⟨w.heap.size, 0, none⟩)) ∧ Ix w w.heap.size (fun _ => False) w' (putAll a) := by
  obtain ⟨A, cap, rfl, hlc, hcm⟩ := h.form
  unfold maxLen at hcm
  have H := Lib.hid h
  clear h
  go_enter Try.func14, Try.ntmps14
  go_wp2_with fail
  have h0 : Ix w w.heap.size (fun _ => False) (w.alloc (.cells #[.slice none 0 0] 79)) [] :=
    ⟨.slice none 0 0, ⟨heap_alloc_new w _, Sl.nil _ _ _ _, by simp [Value.ownBlock], by simp [Value.ownBlock]⟩, by simp [Value.ownBlock], by simp, (Below.refl _ _).alloc (Nat.le_refl _) _, List.Pairwise.nil⟩
  have H0 := Lib.hid h0
  clear h0
  obtain ⟨r, hr⟩ : ∃ r, w.heap.size = r := ⟨_, rfl⟩
  rw [hr] at H0 ⊢
  have HR := Lib.hid hr
  clear hr
  go_loopw [5, 10] (fun s5 s10 wr => ∃ j : Nat, j ≤ a.length ∧ s10 = .int .i64 j ∧ Ix w r (fun _ => False) wr (putAll (a.take j))) (fun _ s10 _ => a.length - (intOf s10).toNat)
  case atStart => exact ⟨0, by omega, rfl, H0.out⟩
  case round =>
    clear H0
    obtain ⟨j, hj, rfl, hI⟩ := hrel
    have HI := Lib.hid hI
    clear hI
    by_cases hlt : j < a.length
    · obtain ⟨g, off, cap', hv, _, _, hg, hat, _⟩ := H.out.at_ (by omega)
      simp at hv
      obtain ⟨rfl, rfl⟩ := hv
      have hb := HI.out.low
      have hgr : g < r := by have := HR.out; omega
      have x0 : wr.cell? ⟨g, off + j * 2, none⟩ = some (.int .i64 a[j].1) := (hb.cell hgr).trans (hat _ _ (rowCells_at a j hlt).1)
      have x1 : wr.cell? ⟨g, off + j * 2 + 1, none⟩ = some (.string a[j].2) := (hb.cell hgr).trans (hat _ _ (rowCells_at a j hlt).2)
      have HP := Lib.hid (putAll_take a j hlt)
      have hlen : (putAll (a.take j)).length ≤ 2000 := by have := all_len (a.take j); simp at this; omega
      have q1 : (0 : Int) ≤ j := by omega
      have q2 : (j : Int) < a.length := by omega
      have u1 : IntKind.i64.wrap ((j : Int) + 1) = (j : Int) + 1 := IntWalk.i64_in _ (by omega)
      have hlt2 := Lib.hid hlt
      generalize a[j].1 = k at *
      generalize a[j].2 = s at *
      clear hat hb hlt
      go_wp2_with fail
      have hI2 := HI.out.below ((Below.refl wr.heap.size wr).alloc (Nat.le_refl _) (.cells #[.int .i64 k, .string s] 26))
      refine (iput k s hI2 hlen (by simp)).mono ?_
      rintro e w2 ⟨rfl, h2, _⟩
      have H2 := Lib.hid h2
      clear h2 hI2 HI x0 x1
      go_wp2_with fail
      go_roundw
      case rel => exact ⟨j + 1, by have := hlt2.out; omega, by go_num, by rw [HP.out]; exact H2.out⟩
      case measure => have := hlt2.out; simp [intOf]; omega
    · obtain rfl : j = a.length := by omega
      have q2 : ¬ ((a.length : Int) < a.length) := by omega
      have HI2 := Lib.hid (show Ix w r (fun _ => False) wr (putAll a) by have := HI.out; rwa [List.take_length] at this)
      clear HI
      go_wp2_with fail
      go_ret
      exact ⟨by rw [HR.out]; rfl, by rw [HR.out]; exact HI2.out⟩
end Go.Proofs.Ytkicnjbidbfajaa
