/- The statements' awake of layer 9; the document's set, made. -/
import Derived.Test.YtkicnjbidbfajaaApply
namespace Go.Proofs.Ytkicnjbidbfajaa
open Go.ChangeShapes Go.WideShapes Go.ChangeAt Go.RowKit
set_option linter.unusedVariables false
set_option linter.unusedSimpArgs false
theorem Ts.retag {tag : Nat} {f : Nat → Nat} {r n : Nat} {w : World} {ls : Nat → List Rw} {sv : Value} {P : Nat → Nat} {V : Nat → Value} (h : Ts tag f r w n ls sv P V) (x : Nat) : Ts tag (fun g => if w.heap.size ≤ g then x else f g) r w n ls sv P V :=
  h.keeps (S := fun _ => False) (Keeps.refl _ _) (fun g hg => if_neg (by omega)) (fun _ h => h.elim)
theorem infoRows : (Try.prog.info? 22).map (fun i => (i.zero, i.size, i.bytes)) = some (some (.slice none 0 0), 1, 24) := by kernel_rfl
theorem rset_arg (k : Int) (w : World) (h : k < 1 ∨ 8 < k) : Calls Try.prog 32 #[.int .i64 k] w fun e w' => e = .returned (.pointer none) ∧ w = w' := by
  have hc : k < 1 ∨ ¬ k < 1 ∧ 8 < k := by omega
  clear h
  rcases hc with h | ⟨h, h2⟩
  all_goals
    go_enter Try.func32, Try.ntmps32
    go_wp2
    go_ret
    exact ⟨rfl, rfl⟩
theorem rset_some (k : Nat) (w : World) (h1 : 1 ≤ k) (h2 : k ≤ 8) : Calls Try.prog 32 #[.int .i64 k] w fun e w' => ∃ b, e = .returned (.pointer (some ⟨b, 0, none⟩)) ∧ Below w.heap.size w w' := by
  obtain ⟨i0, hi0, hz0, hz1, hz2⟩ := info_parts infoRows
  have q1 : ¬ ((k : Int) < 1) := by omega
  have q2 : ¬ ((8 : Int) < k) := by omega
  go_enter Try.func32, Try.ntmps32
  go_wp2_with (refine wpList_make_full _ rfl _ _ _ rfl w.heap.size 22 i0 _ 1 Try.underlying93 hi0 hz0 hz1 _ _ _ _ k rfl rfl rfl rfl (by rw [hz2]; omega) (by unfold maxLen; omega) (Nat.le_refl _) ?_; intro w2 hown hgr)
  have hb : Below w.heap.size w w2 := (Below.refl _ _).grown hgr (Nat.le_refl _) (by simp)
  go_ret
  exact ⟨⟨_, rfl⟩, hb.alloc hb.size _⟩
/-- one change that the call itself lays -/
theorem cs_one (w : World) (a b : Int) (c : Bool) (d : ByteArray) : Cs (w.alloc (.cells #[.int .i64 a, .int .i64 b, .bool c, .string d] 65)) (.slice (some ⟨w.heap.size, 0, none⟩) 1 1) 1 (fun _ => ⟨a, b, c, d⟩) := by
  have h := heap_alloc_new w (.cells #[.int .i64 a, .int .i64 b, .bool c, .string d] 65)
  refine ⟨_, 1, rfl, Nat.le_refl _, by unfold maxLen; omega, fun _ => ⟨w.heap.size, 0, rfl, by simp, fun i hi => ?_⟩⟩
  obtain rfl : i = 0 := by omega
  refine ⟨?_, ?_, ?_, ?_⟩ <;> rw [cells_of h] <;> rfl
/-- Apply of one change, laid on the spot -/
theorem tapply_one {tag : Nat} {f : Nat → Nat} {r n : Nat} {w : World} {ls : Nat → List Rw} (a b : Int) (c : Bool) (d : ByteArray) (h : TsE tag f r w n ls) (ha : 0 ≤ a ∧ a < n) (hl : ∀ t, t < n → (ls t).length ≤ 1200) :
    Calls Try.prog 35 #[.pointer (some ⟨r, 0, none⟩), .slice (some ⟨w.heap.size, 0, none⟩) 1 1] (w.alloc (.cells #[.int .i64 a, .int .i64 b, .bool c, .string d] 65)) fun e w' =>
      e = .returned (.bool true) ∧ ∃ f', (∀ g, g < w.heap.size → f' g = f g) ∧ TsE tag f' r w' n (stepL ls ⟨a, b, c, d⟩) ∧ Keeps (fun g => tag + 2 ≤ f g ∧ f g < tag + 2 + n) w w' := by
  obtain ⟨sv, P, V, hT⟩ := h
  have hb : Below w.heap.size w (w.alloc (.cells #[.int .i64 a, .int .i64 b, .bool c, .string d] 65)) := (Below.refl _ _).alloc (Nat.le_refl _) _
  refine (tapply _ 1 (fun _ => ⟨a, b, c, d⟩) ((hT.retag 0).below hb) (cs_one w a b c d) (fun i _ => ha) (by omega) hl (fun g hg => ?_)).mono ?_
  · simp [Value.ownBlock] at hg
    subst hg
    first | (simp; done) | (simp; omega)
  · rintro e w' ⟨he, f', h1, h2, h3⟩
    refine ⟨he, f', fun g hg => ?_, h2, (Keeps.of_below hb).trans' h3 (fun g hg e => ?_)⟩
    · rw [h1 g (by simp; omega)]
      exact if_neg (by omega)
    · simp only [if_neg (show ¬ w.heap.size ≤ g by omega)] at e
      exact e
set_option maxRecDepth 100000 in
theorem awake09 (w : World) : Calls Try.prog 33 #[] w fun e w' => e = .returned (.bool true) ∧ Below w.heap.size w w' := by
  go_enter Try.func33, Try.ntmps33
  go_wp2_with fail
  refine (tnew_ok 100 (fun _ => 0) 2 w (by omega) (by omega) (fun g _ => .inl (by omega))).mono ?_
  rintro e w1 ⟨rfl, f1, hf1, hT1, hb1⟩
  have HT1 := Lib.hid hT1
  have HF1 := Lib.hid hf1
  have HB1 := Lib.hid hb1
  clear hT1 hf1 hb1
  obtain ⟨r, hr⟩ : ∃ r, w.heap.size = r := ⟨_, rfl⟩
  rw [hr] at HT1 HF1 HB1 ⊢
  have HR := Lib.hid hr
  clear hr
  go_wp2_with fail
  refine (tnew_arg 0 w1 (.inl (by omega))).mono ?_
  rintro e w2 ⟨rfl, rfl⟩
  go_wp2_with fail
  obtain ⟨sv, P, V, hT⟩ := HT1.out
  refine (ttables hT).mono ?_
  rintro e w2 ⟨rfl, rfl⟩
  clear hT
  go_wp2_with fail
  refine (tapply_one 1 5 false ⟨#[97]⟩ HT1.out ⟨by omega, by omega⟩ (fun t _ => by simp)).mono ?_
  rintro e w3 ⟨rfl, f2, hf2, hT2, hk2⟩
  have hB3 : Below r w w3 := Keeps.below HB1.out hk2 (by have := HB1.out.size; rw [HR.out] at this; exact this) (fun x hx e => by have := HF1.out x hx; omega)
  have e1 : stepL (fun _ => []) ⟨1, 5, false, ⟨#[97]⟩⟩ 1 = [((5 : Int), (⟨#[97]⟩ : ByteArray))] := by simp [stepL, updT, chg, putL, has, pos]
  have e0 : stepL (fun _ => []) ⟨1, 5, false, ⟨#[97]⟩⟩ 0 = [] := by simp [stepL, updT]
  have HE0 := Lib.hid e0
  have HE1 := Lib.hid e1
  have HT2 := Lib.hid hT2
  have HB3 := Lib.hid hB3
  clear hf2 hT2 hk2 hB3 e0 e1
  go_wp2_with fail
  obtain ⟨sv2, P2, V2, hT2⟩ := HT2.out
  have HT3 := Lib.hid hT2
  have hrw := trows 1 hT2 (by omega) (by rw [HE1.out]; simp)
  rw [HE1.out] at hrw
  clear hT2
  refine hrw.mono ?_
  rintro e w4 ⟨A4, c4, rfl, hF4, hb4⟩
  have HT4 := Lib.hid (HT3.out.below hb4)
  have HB4 := Lib.hid (HB3.out.trans (hb4.mono (by have := HB3.out.size; rw [HR.out] at this; exact this)))
  have HF4 := Lib.hid hF4.1
  clear hb4 hF4 HT3 HT2 hrw
  go_wp2_with fail
  have hb5 : Below w4.heap.size w4 (w4.alloc (.cells #[.int .i64 5, .string ⟨#[97]⟩] 26)) := (Below.refl _ _).alloc (Nat.le_refl _) _
  refine (plain_row _ _ 1 [(5, ⟨#[97]⟩)] _ (Rs.of (HF4.out.below hb5)) (Rs.of (made_rows rfl (by omega) (by unfold maxLen; omega) (heap_alloc_new w4 _))) (by omega)).mono ?_
  rintro e w5 ⟨rfl, b5⟩
  have hb6 := hb5.trans (b5.mono hb5.size)
  have HT5 := Lib.hid (HT4.out.below hb6)
  have HB5 := Lib.hid (HB4.out.trans (hb6.mono (by have := HB4.out.size; rw [HR.out] at this; exact this)))
  clear hb5 b5 hb6
  go_wp2_with fail
  have hln := tlen 0 HT5.out (by omega)
  rw [HE0.out] at hln
  refine hln.mono ?_
  rintro e w6 ⟨rfl, rfl⟩
  clear hln
  go_wp2_with fail
  go_ret
  exact ⟨rfl, by rw [HR.out]; exact HB5.out⟩
end Go.Proofs.Ytkicnjbidbfajaa
