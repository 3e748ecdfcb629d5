/- Package table: New, what it makes. -/
import Derived.Test.YtkicnjbidbfajaaSetNew
namespace Go.Proofs.Ytkicnjbidbfajaa
open Go.ChangeShapes Go.WideShapes Go.ChangeAt Go.RowKit
set_option linter.unusedVariables false
set_option linter.unusedSimpArgs false
def NewOk (tag : Nat) (f0 : Nat → Nat) (k : Nat) (w : World) (e : Ending) (w' : World) : Prop :=
  e = .returned (.tuple #[.pointer (some ⟨w.heap.size, 0, none⟩), .int .i64 0]) ∧ ∃ f', (∀ g, g < w.heap.size → f' g = f0 g) ∧ TsE tag f' w.heap.size w' k (fun _ => []) ∧ Below w.heap.size w w'
theorem tnew_arg (k : Int) (w : World) (h : k < 1 ∨ 8 < k) : Calls Try.prog 31 #[.int .i64 k] w fun e w' => e = .returned (.tuple #[.pointer none, .int .i64 1]) ∧ w = w' := by
  have hc : k < 1 ∨ ¬ k < 1 ∧ 8 < k := by omega
  clear h
  rcases hc with h | ⟨h, h2⟩
  all_goals
    go_enter Try.func31, Try.ntmps31
    go_wp2
    go_ret2
    exact ⟨rfl, rfl⟩
set_option maxRecDepth 100000 in
set_option maxHeartbeats 1000000 in
theorem tnew_ok (tag : Nat) (f0 : Nat → Nat) (k : Nat) (w : World) (h1 : 1 ≤ k) (h2 : k ≤ 8) (hf : ∀ g, g < w.heap.size → f0 g < tag ∨ tag + 20 ≤ f0 g) :
    Calls Try.prog 31 #[.int .i64 k] w (NewOk tag f0 k w) := by
  have HF := Lib.hid hf
  clear hf
  have q1 : ¬ ((k : Int) < 1) := by omega
  have q2 : ¬ ((8 : Int) < k) := by omega
  have H0 := Lib.hid (ts_zero (tag := tag) (f := f0) (fun _ => []) (heap_alloc_new w (.cells #[.slice none 0 0] 90)))
  have HB0 := Lib.hid ((Below.refl w.heap.size w).alloc (Nat.le_refl _) (.cells #[.slice none 0 0] 90))
  go_enter Try.func31, Try.ntmps31
  go_upto_region 5 with fail
  generalize World.alloc w _ = w0 at *
  obtain ⟨r, hr⟩ : ∃ r, w.heap.size = r := ⟨_, rfl⟩
  rw [hr] at H0 HB0 HF ⊢
  have HR := Lib.hid hr
  clear hr
  go_loopw [14] (fun s14 wr => ∃ i : Nat, i ≤ k ∧ s14 = .int .i64 i ∧ ∃ f, (∀ g, g < r → f g = f0 g) ∧ TsE tag f r wr i (fun _ => []) ∧ Below r w wr) (fun s14 _ => k - (intOf s14).toNat)
  case atStart => exact ⟨0, by omega, rfl, _, fun g hg => if_neg (by omega), H0.out, HB0.out⟩
  case round =>
    clear H0 HB0
    obtain ⟨i, hi, rfl, f, hff, ⟨sv, P, V, hT⟩, hb⟩ := hrel
    obtain ⟨A, c, rfl, _, _⟩ := hT.sl.form
    by_cases hlt : i < k
    · have p1 : (i : Int) < k := by omega
      have u1 : IntKind.i64.wrap ((i : Int) + 1) = (i : Int) + 1 := IntWalk.i64_in _ (by omega)
      obtain ⟨WD, hWD⟩ : ∃ WD, wr.drew = WD := ⟨_, rfl⟩
      have hTD : Ts tag f r WD i (fun _ => []) (.slice A i c) P V := by rw [← hWD]; exact hT.below ⟨rfl, rfl, rfl, Nat.le_refl _, fun _ _ => rfl⟩
      have hbD : Below r w WD := by rw [← hWD]; exact Below.drew hb
      obtain ⟨A2, c2, W3, f', hr3, hB3, hf', hK, hTE⟩ := ts_grow hTD rfl (by omega)
      have hrl := hTD.blk.lt
      obtain ⟨W1, hW1⟩ : ∃ W1, WD.alloc (.cells #[.slice none 0 0] 79) = W1 := ⟨_, rfl⟩
      obtain ⟨W2, hW2⟩ : ∃ W2, W1.alloc (.cells #[.pointer (some ⟨WD.heap.size, 0, none⟩)] 92) = W2 := ⟨_, rfl⟩
      rw [hW1, hW2] at hr3
      have hs1 : W1.heap.size = WD.heap.size + 1 := by rw [← hW1]; simp
      have hB1 := hTD.blk.below (w' := W1) (by rw [← hW1]; exact (Below.refl WD.heap.size WD).alloc (Nat.le_refl _) _) hrl
      have hB2 := hB1.below (w' := W2) (by rw [← hW2]; exact (Below.refl W1.heap.size W1).alloc (Nat.le_refl _) _) hB1.lt
      have hne : Nonempty (WSt (Ch5 WD W1 W1 W2 W3)) := ⟨⟨0, _, .inl ⟨rfl, rfl⟩⟩⟩
      have c0 : ∀ y : WSt (Ch5 WD W1 W1 W2 W3), y.w.cell? ⟨r, 0, none⟩ = some (.slice A i c) := fun y => WSt.all5 (p := fun w' => w'.cell? ⟨r, 0, none⟩ = some (.slice A i c)) y (hTD.blk.cell 0) (hB1.cell 0) (hB1.cell 0) (hB2.cell 0) (hB3.cell 0)
      have HR3 := Lib.hid hr3
      have HW1 := Lib.hid hW1
      have HW2 := Lib.hid hW2
      have HWD := Lib.hid hWD
      have HFin := Lib.hid (show ∃ f2, (∀ g, g < r → f2 g = f0 g) ∧ TsE tag f2 r (W3.setCell ⟨r, 0, none⟩ (.slice A2 (i + 1) c2)) (i + 1) (fun _ => []) ∧ Below r w (W3.setCell ⟨r, 0, none⟩ (.slice A2 (i + 1) c2)) from
        ⟨f', fun g hg => by rw [hf' g (by omega)]; exact hff g hg, hTE, Keeps.below hbD hK (by omega) (fun x hx e => by have h1 := hff x hx; have h2 := HF.out x hx; omega)⟩)
      have fz := fun j => hB3.frozen j
      have x0 := hB3.cell 0
      simp at x0
      clear hr3 hW1 hW2 hT hTD hbD hK hTE hff hf' hb hB1 hB2 hB3 hrl
      go_upto_region 6 with fail
      refine wp_region_stage2 (Ch5 WD W1 W1 W2 W3) [5, 6, 7, 8] 11 (by kernel_rfl) (by kernel_rfl) (by kernel_rfl) (.inl ⟨rfl, hWD⟩) ?_
      clear hWD
      simp only [List.take_succ_cons, List.take_zero, List.drop_succ_cons, List.drop_zero]
      iterate 5 (refine wpS_pure (by rfl) (fun K hK => ?_); go_simp; refine hK _ ?_; clear hK K)
      refine wpS_eff 0 (by rfl) (by rfl) (by rfl) (.pointer (some ⟨WD.heap.size, 0, none⟩)) ?_ ?_
      · rintro ⟨Y, hY⟩
        obtain rfl : Y = WD := by simpa [Ch5] using hY
        go_simp
        exact (inew0 Y).mono fun e w' ⟨he, hw⟩ => ⟨he, .inr (.inl ⟨rfl, by rw [hw]; exact HW1.out⟩)⟩
      refine wpS_eff 1 (by rfl) (by rfl) (by rfl) (.agg #[.pointer (some ⟨WD.heap.size, 0, none⟩)]) ?_ ?_
      · rintro ⟨Y, hY⟩
        obtain rfl : Y = W1 := by simpa [Ch5] using hY
        go_simp
        exact .inr (.inr (.inl ⟨rfl, rfl⟩))
      refine wpS_eff 2 (by rfl) (by rfl) (by rfl) (.slice (some ⟨WD.heap.size + 1, 0, none⟩) 1 1) ?_ ?_
      · rintro ⟨Y, hY⟩
        obtain rfl : Y = W1 := by simpa [Ch5] using hY
        go_simp
        exact .inr (.inr (.inr (.inl ⟨rfl, HW2.out⟩)))
      refine wpS_eff 3 (by rfl) (by rfl) (by rfl) (.slice A2 (i + 1) c2) ?_ ?_
      · rintro ⟨Y, hY⟩
        obtain rfl : Y = W2 := by simpa [Ch5] using hY
        exact upTo_append (.tmp 20) (.tmp 23) _ (by rfl) _ _ (by rfl) (by rfl) (HR3.out _) (.inr (.inr (.inr (.inr ⟨rfl, rfl⟩))))
      iterate 2 (refine wpS_pure (by rfl) (fun K hK => ?_); go_simp; refine hK _ ?_; clear hK K)
      refine wpS_nil ?_
      intro y
      have hyw : y.w = W3 := by simpa [Ch5] using y.ok
      rw [hyw]
      clear hyw y hne c0 HR3 HW1 HW2
      go_upto_region 7 with fail
      clear x0 fz HWD
      generalize World.setCell W3 _ _ = w5 at *
      go_wp2_with fail
      go_roundw
      case rel => obtain ⟨f2, a1, a2, a3⟩ := HFin.out; exact ⟨i + 1, by omega, by go_num, f2, a1, a2, a3⟩
      case measure => simp [intOf]; omega
    · obtain rfl : i = k := by omega
      have p1 : ¬ (i : Int) < i := by omega
      have HT := Lib.hid (show TsE tag f r wr i (fun _ => []) from ⟨_, P, V, hT⟩)
      have HFf := Lib.hid hff
      have HBb := Lib.hid hb
      clear hT hff hb
      go_wp2_with fail
      go_ret2
      exact ⟨by rw [HR.out]; rfl, f, by rw [HR.out]; exact HFf.out, by rw [HR.out]; exact HT.out, by rw [HR.out]; exact HBb.out⟩
end Go.Proofs.Ytkicnjbidbfajaa
