/- Both sets, side by side: alike. -/
import Derived.Test.YtkicnjbidbfajaaRefSet4
namespace Go.Proofs.Ytkicnjbidbfajaa
open Go.ChangeShapes Go.WideShapes Go.ChangeAt Go.RowKit
set_option linter.unusedVariables false
set_option linter.unusedSimpArgs false
section
variable {tag : Nat} {f : Nat → Nat} {r n : Nat} {w w' : World} {ls : Nat → List Rw} {sv : Value} {P : Nat → Nat} {V : Nat → Value} {Z : Nat → Prop} {rb gT : Nat} {U : Nat → Value}
def AkS (tag : Nat) (f : Nat → Nat) (r n : Nat) (ls : Nat → List Rw) (sv : Value) (P : Nat → Nat) (V : Nat → Value) (rb gT : Nat) (w : World) : Prop :=
  Ts tag f r w n ls sv P V ∧ Blk w rb 95 #[.slice (some ⟨gT, 0, none⟩) n n]
set_option maxRecDepth 100000 in
set_option maxHeartbeats 1000000 in
theorem alike_any (h : Ts tag f r w n ls sv P V) (hR : Rf Z rb gT w n ls U) (h0 : 0 < n) (hn : n ≤ 8) (hl : ∀ t, t < n → (ls t).length ≤ 2000) :
    Calls Try.prog 42 #[.pointer (some ⟨r, 0, none⟩), .pointer (some ⟨rb, 0, none⟩)] w fun e w' => e = .returned (.bool true) ∧ Below w.heap.size w w' := by
  have H := Lib.hid h
  have HR := Lib.hid hR
  have HL := Lib.hid hl
  clear h hR hl
  go_enter Try.func42, Try.ntmps42
  go_wp2_with fail
  go_loopw [5] (fun s5 wr => ∃ x : Int, -1 ≤ x ∧ x ≤ (n : Int) + 1 ∧ s5 = .int .i64 x ∧ Below w.heap.size w wr) (fun s5 _ => ((n : Int) + 1 - intOf s5).toNat)
  case atStart => exact ⟨-1, by omega, by omega, rfl, Below.refl _ _⟩
  case round =>
    obtain ⟨x, hx1, hx2, rfl, hb⟩ := hrel
    have hT := H.out.below hb
    have hR := HR.out.below hb
    have c0 := hR.blk.cell 0
    simp at c0
    have HT := Lib.hid hT
    have HRr := Lib.hid hR
    have HB := Lib.hid hb
    clear hT hR hb
    by_cases hlt : x ≤ n
    · have u1 : IntKind.i64.wrap (x + 1) = x + 1 := IntWalk.i64_in _ (by omega)
      by_cases hin : 0 ≤ x ∧ x < n
      · obtain ⟨t, rfl⟩ : ∃ t : Nat, x = t := ⟨x.toNat, by omega⟩
        have htn : t < n := by omega
        have hlt2 := HL.out t htn
        go_wp2_with fail
        refine (trows t HT.out htn hlt2).mono ?_
        rintro e w2 ⟨A2, c2, rfl, hF2, b2⟩
        have HT2 := Lib.hid (HT.out.below b2)
        have HR2 := Lib.hid (HRr.out.below b2)
        have HB2 := Lib.hid (HB.out.trans (b2.mono HB.out.size))
        have HF2 := Lib.hid hF2.1
        clear hF2 b2 HT HRr HB c0
        go_wp2_with fail
        refine (rrows t HR2.out hn htn hlt2).mono ?_
        rintro e w3 ⟨A3, c3, rfl, hF3, b3⟩
        have HT3 := Lib.hid (HT2.out.below b3)
        have HR3 := Lib.hid (HR2.out.below b3)
        have HB3 := Lib.hid (HB2.out.trans (b3.mono HB2.out.size))
        have HF3 := Lib.hid hF3.1
        have HG3 := Lib.hid (HF2.out.below b3)
        clear hF3 b3 HT2 HR2 HB2 HF2
        go_wp2_with fail
        refine (plain_row _ _ (ls t).length (ls t) w3 (Rs.of HG3.out) (Rs.of HF3.out) (by omega)).mono ?_
        rintro e w4 ⟨rfl, b4⟩
        have HT4 := Lib.hid (HT3.out.below b4)
        have HR4 := Lib.hid (HR3.out.below b4)
        have HB4 := Lib.hid (HB3.out.trans (b4.mono HB3.out.size))
        clear b4 HT3 HR3 HB3 HF3 HG3
        go_wp2_with fail
        refine (tlen t HT4.out htn).mono ?_
        rintro e w5 ⟨rfl, rfl⟩
        go_wp2_with fail
        refine (rrows t HR4.out hn htn hlt2).mono ?_
        rintro e w6 ⟨A6, c6, rfl, _, b6⟩
        have HB6 := Lib.hid (HB4.out.trans (b6.mono HB4.out.size))
        clear b6 HT4 HR4 HB4
        go_wp2_with fail
        go_roundw
        case rel => exact ⟨(t : Int) + 1, by omega, by omega, by go_num, HB6.out⟩
        case measure => simp [intOf]; omega
      · have hnil : ∀ w', Rs w' (.slice none 0 0) 0 [] := fun w' => Rs.of (Sl.nil _ _ _ _)
        have HNil := Lib.hid hnil
        have HIn := Lib.hid hin
        clear hnil hin
        go_wp2_with fail
        refine (trows_no x HT.out HIn.out).mono ?_
        rintro e w2 ⟨rfl, rfl⟩
        go_wp2_with fail
        refine (rrows_no x HRr.out hn HIn.out).mono ?_
        rintro e w2 ⟨rfl, rfl⟩
        go_wp2_with fail
        refine (plain_row _ _ 0 [] _ (HNil.out _) (HNil.out _) (by omega)).mono ?_
        rintro e w4 ⟨rfl, b4⟩
        have HT4 := Lib.hid (HT.out.below b4)
        have HR4 := Lib.hid (HRr.out.below b4)
        have HB4 := Lib.hid (HB.out.trans (b4.mono HB.out.size))
        clear b4 HT HRr HB c0
        go_wp2_with fail
        refine (tlen_no x HT4.out HIn.out).mono ?_
        rintro e w5 ⟨rfl, rfl⟩
        go_wp2_with fail
        refine (rrows_no x HR4.out hn HIn.out).mono ?_
        rintro e w6 ⟨rfl, rfl⟩
        go_wp2_with fail
        go_roundw
        case rel => exact ⟨x + 1, by omega, by omega, by go_num, HB4.out⟩
        case measure => simp [intOf]; omega
    · have hA0 : AkS tag f r n ls sv P V rb gT wr.drew := ⟨HT.out.below ⟨rfl, rfl, rfl, Nat.le_refl _, fun _ _ => rfl⟩, HRr.out.blk⟩
      have hne : Nonempty (WIn (AkS tag f r n ls sv P V rb gT)) := ⟨⟨_, hA0⟩⟩
      have z0 : ∀ y : WIn (AkS tag f r n ls sv P V rb gT), y.w.cell? ⟨rb, 0, none⟩ = some (.slice (some ⟨gT, 0, none⟩) n n) := fun y => y.ok.2.cell 0
      have HA0 := Lib.hid hA0
      clear hA0
      go_upto_region 6 with fail
      clear c0
      refine wp_region_noPanic ?_
      refine wp_region_held_drew (S := fun w' => AkS tag f r n ls sv P V rb gT w') (by kernel_rfl) HA0.out (fun hHeld => ?_)
      (refine takeE (i := 0) rfl (by kernel_rfl) (by kernel_rfl) (by kernel_rfl) (fun _ _ _ _ h => h) hHeld (fun K hK => ?_); go_simp; refine hK _ ?_; clear hK K)
      (refine takeE (i := 1) rfl (by kernel_rfl) (by kernel_rfl) (by kernel_rfl) (fun _ _ _ _ h => h) hHeld (fun K hK => ?_); go_simp; apply Exists.intro; refine ⟨fun y => ?_, hK _ ?_⟩; ((go_at_call 53; exact (ttables y.ok.1).mono fun e w' ⟨he, hb⟩ => ⟨he, hb.symm⟩)); clear hK K)
      (refine takeE (i := 2) rfl (by kernel_rfl) (by kernel_rfl) (by kernel_rfl) (fun _ _ _ _ h => h) hHeld (fun K hK => ?_); go_simp; refine hK _ ?_; clear hK K)
      (refine takeE (i := 3) rfl (by kernel_rfl) (by kernel_rfl) (by kernel_rfl) (fun _ _ _ _ h => h) hHeld (fun K hK => ?_); go_simp; refine hK _ ?_; clear hK K)
      (refine takeE (i := 4) rfl (by kernel_rfl) (by kernel_rfl) (by kernel_rfl) (fun _ _ _ _ h => h) hHeld (fun K hK => ?_); go_simp; refine hK _ ?_; clear hK K)
      (refine takeE (i := 5) rfl (by kernel_rfl) (by kernel_rfl) (by kernel_rfl) (fun _ _ _ _ h => h) hHeld (fun K hK => ?_); go_simp; refine hK _ ?_; clear hK K)
      (refine takeE (i := 6) rfl (by kernel_rfl) (by kernel_rfl) (by kernel_rfl) (fun _ _ _ _ h => h) hHeld (fun K hK => ?_); go_simp; refine hK _ ?_; clear hK K)
      (refine takeE (i := 7) rfl (by kernel_rfl) (by kernel_rfl) (by kernel_rfl) (fun _ _ _ _ h => h) hHeld (fun K hK => ?_); go_simp; refine hK _ ?_; clear hK K)
      (refine takeE (i := 8) rfl (by kernel_rfl) (by kernel_rfl) (by kernel_rfl) (fun _ _ _ _ h => h) hHeld (fun K hK => ?_); go_simp; refine hK _ ?_; clear hK K)
      refine wpAnyH_done (by kernel_rfl) ?_ _
      refine NoPanic.normal ?_
      clear hHeld z0 hne HA0
      go_wp2_with fail
      go_ret
      exact ⟨rfl, HB.out.drew⟩
end
end Go.Proofs.Ytkicnjbidbfajaa
