/- Package beat: what a step answers and leaves. -/
import Derived.Test.YtfaohjgobdhbgaaBeat
import Derived.Test.YtfaohjgobdhbgaaStage
import Derived.Deep.Cut
namespace Go.Proofs.Ytfaohjgobdhbgaa
open Go.ChangeShapes Go.WideShapes Go.ChangeAt Go.RowKit
set_option linter.unusedVariables false
set_option linter.unusedSimpArgs false
def stDid (d l now at_ c : Int) : Int := if readyS d l now at_ c then (if at_ ≤ l then 9 else 8) else 0
def stLsn (d l now at_ c : Int) : Int := if readyS d l now at_ c then (if at_ ≤ l then 0 else at_) else 0
def stDue (e d l now at_ c : Int) : Int := if readyS d l now at_ c then clockS now + e else d
def stLast (d l now at_ c : Int) : Int := if readyS d l now at_ c then max l at_ else l
def stIn (b rb : Nat) (e d l : Int) (w0 w : World) : Prop := rbeatAt w b e d l ∧ Blk w rb 38 #[.int .i64 0, .slice none 0 0, .slice none 0 0] ∧ Keeps (· = b) w0 w
theorem step_any (b : Nat) (e d l now at_ c : Int) (w : World) (hr : beatAt w b e d l) (he : 0 ≤ e ∧ e ≤ 1073741824) :
    Calls Try.prog 13 #[.pointer (some ⟨b, 0, none⟩), .int .i64 now, .int .i64 at_, .int .i64 c] w fun r w' => r = .returned (.tuple #[itemV (stLsn d l now at_ c), .int .i64 (stDid d l now at_ c)]) ∧ beatAt w' b e (stDue e d l now at_ c) (stLast d l now at_ c) ∧ Keeps (· = b) w w' := by
  have hlt := lt_of_block hr
  have HR := Lib.hid hr
  clear hr
  go_enter Try.func13, Try.ntmps13
  go_wp2_with fail
  have h1 : beatAt (w.alloc (.cells #[.int .i64 0, .slice none 0 0, .slice none 0 0] 38)) b e d l := (Below.heap_alloc w _ b hlt).trans HR.out
  refine (ready_any b e d l now at_ c _ h1).mono ?_
  rintro r w' ⟨rfl, n, rfl⟩
  have hB : Blk ((w.alloc (.cells #[.int .i64 0, .slice none 0 0, .slice none 0 0] 38)).drewN n) w.heap.size 38 #[.int .i64 0, .slice none 0 0, .slice none 0 0] := heap_alloc_new w _
  have h2 : beatAt ((w.alloc (.cells #[.int .i64 0, .slice none 0 0, .slice none 0 0] 38)).drewN n) b e d l := h1
  have k2 : Keeps (· = b) w ((w.alloc (.cells #[.int .i64 0, .slice none 0 0, .slice none 0 0] 38)).drewN n) := ((Keeps.refl _ w).alloc _).drewN n
  clear h1
  generalize (w.alloc (.cells #[.int .i64 0, .slice none 0 0, .slice none 0 0] 38)).drewN n = W at *
  obtain ⟨rb, hrb⟩ : ∃ rb, w.heap.size = rb := ⟨_, rfl⟩
  rw [hrb] at hlt hB ⊢
  have HRB := Lib.hid hrb
  clear hrb
  have hne : rb ≠ b := by omega
  have hrl : rb < W.heap.size := hB.lt
  have HB := Lib.hid hB
  have H2 := Lib.hid h2
  have K2 := Lib.hid k2
  clear h2 k2 hB
  by_cases hy : readyS d l now at_ c = true
  · by_cases ha : at_ ≤ l
    · have HF := Lib.hid (show stLsn d l now at_ c = 0 ∧ stDid d l now at_ c = 9 ∧ stDue e d l now at_ c = clockS now + e ∧ stLast d l now at_ c = l by refine ⟨?_, ?_, ?_, ?_⟩ <;> simp only [stLsn, stDid, stDue, stLast] <;> rw [if_pos hy] <;> first | rfl | rw [if_pos ha] | omega)
      go_wp2_with fail
      refine (next_any b e d l now W H2.out he).mono ?_
      rintro r w1 ⟨rfl, h3, k3⟩
      have hB1 : Blk w1 rb 38 #[.int .i64 0, .slice none 0 0, .slice none 0 0] := k3.at_ HB.out hne
      have r0 := hB1.cell 0
      have r1 := hB1.cell 1
      have r2 := hB1.cell 2
      have q0 := hB1.frozen
      simp at r0 r1 r2
      have hrl1 : rb < w1.heap.size := hB1.lt
      have K3 := Lib.hid k3
      have c2 := cells_of h3 2
      simp at c2
      go_wp2_with fail
      have hBf : Blk (((w1.setCell ⟨rb, 0, none⟩ (.int .i64 0)).setCell ⟨rb, 1, none⟩ (.slice none 0 0)).setCell ⟨rb, 2, none⟩ (.slice none 0 0)) rb 38 #[(.int .i64 0), .slice none 0 0, .slice none 0 0] := by simpa using ((hB1.set_ 0 (.int .i64 0)).set_ 1 (.slice none 0 0)).set_ 2 (.slice none 0 0)
      have hbf : beatAt (((w1.setCell ⟨rb, 0, none⟩ (.int .i64 0)).setCell ⟨rb, 1, none⟩ (.slice none 0 0)).setCell ⟨rb, 2, none⟩ (.slice none 0 0)) b e (clockS now + e) l := by
        have h0 : Blk w1 b 53 #[.int .i64 e, .int .i64 (clockS now + e), .int .i64 l] := h3
        exact (((h0.far (p := ⟨rb, 0, none⟩) (Ne.symm hne) (.int .i64 0)).far (p := ⟨rb, 1, none⟩) (Ne.symm hne) (.slice none 0 0)).far (p := ⟨rb, 2, none⟩) (Ne.symm hne) (.slice none 0 0))
      have kf : Keeps (· = b) w (((w1.setCell ⟨rb, 0, none⟩ (.int .i64 0)).setCell ⟨rb, 1, none⟩ (.slice none 0 0)).setCell ⟨rb, 2, none⟩ (.slice none 0 0)) := by
        have e := HRB.out
        have k0 : Keeps (· = b) w w1 := K2.out.trans K3.out
        exact ((k0.setNew (p := ⟨rb, 0, none⟩) (by show _ ≤ rb; omega) (.int .i64 0)).setNew (p := ⟨rb, 1, none⟩) (by show _ ≤ rb; omega) _).setNew (p := ⟨rb, 2, none⟩) (by show _ ≤ rb; omega) _
      have f0 := hBf.cell 0
      have f1 := hBf.cell 1
      have f2 := hBf.cell 2
      simp at f0 f1 f2
      obtain ⟨g1, g2, g3, g4⟩ := HF.out
      exact bodyPost_ret (v := .tuple #[itemV 0, .int .i64 9]) (by simp [results, Try.results13, go_sem, f0, f1, f2, itemV]) rfl ⟨by rw [g1, g2], by rw [g3, g4]; exact hbf, kf⟩
    · have HF := Lib.hid (show stLsn d l now at_ c = at_ ∧ stDid d l now at_ c = 8 ∧ stDue e d l now at_ c = clockS now + e ∧ stLast d l now at_ c = at_ by refine ⟨?_, ?_, ?_, ?_⟩ <;> simp only [stLsn, stDid, stDue, stLast] <;> rw [if_pos hy] <;> first | rfl | rw [if_neg ha] | omega)
      go_wp2_with fail
      refine (next_any b e d l now W H2.out he).mono ?_
      rintro r w1 ⟨rfl, h3, k3⟩
      have hB1 : Blk w1 rb 38 #[.int .i64 0, .slice none 0 0, .slice none 0 0] := k3.at_ HB.out hne
      have r0 := hB1.cell 0
      have r1 := hB1.cell 1
      have r2 := hB1.cell 2
      have q0 := hB1.frozen
      simp at r0 r1 r2
      have hrl1 : rb < w1.heap.size := hB1.lt
      have K3 := Lib.hid k3
      have c2 := cells_of h3 2
      have cf := free_of h3 2
      simp at c2
      have hbl := lt_of_block h3
      go_wp2_with fail
      have hB2 := hB1.far (p := ⟨b, 2, none⟩) hne (.int .i64 at_)
      have h4 : beatAt (w1.setCell ⟨b, 2, none⟩ (.int .i64 at_)) b e (clockS now + e) at_ := by simpa [beatAt] using block_set h3 2 (.int .i64 at_)
      have k4 : Keeps (· = b) W (w1.setCell ⟨b, 2, none⟩ (.int .i64 at_)) := k3.setCell (p := ⟨b, 2, none⟩) rfl _
      generalize w1.setCell ⟨b, 2, none⟩ (.int .i64 at_) = w2 at *
      have hBf : Blk (((w2.setCell ⟨rb, 0, none⟩ (.int .i64 at_)).setCell ⟨rb, 1, none⟩ (.slice none 0 0)).setCell ⟨rb, 2, none⟩ (.slice none 0 0)) rb 38 #[(.int .i64 at_), .slice none 0 0, .slice none 0 0] := by simpa using ((hB2.set_ 0 (.int .i64 at_)).set_ 1 (.slice none 0 0)).set_ 2 (.slice none 0 0)
      have hbf : beatAt (((w2.setCell ⟨rb, 0, none⟩ (.int .i64 at_)).setCell ⟨rb, 1, none⟩ (.slice none 0 0)).setCell ⟨rb, 2, none⟩ (.slice none 0 0)) b e (clockS now + e) at_ := by
        have h0 : Blk w2 b 53 #[.int .i64 e, .int .i64 (clockS now + e), .int .i64 at_] := h4
        exact (((h0.far (p := ⟨rb, 0, none⟩) (Ne.symm hne) (.int .i64 at_)).far (p := ⟨rb, 1, none⟩) (Ne.symm hne) (.slice none 0 0)).far (p := ⟨rb, 2, none⟩) (Ne.symm hne) (.slice none 0 0))
      have kf : Keeps (· = b) w (((w2.setCell ⟨rb, 0, none⟩ (.int .i64 at_)).setCell ⟨rb, 1, none⟩ (.slice none 0 0)).setCell ⟨rb, 2, none⟩ (.slice none 0 0)) := by
        have e := HRB.out
        have k0 : Keeps (· = b) w w2 := K2.out.trans k4
        exact ((k0.setNew (p := ⟨rb, 0, none⟩) (by show _ ≤ rb; omega) (.int .i64 at_)).setNew (p := ⟨rb, 1, none⟩) (by show _ ≤ rb; omega) _).setNew (p := ⟨rb, 2, none⟩) (by show _ ≤ rb; omega) _
      have f0 := hBf.cell 0
      have f1 := hBf.cell 1
      have f2 := hBf.cell 2
      simp at f0 f1 f2
      obtain ⟨g1, g2, g3, g4⟩ := HF.out
      exact bodyPost_ret (v := .tuple #[itemV at_, .int .i64 8]) (by simp [results, Try.results13, go_sem, f0, f1, f2, itemV]) rfl ⟨by rw [g1, g2], by rw [g3, g4]; exact hbf, kf⟩
  · have HF := Lib.hid (show stLsn d l now at_ c = 0 ∧ stDid d l now at_ c = 0 ∧ stDue e d l now at_ c = d ∧ stLast d l now at_ c = l by simp [stLsn, stDid, stDue, stLast, hy])
    have hB1 := HB.out
    have r0 := hB1.cell 0
    have r1 := hB1.cell 1
    have r2 := hB1.cell 2
    have q0 := hB1.frozen
    simp at r0 r1 r2
    go_wp2_with fail
    have hBf : Blk (((W.setCell ⟨rb, 0, none⟩ (.int .i64 0)).setCell ⟨rb, 1, none⟩ (.slice none 0 0)).setCell ⟨rb, 2, none⟩ (.slice none 0 0)) rb 38 #[(.int .i64 0), .slice none 0 0, .slice none 0 0] := by simpa using ((hB1.set_ 0 (.int .i64 0)).set_ 1 (.slice none 0 0)).set_ 2 (.slice none 0 0)
    have hbf : beatAt (((W.setCell ⟨rb, 0, none⟩ (.int .i64 0)).setCell ⟨rb, 1, none⟩ (.slice none 0 0)).setCell ⟨rb, 2, none⟩ (.slice none 0 0)) b e d l := by
      have h0 : Blk W b 53 #[.int .i64 e, .int .i64 d, .int .i64 l] := H2.out
      exact (((h0.far (p := ⟨rb, 0, none⟩) (Ne.symm hne) (.int .i64 0)).far (p := ⟨rb, 1, none⟩) (Ne.symm hne) (.slice none 0 0)).far (p := ⟨rb, 2, none⟩) (Ne.symm hne) (.slice none 0 0))
    have kf : Keeps (· = b) w (((W.setCell ⟨rb, 0, none⟩ (.int .i64 0)).setCell ⟨rb, 1, none⟩ (.slice none 0 0)).setCell ⟨rb, 2, none⟩ (.slice none 0 0)) := by
      have e := HRB.out
      have k0 : Keeps (· = b) w W := K2.out
      exact ((k0.setNew (p := ⟨rb, 0, none⟩) (by show _ ≤ rb; omega) (.int .i64 0)).setNew (p := ⟨rb, 1, none⟩) (by show _ ≤ rb; omega) _).setNew (p := ⟨rb, 2, none⟩) (by show _ ≤ rb; omega) _
    have f0 := hBf.cell 0
    have f1 := hBf.cell 1
    have f2 := hBf.cell 2
    simp at f0 f1 f2
    obtain ⟨g1, g2, g3, g4⟩ := HF.out
    exact bodyPost_ret (v := .tuple #[itemV 0, .int .i64 0]) (by simp [results, Try.results13, go_sem, f0, f1, f2, itemV]) rfl ⟨by rw [g1, g2], by rw [g3, g4]; exact hbf, kf⟩
theorem rstep_any (b : Nat) (e d l now at_ c : Int) (w : World) (hr : rbeatAt w b e d l) (he : 0 ≤ e ∧ e ≤ 1073741824) :
    Calls Try.prog 15 #[.pointer (some ⟨b, 0, none⟩), .int .i64 now, .int .i64 at_, .int .i64 c] w fun r w' => r = .returned (.tuple #[itemV (stLsn d l now at_ c), .int .i64 (stDid d l now at_ c)]) ∧ rbeatAt w' b e (stDue e d l now at_ c) (stLast d l now at_ c) ∧ Keeps (· = b) w w' := by
  have hlt := lt_of_block hr
  have HR := Lib.hid hr
  clear hr
  go_enter Try.func15, Try.ntmps15
  go_wp2_with fail
  have h1 : rbeatAt (w.alloc (.cells #[.int .i64 0, .slice none 0 0, .slice none 0 0] 38)) b e d l := (Below.heap_alloc w _ b hlt).trans HR.out
  refine (rready_any b e d l now at_ c _ h1).mono ?_
  rintro r w' ⟨rfl, n, rfl⟩
  have hB : Blk ((w.alloc (.cells #[.int .i64 0, .slice none 0 0, .slice none 0 0] 38)).drewN n) w.heap.size 38 #[.int .i64 0, .slice none 0 0, .slice none 0 0] := heap_alloc_new w _
  have h2 : rbeatAt ((w.alloc (.cells #[.int .i64 0, .slice none 0 0, .slice none 0 0] 38)).drewN n) b e d l := h1
  have k2 : Keeps (· = b) w ((w.alloc (.cells #[.int .i64 0, .slice none 0 0, .slice none 0 0] 38)).drewN n) := ((Keeps.refl _ w).alloc _).drewN n
  clear h1
  generalize (w.alloc (.cells #[.int .i64 0, .slice none 0 0, .slice none 0 0] 38)).drewN n = W at *
  obtain ⟨rb, hrb⟩ : ∃ rb, w.heap.size = rb := ⟨_, rfl⟩
  rw [hrb] at hlt hB ⊢
  have HRB := Lib.hid hrb
  clear hrb
  have hne : rb ≠ b := by omega
  have hrl : rb < W.heap.size := hB.lt
  have HB := Lib.hid hB
  have H2 := Lib.hid h2
  have K2 := Lib.hid k2
  clear h2 k2 hB
  by_cases hy : readyS d l now at_ c = true
  · by_cases ha : at_ ≤ l
    · have HF := Lib.hid (show stLsn d l now at_ c = 0 ∧ stDid d l now at_ c = 9 ∧ stDue e d l now at_ c = clockS now + e ∧ stLast d l now at_ c = l by refine ⟨?_, ?_, ?_, ?_⟩ <;> simp only [stLsn, stDid, stDue, stLast] <;> rw [if_pos hy] <;> first | rfl | rw [if_pos ha] | omega)
      go_wp2_with fail
      have hI : stIn b rb e d l W W.drew := ⟨H2.out, HB.out, (Keeps.refl _ W).drewN 1⟩
      have hne' : Nonempty (WIn (stIn b rb e d l W)) := ⟨⟨_, hI⟩⟩
      have z0 : ∀ y : WIn (stIn b rb e d l W), y.w.cell? ⟨b, 0, none⟩ = some (.int .i64 e) := fun y => by simpa using cells_of y.ok.1 0
      have z1 : ∀ y : WIn (stIn b rb e d l W), y.w.cell? ⟨b, 1, none⟩ = some (.int .i64 d) := fun y => by simpa using cells_of y.ok.1 1
      have zf : ∀ y : WIn (stIn b rb e d l W), y.w.frozen? ⟨b, 1, none⟩ = false := fun y => free_of y.ok.1 1
      have hcb := clockS_bd now
      have hs : IntKind.i64.wrap (clockS now + e) = clockS now + e := IntWalk.i64_in _ (by omega)
      have hend : ∀ y : WIn (stIn b rb e d l W), rbeatAt (y.w.setCell ⟨b, 1, none⟩ (.int .i64 (clockS now + e))) b e (clockS now + e) l ∧ Keeps (· = b) W (y.w.setCell ⟨b, 1, none⟩ (.int .i64 (clockS now + e))) := fun y => ⟨by simpa [rbeatAt] using block_set y.ok.1 1 (.int .i64 (clockS now + e)), y.ok.2.2.setCell (p := ⟨b, 1, none⟩) rfl _⟩
      have HE := Lib.hid hend
      have HI := Lib.hid hI
      clear hend hI
      refine wp_region_qtail_in (stIn b rb e d l W) 8 (by kernel_rfl) (by kernel_rfl) HI.out ?_
      simp only [List.take_succ_cons, List.take_zero, List.drop_succ_cons, List.drop_zero]
      repeat quiet_step ((go_at_call 22; exact (clock_any _ _).mono fun e w' ⟨he, hb⟩ => ⟨he, ⟨w', hb ▸ WIn.ok _⟩, rfl⟩))
      refine wpQuiet_nil ?_
      intro y
      obtain ⟨h3, k3⟩ := HE.out y
      have y1 := z1 y
      have yf := zf y
      clear z0 z1 zf hne' hs HE HI
      go_upto_region 4 with (fail)
      generalize y.w.setCell ⟨b, 1, none⟩ (.int .i64 (clockS now + e)) = w1 at *
      clear y1 yf
      have hB1 : Blk w1 rb 38 #[.int .i64 0, .slice none 0 0, .slice none 0 0] := k3.at_ HB.out hne
      have r0 := hB1.cell 0
      have r1 := hB1.cell 1
      have r2 := hB1.cell 2
      have q0 := hB1.frozen
      simp at r0 r1 r2
      have hrl1 : rb < w1.heap.size := hB1.lt
      have K3 := Lib.hid k3
      have c2 := cells_of h3 2
      simp at c2
      go_wp2_with fail
      have hBf : Blk (((w1.setCell ⟨rb, 0, none⟩ (.int .i64 0)).setCell ⟨rb, 1, none⟩ (.slice none 0 0)).setCell ⟨rb, 2, none⟩ (.slice none 0 0)) rb 38 #[(.int .i64 0), .slice none 0 0, .slice none 0 0] := by simpa using ((hB1.set_ 0 (.int .i64 0)).set_ 1 (.slice none 0 0)).set_ 2 (.slice none 0 0)
      have hbf : rbeatAt (((w1.setCell ⟨rb, 0, none⟩ (.int .i64 0)).setCell ⟨rb, 1, none⟩ (.slice none 0 0)).setCell ⟨rb, 2, none⟩ (.slice none 0 0)) b e (clockS now + e) l := by
        have h0 : Blk w1 b 31 #[.int .i64 e, .int .i64 (clockS now + e), .int .i64 l] := h3
        exact (((h0.far (p := ⟨rb, 0, none⟩) (Ne.symm hne) (.int .i64 0)).far (p := ⟨rb, 1, none⟩) (Ne.symm hne) (.slice none 0 0)).far (p := ⟨rb, 2, none⟩) (Ne.symm hne) (.slice none 0 0))
      have kf : Keeps (· = b) w (((w1.setCell ⟨rb, 0, none⟩ (.int .i64 0)).setCell ⟨rb, 1, none⟩ (.slice none 0 0)).setCell ⟨rb, 2, none⟩ (.slice none 0 0)) := by
        have e := HRB.out
        have k0 : Keeps (· = b) w w1 := K2.out.trans K3.out
        exact ((k0.setNew (p := ⟨rb, 0, none⟩) (by show _ ≤ rb; omega) (.int .i64 0)).setNew (p := ⟨rb, 1, none⟩) (by show _ ≤ rb; omega) _).setNew (p := ⟨rb, 2, none⟩) (by show _ ≤ rb; omega) _
      have f0 := hBf.cell 0
      have f1 := hBf.cell 1
      have f2 := hBf.cell 2
      simp at f0 f1 f2
      obtain ⟨g1, g2, g3, g4⟩ := HF.out
      exact bodyPost_ret (v := .tuple #[itemV 0, .int .i64 9]) (by simp [results, Try.results15, go_sem, f0, f1, f2, itemV]) rfl ⟨by rw [g1, g2], by rw [g3, g4]; exact hbf, kf⟩
    · have HF := Lib.hid (show stLsn d l now at_ c = at_ ∧ stDid d l now at_ c = 8 ∧ stDue e d l now at_ c = clockS now + e ∧ stLast d l now at_ c = at_ by refine ⟨?_, ?_, ?_, ?_⟩ <;> simp only [stLsn, stDid, stDue, stLast] <;> rw [if_pos hy] <;> first | rfl | rw [if_neg ha] | omega)
      go_wp2_with fail
      have hI : stIn b rb e d l W W.drew := ⟨H2.out, HB.out, (Keeps.refl _ W).drewN 1⟩
      have hne' : Nonempty (WIn (stIn b rb e d l W)) := ⟨⟨_, hI⟩⟩
      have z0 : ∀ y : WIn (stIn b rb e d l W), y.w.cell? ⟨b, 0, none⟩ = some (.int .i64 e) := fun y => by simpa using cells_of y.ok.1 0
      have z1 : ∀ y : WIn (stIn b rb e d l W), y.w.cell? ⟨b, 1, none⟩ = some (.int .i64 d) := fun y => by simpa using cells_of y.ok.1 1
      have zf : ∀ y : WIn (stIn b rb e d l W), y.w.frozen? ⟨b, 1, none⟩ = false := fun y => free_of y.ok.1 1
      have hcb := clockS_bd now
      have hs : IntKind.i64.wrap (clockS now + e) = clockS now + e := IntWalk.i64_in _ (by omega)
      have hend : ∀ y : WIn (stIn b rb e d l W), rbeatAt (y.w.setCell ⟨b, 1, none⟩ (.int .i64 (clockS now + e))) b e (clockS now + e) l ∧ Keeps (· = b) W (y.w.setCell ⟨b, 1, none⟩ (.int .i64 (clockS now + e))) := fun y => ⟨by simpa [rbeatAt] using block_set y.ok.1 1 (.int .i64 (clockS now + e)), y.ok.2.2.setCell (p := ⟨b, 1, none⟩) rfl _⟩
      have HE := Lib.hid hend
      have HI := Lib.hid hI
      clear hend hI
      refine wp_region_qtail_in (stIn b rb e d l W) 8 (by kernel_rfl) (by kernel_rfl) HI.out ?_
      simp only [List.take_succ_cons, List.take_zero, List.drop_succ_cons, List.drop_zero]
      repeat quiet_step ((go_at_call 22; exact (clock_any _ _).mono fun e w' ⟨he, hb⟩ => ⟨he, ⟨w', hb ▸ WIn.ok _⟩, rfl⟩))
      refine wpQuiet_nil ?_
      intro y
      obtain ⟨h3, k3⟩ := HE.out y
      have y1 := z1 y
      have yf := zf y
      clear z0 z1 zf hne' hs HE HI
      go_upto_region 4 with (fail)
      generalize y.w.setCell ⟨b, 1, none⟩ (.int .i64 (clockS now + e)) = w1 at *
      clear y1 yf
      have hB1 : Blk w1 rb 38 #[.int .i64 0, .slice none 0 0, .slice none 0 0] := k3.at_ HB.out hne
      have r0 := hB1.cell 0
      have r1 := hB1.cell 1
      have r2 := hB1.cell 2
      have q0 := hB1.frozen
      simp at r0 r1 r2
      have hrl1 : rb < w1.heap.size := hB1.lt
      have K3 := Lib.hid k3
      have c2 := cells_of h3 2
      have cf := free_of h3 2
      simp at c2
      have hbl := lt_of_block h3
      go_wp2_with fail
      have hB2 := hB1.far (p := ⟨b, 2, none⟩) hne (.int .i64 at_)
      have h4 : rbeatAt (w1.setCell ⟨b, 2, none⟩ (.int .i64 at_)) b e (clockS now + e) at_ := by simpa [rbeatAt] using block_set h3 2 (.int .i64 at_)
      have k4 : Keeps (· = b) W (w1.setCell ⟨b, 2, none⟩ (.int .i64 at_)) := k3.setCell (p := ⟨b, 2, none⟩) rfl _
      generalize w1.setCell ⟨b, 2, none⟩ (.int .i64 at_) = w2 at *
      have hBf : Blk (((w2.setCell ⟨rb, 0, none⟩ (.int .i64 at_)).setCell ⟨rb, 1, none⟩ (.slice none 0 0)).setCell ⟨rb, 2, none⟩ (.slice none 0 0)) rb 38 #[(.int .i64 at_), .slice none 0 0, .slice none 0 0] := by simpa using ((hB2.set_ 0 (.int .i64 at_)).set_ 1 (.slice none 0 0)).set_ 2 (.slice none 0 0)
      have hbf : rbeatAt (((w2.setCell ⟨rb, 0, none⟩ (.int .i64 at_)).setCell ⟨rb, 1, none⟩ (.slice none 0 0)).setCell ⟨rb, 2, none⟩ (.slice none 0 0)) b e (clockS now + e) at_ := by
        have h0 : Blk w2 b 31 #[.int .i64 e, .int .i64 (clockS now + e), .int .i64 at_] := h4
        exact (((h0.far (p := ⟨rb, 0, none⟩) (Ne.symm hne) (.int .i64 at_)).far (p := ⟨rb, 1, none⟩) (Ne.symm hne) (.slice none 0 0)).far (p := ⟨rb, 2, none⟩) (Ne.symm hne) (.slice none 0 0))
      have kf : Keeps (· = b) w (((w2.setCell ⟨rb, 0, none⟩ (.int .i64 at_)).setCell ⟨rb, 1, none⟩ (.slice none 0 0)).setCell ⟨rb, 2, none⟩ (.slice none 0 0)) := by
        have e := HRB.out
        have k0 : Keeps (· = b) w w2 := K2.out.trans k4
        exact ((k0.setNew (p := ⟨rb, 0, none⟩) (by show _ ≤ rb; omega) (.int .i64 at_)).setNew (p := ⟨rb, 1, none⟩) (by show _ ≤ rb; omega) _).setNew (p := ⟨rb, 2, none⟩) (by show _ ≤ rb; omega) _
      have f0 := hBf.cell 0
      have f1 := hBf.cell 1
      have f2 := hBf.cell 2
      simp at f0 f1 f2
      obtain ⟨g1, g2, g3, g4⟩ := HF.out
      exact bodyPost_ret (v := .tuple #[itemV at_, .int .i64 8]) (by simp [results, Try.results15, go_sem, f0, f1, f2, itemV]) rfl ⟨by rw [g1, g2], by rw [g3, g4]; exact hbf, kf⟩
  · have HF := Lib.hid (show stLsn d l now at_ c = 0 ∧ stDid d l now at_ c = 0 ∧ stDue e d l now at_ c = d ∧ stLast d l now at_ c = l by simp [stLsn, stDid, stDue, stLast, hy])
    have hB1 := HB.out
    have r0 := hB1.cell 0
    have r1 := hB1.cell 1
    have r2 := hB1.cell 2
    have q0 := hB1.frozen
    simp at r0 r1 r2
    go_wp2_with fail
    have hBf : Blk (((W.setCell ⟨rb, 0, none⟩ (.int .i64 0)).setCell ⟨rb, 1, none⟩ (.slice none 0 0)).setCell ⟨rb, 2, none⟩ (.slice none 0 0)) rb 38 #[(.int .i64 0), .slice none 0 0, .slice none 0 0] := by simpa using ((hB1.set_ 0 (.int .i64 0)).set_ 1 (.slice none 0 0)).set_ 2 (.slice none 0 0)
    have hbf : rbeatAt (((W.setCell ⟨rb, 0, none⟩ (.int .i64 0)).setCell ⟨rb, 1, none⟩ (.slice none 0 0)).setCell ⟨rb, 2, none⟩ (.slice none 0 0)) b e d l := by
      have h0 : Blk W b 31 #[.int .i64 e, .int .i64 d, .int .i64 l] := H2.out
      exact (((h0.far (p := ⟨rb, 0, none⟩) (Ne.symm hne) (.int .i64 0)).far (p := ⟨rb, 1, none⟩) (Ne.symm hne) (.slice none 0 0)).far (p := ⟨rb, 2, none⟩) (Ne.symm hne) (.slice none 0 0))
    have kf : Keeps (· = b) w (((W.setCell ⟨rb, 0, none⟩ (.int .i64 0)).setCell ⟨rb, 1, none⟩ (.slice none 0 0)).setCell ⟨rb, 2, none⟩ (.slice none 0 0)) := by
      have e := HRB.out
      have k0 : Keeps (· = b) w W := K2.out
      exact ((k0.setNew (p := ⟨rb, 0, none⟩) (by show _ ≤ rb; omega) (.int .i64 0)).setNew (p := ⟨rb, 1, none⟩) (by show _ ≤ rb; omega) _).setNew (p := ⟨rb, 2, none⟩) (by show _ ≤ rb; omega) _
    have f0 := hBf.cell 0
    have f1 := hBf.cell 1
    have f2 := hBf.cell 2
    simp at f0 f1 f2
    obtain ⟨g1, g2, g3, g4⟩ := HF.out
    exact bodyPost_ret (v := .tuple #[itemV 0, .int .i64 0]) (by simp [results, Try.results15, go_sem, f0, f1, f2, itemV]) rfl ⟨by rw [g1, g2], by rw [g3, g4]; exact hbf, kf⟩
end Go.Proofs.Ytfaohjgobdhbgaa
