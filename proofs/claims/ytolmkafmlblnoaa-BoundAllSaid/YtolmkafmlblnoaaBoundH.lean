/- The statements' own configs and loads. -/
import Derived.Test.YtolmkafmlblnoaaBoundG
import Derived.Test.YtolmkafmlblnoaaHeld
namespace Go.Proofs.Ytolmkafmlblnoaa
open Go.ChangeShapes Go.WideShapes Go.ChangeAt Go.RowKit
set_option linter.unusedVariables false
set_option linter.unusedSimpArgs false
theorem Blk.row {w : World} {g : Nat} {t : TypeId} {cs : Array Value} (h : Blk w g t cs) (new : Array Value) : Blk (w.setRow g new) g t new := setRow_heap w g cs new t (0, 0) h
theorem Blk.rowFar {w : World} {g k : Nat} {t : TypeId} {cs : Array Value} (h : Blk w g t cs) (hk : g ≠ k) (new : Array Value) : Blk (w.setRow k new) g t cs := by
  unfold Blk World.setRow at *
  simp [Array.getElem?_modify, Ne.symm hk, h]
theorem below_setRow {B g : Nat} {w0 w : World} (h : Below B w0 w) (hg : B ≤ g) (new : Array Value) : Below B w0 (w.setRow g new) := by
  have h2 := h
  refine ⟨h.os, h.tape, h.output, by simpa [World.setRow] using h.size, fun k hk => ?_⟩
  have := h.block k hk
  rw [← this]
  simp [World.setRow, Array.getElem?_modify, show g ≠ k by omega]
def sizeS (k : Int) : Int := if k = 0 then 64 else if k = 1 then 128 else if k = 2 then 256 else 1024
def sizesV : Array Value := #[.int .i64 64, .int .i64 128, .int .i64 256, .int .i64 1024]
@[go_sem] def cfgS (a b c d e f g h i j : Int) : Value := confV (1 + bigS a 4) (bigS b (2 ^ (1 + bigS a 4).toNat)) (sizeS (bigS c 4)) (1 + bigS d 5) (1 + bigS e 4) (1 + bigS f 4) (1 + bigS g 4) (1 + bigS g 4 + bigS h 12) (bigS i 4) (1 + bigS j 8)
def CFIn (x : Nat) (cs ls : Array Value) (w0 w : World) : Prop := Blk w x 23 cs ∧ Blk w (x + 1) 23 ls ∧ Below x w0 w
theorem CFIn.mk0 (w : World) (cs ls : Array Value) : CFIn w.heap.size cs ls w ((w.alloc (.cells cs 23)).alloc (.cells ls 23)) :=
  ⟨(Blk.new w _ _).alloc _, alloc2_new _ _ _, ((Below.refl _ _).alloc (Nat.le_refl _) _).alloc (by simp) _⟩
def CfgJ (x y : Nat) (cs zs vs : Array Value) (w0 w : World) : Prop := Blk w x 23 cs ∧ Blk w (x + 1) 23 zs ∧ Blk w y 23 vs ∧ Below x w0 w
theorem cfgS_may (a b c d e f g h i j : Int) : mayC (1 + bigS a 4) (bigS b (2 ^ (1 + bigS a 4).toNat)) (sizeS (bigS c 4)) (1 + bigS d 5) (1 + bigS e 4) (1 + bigS f 4) (1 + bigS g 4) (1 + bigS g 4 + bigS h 12) (bigS i 4) (1 + bigS j 8) = true := by
  have ha := bigS_bd a 4 (by decide)
  have hd := bigS_bd d 5 (by decide)
  have he := bigS_bd e 4 (by decide)
  have hf := bigS_bd f 4 (by decide)
  have hg := bigS_bd g 4 (by decide)
  have hh := bigS_bd h 12 (by decide)
  have hi := bigS_bd i 4 (by decide)
  have hj := bigS_bd j 8 (by decide)
  have hp := pow_bd (1 + bigS a 4) (by omega) (by omega)
  have hb := bigS_bd b (2 ^ (1 + bigS a 4).toNat) (by omega)
  have hs : 64 ≤ sizeS (bigS c 4) ∧ sizeS (bigS c 4) ≤ 65536 := by unfold sizeS; (repeat' split) <;> omega
  simp only [mayC, inB, mayB, Bool.and_eq_true, decide_eq_true_eq]
  omega
set_option maxRecDepth 100000 in
set_option maxHeartbeats 2000000 in
theorem config_any (a b c d e f g h i j : Int) (w : World) :
    Calls Try.prog 6 #[confV a b c d e f g h i j] w fun e' w' => e' = .returned (cfgS a b c d e f g h i j) ∧ Below w.heap.size w w' := by
  unfold cfgS confV
  have ka := bigS_bd a 4 (by decide)
  have kc := bigS_bd c 4 (by decide)
  have kd := bigS_bd d 5 (by decide)
  have ke := bigS_bd e 4 (by decide)
  have kf := bigS_bd f 4 (by decide)
  have kg := bigS_bd g 4 (by decide)
  have kh := bigS_bd h 12 (by decide)
  have ki := bigS_bd i 4 (by decide)
  have kj := bigS_bd j 8 (by decide)
  have kc0 : 0 ≤ bigS c 4 := kc.1
  have kc1 : bigS c 4 < 4 := by omega
  have wa : IntKind.i64.wrap (1 + bigS a 4) = 1 + bigS a 4 := IntWalk.i64_in _ (by omega)
  have wd : IntKind.i64.wrap (1 + bigS d 5) = 1 + bigS d 5 := IntWalk.i64_in _ (by omega)
  have we : IntKind.i64.wrap (1 + bigS e 4) = 1 + bigS e 4 := IntWalk.i64_in _ (by omega)
  have wf : IntKind.i64.wrap (1 + bigS f 4) = 1 + bigS f 4 := IntWalk.i64_in _ (by omega)
  have HI0 := Lib.hid (CFIn.mk0 w #[.int .i64 a, .int .i64 b, .int .i64 c, .int .i64 d, .int .i64 e, .int .i64 f, .int .i64 g, .int .i64 h, .int .i64 i, .int .i64 j] #[.int .i64 0, .int .i64 0, .int .i64 0, .int .i64 0, .int .i64 0, .int .i64 0, .int .i64 0, .int .i64 0, .int .i64 0, .int .i64 0])
  go_enter Try.func6, Try.ntmps6
  go_wp2_with fail
  obtain ⟨x, hx⟩ : ∃ x, w.heap.size = x := ⟨_, rfl⟩
  have hI := HI0.out
  rw [hx] at hI ⊢
  have HX := Lib.hid hx
  generalize World.alloc (World.alloc w _) _ = W at hI ⊢
  obtain ⟨hI1, hI2, hI3⟩ := hI
  clear HI0 hx
  have hxW := hI2.lt
  obtain ⟨n, hn⟩ : ∃ n, W.heap.size = n := ⟨_, rfl⟩
  rw [hn] at hxW
  go_cut [3] (fun s3 wx => ∃ gx, s3 = .pointer (some ⟨gx, 0, none⟩) ∧ x + 1 < gx ∧ Blk wx gx 23 #[.int .i64 (1 + bigS a 4), .int .i64 0, .int .i64 (sizeS (bigS c 4)), .int .i64 (1 + bigS d 5), .int .i64 (1 + bigS e 4), .int .i64 (1 + bigS f 4), .int .i64 0, .int .i64 0, .int .i64 0, .int .i64 0] ∧ Blk wx x 23 #[.int .i64 a, .int .i64 b, .int .i64 c, .int .i64 d, .int .i64 e, .int .i64 f, .int .i64 g, .int .i64 h, .int .i64 i, .int .i64 j] ∧ Blk wx (x + 1) 23 #[.int .i64 0, .int .i64 0, .int .i64 0, .int .i64 0, .int .i64 0, .int .i64 0, .int .i64 0, .int .i64 0, .int .i64 0, .int .i64 0] ∧ Below x w wx)
  case first =>
    have hSz : ∀ (n : Nat) (y : World), Blk y n 3 sizesV → y.cell? ⟨n, (bigS c 4).toNat, none⟩ = some (.int .i64 (sizeS (bigS c 4))) := by
      intro n y hy
      rw [hy.cell]
      have : bigS c 4 = 0 ∨ bigS c 4 = 1 ∨ bigS c 4 = 2 ∨ bigS c 4 = 3 := by omega
      rcases this with e | e | e | e <;> rw [e] <;> rfl
    have HSz := Lib.hid hSz
    clear hSz
    have hne : Nonempty (WIn (fun w' => Blk w' x 23 #[.int .i64 a, .int .i64 b, .int .i64 c, .int .i64 d, .int .i64 e, .int .i64 f, .int .i64 g, .int .i64 h, .int .i64 i, .int .i64 j])) := ⟨⟨W, hI1⟩⟩
    have c0 : ∀ y : WIn (fun w' => Blk w' x 23 #[.int .i64 a, .int .i64 b, .int .i64 c, .int .i64 d, .int .i64 e, .int .i64 f, .int .i64 g, .int .i64 h, .int .i64 i, .int .i64 j]), y.w.cell? ⟨x, 0, none⟩ = some (.int .i64 a) := fun y => y.ok.cell 0
    have c1 : ∀ y : WIn (fun w' => Blk w' x 23 #[.int .i64 a, .int .i64 b, .int .i64 c, .int .i64 d, .int .i64 e, .int .i64 f, .int .i64 g, .int .i64 h, .int .i64 i, .int .i64 j]), y.w.cell? ⟨x, 1, none⟩ = some (.int .i64 b) := fun y => y.ok.cell 1
    have c2 : ∀ y : WIn (fun w' => Blk w' x 23 #[.int .i64 a, .int .i64 b, .int .i64 c, .int .i64 d, .int .i64 e, .int .i64 f, .int .i64 g, .int .i64 h, .int .i64 i, .int .i64 j]), y.w.cell? ⟨x, 2, none⟩ = some (.int .i64 c) := fun y => y.ok.cell 2
    have c3 : ∀ y : WIn (fun w' => Blk w' x 23 #[.int .i64 a, .int .i64 b, .int .i64 c, .int .i64 d, .int .i64 e, .int .i64 f, .int .i64 g, .int .i64 h, .int .i64 i, .int .i64 j]), y.w.cell? ⟨x, 3, none⟩ = some (.int .i64 d) := fun y => y.ok.cell 3
    have c4 : ∀ y : WIn (fun w' => Blk w' x 23 #[.int .i64 a, .int .i64 b, .int .i64 c, .int .i64 d, .int .i64 e, .int .i64 f, .int .i64 g, .int .i64 h, .int .i64 i, .int .i64 j]), y.w.cell? ⟨x, 4, none⟩ = some (.int .i64 e) := fun y => y.ok.cell 4
    have c5 : ∀ y : WIn (fun w' => Blk w' x 23 #[.int .i64 a, .int .i64 b, .int .i64 c, .int .i64 d, .int .i64 e, .int .i64 f, .int .i64 g, .int .i64 h, .int .i64 i, .int .i64 j]), y.w.cell? ⟨x, 5, none⟩ = some (.int .i64 f) := fun y => y.ok.cell 5
    have c6 : ∀ y : WIn (fun w' => Blk w' x 23 #[.int .i64 a, .int .i64 b, .int .i64 c, .int .i64 d, .int .i64 e, .int .i64 f, .int .i64 g, .int .i64 h, .int .i64 i, .int .i64 j]), y.w.cell? ⟨x, 6, none⟩ = some (.int .i64 g) := fun y => y.ok.cell 6
    have c7 : ∀ y : WIn (fun w' => Blk w' x 23 #[.int .i64 a, .int .i64 b, .int .i64 c, .int .i64 d, .int .i64 e, .int .i64 f, .int .i64 g, .int .i64 h, .int .i64 i, .int .i64 j]), y.w.cell? ⟨x, 7, none⟩ = some (.int .i64 h) := fun y => y.ok.cell 7
    have c8 : ∀ y : WIn (fun w' => Blk w' x 23 #[.int .i64 a, .int .i64 b, .int .i64 c, .int .i64 d, .int .i64 e, .int .i64 f, .int .i64 g, .int .i64 h, .int .i64 i, .int .i64 j]), y.w.cell? ⟨x, 8, none⟩ = some (.int .i64 i) := fun y => y.ok.cell 8
    have c9 : ∀ y : WIn (fun w' => Blk w' x 23 #[.int .i64 a, .int .i64 b, .int .i64 c, .int .i64 d, .int .i64 e, .int .i64 f, .int .i64 g, .int .i64 h, .int .i64 i, .int .i64 j]), y.w.cell? ⟨x, 9, none⟩ = some (.int .i64 j) := fun y => y.ok.cell 9
    refine wp_region_noPanic ?_
    refine wp_region_held_drew (S := (fun w' => Blk w' x 23 #[.int .i64 a, .int .i64 b, .int .i64 c, .int .i64 d, .int .i64 e, .int .i64 f, .int .i64 g, .int .i64 h, .int .i64 i, .int .i64 j])) (by kernel_rfl) hI1 (fun hHeld => ?_)
    (refine takeE (i := 0) rfl (by kernel_rfl) (by kernel_rfl) (by kernel_rfl) (fun _ _ _ _ h => h) hHeld (fun K hK => ?_); go_simp; refine hK _ ?_; clear hK K)
    (refine takeE (i := 1) rfl (by kernel_rfl) (by kernel_rfl) (by kernel_rfl) (fun _ _ _ _ h => h) hHeld (fun K hK => ?_); go_simp; refine hK _ ?_; clear hK K)
    (refine takeE (i := 2) rfl (by kernel_rfl) (by kernel_rfl) (by kernel_rfl) (fun _ _ _ _ h => h) hHeld (fun K hK => ?_); go_simp; apply Exists.intro; refine ⟨fun _ => ?_, hK _ ?_⟩; ((go_at_call 15; exact (mod_any _ _ _ (by omega) (by omega)).mono fun e w' ⟨he, hb⟩ => ⟨he, hb.symm⟩)); clear hK K)
    (refine takeE (i := 3) rfl (by kernel_rfl) (by kernel_rfl) (by kernel_rfl) (fun _ _ _ _ h => h) hHeld (fun K hK => ?_); go_simp; refine hK _ ?_; clear hK K)
    (refine takeE (i := 5) rfl (by kernel_rfl) (by kernel_rfl) (by kernel_rfl) (fun _ _ _ _ h => h) hHeld (fun K hK => ?_); go_simp; refine hK _ ?_; clear hK K)
    (refine takeE (i := 6) rfl (by kernel_rfl) (by kernel_rfl) (by kernel_rfl) (fun _ _ _ _ h => h) hHeld (fun K hK => ?_); go_simp; refine hK _ ?_; clear hK K)
    (refine takeE (i := 7) rfl (by kernel_rfl) (by kernel_rfl) (by kernel_rfl) (fun _ _ _ _ h => h) hHeld (fun K hK => ?_); go_simp; apply Exists.intro; refine ⟨fun _ => ?_, hK _ ?_⟩; ((go_at_call 15; exact (mod_any _ _ _ (by omega) (by omega)).mono fun e w' ⟨he, hb⟩ => ⟨he, hb.symm⟩)); clear hK K)
    (refine takeE (i := 10) rfl (by kernel_rfl) (by kernel_rfl) (by kernel_rfl) (fun _ _ _ _ h => h) hHeld (fun K hK => ?_); go_simp; refine hK _ ?_; clear hK K)
    (refine takeE (i := 11) rfl (by kernel_rfl) (by kernel_rfl) (by kernel_rfl) (fun _ _ _ _ h => h) hHeld (fun K hK => ?_); go_simp; refine hK _ ?_; clear hK K)
    (refine takeE (i := 12) rfl (by kernel_rfl) (by kernel_rfl) (by kernel_rfl) (fun _ _ _ _ h => h) hHeld (fun K hK => ?_); go_simp; apply Exists.intro; refine ⟨fun _ => ?_, hK _ ?_⟩; ((go_at_call 15; exact (mod_any _ _ _ (by omega) (by omega)).mono fun e w' ⟨he, hb⟩ => ⟨he, hb.symm⟩)); clear hK K)
    (refine takeE (i := 13) rfl (by kernel_rfl) (by kernel_rfl) (by kernel_rfl) (fun _ _ _ _ h => h) hHeld (fun K hK => ?_); go_simp; refine hK _ ?_; clear hK K)
    (refine takeE (i := 14) rfl (by kernel_rfl) (by kernel_rfl) (by kernel_rfl) (fun _ _ _ _ h => h) hHeld (fun K hK => ?_); go_simp; refine hK _ ?_; clear hK K)
    (refine takeE (i := 15) rfl (by kernel_rfl) (by kernel_rfl) (by kernel_rfl) (fun _ _ _ _ h => h) hHeld (fun K hK => ?_); go_simp; refine hK _ ?_; clear hK K)
    (refine takeE (i := 16) rfl (by kernel_rfl) (by kernel_rfl) (by kernel_rfl) (fun _ _ _ _ h => h) hHeld (fun K hK => ?_); go_simp; apply Exists.intro; refine ⟨fun _ => ?_, hK _ ?_⟩; ((go_at_call 15; exact (mod_any _ _ _ (by omega) (by omega)).mono fun e w' ⟨he, hb⟩ => ⟨he, hb.symm⟩)); clear hK K)
    (refine takeE (i := 17) rfl (by kernel_rfl) (by kernel_rfl) (by kernel_rfl) (fun _ _ _ _ h => h) hHeld (fun K hK => ?_); go_simp; refine hK _ ?_; clear hK K)
    (refine takeE (i := 18) rfl (by kernel_rfl) (by kernel_rfl) (by kernel_rfl) (fun _ _ _ _ h => h) hHeld (fun K hK => ?_); go_simp; refine hK _ ?_; clear hK K)
    (refine takeE (i := 19) rfl (by kernel_rfl) (by kernel_rfl) (by kernel_rfl) (fun _ _ _ _ h => h) hHeld (fun K hK => ?_); go_simp; refine hK _ ?_; clear hK K)
    (refine takeE (i := 20) rfl (by kernel_rfl) (by kernel_rfl) (by kernel_rfl) (fun _ _ _ _ h => h) hHeld (fun K hK => ?_); go_simp; apply Exists.intro; refine ⟨fun _ => ?_, hK _ ?_⟩; ((go_at_call 15; exact (mod_any _ _ _ (by omega) (by omega)).mono fun e w' ⟨he, hb⟩ => ⟨he, hb.symm⟩)); clear hK K)
    (refine takeE (i := 21) rfl (by kernel_rfl) (by kernel_rfl) (by kernel_rfl) (fun _ _ _ _ h => h) hHeld (fun K hK => ?_); go_simp; refine hK _ ?_; clear hK K)
    refine wpAnyH_ready (rs := [4, 23]) (by kernel_rfl) (by simp) ?_
    refine AllReadyH.cons rfl (fun K hK => ?_) (AllReadyH.cons rfl (fun K hK => ?_) AllReadyH.nil)
    · go_simp
      refine hK.out _ _ (hI1.alloc (.cells sizesV 3)) (fun hHeld => ?_)
      clear hK K
      clear c0 c1 c2 c3 c4 c5 c6 c7 c8 c9
      (refine takeE (i := 8) rfl (by kernel_rfl) (by kernel_rfl) (by kernel_rfl) (fun _ _ _ _ h => h) hHeld (fun K hK => ?_); go_simp; refine hK _ ?_; clear hK K)
      have hSl : Blk (W.alloc (.cells sizesV 3)) n 3 sizesV := by have h := Blk.new W 3 sizesV; rw [hn] at h; exact h
      have hne2 : Nonempty (WIn (fun w' => Blk w' x 23 #[.int .i64 a, .int .i64 b, .int .i64 c, .int .i64 d, .int .i64 e, .int .i64 f, .int .i64 g, .int .i64 h, .int .i64 i, .int .i64 j] ∧ Blk w' n 3 sizesV)) := ⟨⟨_, hHeld, hSl⟩⟩
      have q : ∀ y : WIn (fun w' => Blk w' x 23 #[.int .i64 a, .int .i64 b, .int .i64 c, .int .i64 d, .int .i64 e, .int .i64 f, .int .i64 g, .int .i64 h, .int .i64 i, .int .i64 j] ∧ Blk w' n 3 sizesV), y.w.cell? ⟨n, (bigS c 4).toNat, none⟩ = some (.int .i64 (sizeS (bigS c 4))) := fun y => HSz.out _ _ y.ok.2
      replace hHeld : (fun w' => Blk w' x 23 #[.int .i64 a, .int .i64 b, .int .i64 c, .int .i64 d, .int .i64 e, .int .i64 f, .int .i64 g, .int .i64 h, .int .i64 i, .int .i64 j] ∧ Blk w' n 3 sizesV) _ := ⟨hHeld, hSl⟩
      refine held_narrow (S' := (fun w' => Blk w' x 23 #[.int .i64 a, .int .i64 b, .int .i64 c, .int .i64 d, .int .i64 e, .int .i64 f, .int .i64 g, .int .i64 h, .int .i64 i, .int .i64 j] ∧ Blk w' n 3 sizesV)) (fun _ h => h.1) _ _ _ _ ?_
      (refine takeE (i := 9) rfl (by kernel_rfl) (by kernel_rfl) (by kernel_rfl) (fun _ _ _ _ h => h) hHeld (fun K hK => ?_); go_simp; refine hK _ ?_; clear hK K)
      (refine takeE (i := 22) rfl (by kernel_rfl) (by kernel_rfl) (by kernel_rfl) (fun _ _ _ _ h => h) hHeld (fun K hK => ?_); go_simp; refine hK _ ?_; clear hK K)
      refine wpAnyH_ready (rs := [23]) (by kernel_rfl) (by simp) ?_
      refine AllReadyH.cons rfl (fun K hK => ?_) AllReadyH.nil
      go_simp
      replace hSl : Blk ((W.alloc (.cells sizesV 3)).alloc (.cells #[.int .i64 0, .int .i64 0, .int .i64 0, .int .i64 0, .int .i64 0, .int .i64 0, .int .i64 0, .int .i64 0, .int .i64 0, .int .i64 0] 23)) n 3 sizesV := hSl.alloc _
      refine hK.out _ _ ⟨(hI1.alloc (.cells sizesV 3)).alloc (.cells #[.int .i64 0, .int .i64 0, .int .i64 0, .int .i64 0, .int .i64 0, .int .i64 0, .int .i64 0, .int .i64 0, .int .i64 0, .int .i64 0] 23), hSl⟩ (fun hHeld => ?_)
      clear hK K
      clear q hne2
      have hz2 : Blk ((W.alloc (.cells sizesV 3)).alloc (.cells #[.int .i64 0, .int .i64 0, .int .i64 0, .int .i64 0, .int .i64 0, .int .i64 0, .int .i64 0, .int .i64 0, .int .i64 0, .int .i64 0] 23)) (n + 1) 23 #[.int .i64 0, .int .i64 0, .int .i64 0, .int .i64 0, .int .i64 0, .int .i64 0, .int .i64 0, .int .i64 0, .int .i64 0, .int .i64 0] := by have h := alloc2_new W (.cells sizesV 3) (.cells #[.int .i64 0, .int .i64 0, .int .i64 0, .int .i64 0, .int .i64 0, .int .i64 0, .int .i64 0, .int .i64 0, .int .i64 0, .int .i64 0] 23); rw [hn] at h; exact h
      refine wpAnyH_ready (rs := [24]) (by kernel_rfl) (by simp) ?_
      refine AllReadyH.cons rfl (fun K hK => ?_) AllReadyH.nil
      rw [if_pos (by rfl)]
      refine wp_store_row _ _ _ rfl (n + 1) _ rfl rfl 23 _ hz2 (by kernel_rfl) rfl (by simp [Value.oneCell']) ?_
      simp only [List.getElem_toArray, List.getElem_cons_succ, List.getElem_cons_zero, Act.put, List.setIfInBounds_toArray, List.set_cons_zero, List.set_cons_succ]
      refine hK.out _ _ ⟨Blk.rowFar ((hI1.alloc (.cells sizesV 3)).alloc (.cells #[.int .i64 0, .int .i64 0, .int .i64 0, .int .i64 0, .int .i64 0, .int .i64 0, .int .i64 0, .int .i64 0, .int .i64 0, .int .i64 0] 23)) (by omega) _, Blk.rowFar (hSl) (by omega) _⟩ (fun hHeld => ?_)
      clear hK K
      refine wpAnyH_done (by kernel_rfl) ?_ _
      refine NoPanic.normal ?_
      go_wp2_with fail
      go_meet
      case rel => exact ⟨(n + 1), rfl, by omega, Blk.row hz2 _, Blk.rowFar ((hI1.alloc _).alloc _) (by omega) _, Blk.rowFar ((hI2.alloc _).alloc _) (by omega) _, below_setRow ((hI3.alloc (by rw [hn]; omega) (.cells sizesV 3)).alloc (by simp [hn]; omega) (.cells #[.int .i64 0, .int .i64 0, .int .i64 0, .int .i64 0, .int .i64 0, .int .i64 0, .int .i64 0, .int .i64 0, .int .i64 0, .int .i64 0] 23)).drew (by omega) _⟩
    · go_simp
      refine hK.out _ _ (hI1.alloc (.cells #[.int .i64 0, .int .i64 0, .int .i64 0, .int .i64 0, .int .i64 0, .int .i64 0, .int .i64 0, .int .i64 0, .int .i64 0, .int .i64 0] 23)) (fun hHeld => ?_)
      clear hK K
      clear c0 c1 c2 c3 c4 c5 c6 c7 c8 c9
      refine wpAnyH_ready (rs := [4]) (by kernel_rfl) (by simp) ?_
      refine AllReadyH.cons rfl (fun K hK => ?_) AllReadyH.nil
      go_simp
      refine hK.out _ _ ((hI1.alloc (.cells #[.int .i64 0, .int .i64 0, .int .i64 0, .int .i64 0, .int .i64 0, .int .i64 0, .int .i64 0, .int .i64 0, .int .i64 0, .int .i64 0] 23)).alloc (.cells sizesV 3)) (fun hHeld => ?_)
      clear hK K
      (refine takeE (i := 8) rfl (by kernel_rfl) (by kernel_rfl) (by kernel_rfl) (fun _ _ _ _ h => h) hHeld (fun K hK => ?_); go_simp; refine hK _ ?_; clear hK K)
      have hSl : Blk ((W.alloc (.cells #[.int .i64 0, .int .i64 0, .int .i64 0, .int .i64 0, .int .i64 0, .int .i64 0, .int .i64 0, .int .i64 0, .int .i64 0, .int .i64 0] 23)).alloc (.cells sizesV 3)) (n + 1) 3 sizesV := by have h := alloc2_new W (.cells #[.int .i64 0, .int .i64 0, .int .i64 0, .int .i64 0, .int .i64 0, .int .i64 0, .int .i64 0, .int .i64 0, .int .i64 0, .int .i64 0] 23) (.cells sizesV 3); rw [hn] at h; exact h
      have hne2 : Nonempty (WIn (fun w' => Blk w' x 23 #[.int .i64 a, .int .i64 b, .int .i64 c, .int .i64 d, .int .i64 e, .int .i64 f, .int .i64 g, .int .i64 h, .int .i64 i, .int .i64 j] ∧ Blk w' (n + 1) 3 sizesV)) := ⟨⟨_, hHeld, hSl⟩⟩
      have q : ∀ y : WIn (fun w' => Blk w' x 23 #[.int .i64 a, .int .i64 b, .int .i64 c, .int .i64 d, .int .i64 e, .int .i64 f, .int .i64 g, .int .i64 h, .int .i64 i, .int .i64 j] ∧ Blk w' (n + 1) 3 sizesV), y.w.cell? ⟨(n + 1), (bigS c 4).toNat, none⟩ = some (.int .i64 (sizeS (bigS c 4))) := fun y => HSz.out _ _ y.ok.2
      replace hHeld : (fun w' => Blk w' x 23 #[.int .i64 a, .int .i64 b, .int .i64 c, .int .i64 d, .int .i64 e, .int .i64 f, .int .i64 g, .int .i64 h, .int .i64 i, .int .i64 j] ∧ Blk w' (n + 1) 3 sizesV) _ := ⟨hHeld, hSl⟩
      refine held_narrow (S' := (fun w' => Blk w' x 23 #[.int .i64 a, .int .i64 b, .int .i64 c, .int .i64 d, .int .i64 e, .int .i64 f, .int .i64 g, .int .i64 h, .int .i64 i, .int .i64 j] ∧ Blk w' (n + 1) 3 sizesV)) (fun _ h => h.1) _ _ _ _ ?_
      (refine takeE (i := 9) rfl (by kernel_rfl) (by kernel_rfl) (by kernel_rfl) (fun _ _ _ _ h => h) hHeld (fun K hK => ?_); go_simp; refine hK _ ?_; clear hK K)
      (refine takeE (i := 22) rfl (by kernel_rfl) (by kernel_rfl) (by kernel_rfl) (fun _ _ _ _ h => h) hHeld (fun K hK => ?_); go_simp; refine hK _ ?_; clear hK K)
      have hz2 : Blk ((W.alloc (.cells #[.int .i64 0, .int .i64 0, .int .i64 0, .int .i64 0, .int .i64 0, .int .i64 0, .int .i64 0, .int .i64 0, .int .i64 0, .int .i64 0] 23)).alloc (.cells sizesV 3)) n 23 #[.int .i64 0, .int .i64 0, .int .i64 0, .int .i64 0, .int .i64 0, .int .i64 0, .int .i64 0, .int .i64 0, .int .i64 0, .int .i64 0] := Blk.alloc (by have h := Blk.new W 23 #[.int .i64 0, .int .i64 0, .int .i64 0, .int .i64 0, .int .i64 0, .int .i64 0, .int .i64 0, .int .i64 0, .int .i64 0, .int .i64 0]; rw [hn] at h; exact h) _
      refine wpAnyH_ready (rs := [24]) (by kernel_rfl) (by simp) ?_
      refine AllReadyH.cons rfl (fun K hK => ?_) AllReadyH.nil
      rw [if_pos (by rfl)]
      refine wp_store_row _ _ _ rfl n _ rfl rfl 23 _ hz2 (by kernel_rfl) rfl (by simp [Value.oneCell']) ?_
      simp only [List.getElem_toArray, List.getElem_cons_succ, List.getElem_cons_zero, Act.put, List.setIfInBounds_toArray, List.set_cons_zero, List.set_cons_succ]
      refine hK.out _ _ ⟨Blk.rowFar ((hI1.alloc (.cells #[.int .i64 0, .int .i64 0, .int .i64 0, .int .i64 0, .int .i64 0, .int .i64 0, .int .i64 0, .int .i64 0, .int .i64 0, .int .i64 0] 23)).alloc (.cells sizesV 3)) (by omega) _, Blk.rowFar (hSl) (by omega) _⟩ (fun hHeld => ?_)
      clear hK K
      refine wpAnyH_done (by kernel_rfl) ?_ _
      refine NoPanic.normal ?_
      go_wp2_with fail
      go_meet
      case rel => exact ⟨n, rfl, by omega, Blk.row hz2 _, Blk.rowFar ((hI1.alloc _).alloc _) (by omega) _, Blk.rowFar ((hI2.alloc _).alloc _) (by omega) _, below_setRow ((hI3.alloc (by rw [hn]; omega) (.cells #[.int .i64 0, .int .i64 0, .int .i64 0, .int .i64 0, .int .i64 0, .int .i64 0, .int .i64 0, .int .i64 0, .int .i64 0, .int .i64 0] 23)).alloc (by simp [hn]; omega) (.cells sizesV 3)).drew (by omega) _⟩
  case rest =>
    obtain ⟨y, rfl, hy, b1, b2, b3, b4⟩ := hcut
    clear hI1 hI2 hI3 hn hxW
    obtain ⟨p, hp⟩ : ∃ p : Int, (2 : Int) ^ (1 + bigS a 4).toNat = p := ⟨_, rfl⟩
    have hpb := pow_bd (1 + bigS a 4) (by omega) (by omega)
    rw [hp] at hpb
    have hwp : IntKind.i64.wrap p = p := IntWalk.i64_in _ (by omega)
    have c0 : wc.cell? ⟨x, 0, none⟩ = some (.int .i64 a) := b2.cell 0
    have c1 : wc.cell? ⟨x, 1, none⟩ = some (.int .i64 b) := b2.cell 1
    have c2 : wc.cell? ⟨x, 2, none⟩ = some (.int .i64 c) := b2.cell 2
    have c3 : wc.cell? ⟨x, 3, none⟩ = some (.int .i64 d) := b2.cell 3
    have c4 : wc.cell? ⟨x, 4, none⟩ = some (.int .i64 e) := b2.cell 4
    have c5 : wc.cell? ⟨x, 5, none⟩ = some (.int .i64 f) := b2.cell 5
    have c6 : wc.cell? ⟨x, 6, none⟩ = some (.int .i64 g) := b2.cell 6
    have c7 : wc.cell? ⟨x, 7, none⟩ = some (.int .i64 h) := b2.cell 7
    have c8 : wc.cell? ⟨x, 8, none⟩ = some (.int .i64 i) := b2.cell 8
    have c9 : wc.cell? ⟨x, 9, none⟩ = some (.int .i64 j) := b2.cell 9
    have c10 : wc.cell? ⟨y, 0, none⟩ = some (.int .i64 (1 + bigS a 4)) := b1.cell 0
    obtain ⟨o1, q1⟩ : ∃ v, wc.cell? ⟨y, 1, none⟩ = some v := ⟨_, b1.cell 1⟩
    obtain ⟨o6, q6⟩ : ∃ v, wc.cell? ⟨y, 6, none⟩ = some v := ⟨_, b1.cell 6⟩
    have hz := fun i => b1.frozen i
    have B1 := Lib.hid b1
    have B2 := Lib.hid b2
    have B3 := Lib.hid b3
    have B4 := Lib.hid b4
    have hylt := b1.lt
    clear b1 b2 b3 b4
    go_wp2_with (first | (go_at_call 15; refine (mod_any _ _ _ (by omega) (by omega)).mono ?_; rintro e w' ⟨rfl, rfl⟩) | (go_at_call 16; refine (big_any _ _ _ (by omega) (by omega)).mono ?_; rintro e w' ⟨rfl, rfl⟩))
    have hJ : CfgJ x y #[.int .i64 a, .int .i64 b, .int .i64 c, .int .i64 d, .int .i64 e, .int .i64 f, .int .i64 g, .int .i64 h, .int .i64 i, .int .i64 j] #[.int .i64 0, .int .i64 0, .int .i64 0, .int .i64 0, .int .i64 0, .int .i64 0, .int .i64 0, .int .i64 0, .int .i64 0, .int .i64 0] #[.int .i64 (1 + bigS a 4), .int .i64 (bigS b p), .int .i64 (sizeS (bigS c 4)), .int .i64 (1 + bigS d 5), .int .i64 (1 + bigS e 4), .int .i64 (1 + bigS f 4), .int .i64 (1 + bigS g 4), .int .i64 0, .int .i64 0, .int .i64 0] w (((wc.setCell ⟨y, 1, none⟩ (.int .i64 (bigS b p))).setCell ⟨y, 6, none⟩ (.int .i64 (1 + bigS g 4)))).drew := ⟨(B2.out.far (by simp; omega) _).far (by simp; omega) _, (B3.out.far (by simp; omega) _).far (by simp; omega) _, (B1.out.set_ 1 _).set_ 6 _, ((B4.out.setCell (by simp; omega) _).setCell (by simp; omega) _).drew⟩
    clear c0 c1 c2 c3 c4 c5 c6 c7 c8 c9 c10 q1 q6 hz o1 o6 B1 B2 B3 B4
    generalize World.setCell (World.setCell wc _ _) _ _ = w3 at hJ ⊢
    have hne : Nonempty (WIn (fun w' => CfgJ x y #[.int .i64 a, .int .i64 b, .int .i64 c, .int .i64 d, .int .i64 e, .int .i64 f, .int .i64 g, .int .i64 h, .int .i64 i, .int .i64 j] #[.int .i64 0, .int .i64 0, .int .i64 0, .int .i64 0, .int .i64 0, .int .i64 0, .int .i64 0, .int .i64 0, .int .i64 0, .int .i64 0] #[.int .i64 (1 + bigS a 4), .int .i64 (bigS b p), .int .i64 (sizeS (bigS c 4)), .int .i64 (1 + bigS d 5), .int .i64 (1 + bigS e 4), .int .i64 (1 + bigS f 4), .int .i64 (1 + bigS g 4), .int .i64 0, .int .i64 0, .int .i64 0] w w')) := ⟨⟨_, hJ⟩⟩
    have d6 : ∀ z : WIn (fun w' => CfgJ x y #[.int .i64 a, .int .i64 b, .int .i64 c, .int .i64 d, .int .i64 e, .int .i64 f, .int .i64 g, .int .i64 h, .int .i64 i, .int .i64 j] #[.int .i64 0, .int .i64 0, .int .i64 0, .int .i64 0, .int .i64 0, .int .i64 0, .int .i64 0, .int .i64 0, .int .i64 0, .int .i64 0] #[.int .i64 (1 + bigS a 4), .int .i64 (bigS b p), .int .i64 (sizeS (bigS c 4)), .int .i64 (1 + bigS d 5), .int .i64 (1 + bigS e 4), .int .i64 (1 + bigS f 4), .int .i64 (1 + bigS g 4), .int .i64 0, .int .i64 0, .int .i64 0] w w'), z.w.cell? ⟨y, 6, none⟩ = some (.int .i64 (1 + bigS g 4)) := fun z => z.ok.2.2.1.cell 6
    have d7 : ∀ z : WIn (fun w' => CfgJ x y #[.int .i64 a, .int .i64 b, .int .i64 c, .int .i64 d, .int .i64 e, .int .i64 f, .int .i64 g, .int .i64 h, .int .i64 i, .int .i64 j] #[.int .i64 0, .int .i64 0, .int .i64 0, .int .i64 0, .int .i64 0, .int .i64 0, .int .i64 0, .int .i64 0, .int .i64 0, .int .i64 0] #[.int .i64 (1 + bigS a 4), .int .i64 (bigS b p), .int .i64 (sizeS (bigS c 4)), .int .i64 (1 + bigS d 5), .int .i64 (1 + bigS e 4), .int .i64 (1 + bigS f 4), .int .i64 (1 + bigS g 4), .int .i64 0, .int .i64 0, .int .i64 0] w w'), z.w.cell? ⟨x, 7, none⟩ = some (.int .i64 h) := fun z => z.ok.1.cell 7
    have HJ := Lib.hid hJ
    clear hJ
    have ws : IntKind.i64.wrap (1 + bigS g 4 + bigS h 12) = 1 + bigS g 4 + bigS h 12 := IntWalk.i64_in _ (by omega)
    refine wp_region_qtail2 (fun w' => CfgJ x y #[.int .i64 a, .int .i64 b, .int .i64 c, .int .i64 d, .int .i64 e, .int .i64 f, .int .i64 g, .int .i64 h, .int .i64 i, .int .i64 j] #[.int .i64 0, .int .i64 0, .int .i64 0, .int .i64 0, .int .i64 0, .int .i64 0, .int .i64 0, .int .i64 0, .int .i64 0, .int .i64 0] #[.int .i64 (1 + bigS a 4), .int .i64 (bigS b p), .int .i64 (sizeS (bigS c 4)), .int .i64 (1 + bigS d 5), .int .i64 (1 + bigS e 4), .int .i64 (1 + bigS f 4), .int .i64 (1 + bigS g 4), .int .i64 0, .int .i64 0, .int .i64 0] w w') 7 (by kernel_rfl) (by kernel_rfl) HJ.out ?_
    repeat (refine wpQ_step (fun K hK => ?_); go_simp; first | (refine hK _ ?_; clear hK K) | (apply Exists.intro; refine ⟨fun _ => ?_, hK _ ?_⟩; ((go_at_call 16; exact (big_any _ _ _ (by omega) (by omega)).mono fun e w' ⟨he, hb⟩ => ⟨he, ⟨_, WIn.ok _⟩, hb.symm⟩)); clear hK K))
    refine wpQ_nil ?_
    intro Y
    obtain ⟨b2, b3, b1, b4⟩ := Y.ok
    clear d6 d7 hne HJ
    generalize Y.w = w4 at *
    clear Y
    have c8 : w4.cell? ⟨x, 8, none⟩ = some (.int .i64 i) := b2.cell 8
    have c9 : w4.cell? ⟨x, 9, none⟩ = some (.int .i64 j) := b2.cell 9
    obtain ⟨o7, q7⟩ : ∃ v, w4.cell? ⟨y, 7, none⟩ = some v := ⟨_, b1.cell 7⟩
    obtain ⟨o8, q8⟩ : ∃ v, w4.cell? ⟨y, 8, none⟩ = some v := ⟨_, b1.cell 8⟩
    obtain ⟨o9, q9⟩ : ∃ v, w4.cell? ⟨y, 9, none⟩ = some v := ⟨_, b1.cell 9⟩
    have e0 : w4.cell? ⟨y, 0, none⟩ = some (.int .i64 (1 + bigS a 4)) := b1.cell 0
    have e1 : w4.cell? ⟨y, 1, none⟩ = some (.int .i64 (bigS b p)) := b1.cell 1
    have e2 : w4.cell? ⟨y, 2, none⟩ = some (.int .i64 (sizeS (bigS c 4))) := b1.cell 2
    have e3 : w4.cell? ⟨y, 3, none⟩ = some (.int .i64 (1 + bigS d 5)) := b1.cell 3
    have e4 : w4.cell? ⟨y, 4, none⟩ = some (.int .i64 (1 + bigS e 4)) := b1.cell 4
    have e5 : w4.cell? ⟨y, 5, none⟩ = some (.int .i64 (1 + bigS f 4)) := b1.cell 5
    have e6 : w4.cell? ⟨y, 6, none⟩ = some (.int .i64 (1 + bigS g 4)) := b1.cell 6
    have hz := fun i => b1.frozen i
    have B1 := Lib.hid b1
    have B2 := Lib.hid b2
    have B3 := Lib.hid b3
    have B4 := Lib.hid b4
    have hylt2 := b1.lt
    clear b1 b2 b3 b4
    go_upto_region 7 with (go_at_call 16; refine (big_any _ _ _ (by omega) (by omega)).mono ?_; rintro e w' ⟨rfl, rfl⟩)
    have g1 : Blk (((w4.setCell ⟨y, 7, none⟩ (.int .i64 (1 + bigS g 4 + bigS h 12))).setCell ⟨y, 8, none⟩ (.int .i64 (bigS i 4))).setCell ⟨y, 9, none⟩ (.int .i64 (1 + bigS j 8))) y 23 #[.int .i64 (1 + bigS a 4), .int .i64 (bigS b p), .int .i64 (sizeS (bigS c 4)), .int .i64 (1 + bigS d 5), .int .i64 (1 + bigS e 4), .int .i64 (1 + bigS f 4), .int .i64 (1 + bigS g 4), .int .i64 (1 + bigS g 4 + bigS h 12), .int .i64 (bigS i 4), .int .i64 (1 + bigS j 8)] := ((B1.out.set_ 7 _).set_ 8 _).set_ 9 _
    have g3 : Blk (((w4.setCell ⟨y, 7, none⟩ (.int .i64 (1 + bigS g 4 + bigS h 12))).setCell ⟨y, 8, none⟩ (.int .i64 (bigS i 4))).setCell ⟨y, 9, none⟩ (.int .i64 (1 + bigS j 8))) (x + 1) 23 #[.int .i64 0, .int .i64 0, .int .i64 0, .int .i64 0, .int .i64 0, .int .i64 0, .int .i64 0, .int .i64 0, .int .i64 0, .int .i64 0] := ((B3.out.far (by simp; omega) _).far (by simp; omega) _).far (by simp; omega) _
    have g4 := ((B4.out.setCell (p := ⟨y, 7, none⟩) (by simp; omega) (.int .i64 (1 + bigS g 4 + bigS h 12))).setCell (p := ⟨y, 8, none⟩) (by simp; omega) (.int .i64 (bigS i 4))).setCell (p := ⟨y, 9, none⟩) (by simp; omega) (.int .i64 (1 + bigS j 8))
    clear c8 c9 q7 q8 q9 o7 o8 o9 e0 e1 e2 e3 e4 e5 e6 hz B1 B2 B3 B4 hylt hylt2
    generalize World.setCell (World.setCell (World.setCell w4 _ _) _ _) _ _ = w5 at g1 g3 g4 ⊢
    have HP := Lib.hid hp
    have HG := Lib.hid g1
    have HG3 := Lib.hid g3
    have HG4 := Lib.hid g4
    clear hp g1 g3 g4 hpb hwp ws wa wd we wf
    refine wp_region_lit ?_
    refine wpList_load_row rfl 23 (.tmp 3) rfl y rfl 23 _ _ _ HG.out Try.underlying23 rfl (by kernel_rfl) ?_
    simp only [Act.put, List.setIfInBounds_toArray, List.set_cons_zero, List.set_cons_succ]
    refine wpList_store_row rfl 23 (.tmp 2) (.tmp 56) rfl (x + 1) _ rfl rfl 23 _ HG3.out (by kernel_rfl) rfl (by simp [Value.oneCell']) ?_
    simp only [Act.put]
    have HE := Lib.hid (HG3.out.row #[.int .i64 (1 + bigS a 4), .int .i64 (bigS b p), .int .i64 (sizeS (bigS c 4)), .int .i64 (1 + bigS d 5), .int .i64 (1 + bigS e 4), .int .i64 (1 + bigS f 4), .int .i64 (1 + bigS g 4), .int .i64 (1 + bigS g 4 + bigS h 12), .int .i64 (bigS i 4), .int .i64 (1 + bigS j 8)])
    have HB := Lib.hid (below_setRow HG4.out (show x ≤ x + 1 by omega) #[.int .i64 (1 + bigS a 4), .int .i64 (bigS b p), .int .i64 (sizeS (bigS c 4)), .int .i64 (1 + bigS d 5), .int .i64 (1 + bigS e 4), .int .i64 (1 + bigS f 4), .int .i64 (1 + bigS g 4), .int .i64 (1 + bigS g 4 + bigS h 12), .int .i64 (bigS i 4), .int .i64 (1 + bigS j 8)])
    generalize World.setRow w5 _ _ = w6 at HE HB ⊢
    go_wp2_with fail
    rw [HP.out]
    exact bodyPost_ret (results_cell_row rfl _ _ (x + 1) 23 _ (0, 0) _ rfl HE.out Try.underlying23 rfl (by kernel_rfl)) rfl ⟨rfl, by first | exact HB.out | (rw [HX.out]; exact HB.out)⟩
end Go.Proofs.Ytolmkafmlblnoaa
