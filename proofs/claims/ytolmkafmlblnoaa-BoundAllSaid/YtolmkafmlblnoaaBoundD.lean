/- Which configs may be: the program's May, and the document's. -/
import Derived.Test.YtolmkafmlblnoaaBoundC
import Derived.IntWalk
import Derived.Test.YtolmkafmlblnoaaFast
namespace Go.Proofs.Ytolmkafmlblnoaa
open Go.ChangeShapes Go.WideShapes Go.ChangeAt Go.RowKit
set_option linter.unusedVariables false
set_option linter.unusedSimpArgs false
def mayC (a b c d e f g h i j : Int) : Bool := inB a 1 8 && inB b 0 (2 ^ a.toNat - 1) && inB c 64 65536 && inB d 1 64 && inB e 1 64 && inB f 1 64 && mayB g h i && decide (1 ≤ j) && decide (j ≤ 1073741824)
theorem ff (p : Bool) {R : Prop} (h : p = true → R) : p = false ∨ p = true ∧ R := by cases p with
  | false => exact .inl rfl
  | true => exact .inr ⟨rfl, h rfl⟩
theorem pow_bd (a : Int) (h0 : 1 ≤ a) (h1 : a ≤ 8) : 2 ≤ (2 : Int) ^ a.toNat ∧ (2 : Int) ^ a.toNat ≤ 256 := by
  have : a = 1 ∨ a = 2 ∨ a = 3 ∨ a = 4 ∨ a = 5 ∨ a = 6 ∨ a = 7 ∨ a = 8 := by omega
  rcases this with rfl | rfl | rfl | rfl | rfl | rfl | rfl | rfl <;> decide
theorem inB_bd {n a b : Int} (h : inB n a b = true) : a ≤ n ∧ n ≤ b := by simpa [inB] using h
def CfIn (b : Nat) (cs : Array Value) (w0 w : World) : Prop := Blk w b 23 cs ∧ Below b w0 w
theorem CfIn.drew {b : Nat} {cs : Array Value} {w0 w : World} (h : CfIn b cs w0 w) : CfIn b cs w0 w.drew := ⟨h.1, h.2.drew⟩
set_option maxRecDepth 100000 in
set_option maxHeartbeats 4000000 in
theorem mayc_any (a b c d e f g h i j : Int) (w : World) :
    Calls Try.prog 17 #[confV a b c d e f g h i j] w fun e' w' => e' = .returned (.bool (mayC a b c d e f g h i j)) ∧ Below w.heap.size w w' := by
  unfold confV
  obtain ⟨p, hp⟩ : ∃ p : Int, (2 : Int) ^ a.toNat = p := ⟨_, rfl⟩
  have hpb : inB a 1 8 = true → 2 ≤ p ∧ p ≤ 256 := fun h => by rw [← hp]; exact pow_bd a (inB_bd h).1 (inB_bd h).2
  have HP := Lib.hid hpb
  have HM := Lib.hid (show mayC a b c d e f g h i j = (inB a 1 8 && inB b 0 (p - 1) && inB c 64 65536 && inB d 1 64 && inB e 1 64 && inB f 1 64 && mayB g h i && decide (1 ≤ j) && decide (j ≤ 1073741824)) by rw [← hp]; rfl)
  clear hpb
  go_enter Try.func17, Try.ntmps17
  go_wp2_with fail
  have hI : CfIn w.heap.size #[.int .i64 a, .int .i64 b, .int .i64 c, .int .i64 d, .int .i64 e, .int .i64 f, .int .i64 g, .int .i64 h, .int .i64 i, .int .i64 j] w (w.alloc (.cells #[.int .i64 a, .int .i64 b, .int .i64 c, .int .i64 d, .int .i64 e, .int .i64 f, .int .i64 g, .int .i64 h, .int .i64 i, .int .i64 j] 23)) := ⟨Blk.new w _ _, (Below.refl _ _).alloc (Nat.le_refl _) _⟩
  generalize hW : World.alloc w _ = W at *
  obtain ⟨x, hx⟩ : ∃ x, w.heap.size = x := ⟨_, rfl⟩
  rw [hx] at hI ⊢
  have HX := Lib.hid hx
  clear hx hW
  have hne : Nonempty (WIn (CfIn x #[.int .i64 a, .int .i64 b, .int .i64 c, .int .i64 d, .int .i64 e, .int .i64 f, .int .i64 g, .int .i64 h, .int .i64 i, .int .i64 j] w)) := ⟨⟨_, hI⟩⟩
  have z0 : ∀ y : WIn (CfIn x #[.int .i64 a, .int .i64 b, .int .i64 c, .int .i64 d, .int .i64 e, .int .i64 f, .int .i64 g, .int .i64 h, .int .i64 i, .int .i64 j] w), y.w.cell? ⟨x, 0, none⟩ = some (.int .i64 a) := fun y => y.ok.1.cell 0
  have z1 : ∀ y : WIn (CfIn x #[.int .i64 a, .int .i64 b, .int .i64 c, .int .i64 d, .int .i64 e, .int .i64 f, .int .i64 g, .int .i64 h, .int .i64 i, .int .i64 j] w), y.w.cell? ⟨x, 1, none⟩ = some (.int .i64 b) := fun y => y.ok.1.cell 1
  have z2 : ∀ y : WIn (CfIn x #[.int .i64 a, .int .i64 b, .int .i64 c, .int .i64 d, .int .i64 e, .int .i64 f, .int .i64 g, .int .i64 h, .int .i64 i, .int .i64 j] w), y.w.cell? ⟨x, 2, none⟩ = some (.int .i64 c) := fun y => y.ok.1.cell 2
  have z3 : ∀ y : WIn (CfIn x #[.int .i64 a, .int .i64 b, .int .i64 c, .int .i64 d, .int .i64 e, .int .i64 f, .int .i64 g, .int .i64 h, .int .i64 i, .int .i64 j] w), y.w.cell? ⟨x, 3, none⟩ = some (.int .i64 d) := fun y => y.ok.1.cell 3
  have z4 : ∀ y : WIn (CfIn x #[.int .i64 a, .int .i64 b, .int .i64 c, .int .i64 d, .int .i64 e, .int .i64 f, .int .i64 g, .int .i64 h, .int .i64 i, .int .i64 j] w), y.w.cell? ⟨x, 4, none⟩ = some (.int .i64 e) := fun y => y.ok.1.cell 4
  have z5 : ∀ y : WIn (CfIn x #[.int .i64 a, .int .i64 b, .int .i64 c, .int .i64 d, .int .i64 e, .int .i64 f, .int .i64 g, .int .i64 h, .int .i64 i, .int .i64 j] w), y.w.cell? ⟨x, 5, none⟩ = some (.int .i64 f) := fun y => y.ok.1.cell 5
  have z6 : ∀ y : WIn (CfIn x #[.int .i64 a, .int .i64 b, .int .i64 c, .int .i64 d, .int .i64 e, .int .i64 f, .int .i64 g, .int .i64 h, .int .i64 i, .int .i64 j] w), y.w.cell? ⟨x, 6, none⟩ = some (.int .i64 g) := fun y => y.ok.1.cell 6
  have z7 : ∀ y : WIn (CfIn x #[.int .i64 a, .int .i64 b, .int .i64 c, .int .i64 d, .int .i64 e, .int .i64 f, .int .i64 g, .int .i64 h, .int .i64 i, .int .i64 j] w), y.w.cell? ⟨x, 7, none⟩ = some (.int .i64 h) := fun y => y.ok.1.cell 7
  have z8 : ∀ y : WIn (CfIn x #[.int .i64 a, .int .i64 b, .int .i64 c, .int .i64 d, .int .i64 e, .int .i64 f, .int .i64 g, .int .i64 h, .int .i64 i, .int .i64 j] w), y.w.cell? ⟨x, 8, none⟩ = some (.int .i64 i) := fun y => y.ok.1.cell 8
  have z9 : ∀ y : WIn (CfIn x #[.int .i64 a, .int .i64 b, .int .i64 c, .int .i64 d, .int .i64 e, .int .i64 f, .int .i64 g, .int .i64 h, .int .i64 i, .int .i64 j] w), y.w.cell? ⟨x, 9, none⟩ = some (.int .i64 j) := fun y => y.ok.1.cell 9
  have HI := Lib.hid hI
  clear hI
  refine wp_region_quiet2 (CfIn x #[.int .i64 a, .int .i64 b, .int .i64 c, .int .i64 d, .int .i64 e, .int .i64 f, .int .i64 g, .int .i64 h, .int .i64 i, .int .i64 j] w) (by kernel_rfl) (by kernel_rfl) HI.out.drew ?_
  rcases ff (inB a 1 8) (fun _ => ff (inB b 0 (p - 1)) (fun _ => ff (inB c 64 65536) (fun _ => ff (inB d 1 64) (fun _ => ff (inB e 1 64) (fun _ => ff (inB f 1 64) (fun _ => ff (mayB g h i) (fun _ => ff (decide (1 ≤ j)) (fun _ => ff (decide (j ≤ 1073741824)) (fun _ => trivial))))))))) with h0 | ⟨h0, h1 | ⟨h1, h2 | ⟨h2, h3 | ⟨h3, h4 | ⟨h4, h5 | ⟨h5, h6 | ⟨h6, h7 | ⟨h7, h8 | ⟨h8, _⟩⟩⟩⟩⟩⟩⟩⟩⟩
  all_goals
    (try (have hpb := HP.out h0; have hab := inB_bd h0; have hw1 : IntKind.i64.wrap p = p := IntWalk.i64_in _ (by omega); have hw2 : IntKind.i64.wrap (p - 1) = p - 1 := IntWalk.i64_in _ (by omega)))
    repeat (refine wpQ_step (fun K hK => ?_); go_simp; first | (refine hK _ ?_; clear hK K) | (apply Exists.intro; refine ⟨fun _ => ?_, hK _ ?_⟩; (first | (go_at_call 27; exact (within_any _ _ _ _).mono fun e w' ⟨he, hb⟩ => ⟨he, ⟨_, WIn.ok _⟩, hb.symm⟩) | (go_at_call 28; exact (mayb_any _ _ _ _).mono fun e w' ⟨he, hb⟩ => ⟨he, ⟨_, WIn.ok _⟩, hb.symm⟩)); clear hK K))
    refine wpQ_nil ?_
    intro Y
    obtain ⟨y1, y2⟩ := Y.ok
    clear z0 z1 z2 z3 z4 z5 z6 z7 z8 z9 HI hne y1
    generalize Y.w = W2 at *
    go_wp2_with fail
    go_ret
    exact ⟨ret_bool (by rw [HM.out]; simp [*]), by rw [HX.out]; exact y2⟩
end Go.Proofs.Ytolmkafmlblnoaa
