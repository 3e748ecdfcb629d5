/- Package drr: Del; All. -/
import Derived.Test.YtgfcfpoebmlppaaDrrDel
import Derived.Test.YtgfcfpoebmlppaaDrrStep
namespace Go.Proofs.Ytgfcfpoebmlppaa
open Go.ChangeShapes Go.WideShapes Go.ChangeAt Go.RowKit
set_option linter.unusedVariables false
set_option linter.unusedSimpArgs false
theorem del_none (p : Nat) (v : Value) (l : List Mem) (at_ : Nat) (turn : Bool) (left id : Int) (w : World) (h : drrAt w p v l at_ turn left) (hf : findS l id = -1) :
    Calls Try.prog 15 #[.pointer (some ⟨p, 0, none⟩), .int .i64 id] w fun e w' => e = .returned (.int .i64 5) ∧ Below w.heap.size w w' := by
  have HF := Lib.hid hf
  clear hf
  go_enter Try.func15, Try.ntmps15
  go_wp2_with fail
  refine (place_any p v l at_ turn left id w h).mono ?_
  rintro e w1 ⟨rfl, b1⟩
  rw [HF.out]
  clear h
  have B1 := Lib.hid b1
  clear b1
  go_wp2_with fail
  go_ret
  exact ⟨rfl, B1.out⟩
def delAt (i at_ : Nat) : Nat := if i < at_ then at_ - 1 else at_
def delTurn (i at_ : Nat) (turn : Bool) : Bool := if i = at_ then false else turn
def DelPost2 (p : Nat) (v : Value) (l : List Mem) (i at_ : Nat) (turn : Bool) (left : Int) (w : World) (e : Ending) (w' : World) : Prop :=
  e = .returned (.int .i64 0) ∧ ∃ v', drrAt w' p v' (l.eraseIdx i) (delAt i at_) (delTurn i at_ turn) left ∧ Keeps (fun k => k = p ∨ v.ownBlock = some k) w w' ∧ v'.ownBlock = v.ownBlock
set_option maxRecDepth 100000 in
set_option maxHeartbeats 1000000 in
theorem del_ok (p : Nat) (v : Value) (l : List Mem) (i at_ : Nat) (turn : Bool) (left id : Int) (w : World) (h : drrAt w p v l at_ turn left) (hf : findS l id = i) (hi : i < l.length) (hs : l.length ≤ 200) (hat : at_ ≤ 200) :
    Calls Try.prog 15 #[.pointer (some ⟨p, 0, none⟩), .int .i64 id] w (DelPost2 p v l i at_ turn left w) := by
  have HF := Lib.hid hf
  have H := Lib.hid h
  clear hf h
  go_enter Try.func15, Try.ntmps15
  go_wp2_with fail
  refine (place_any p v l at_ turn left id w H.out).mono ?_
  rintro e w1 ⟨rfl, b1⟩
  rw [HF.out]
  have h1 := H.out.below b1
  have K1 := Lib.hid (Keeps.of_below (S := fun k => k = p ∨ v.ownBlock = some k) b1)
  obtain ⟨g, off, cap, rfl, hnc, hcm, hg, _, _⟩ := h1.2.1.at_ (by omega)
  have c0 := h1.1.cell 0
  simp at c0
  have hgp : g ≠ p := fun e => h1.2.2.1 (by simp [Value.ownBlock, e])
  have H1 := Lib.hid h1
  clear b1 h1
  have t0 : ¬ ((i : Int) < 0) := by omega
  have t1 : IntKind.i64.wrap ((i : Int) + 1) = (i : Int) + 1 := IntWalk.i64_in _ (by omega)
  go_wp2_with fail
  refine (delete_any g off l.length cap i l w1 H1.out.2.1 rfl hi (by omega)).mono ?_
  rintro e w2 ⟨rfl, hS, hK⟩
  have hB : Blk w2 p 49 #[.slice (some ⟨g, off, none⟩) l.length cap, .int .i64 at_, .bool turn, .int .i64 left] := hK.at_ H1.out.1 (fun e => hgp e.symm)
  have c0 := hB.cell 0
  have c1 := hB.cell 1
  have c2 := hB.cell 2
  simp at c0 c1 c2
  have fz := fun i => hB.frozen i
  have hpl := hB.lt
  have HS := Lib.hid hS
  have HK := Lib.hid hK
  have HB := Lib.hid hB
  have hgl := Lib.hid hg
  clear hS hK hB hg
  have hlen : (l.eraseIdx i).length = l.length - 1 := by rw [List.length_eraseIdx_of_lt hi]
  have HLen := Lib.hid hlen
  clear hlen
  have fin : ∀ (w3 : World) (a2 : Nat) (t2 : Bool), Keeps (· = p) w2 w3 → Blk w3 p 49 #[.slice (some ⟨g, off, none⟩) (l.length - 1) cap, .int .i64 a2, .bool t2, .int .i64 left] → a2 = delAt i at_ → t2 = delTurn i at_ turn →
      ∃ v', drrAt w3 p v' (l.eraseIdx i) (delAt i at_) (delTurn i at_ turn) left ∧ Keeps (fun k => k = p ∨ (Value.slice (some ⟨g, off, none⟩) l.length cap).ownBlock = some k) w w3 ∧ v'.ownBlock = (Value.slice (some ⟨g, off, none⟩) l.length cap).ownBlock := by
    rintro w3 a2 t2 hk hb rfl rfl
    refine ⟨.slice (some ⟨g, off, none⟩) (l.length - 1) cap, ⟨hb, ?_, by simpa [Value.ownBlock] using hgp, fun x hx => ?_⟩, ?_, rfl⟩
    · rw [HLen.out]
      exact HS.out.keeps hk fun x hx e => hgp (by simp [Value.ownBlock] at hx; omega)
    · simp [Value.ownBlock] at hx
      subst hx
      exact Nat.lt_of_lt_of_le hgl.out (Nat.le_trans HK.out.size hk.size)
    · exact (K1.out.trans (HK.out.mono fun x hx => .inr (by rw [hx]; rfl))).trans (hk.mono fun x hx => .inl hx)
  have Fin := Lib.hid fin
  clear fin
  by_cases h1 : i < at_
  · have e1 : (i : Int) < at_ := by omega
    have u1 : IntKind.i64.wrap ((at_ : Int) - 1) = (at_ : Int) - 1 := IntWalk.i64_in _ (by omega)
    go_wp2_with fail
    go_ret
    exact ⟨rfl, Fin.out _ (at_ - 1) turn (((Keeps.refl (· = p) w2).setCell (p := ⟨p, 0, none⟩) rfl _).setCell (p := ⟨p, 1, none⟩) rfl _) (by have := (HB.out.set_ 0 (.slice (some ⟨g, off, none⟩) (l.length - 1) cap)).set_ 1 (.int .i64 ((at_ : Int) - 1)); rw [show ((at_ - 1 : Nat) : Int) = (at_ : Int) - 1 by omega]; exact this) (by simp [delAt, h1]) (by simp [delTurn]; omega)⟩
  · have e1 : ¬ (i : Int) < at_ := by omega
    by_cases h2 : i = at_
    · subst h2
      go_wp2_with fail
      go_ret
      exact ⟨rfl, Fin.out _ i false (((Keeps.refl (· = p) w2).setCell (p := ⟨p, 0, none⟩) rfl _).setCell (p := ⟨p, 2, none⟩) rfl _) ((HB.out.set_ 0 _).set_ 2 _) (by simp [delAt]) (by simp [delTurn])⟩
    · have e2 : ((i : Int) == at_) = false := beq_eq_false_iff_ne.2 (by omega)
      go_wp2_with fail
      go_ret
      exact ⟨rfl, Fin.out _ at_ turn ((Keeps.refl (· = p) w2).setCell (p := ⟨p, 0, none⟩) rfl _) (HB.out.set_ 0 _) (by simp [delAt, h1]) (by simp [delTurn, h2])⟩
end Go.Proofs.Ytgfcfpoebmlppaa
