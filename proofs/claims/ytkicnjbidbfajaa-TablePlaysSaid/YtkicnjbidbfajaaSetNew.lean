/- Package table: New. -/
import Derived.Test.YtkicnjbidbfajaaSet
namespace Go.Proofs.Ytkicnjbidbfajaa
open Go.ChangeShapes Go.WideShapes Go.ChangeAt Go.RowKit
set_option linter.unusedVariables false
set_option linter.unusedSimpArgs false
theorem inew0 (w : World) : Calls Try.prog 14 #[.slice none 0 0] w fun e w' => e = .returned (.pointer (some ⟨w.heap.size, 0, none⟩)) ∧ w' = w.alloc (.cells #[.slice none 0 0] 79) := by
  go_enter Try.func14, Try.ntmps14
  go_wp2_with fail
  go_loopw [5, 10] (fun s5 s10 wr => s10 = .int .i64 0 ∧ wr = w.alloc (.cells #[.slice none 0 0] 79)) (fun _ _ _ => 0)
  case atStart => exact ⟨rfl, rfl⟩
  case round =>
    obtain ⟨rfl, rfl⟩ := hrel
    go_wp2_with fail
    go_ret
    exact ⟨rfl, rfl⟩
theorem infoOne : (Try.prog.info? 92).map (fun i => (i.zero, i.size, i.bytes)) = some (some (.agg #[.pointer none]), 1, 8) := by kernel_rfl
set_option maxRecDepth 100000 in
/-- one more table -/
theorem ts_grow {tag : Nat} {f : Nat → Nat} {r n : Nat} {w : World} {ls : Nat → List Rw} {A : Option Addr} {c : Nat} {P : Nat → Nat} {V : Nat → Value} (h : Ts tag f r w n ls (.slice A n c) P V) (hl : ls n = []) (hn : n ≤ 100) :
    ∃ A2 c2 W3 f', (∀ ty, (Builtin.append_ #[88, 88] ty #[.slice A n c, .slice (some ⟨w.heap.size + 1, 0, none⟩) 1 1]).run Try.prog ((w.alloc (.cells #[.slice none 0 0] 79)).alloc (.cells #[.pointer (some ⟨w.heap.size, 0, none⟩)] 92)) = .ok (.slice A2 (n + 1) c2) W3) ∧
      Blk W3 r 90 #[.slice A n c] ∧ (∀ g, g < w.heap.size → f' g = f g) ∧ Keeps (fun g => f g = tag ∨ f g = tag + 1) w (W3.setCell ⟨r, 0, none⟩ (.slice A2 (n + 1) c2)) ∧ TsE tag f' r (W3.setCell ⟨r, 0, none⟩ (.slice A2 (n + 1) c2)) (n + 1) ls := by
  obtain ⟨i0, hi0, hz0, hz1, hz2⟩ := info_parts infoOne
  obtain ⟨p, hp⟩ : ∃ p, w.heap.size = p := ⟨_, rfl⟩
  have hr := h.blk.lt
  obtain ⟨W1, hW1⟩ : ∃ W1, w.alloc (.cells #[.slice none 0 0] 79) = W1 := ⟨_, rfl⟩
  have hb1 : Below w.heap.size w W1 := by rw [← hW1]; exact (Below.refl _ _).alloc (Nat.le_refl _) _
  have hx1 : W1.heap[p]? = some (.cells #[.slice none 0 0] 79 (0, 0)) := by rw [← hW1, ← hp]; exact heap_alloc_new w _
  have hs1 : W1.heap.size = p + 1 := by rw [← hW1]; simp [hp]
  obtain ⟨W2, hW2⟩ : ∃ W2, W1.alloc (.cells #[.pointer (some ⟨p, 0, none⟩)] 92) = W2 := ⟨_, rfl⟩
  have hb2 : Below W1.heap.size W1 W2 := by rw [← hW2]; exact (Below.refl _ _).alloc (Nat.le_refl _) _
  have hx2 : W2.heap[p + 1]? = some (.cells #[.pointer (some ⟨p, 0, none⟩)] 92 (0, 0)) := by rw [← hW2, ← hs1]; exact heap_alloc_new W1 _
  have hs2 : W2.heap.size = p + 2 := by rw [← hW2]; simp [hs1]
  have hb : Below w.heap.size w W2 := hb1.trans (hb2.mono (by omega))
  have hS2 := h.sl.below hb
  obtain ⟨v', W3, hr3, hS3, hK3, hO3⟩ := run_append_sl (P := Try.prog) W2 88 88 92 i0 _ 1 8 Try.underlying88 hi0 hz0 hz1 hz2 rfl (by omega) (.slice A n c) n (ptrCells P n) hS2 ⟨p + 1, 0, none⟩ 1 1 [.pointer (some ⟨p, 0, none⟩)] rfl (World.news_of_block (cs := #[.pointer (some ⟨p, 0, none⟩)]) (t := 92) (fr := (0, 0)) hx2) (by simp [Value.oneCell']) (by omega) (by unfold maxLen; omega) (by omega)
  obtain ⟨A2, c2, rfl, _, _⟩ := hS3.form
  have hown : ∀ g, (Value.slice A n c).ownBlock = some g → g < p := fun g hg => by rw [← hp]; exact (h.fs g hg).2
  have hnr : (Value.slice A n c).ownBlock ≠ some r := fun e => by have := (h.fs r e).1; rw [h.fr] at this; omega
  have hB2 := h.blk.below hb hr
  have hB3 : Blk W3 r 90 #[.slice A n c] := hK3.at_ hB2 hnr
  have hnr2 : (Value.slice A2 (n + 1) c2).ownBlock ≠ some r := by
    rcases hO3 with e | ⟨g, e, hg⟩
    · rw [e]; exact hnr
    · rw [e]; intro e2; injection e2 with e2; omega
  have hk4 : Keeps (· = r) W3 (W3.setCell ⟨r, 0, none⟩ (.slice A2 (n + 1) c2)) := (Keeps.refl (· = r) W3).setCell (p := ⟨r, 0, none⟩) rfl _
  have hK : Keeps (fun g => f g = tag ∨ f g = tag + 1) w (W3.setCell ⟨r, 0, none⟩ (.slice A2 (n + 1) c2)) := by
    have e1 : Keeps (fun g => f g = tag ∨ f g = tag + 1) w W2 := Keeps.of_below hb
    have e2 : Keeps (fun g => f g = tag ∨ f g = tag + 1) w W3 := e1.trans (hK3.mono fun x hx => .inr (h.fs x hx).1)
    exact e2.setCell (p := ⟨r, 0, none⟩) (.inl h.fr) _
  refine ⟨A2, c2, W3, fun g => if g = p then tag + 2 + n else if w.heap.size ≤ g then tag + 1 else f g, fun ty => ?_, hB3, fun g hg => ?_, hK, .slice A2 (n + 1) c2, fun t => if t = n then p else P t, fun t => if t = n then .slice none 0 0 else V t, ?_⟩
  · rw [hp, hW1, hW2]; exact hr3
  · show (if g = p then tag + 2 + n else if w.heap.size ≤ g then tag + 1 else f g) = f g
    rw [if_neg (by omega), if_neg (by omega)]
  · have hf : ∀ g, g < w.heap.size → (if g = p then tag + 2 + n else if w.heap.size ≤ g then tag + 1 else f g) = f g := fun g hg => by rw [if_neg (by omega), if_neg (by omega)]
    exact {
      blk := hB3.set_ 0 _
      sl := by
        have e : ptrCells (fun t => if t = n then p else P t) (n + 1) = ptrCells P n ++ [.pointer (some ⟨p, 0, none⟩)] := by
          rw [ptrCells_succ]
          congr 1
          · unfold ptrCells
            apply List.map_congr_left
            intro t ht
            simp at ht
            simp [show t ≠ n by omega]
          · simp
        rw [e]
        exact hS3.keeps hk4 (fun g hg e => hnr2 (by rw [hg, e]))
      fr := by rw [hf r hr]; exact h.fr
      fs := fun g hg => by
        have hs3 := hK3.size
        rcases hO3 with e | ⟨g', e, hg'⟩
        · rw [e] at hg
          have := hown g hg
          rw [hf g (by omega)]
          exact ⟨(h.fs g hg).1, Nat.lt_of_lt_of_le (by rw [hp]; exact this) hK.size⟩
        · obtain ⟨g2, off2, cap2, hv2, _, _, hlt, _⟩ := hS3.at_ (by omega)
          rw [e] at hg
          injection hg with hg
          subst hg
          rw [if_neg (by omega), if_pos (by omega)]
          refine ⟨rfl, ?_⟩
          rw [hv2] at e
          injection e with e
          subst e
          simpa [World.setCell] using hlt
      ix := fun t ht => by
        by_cases e : t = n
        · subst e
          simp only [if_true]
          rw [hl]
          have y2 := (hb2.block p (by omega)).trans hx1
          have y3 := (hK3.block p (by omega) (fun e => by have := hown p e; omega)).trans y2
          have y4 := (hk4.block p (by have := hK3.size; omega) (by omega)).trans y3
          exact ⟨y4, Sl.nil _ _ _ _, by simp [Value.ownBlock], by simp [Value.ownBlock]⟩
        · simp only [if_neg e]
          have htn : t < n := by omega
          exact (h.ix t htn).keeps hK (fun e => by have := h.fp t htn; omega) (fun g hg e => by have := (h.fv t htn g hg).1; omega)
      up := fun t ht => by
        by_cases e : t = n
        · subst e; rw [hl]; exact List.Pairwise.nil
        · exact h.up t (by omega)
      fp := fun t ht => by
        by_cases e : t = n
        · subst e; simp
        · have htn : t < n := by omega
          simp only [if_neg e]
          rw [hf _ (h.ix t htn).1.lt]; exact h.fp t htn
      fv := fun t ht g hg => by
        by_cases e : t = n
        · subst e; simp [Value.ownBlock] at hg
        · have htn : t < n := by omega
          simp only [if_neg e] at hg ⊢
          rw [hf _ ((h.ix t htn).2.2.2 g hg)]; exact h.fv t htn g hg }
theorem ts_zero {tag : Nat} {f : Nat → Nat} {r : Nat} {w : World} (ls : Nat → List Rw) (hB : Blk w r 90 #[.slice none 0 0]) : TsE tag (fun g => if g = r then tag else f g) r w 0 ls :=
  ⟨.slice none 0 0, fun _ => 0, fun _ => .slice none 0 0, { blk := hB, sl := Sl.nil _ _ _ _, fr := if_pos rfl, fs := by simp [Value.ownBlock], ix := by omega, up := by omega, fp := by omega, fv := by omega }⟩
end Go.Proofs.Ytkicnjbidbfajaa
