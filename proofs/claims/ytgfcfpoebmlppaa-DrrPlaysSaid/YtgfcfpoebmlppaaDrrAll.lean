/- Package drr: all of them; lists of ints held against each other. -/
import Derived.Test.YtgfcfpoebmlppaaDrrDel2
namespace Go.Proofs.Ytgfcfpoebmlppaa
open Go.ChangeShapes Go.WideShapes Go.ChangeAt Go.RowKit
set_option linter.unusedVariables false
set_option linter.unusedSimpArgs false
theorem info3 : (Try.prog.info? 3).map (fun i => (i.zero, i.size, i.bytes)) = some (some (.int .i64 0), 1, 8) := by kernel_rfl
def idCells (l : List Mem) : List Value := l.map fun m => .int .i64 m.2
theorem idCells_take (l : List Mem) (k : Nat) (h : k < l.length) : idCells (l.take (k + 1)) = idCells (l.take k) ++ [.int .i64 l[k].2] := by
  unfold idCells
  rw [List.take_succ_eq_append_getElem h, List.map_append]; rfl
theorem alloc2_new (w : World) (o p : Obj) : ((w.alloc o).alloc p).heap[w.heap.size + 1]? = some p := by
  have h := heap_alloc_new (w.alloc o) p
  rwa [World.size_alloc] at h
def AllPost (l : List Mem) (w : World) (e : Ending) (w' : World) : Prop := ∃ v', e = .returned v' ∧ Sl w' 3 1 v' l.length (idCells l) ∧ Below w.heap.size w w'
set_option maxRecDepth 100000 in
set_option maxHeartbeats 1000000 in
theorem all_any (p : Nat) (v : Value) (l : List Mem) (at_ : Nat) (turn : Bool) (left : Int) (w : World) (h : drrAt w p v l at_ turn left) (hs : l.length ≤ 300) :
    Calls Try.prog 18 #[.pointer (some ⟨p, 0, none⟩)] w (AllPost l w) := by
  obtain ⟨i0, hi0, hz0, hz1, hz2⟩ := info_parts info3
  obtain ⟨A, cap, rfl, hlc, hcm⟩ := h.2.1.form
  unfold maxLen at hcm
  have c0 := h.1.cell 0
  simp at c0
  have H := Lib.hid h
  clear h
  go_enter Try.func18, Try.ntmps18
  go_wp2_with fail
  go_loopw [3, 11] (fun v i wr => ∃ k : Nat, k ≤ l.length ∧ i = .int .i64 k ∧ Sl wr 3 1 v k (idCells (l.take k)) ∧ (∀ g, v.ownBlock = some g → w.heap.size ≤ g) ∧ Below w.heap.size w wr) (fun _ i _ => l.length - (intOf i).toNat)
  case atStart => exact ⟨0, by omega, rfl, Sl.nil _ _ _ _, by simp [Value.ownBlock], Below.refl _ _⟩
  case round =>
    obtain ⟨k, hk, rfl, hS, hO, hb⟩ := hrel
    by_cases hlt : k < l.length
    · obtain ⟨g, off, cap', hv, _, _, hg, hat, _⟩ := H.out.2.1.at_ (by omega)
      simp at hv
      obtain ⟨rfl, rfl⟩ := hv
      have x0 : wr.cell? ⟨g, off + k * 2, none⟩ = some (.int .i64 l[k].1) := (hb.cell hg).trans (hat _ _ (memCells_at l k hlt).1)
      have x1 : wr.cell? ⟨g, off + k * 2 + 1, none⟩ = some (.int .i64 l[k].2) := (hb.cell hg).trans (hat _ _ (memCells_at l k hlt).2)
      have hq : (k : Int) < l.length := by omega
      obtain ⟨A1, c1, rfl, hc1, hc2⟩ := hS.form
      have HT := Lib.hid (idCells_take l k hlt)
      have HS := Lib.hid hS
      have HO := Lib.hid hO
      have HBb := Lib.hid hb
      clear hS hO hb hat
      generalize l[k].1 = wt at *
      generalize l[k].2 = id at *
      go_wp2_with (at_builtin; refine wpList_append_sl (by rfl) _ _ _ (by rfl) 3 i0 _ 1 8 Try.underlying22 hi0 hz0 hz1 hz2 rfl (by omega) _ k (idCells (l.take k)) (by rfl) ((HS.out.alloc _).alloc _) _ 1 1 [.int .i64 id] (by rfl) (by rfl) (World.news_of_block (cs := #[.int .i64 id]) (t := 3) (fr := (0, 0)) (by exact alloc2_new _ _ _)) (by simp [Value.oneCell']) (by omega) (by unfold maxLen; omega) (by omega) ?_; intro v1 w2 hS hK1 hO1)
      have hb2 : Below w.heap.size w w2 := Keeps.below ((HBb.out.alloc HBb.out.size _).alloc (by simp; have := HBb.out.size; omega) _) hK1 (by simp; have := HBb.out.size; omega) (fun x hx e => by have := HO.out x e; omega)
      have hO2 : ∀ g, v1.ownBlock = some g → w.heap.size ≤ g := by
        intro x hx
        rcases hO1 with e | ⟨x', e, hx'⟩
        · exact HO.out x (by rw [← e]; exact hx)
        · rw [e] at hx; injection hx with hx; subst hx; simp at hx'; have := HBb.out.size; omega
      have hS2 : Sl w2 3 1 v1 (k + 1) (idCells (l.take (k + 1))) := by rw [HT.out]; exact hS
      have F1 := Lib.hid hb2
      have F2 := Lib.hid hO2
      have F3 := Lib.hid hS2
      clear hS hK1 hO1 hb2 hO2 hS2 x0 x1 HS HO HBb HT
      go_wp2_with fail
      go_roundw
      case rel => exact ⟨k + 1, by omega, by go_num, F3.out, F2.out, F1.out⟩
      case measure => simp [intOf]; omega
    · obtain rfl : k = l.length := by omega
      have hq : ¬ (l.length : Int) < l.length := by omega
      have HF := Lib.hid (show Sl wr 3 1 u3 l.length (idCells l) by rw [List.take_length] at hS; exact hS)
      have HBb := Lib.hid hb
      clear hS hO hb
      go_wp2_with fail
      go_ret
      exact ⟨_, rfl, HF.out, HBb.out⟩
end Go.Proofs.Ytgfcfpoebmlppaa
