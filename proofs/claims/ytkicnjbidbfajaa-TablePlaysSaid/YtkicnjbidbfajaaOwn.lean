/- The statements' helpers for lists of rows that are handed in and out: Own, Kept, Spoil. -/
import Derived.Test.YtkicnjbidbfajaaRowSame
import Derived.BigQuiet
namespace Go.Proofs.Ytkicnjbidbfajaa
open Go.ChangeShapes Go.WideShapes Go.ChangeAt Go.RowKit
set_option linter.unusedVariables false
set_option linter.unusedSimpArgs false
/-- append(v, x...), x rows that can be read -/
theorem run_append_rs {P : Program} (w : World) (t ty e : TypeId) (i : TypeInfo) (z : Value) (bytes : Nat) (ht : P.underlying t = some (.slice e)) (hi : P.info? e = some i) (hz : i.zero = some z)
    (hsize : i.size = 2) (hby : i.bytes = bytes) (hzs : z.cells.size = 2)
    (v : Value) (n : Nat) (xs : List Value) (hown : Sl w e 2 v n xs) (x : Value) (m : Nat) (ys : List Rw) (hx : Rs w x m ys) (h63 : n + m ≤ maxLen) (hbytes : (n + m) * bytes ≤ 140737488355328) :
    ∃ v' w', (Builtin.append_ #[t, t] ty #[v, x]).run P w = .ok v' w' ∧ Sl w' e 2 v' (n + m) (xs ++ rowCells ys) ∧ Keeps (fun k => v.ownBlock = some k) w w' ∧ (v'.ownBlock = v.ownBlock ∨ ∃ g, v'.ownBlock = some g ∧ w.heap.size ≤ g ∧ g < w'.heap.size) := by
  rcases Nat.eq_zero_or_pos m with rfl | hm
  · obtain ⟨B, cap, rfl, hn, _⟩ := hown.form
    obtain ⟨A, c, rfl, _, _⟩ := hx.form
    have hy : ys = [] := List.eq_nil_of_length_eq_zero hx.1
    subst hy
    exact ⟨_, w, run_append_zero w t ty e i ht hi B A n cap c hn, by simpa [rowCells] using hown, Keeps.refl _ _, .inl rfl⟩
  · obtain ⟨g, off, c, rfl, _, _, _, hat, _⟩ := hx.at_ hm
    obtain ⟨v', w', hr, hS, hK, hO⟩ := run_append_sl w t ty e i z 2 bytes ht hi hz hsize hby hzs (by omega) v n xs hown ⟨g, off, none⟩ m c (rowCells ys) (by rw [rowCells_len, hx.1]) (fun j u hu => by rw [add_none]; exact hat j u hu) (rowCells_one ys) hm h63 hbytes
    refine ⟨v', w', hr, hS, hK, hO.imp id fun ⟨g', e, hg'⟩ => ⟨g', e, hg', ?_⟩⟩
    obtain ⟨g2, off2, cap2, rfl, _, _, hlt, _⟩ := hS.at_ (by omega)
    injection e with e
    subst e
    exact hlt
theorem wpList_append_rs {P : Program} {w : World} {ops : Array Oper} {rest : List Oper} {o : Oper} {a : Act} {Q : Exit → Act → World → Prop} (hgd : o.guard = none) (s x : Operand) (t : TypeId)
    (hop : o.op = .call { callee := .builtin .append, args := #[s, x], argTypes := #[t, t] })
    (e : TypeId) (i : TypeInfo) (z : Value) (bytes : Nat) (ht : P.underlying t = some (.slice e)) (hi : P.info? e = some i) (hz : i.zero = some z)
    (hsize : i.size = 2) (hby : i.bytes = bytes) (hzs : z.cells.size = 2)
    (v : Value) (n : Nat) (xs : List Value) (hs : a.eval s = v) (hown : Sl w e 2 v n xs) (y : Value) (m : Nat) (ys : List Rw) (hy : a.eval x = y) (hx : Rs w y m ys)
    (h63 : n + m ≤ maxLen) (hbytes : (n + m) * bytes ≤ 140737488355328)
    (h : ∀ v' w', Sl w' e 2 v' (n + m) (xs ++ rowCells ys) → Keeps (fun k => v.ownBlock = some k) w w' → (v'.ownBlock = v.ownBlock ∨ ∃ g, v'.ownBlock = some g ∧ w.heap.size ≤ g ∧ g < w'.heap.size) → wpList P ops Q rest (a.put o.dst v') w') : wpList P ops Q (o :: rest) a w :=
  wpList_plain hgd fun K hK => by
    obtain ⟨v', w', hr, h2, h3, h4⟩ := run_append_rs (P := P) w t o.type e i z bytes ht hi hz hsize hby hzs v n xs hown y m ys hx h63 hbytes
    unfold Oper.wp
    simp [execOp, hop, resolve, invoke, builtin, hs, hy, hr, Result.andThen]
    exact hK _ _ (h v' w' h2 h3 h4)
def OwnPost (a : List Rw) (f : Rw) (w : World) (e : Ending) (w' : World) : Prop :=
  ∃ g off, e = .returned (.slice (some ⟨g, off, none⟩) a.length (a.length + 3)) ∧ w.heap.size ≤ g ∧ g < w'.heap.size ∧ Sl w' 26 2 (.slice (some ⟨g, off, none⟩) (a.length + 3) (a.length + 3)) (a.length + 3) (rowCells (a ++ [f, f, f])) ∧ Below w.heap.size w w'
theorem Sl.less {w : World} {e size n cap c : Nat} {A : Option Addr} {xs : List Value} (h : Sl w e size (.slice A n cap) n xs) (hc : n ≤ c) (hcc : c ≤ cap) (h0 : 0 < c) : Sl w e size (.slice A n c) n xs := by
  refine ⟨h.1, ?_⟩
  rcases h.2 with ⟨A', hv, rfl⟩ | ⟨g, off, cap', cs, hv, hh, h1, h2, h3, h4, hc'⟩
  · simp at hv
    omega
  · simp at hv
    obtain ⟨rfl, rfl⟩ := hv
    have : c * size ≤ cap * size := Nat.mul_le_mul_right _ hcc
    exact .inr ⟨g, off, c, cs, rfl, hh, hc, h0, by omega, by omega, hc'⟩
set_option maxRecDepth 100000 in
theorem own_any (v : Value) (a : List Rw) (k : Int) (s : ByteArray) (w : World) (h : Rs w v a.length a) (hn : a.length ≤ 1000) :
    Calls Try.prog 13 #[v, .agg #[.int .i64 k, .string s]] w (OwnPost a (k, s) w) := by
  obtain ⟨i0, hi0, hz0, hz1, hz2⟩ := info_parts infoRow
  obtain ⟨A, cap, rfl, hlc, hcm⟩ := h.form
  unfold maxLen at hcm
  have H := Lib.hid h
  clear h
  obtain ⟨W0, hW0⟩ : ∃ W0, w.alloc (.cells #[.int .i64 k, .string s] 26) = W0 := ⟨_, rfl⟩
  go_enter Try.func13, Try.ntmps13
  go_upto_region 1 with fail
  have hb0 : Below w.heap.size w W0 := by rw [← hW0]; exact (Below.refl _ _).alloc (Nat.le_refl _) _
  have hx0 : W0.heap[w.heap.size]? = some (.cells #[.int .i64 k, .string s] 26 (0, 0)) := by rw [← hW0]; exact heap_alloc_new w _
  have hs0 : W0.heap.size = w.heap.size + 1 := by rw [← hW0]; simp
  have HB0 := Lib.hid hb0
  have HR0 := Lib.hid (H.out.below hb0 (Nat.le_refl _))
  clear hW0 hb0
  obtain ⟨b, hb⟩ : ∃ b, w.heap.size = b := ⟨_, rfl⟩
  rw [hb] at hx0 hs0 HB0 ⊢
  have HBS := Lib.hid hb
  clear hb
  go_upto_region 2 with (refine wpList_append_rs (by rfl) (.tmp 6) (.tmp 7) _ (by rfl) 26 i0 _ 24 Try.underlying22 hi0 hz0 hz1 hz2 rfl _ 0 [] (by rfl) (Sl.nil _ _ _ _) _ a.length a (by rfl) (HR0.out.below ((Below.refl W0.heap.size W0).alloc (Nat.le_refl _) _) (Nat.le_refl _)) (by unfold maxLen; omega) (by omega) ?_; intro v1 w1 hS hK hO; simp only [Nat.zero_add, List.nil_append] at hS; obtain ⟨A1, c1, rfl, hd1, hd2⟩ := hS.form)
  have hb1 : Below W0.heap.size W0 w1 := Keeps.below ((Below.refl W0.heap.size W0).alloc (Nat.le_refl _) _) hK (by simp) (fun x hx e => by simp [Value.ownBlock] at e; omega)
  have hO1 : ∀ g, (Value.slice A1 a.length c1).ownBlock = some g → W0.heap.size ≤ g ∧ g < w1.heap.size := fun g hg => by
    rcases hO with e | ⟨g', e, hg', hl⟩
    · rw [e] at hg
      simp [Value.ownBlock] at hg
      subst hg
      have := hK.size
      simp at this
      exact ⟨by omega, by omega⟩
    · rw [e] at hg
      injection hg with hg
      subst hg
      simp at hg'
      exact ⟨by omega, hl⟩
  have hx1 := (hb1.block b (by omega)).trans hx0
  have c0 : w1.cell? ⟨b, 0, none⟩ = some (.int .i64 k) := by rw [cells_of hx1]; rfl
  have c1' : w1.cell? ⟨b, 1, none⟩ = some (.string s) := by rw [cells_of hx1]; rfl
  have HS := Lib.hid hS
  have HO1 := Lib.hid hO1
  have HB1 := Lib.hid (HB0.out.trans (hb1.mono (by omega)))
  have hsz := hb1.size
  clear hS hK hO hb1 hO1 hx1 hx0
  have r3 : rowCells [(k, s), (k, s), (k, s)] = [.int .i64 k, .string s, .int .i64 k, .string s, .int .i64 k, .string s] := rfl
  have HN := Lib.hid (show Sl (w1.alloc (.cells #[.int .i64 k, .string s, .int .i64 k, .string s, .int .i64 k, .string s] 26)) 26 2 (.slice (some ⟨w1.heap.size, 0, none⟩) 3 3) 3 (rowCells [(k, s), (k, s), (k, s)]) from made_rows rfl (by omega) (by unfold maxLen; omega) (heap_alloc_new w1 _))
  go_upto_region 3 with (refine wpList_append_rs (by rfl) (.tmp 9) (.tmp 13) _ (by rfl) 26 i0 _ 24 Try.underlying22 hi0 hz0 hz1 hz2 rfl _ a.length (rowCells a) (by rfl) (HS.out.alloc _) _ 3 [(k, s), (k, s), (k, s)] (by rfl) (Rs.of HN.out) (by unfold maxLen; omega) (by omega) ?_; intro v2 w2 hS2 hK2 hO2)
  rw [← rowCells_app] at hS2
  obtain ⟨g, off, c2, rfl, hd3, hd4, hgl, _⟩ := hS2.at_ (by omega)
  unfold maxLen at hd4
  have hg1 : b ≤ g := by
    rcases hO2 with e | ⟨g', e, hg', _⟩
    · have := (HO1.out g (by rw [← e]; rfl)).1; omega
    · simp [Value.ownBlock] at e; simp at hg'; omega
  have HS2 := Lib.hid hS2
  have HB2 := Lib.hid (show Below b w w2 from Keeps.below (HB1.out.alloc (by omega) _) hK2 (by simp; omega) (fun x hx e => by have := (HO1.out x e).1; omega))
  clear hS2 hK2 hO2 HN c0 c1'
  have q1 : (0 : Int) ≤ (a.length : Int) + 3 - 3 := by omega
  have q2 : ((a.length : Int) + 3 - 3).toNat = a.length := by omega
  have q3 : (a.length : Int) + 3 - 3 ≤ (a.length : Int) + 3 := by omega
  have q4 : (a.length : Int) + 3 ≤ c2 := by omega
  have u1 : IntKind.i64.wrap ((a.length : Int) + 3 - 3) = (a.length : Int) + 3 - 3 := IntWalk.i64_in _ (by omega)
  go_wp2_with fail
  go_ret
  exact ⟨g, off, by simp, by rw [HBS.out]; exact hg1, hgl, HS2.out.less (Nat.le_refl _) hd3 (by omega), by rw [HBS.out]; exact HB2.out⟩
theorem rowCells_set2 (l : List Rw) (i : Nat) (k : Int) (v : ByteArray) (hi : i < l.length) : rowCells (l.set i (k, v)) = ((rowCells l).set (i * 2) (.int .i64 k)).set (i * 2 + 1) (.string v) := by
  induction l generalizing i with
  | nil => simp at hi
  | cons f l ih =>
    cases i with
    | zero => simp [rowCells_cons]
    | succ i =>
      rw [List.set_cons_succ, rowCells_cons, rowCells_cons, show (i + 1) * 2 = i * 2 + 1 + 1 by omega, List.set_cons_succ, List.set_cons_succ, List.set_cons_succ, List.set_cons_succ, ih i (by simpa using hi)]
set_option maxRecDepth 100000 in
theorem spoil_any (v : Value) (l : List Rw) (w : World) (h : Sl w 26 2 v l.length (rowCells l)) (hn : l.length ≤ 2000) :
    Calls Try.prog 17 #[v] w fun e w' => (∃ u, e = .returned u) ∧ Keeps (fun g => v.ownBlock = some g) w w' := by
  obtain ⟨A, cap, rfl, hlc, hcm⟩ := h.form
  unfold maxLen at hcm
  have H := Lib.hid h
  have hK0 : Keeps (fun g => (Value.slice A l.length cap).ownBlock = some g) w (w.alloc (.cells #[.int .i64 0, .string ⟨#[]⟩] 26)) := (Keeps.refl _ w).alloc _
  have hZ0 : (w.alloc (.cells #[.int .i64 0, .string ⟨#[]⟩] 26)).heap[w.heap.size]? = some (.cells #[.int .i64 0, .string ⟨#[]⟩] 26 (0, 0)) := heap_alloc_new w _
  have hS0 : Sl (w.alloc (.cells #[.int .i64 0, .string ⟨#[]⟩] 26)) 26 2 (.slice A l.length cap) l.length (rowCells l) := H.out.alloc _
  have HK0 := Lib.hid hK0
  have HZ0 := Lib.hid hZ0
  have HS0 := Lib.hid hS0
  clear h hK0 hZ0 hS0
  have hob := Lib.hid (show ∀ g, (Value.slice A l.length cap).ownBlock = some g → g < w.heap.size ∨ l.length = 0 from fun g hg => by
    rcases Nat.eq_zero_or_pos l.length with e | e
    · exact .inr e
    · obtain ⟨g', off, cap', hv, _, _, hl, _⟩ := H.out.at_ e
      rw [hv] at hg; injection hg with hg; subst hg; exact .inl hl)
  go_enter Try.func17, Try.ntmps17
  go_upto_region 2 with fail
  generalize World.alloc w _ = w0 at *
  generalize w.heap.size = b at *
  go_loopw [3] (fun s3 wr => ∃ (j : Nat) (l' : List Rw), j ≤ l.length ∧ s3 = .int .i64 j ∧ l'.length = l.length ∧ Sl wr 26 2 (.slice A l.length cap) l.length (rowCells l') ∧ wr.heap[b]? = some (.cells #[.int .i64 0, .string ⟨#[]⟩] 26 (0, 0)) ∧ Keeps (fun g => (Value.slice A l.length cap).ownBlock = some g) w wr) (fun s3 _ => l.length - (intOf s3).toNat)
  case atStart => exact ⟨0, l, by omega, rfl, rfl, HS0.out, HZ0.out, HK0.out⟩
  case round =>
    clear HS0 HZ0 HK0
    obtain ⟨j, l', hj, rfl, hll, hS, hZ, hK⟩ := hrel
    have HS := Lib.hid hS
    have HZ := Lib.hid hZ
    have HK := Lib.hid hK
    clear hS hZ hK
    by_cases hlt : j < l.length
    · obtain ⟨g, off, cap', hv, _, _, hg, hat, hfz⟩ := HS.out.at_ (by omega)
      simp at hv
      obtain ⟨rfl, rfl⟩ := hv
      have hgb : g < b := by rcases hob.out g rfl with h | h <;> omega
      have z0 : wr.cell? ⟨b, 0, none⟩ = some (.int .i64 0) := by rw [cells_of HZ.out]; rfl
      have z1 : wr.cell? ⟨b, 1, none⟩ = some (.string ⟨#[]⟩) := by rw [cells_of HZ.out]; rfl
      have x0 := hat _ _ (rowCells_at l' j (by omega)).1
      have x1 : wr.cell? ⟨g, off + j * 2 + 1, none⟩ = _ := hat _ _ (rowCells_at l' j (by omega)).2
      have fz := hfz
      have q1 : (0 : Int) ≤ j := by omega
      have q2 : (j : Int) < l.length := by omega
      have u1 : IntKind.i64.wrap ((j : Int) + 1) = (j : Int) + 1 := IntWalk.i64_in _ (by omega)
      have hS1 := Sl.set HS.out (by omega) (j * 2) (.int .i64 0) (by rw [rowCells_len]; omega)
      have hS2 := Sl.set hS1 (by omega) (j * 2 + 1) (.string ⟨#[]⟩) (by rw [List.length_set, rowCells_len]; omega)
      rw [← rowCells_set2 l' j 0 ⟨#[]⟩ (by omega)] at hS2
      have hK2 := (HK.out.setCell (p := ⟨g, off + j * 2, none⟩) rfl (.int .i64 0)).setCell (p := ⟨g, off + (j * 2 + 1), none⟩) rfl (.string ⟨#[]⟩)
      have hkk : Keeps (· = g) wr ((wr.setCell ⟨g, off + j * 2, none⟩ (.int .i64 0)).setCell ⟨g, off + (j * 2 + 1), none⟩ (.string ⟨#[]⟩)) := ((Keeps.refl (· = g) wr).setCell (p := ⟨g, off + j * 2, none⟩) rfl _).setCell (p := ⟨g, off + (j * 2 + 1), none⟩) rfl _
      have hZ2 := hkk.at_ HZ.out (by omega)
      have HF := Lib.hid (show ∃ l2 : List Rw, l2.length = l.length ∧ Sl ((wr.setCell ⟨g, off + j * 2, none⟩ (.int .i64 0)).setCell ⟨g, off + j * 2 + 1, none⟩ (.string ⟨#[]⟩)) 26 2 (.slice (some ⟨g, off, none⟩) l.length cap) l.length (rowCells l2) ∧ ((wr.setCell ⟨g, off + j * 2, none⟩ (.int .i64 0)).setCell ⟨g, off + j * 2 + 1, none⟩ (.string ⟨#[]⟩)).heap[b]? = some (.cells #[.int .i64 0, .string ⟨#[]⟩] 26 (0, 0)) ∧ Keeps (fun x => (Value.slice (some ⟨g, off, none⟩) l.length cap).ownBlock = some x) w ((wr.setCell ⟨g, off + j * 2, none⟩ (.int .i64 0)).setCell ⟨g, off + j * 2 + 1, none⟩ (.string ⟨#[]⟩)) from ⟨l'.set j (0, ⟨#[]⟩), by rw [List.length_set]; exact hll, hS2, hZ2, hK2⟩)
      clear hat hS1 hS2 hK2 hkk hZ2 HS HZ HK
      go_upto_region 3 with fail
      clear x0 x1 z0 z1 fz
      generalize World.setCell _ ⟨g, off + j * 2 + 1, none⟩ _ = w5 at *
      go_wp2_with fail
      go_roundw
      case rel => obtain ⟨l2, f1, f2, f3, f4⟩ := HF.out; exact ⟨j + 1, l2, by omega, by go_num, f1, f2, f3, f4⟩
      case measure => simp [intOf]; omega
    · obtain rfl : j = l.length := by omega
      have q2 : ¬ (l.length : Int) < l.length := by omega
      go_wp2_with fail
      go_end0
      exact ⟨⟨_, rfl⟩, HK.out⟩
theorem rows_part {w : World} {A : Option Addr} {l m : List Rw} {cap : Nat} (h : Sl w 26 2 (.slice A (l.length + m.length) cap) (l.length + m.length) (rowCells (l ++ m))) : Sl w 26 2 (.slice A l.length cap) l.length (rowCells l) := by
  have h1 := h.take l.length (by omega)
  rw [← rowCells_take, List.take_left] at h1
  exact h1
set_option maxRecDepth 100000 in
theorem kept_any (g off : Nat) (a : List Rw) (k : Int) (s : ByteArray) (v2 : Value) (w : World) (hS : Sl w 26 2 (.slice (some ⟨g, off, none⟩) (a.length + 3) (a.length + 3)) (a.length + 3) (rowCells (a ++ [(k, s), (k, s), (k, s)]))) (hR : Rs w v2 a.length a) (hn : a.length ≤ 1000) :
    Calls Try.prog 15 #[.slice (some ⟨g, off, none⟩) a.length (a.length + 3), v2, .agg #[.int .i64 k, .string s]] w fun e w' => e = .returned (.bool true) ∧ Below w.heap.size w w' := by
  obtain ⟨A2, cap2, rfl, hlc, hcm⟩ := hR.form
  unfold maxLen at hcm
  have hb0 : Below w.heap.size w (w.alloc (.cells #[.int .i64 k, .string s] 26)) := (Below.refl _ _).alloc (Nat.le_refl _) _
  have hx0 : (w.alloc (.cells #[.int .i64 k, .string s] 26)).heap[w.heap.size]? = some (.cells #[.int .i64 k, .string s] 26 (0, 0)) := heap_alloc_new w _
  have HB0 := Lib.hid hb0
  have HX0 := Lib.hid hx0
  have HS0 := Lib.hid (hS.alloc (.cells #[.int .i64 k, .string s] 26))
  have HR0 := Lib.hid (hR.below hb0 (Nat.le_refl _))
  have hgl : g < w.heap.size := by
    obtain ⟨g', off', cap', hv, _, _, hlt, _⟩ := hS.at_ (by omega)
    simp at hv
    obtain ⟨⟨rfl, rfl⟩, rfl⟩ := hv
    exact hlt
  clear hS hR hb0 hx0
  go_enter Try.func15, Try.ntmps15
  go_upto_region 1 with fail
  generalize World.alloc w _ = w0 at *
  obtain ⟨b, hb⟩ : ∃ b, w.heap.size = b := ⟨_, rfl⟩
  rw [hb] at HX0 HB0 hgl ⊢
  have HBS := Lib.hid hb
  clear hb
  have q1 : (0 : Int) ≤ (a.length : Int) + 3 := by omega
  have q2 : ((a.length : Int) + 3).toNat = a.length + 3 := by omega
  have q3 : ¬ ((a.length : Int) + 3 < (a.length : Int) + 3) := by omega
  have u1 : IntKind.i64.wrap ((a.length : Int) + 3) = (a.length : Int) + 3 := IntWalk.i64_in _ (by omega)
  go_wp2_with fail
  refine (plain_row _ _ a.length a _ (Rs.of (rows_part (m := [(k, s), (k, s), (k, s)]) HS0.out)) HR0.out (by omega)).mono ?_
  rintro e w1 ⟨rfl, hb1⟩
  have hs0 : b < w0.heap.size := lt_of_block HX0.out
  have HX1 := Lib.hid ((hb1.block b hs0).trans HX0.out)
  have HS1 := Lib.hid (HS0.out.below hb1)
  have HB1 := Lib.hid (HB0.out.trans (hb1.mono (by omega)))
  clear hb1 HS0 HR0 HX0
  go_wp2_with fail
  go_loopw [8] (fun s8 wr => ∃ j : Nat, a.length ≤ j ∧ j ≤ a.length + 3 ∧ s8 = .int .i64 j ∧ ∃ q, wr = w1.drewN q) (fun s8 _ => a.length + 3 - (intOf s8).toNat)
  case atStart => exact ⟨a.length, by omega, by omega, rfl, 0, rfl⟩
  case round =>
    obtain ⟨j, hj1, hj2, rfl, q, rfl⟩ := hrel
    by_cases hlt : j < a.length + 3
    · obtain ⟨g', off', cap', hv, _, _, _, hat, _⟩ := HS1.out.at_ (by omega)
      simp at hv
      obtain ⟨⟨rfl, rfl⟩, rfl⟩ := hv
      have he : (a ++ [(k, s), (k, s), (k, s)])[j]? = some (k, s) := by
        rw [List.getElem?_append_right hj1]
        have : j - a.length = 0 ∨ j - a.length = 1 ∨ j - a.length = 2 := by omega
        rcases this with e | e | e <;> rw [e] <;> rfl
      obtain ⟨hl, he⟩ := List.getElem?_eq_some_iff.1 he
      have ha := rowCells_at _ j hl
      rw [he] at ha
      have x0 : w1.cell? ⟨g, off + j * 2, none⟩ = some (.int .i64 k) := hat _ _ ha.1
      have x1 : w1.cell? ⟨g, off + j * 2 + 1, none⟩ = some (.string s) := hat _ _ ha.2
      have z0 : w1.cell? ⟨b, 0, none⟩ = some (.int .i64 k) := by rw [cells_of HX1.out]; rfl
      have z1 : w1.cell? ⟨b, 1, none⟩ = some (.string s) := by rw [cells_of HX1.out]; rfl
      have p1 : (0 : Int) ≤ j := by omega
      have p2 : (j : Int) < (a.length : Int) + 3 := by omega
      have u2 : IntKind.i64.wrap ((j : Int) + 1) = (j : Int) + 1 := IntWalk.i64_in _ (by omega)
      clear hat he hl ha
      go_wp2_with fail
      go_quiet (fail)
      go_wp2_with fail
      go_roundw
      case rel => exact ⟨j + 1, by omega, by omega, by go_num, _, rfl⟩
      case measure => simp [intOf]; omega
    · obtain rfl : j = a.length + 3 := by omega
      have p2 : ¬ ((a.length : Int) + 3 < (a.length : Int) + 3) := by omega
      go_wp2_with fail
      go_ret
      exact ⟨rfl, by rw [HBS.out]; exact HB1.out.trans ⟨rfl, rfl, rfl, Nat.le_refl _, fun _ _ => rfl⟩⟩
end Go.Proofs.Ytkicnjbidbfajaa
