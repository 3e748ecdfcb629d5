/- Package table: Load. -/
import Derived.Test.YtkicnjbidbfajaaPair
namespace Go.Proofs.Ytkicnjbidbfajaa
open Go.ChangeShapes Go.WideShapes Go.ChangeAt Go.RowKit
set_option linter.unusedVariables false
set_option linter.unusedSimpArgs false
set_option maxRecDepth 100000 in
theorem inewB (v : Value) (a : List Rw) (w : World) (h : Rs w v a.length a) (hn : a.length ≤ 1500) :
    Calls Try.prog 14 #[v] w fun e w' => e = .returned (.pointer (some ⟨w.heap.size, 0, none⟩)) ∧ Ix w w.heap.size (fun _ => False) w' (putAll a) := by
  obtain ⟨A, cap, rfl, hlc, hcm⟩ := h.form
  unfold maxLen at hcm
  have H := Lib.hid h
  clear h
  go_enter Try.func14, Try.ntmps14
  go_wp2_with fail
  have h0 : Ix w w.heap.size (fun _ => False) (w.alloc (.cells #[.slice none 0 0] 79)) [] :=
    ⟨.slice none 0 0, ⟨heap_alloc_new w _, Sl.nil _ _ _ _, by simp [Value.ownBlock], by simp [Value.ownBlock]⟩, by simp [Value.ownBlock], by simp, (Below.refl _ _).alloc (Nat.le_refl _) _, List.Pairwise.nil⟩
  have H0 := Lib.hid h0
  clear h0
  obtain ⟨r, hr⟩ : ∃ r, w.heap.size = r := ⟨_, rfl⟩
  rw [hr] at H0 ⊢
  have HR := Lib.hid hr
  clear hr
  go_loopw [5, 10] (fun s5 s10 wr => ∃ j : Nat, j ≤ a.length ∧ s10 = .int .i64 j ∧ Ix w r (fun _ => False) wr (putAll (a.take j))) (fun _ s10 _ => a.length - (intOf s10).toNat)
  case atStart => exact ⟨0, by omega, rfl, H0.out⟩
  case round =>
    clear H0
    obtain ⟨j, hj, rfl, hI⟩ := hrel
    have HI := Lib.hid hI
    clear hI
    by_cases hlt : j < a.length
    · obtain ⟨g, off, cap', hv, _, _, hg, hat, _⟩ := H.out.at_ (by omega)
      simp at hv
      obtain ⟨rfl, rfl⟩ := hv
      have hb := HI.out.low
      have hgr : g < r := by have := HR.out; omega
      have x0 : wr.cell? ⟨g, off + j * 2, none⟩ = some (.int .i64 a[j].1) := (hb.cell hgr).trans (hat _ _ (rowCells_at a j hlt).1)
      have x1 : wr.cell? ⟨g, off + j * 2 + 1, none⟩ = some (.string a[j].2) := (hb.cell hgr).trans (hat _ _ (rowCells_at a j hlt).2)
      have HP := Lib.hid (putAll_take a j hlt)
      have hlen : (putAll (a.take j)).length ≤ 2000 := by have := all_len (a.take j); simp at this; omega
      have q1 : (0 : Int) ≤ j := by omega
      have q2 : (j : Int) < a.length := by omega
      have u1 : IntKind.i64.wrap ((j : Int) + 1) = (j : Int) + 1 := IntWalk.i64_in _ (by omega)
      have hlt2 := Lib.hid hlt
      generalize a[j].1 = k at *
      generalize a[j].2 = s at *
      clear hat hb hlt
      go_wp2_with fail
      have hI2 := HI.out.below ((Below.refl wr.heap.size wr).alloc (Nat.le_refl _) (.cells #[.int .i64 k, .string s] 26))
      refine (iput k s hI2 hlen (by simp)).mono ?_
      rintro e w2 ⟨rfl, h2, _⟩
      have H2 := Lib.hid h2
      clear h2 hI2 HI x0 x1
      go_wp2_with fail
      go_roundw
      case rel => exact ⟨j + 1, by have := hlt2.out; omega, by go_num, by rw [HP.out]; exact H2.out⟩
      case measure => have := hlt2.out; simp [intOf]; omega
    · obtain rfl : j = a.length := by omega
      have q2 : ¬ ((a.length : Int) < a.length) := by omega
      have HI2 := Lib.hid (show Ix w r (fun _ => False) wr (putAll a) by have := HI.out; rwa [List.take_length] at this)
      clear HI
      go_wp2_with fail
      go_ret
      exact ⟨by rw [HR.out]; rfl, by rw [HR.out]; exact HI2.out⟩
theorem ptrCells_set (P : Nat → Nat) (n t p : Nat) : (ptrCells P n).set t (.pointer (some ⟨p, 0, none⟩)) = ptrCells (fun s => if s = t then p else P s) n := by
  apply List.ext_getElem?
  intro i
  rw [List.getElem?_set]
  unfold ptrCells
  by_cases h : t = i
  · subst h
    by_cases h2 : t < n <;> simp [h2]
  · by_cases h2 : i < n
    · simp [h, h2, Ne.symm h]
    · simp [h, h2]
section
variable {tag : Nat} {f f' : Nat → Nat} {r n : Nat} {w w' : World} {ls : Nat → List Rw} {sv : Value} {P : Nat → Nat} {V : Nat → Value}
/-- one table has a new index -/
theorem Ts.load {t p g off cap : Nat} {v' : Value} {l' : List Rw} (h : Ts tag f r w n ls (.slice (some ⟨g, off, none⟩) n cap) P V) (ht : t < n) (hb : Below w.heap.size w w') (hp : w.heap.size ≤ p) (hI : ixAt w' p v' l') (hO : ∀ x, v'.ownBlock = some x → p ≤ x) (hU : Up l') :
    Ts tag (fun x => if w.heap.size ≤ x then tag + 2 + t else f x) r (w'.setCell ⟨g, off + t, none⟩ (.pointer (some ⟨p, 0, none⟩))) n (updT ls t l') (.slice (some ⟨g, off, none⟩) n cap) (fun s => if s = t then p else P s) (fun s => if s = t then v' else V s) ∧
    Keeps (fun x => f x = tag + 1) w (w'.setCell ⟨g, off + t, none⟩ (.pointer (some ⟨p, 0, none⟩))) := by
  have h2 := h.below hb
  have hg := h.fs g rfl
  have k : Keeps (· = g) w' (w'.setCell ⟨g, off + t, none⟩ (.pointer (some ⟨p, 0, none⟩))) := (Keeps.refl (· = g) w').setCell (p := ⟨g, off + t, none⟩) rfl _
  have hr := h.blk.lt
  have hno : ∀ x y, f x = tag + y → y ≠ 1 → ¬ x = g := fun x y hx hy e => by have := hg.1; subst e; omega
  have hff : ∀ x, x < w.heap.size → (if w.heap.size ≤ x then tag + 2 + t else f x) = f x := fun x hx => if_neg (by omega)
  have hs := hb.size
  have hK : Keeps (fun x => f x = tag + 1) w (w'.setCell ⟨g, off + t, none⟩ (.pointer (some ⟨p, 0, none⟩))) := (Keeps.of_below hb).setCell (p := ⟨g, off + t, none⟩) hg.1 _
  refine ⟨{
    blk := k.at_ h2.blk (hno r 0 (by rw [h.fr]; rfl) (by omega))
    sl := by
      rw [← ptrCells_set]
      exact Sl.set h2.sl (by omega) t _ (by simp [ptrCells]; omega)
    fr := by rw [hff r hr]; exact h.fr
    fs := fun x hx => ⟨by rw [hff x (h.fs x hx).2]; exact (h.fs x hx).1, Nat.lt_of_lt_of_le (h.fs x hx).2 hK.size⟩
    ix := fun s hs => by
      by_cases e : s = t
      · subst e
        simp only [updT, if_true]
        exact hI.keeps k (by omega) (fun x hx e => by have := hO x hx; omega)
      · simp only [updT, if_neg e]
        exact (h2.ix s hs).keeps k (hno (P s) (2 + s) (by rw [h.fp s hs]; omega) (by omega)) (fun x hx => hno x (2 + s) (by rw [(h.fv s hs x hx).1]; omega) (by omega))
    up := fun s hs => by
      by_cases e : s = t
      · simp only [updT, e, if_true]; exact hU
      · simp only [updT, if_neg e]; exact h.up s hs
    fp := fun s hs => by
      by_cases e : s = t
      · subst e; simp only [if_true]; exact if_pos hp
      · simp only [if_neg e]; rw [hff (P s) (h.ix s hs).1.lt]; exact h.fp s hs
    fv := fun s hs x hx => by
      by_cases e : s = t
      · subst e
        simp only [if_true] at hx ⊢
        have := hO x hx
        exact ⟨if_pos (by omega), this⟩
      · simp only [if_neg e] at hx ⊢
        rw [hff x ((h.ix s hs).2.2.2 x hx)]
        exact h.fv s hs x hx }, hK⟩
def LoadS (r : Nat) (sv : Value) (w : World) : Prop := Blk w r 90 #[sv]
def LoadPost (tag : Nat) (f : Nat → Nat) (r : Nat) (n : Nat) (ls' : Nat → List Rw) (w : World) (e : Ending) (w' : World) : Prop :=
  e = .returned (.bool true) ∧ ∃ f', (∀ g, g < w.heap.size → f' g = f g) ∧ TsE tag f' r w' n ls' ∧ Keeps (fun g => f g = tag + 1) w w'
theorem tload_no (t : Int) (v : Value) (h : Ts tag f r w n ls sv P V) (ht : ¬ (0 ≤ t ∧ t < n)) : Calls Try.prog 38 #[.pointer (some ⟨r, 0, none⟩), .int .i64 t, v] w fun e w' => e = .returned (.bool false) ∧ w = w' := by
  have q1 : decide (0 ≤ t ∧ t < n) = false := decide_eq_false ht
  have H := Lib.hid h
  clear h ht
  go_enter Try.func38, Try.ntmps38
  go_wp2_with fail
  refine (thas _ H.out).mono ?_
  rintro e w1 ⟨rfl, rfl⟩
  rw [q1]
  go_wp2_with fail
  refine (thas _ H.out).mono ?_
  rintro e w1 ⟨rfl, rfl⟩
  rw [q1]
  go_wp2_with fail
  go_ret
  exact ⟨rfl, rfl⟩
set_option maxRecDepth 100000 in
set_option maxHeartbeats 1000000 in
theorem tload (t : Nat) (v : Value) (a : List Rw) (h : Ts tag f r w n ls sv P V) (ht : t < n) (hn : n ≤ 8) (hR : Rs w v a.length a) (ha : a.length ≤ 1500) :
    Calls Try.prog 38 #[.pointer (some ⟨r, 0, none⟩), .int .i64 t, v] w (LoadPost tag f r n (updT ls t (putAll a)) w) := by
  obtain ⟨g, off, cap, rfl, h1, h2, h3⟩ := h.at_ t ht
  unfold maxLen at h2
  have q1 : decide (0 ≤ (t : Int) ∧ (t : Int) < n) = true := decide_eq_true (by omega)
  have q2 : (0 : Int) ≤ t := by omega
  have q3 : (t : Int) < n := by omega
  have H := Lib.hid h
  have HR := Lib.hid hR
  clear h hR h3
  go_enter Try.func38, Try.ntmps38
  go_wp2_with fail
  refine (thas _ H.out).mono ?_
  rintro e w1 ⟨rfl, rfl⟩
  rw [q1]
  go_upto_region 2 with fail
  have hS0 : LoadS r (.slice (some ⟨g, off, none⟩) n cap) w.drew := H.out.blk
  have hne : Nonempty (WIn (LoadS r (.slice (some ⟨g, off, none⟩) n cap))) := ⟨⟨_, hS0⟩⟩
  have z0 : ∀ y : WIn (LoadS r (.slice (some ⟨g, off, none⟩) n cap)), y.w.cell? ⟨r, 0, none⟩ = some (.slice (some ⟨g, off, none⟩) n cap) := fun y => y.ok.cell 0
  have HS0 := Lib.hid hS0
  clear hS0
  refine wp_region_noPanic ?_
  refine wp_region_held_drew (S := fun w' => LoadS r (.slice (some ⟨g, off, none⟩) n cap) w') (by kernel_rfl) HS0.out (fun hHeld => ?_)
  (refine takeE (i := 0) rfl (by kernel_rfl) (by kernel_rfl) (by kernel_rfl) (fun _ _ _ _ h => h) hHeld (fun K hK => ?_); go_simp; refine hK _ ?_; clear hK K)
  (refine takeE (i := 1) rfl (by kernel_rfl) (by kernel_rfl) (by kernel_rfl) (fun _ _ _ _ h => h) hHeld (fun K hK => ?_); go_simp; refine hK _ ?_; clear hK K)
  (refine takeE (i := 2) rfl (by kernel_rfl) (by kernel_rfl) (by kernel_rfl) (fun _ _ _ _ h => h) hHeld (fun K hK => ?_); go_simp; refine hK _ ?_; clear hK K)
  (refine takeE (i := 3) rfl (by kernel_rfl) (by kernel_rfl) (by kernel_rfl) (fun _ _ _ _ h => h) hHeld (fun K hK => ?_); go_simp; refine hK _ ?_; clear hK K)
  (refine takeE (i := 4) rfl (by kernel_rfl) (by kernel_rfl) (by kernel_rfl) (fun _ _ _ _ h => h) hHeld (fun K hK => ?_); go_simp; refine hK _ ?_; clear hK K)
  (refine takeE (i := 5) rfl (by kernel_rfl) (by kernel_rfl) (by kernel_rfl) (fun _ _ _ _ h => h) hHeld (fun K hK => ?_); go_simp; refine hK _ ?_; clear hK K)
  refine wpAnyH_ready (rs := [6]) (by kernel_rfl) (by simp) ?_
  refine AllReadyH.cons rfl (fun K hK => ?_) AllReadyH.nil
  go_simp
  refine (inewB v a w.drew (HR.out.below (r := w.heap.size) ⟨rfl, rfl, rfl, Nat.le_refl _, fun _ _ => rfl⟩ (Nat.le_refl _)) ha).mono ?_
  rintro e w6 ⟨rfl, hI6⟩
  have hb6 : Below w.heap.size w w6 := (Below.drew (Below.refl _ _)).trans hI6.low
  refine hK.out _ _ (H.out.blk.below hb6 H.out.blk.lt) (fun hHeld => ?_)
  clear hK K
  obtain ⟨v6, hx6, hO6, _, _, hU6⟩ := hI6
  obtain ⟨hT7, hK7⟩ := H.out.load ht hb6 (Nat.le_refl _) hx6 (fun x hx => (hO6 x hx).1) hU6
  have h6 := H.out.below hb6
  obtain ⟨g', off', cap', hv', _, _, hgl, hat, hfz⟩ := h6.sl.at_ (by omega)
  simp at hv'
  obtain ⟨⟨rfl, rfl⟩, rfl⟩ := hv'
  have x0 := hat t _ (ptrCells_at P n t ht)
  have hkeep : Keeps (· = g) w6 (w6.setCell ⟨g, off + t, none⟩ (.pointer (some ⟨w.heap.size, 0, none⟩))) := (Keeps.refl (· = g) w6).setCell (p := ⟨g, off + t, none⟩) rfl _
  have HS7 := Lib.hid (show LoadS r (.slice (some ⟨g, off, none⟩) n cap) (w6.setCell ⟨g, off + t, none⟩ (.pointer (some ⟨w.heap.size, 0, none⟩))) from hT7.blk)
  have HF := Lib.hid (show LoadPost tag f r n (updT ls t (putAll a)) w (.returned (.bool true)) (w6.setCell ⟨g, off + t, none⟩ (.pointer (some ⟨w.heap.size, 0, none⟩))) from ⟨rfl, _, fun x hx => if_neg (by omega), ⟨_, _, _, hT7⟩, hK7⟩)
  have HT7 := Lib.hid (show TsE tag (fun x => if w.heap.size ≤ x then tag + 2 + t else f x) r (w6.setCell ⟨g, off + t, none⟩ (.pointer (some ⟨w.heap.size, 0, none⟩))) n (updT ls t (putAll a)) from ⟨_, _, _, hT7⟩)
  clear hT7 hK7 h6 hat hx6 hO6 hU6 hb6 hkeep hgl
  (refine takeE (i := 7) rfl (by kernel_rfl) (by kernel_rfl) (by kernel_rfl) (fun _ _ _ _ h => h) hHeld (fun K hK => ?_); go_simp; refine hK _ ?_; clear hK K)
  (refine takeE (i := 8) rfl (by kernel_rfl) (by kernel_rfl) (by kernel_rfl) (fun _ _ _ _ h => h) hHeld (fun K hK => ?_); go_simp; refine hK _ ?_; clear hK K)
  refine wpAnyH_ready (rs := [9]) (by kernel_rfl) (by simp) ?_
  refine AllReadyH.cons rfl (fun K hK => ?_) AllReadyH.nil
  go_simp
  refine hK.out _ _ HS7.out (fun hHeld => ?_)
  clear hK K HS7 x0 hfz
  refine wpAnyH_done (by kernel_rfl) ?_ _
  refine NoPanic.normal ?_
  clear hHeld z0 hne HS0
  generalize World.setCell w6 _ _ = w7 at *
  go_wp2_with fail
  obtain ⟨s7, P7, V7, h7⟩ := HT7.out
  refine (thas _ h7).mono ?_
  rintro e w8 ⟨rfl, rfl⟩
  rw [q1]
  clear h7
  go_wp2_with fail
  go_ret
  exact HF.out
end
end Go.Proofs.Ytkicnjbidbfajaa
