/- Package table: Apply. -/
import Derived.Test.YtkicnjbidbfajaaSetOps
namespace Go.Proofs.Ytkicnjbidbfajaa
open Go.ChangeShapes Go.WideShapes Go.ChangeAt Go.RowKit
set_option linter.unusedVariables false
set_option linter.unusedSimpArgs false
def stepL (ls : Nat → List Rw) (c : Cg) : Nat → List Rw := updT ls c.tb.toNat (chg (ls c.tb.toNat) c)
def applyN (ls : Nat → List Rw) (F : Nat → Cg) : Nat → Nat → List Rw
  | 0 => ls
  | j + 1 => stepL (applyN ls F j) (F j)
theorem step_len {ls : Nat → List Rw} {n : Nat} (h : ∀ t, t < n → Up (ls t)) (c : Cg) (t : Nat) (ht : t < n) : (stepL ls c t).length ≤ (ls t).length + 1 := by
  unfold stepL updT
  split
  · rename_i e
    rw [← e]
    exact chg_len (h t ht) c
  · omega
theorem apply_up {ls : Nat → List Rw} {n : Nat} (h : ∀ t, t < n → Up (ls t)) (F : Nat → Cg) : ∀ j t, t < n → Up (applyN ls F j t) := by
  intro j
  induction j with
  | zero => exact h
  | succ j ih =>
    intro t ht
    simp only [applyN, stepL, updT]
    split
    · rename_i e; rw [← e]; exact up_chg (ih t ht) _
    · exact ih t ht
theorem apply_len {ls : Nat → List Rw} {n : Nat} (h : ∀ t, t < n → Up (ls t)) (F : Nat → Cg) : ∀ j t, t < n → (applyN ls F j t).length ≤ (ls t).length + j := by
  intro j
  induction j with
  | zero => intro t _; exact Nat.le_refl _
  | succ j ih =>
    intro t ht
    have h1 := ih t ht
    have h2 := step_len (apply_up h F j) (F j) t ht
    simp only [applyN]; omega
/-- in which a set's list, one of its places, and a change are to be read -/
def ApS (r g q p ob : Nat) (sv : Value) (cs : Array Value) (w : World) : Prop :=
  Blk w r 90 #[sv] ∧ (w.cell? ⟨g, q, none⟩ = some (.pointer (some ⟨p, 0, none⟩)) ∧ g < w.heap.size) ∧ Blk w ob 65 cs
theorem ApS.keeps {r g q p ob : Nat} {sv : Value} {cs : Array Value} {S : Nat → Prop} {w w' : World} (h : ApS r g q p ob sv cs w) (k : Keeps S w w') (h1 : ¬ S r) (h2 : ¬ S g) (h3 : ¬ S ob) : ApS r g q p ob sv cs w' :=
  ⟨k.at_ h.1 h1, ⟨(World.cell?_of_block (k.block g h.2.1.2 h2)).trans h.2.1.1, Nat.lt_of_lt_of_le h.2.1.2 k.size⟩, k.at_ h.2.2 h3⟩
section
variable {tag : Nat} {f f' : Nat → Nat} {r n : Nat} {w w' : World} {ls : Nat → List Rw} {sv : Value} {P : Nat → Nat} {V : Nat → Value}
def ApplyPost (tag : Nat) (f : Nat → Nat) (r : Nat) (n : Nat) (ls' : Nat → List Rw) (w : World) (e : Ending) (w' : World) : Prop :=
  e = .returned (.bool true) ∧ ∃ f', (∀ g, g < w.heap.size → f' g = f g) ∧ TsE tag f' r w' n ls' ∧ Keeps (fun g => tag + 2 ≤ f g ∧ f g < tag + 2 + n) w w'
set_option maxRecDepth 100000 in
set_option maxHeartbeats 1000000 in
theorem tapply (v : Value) (m : Nat) (F : Nat → Cg) (h : Ts tag f r w n ls sv P V) (hC : Cs w v m F) (hF : ∀ i, i < m → 0 ≤ (F i).tb ∧ (F i).tb < n) (hm : m ≤ 500) (hl : ∀ t, t < n → (ls t).length ≤ 1200) (hO : ∀ g, v.ownBlock = some g → f g < tag + 2 ∨ tag + 2 + n ≤ f g) :
    Calls Try.prog 35 #[.pointer (some ⟨r, 0, none⟩), v] w (ApplyPost tag f r n (applyN ls F m) w) := by
  have HA := Lib.hid (tall v m F h hC hF (by omega))
  have hCs := hC
  obtain ⟨A, cap, rfl, h1, h2, h3⟩ := hC
  unfold maxLen at h2
  have HUp := Lib.hid h.up
  have HT0 := Lib.hid h
  have HF := Lib.hid hF
  have HL := Lib.hid hl
  have HO := Lib.hid hO
  have HC0 := Lib.hid hCs
  clear h hF h3 hl hO hCs
  go_enter Try.func35, Try.ntmps35
  go_wp2_with fail
  refine HA.out.mono ?_
  rintro e w1 ⟨rfl, b1⟩
  have HT1 := Lib.hid (show TsE tag f r w1 n ls from ⟨_, _, _, HT0.out.below b1⟩)
  have HK1 := Lib.hid (Keeps.of_below (S := fun g => tag + 2 ≤ f g ∧ f g < tag + 2 + n) b1)
  clear b1 HA HT0
  go_wp2_with fail
  go_loopw [6, 13] (fun s6 s13 wr => ∃ j : Nat, j ≤ m ∧ s13 = .int .i64 j ∧ ∃ fj, (∀ g, g < w.heap.size → fj g = f g) ∧ TsE tag fj r wr n (applyN ls F j) ∧ Keeps (fun g => tag + 2 ≤ f g ∧ f g < tag + 2 + n) w wr) (fun _ s13 _ => m - (intOf s13).toNat)
  case atStart => exact ⟨0, by omega, rfl, f, fun _ _ => rfl, HT1.out, HK1.out⟩
  case round =>
    clear HT1 HK1
    obtain ⟨j, hj, rfl, fj, hff, ⟨sv, P, V, hT⟩, hK⟩ := hrel
    by_cases hlt : j < m
    · have hCj := HC0.out.keeps hK (fun g hg hlt hs => by have := HO.out g hg; omega)
      obtain ⟨A', cap', hv', _, _, hat'⟩ := hCj
      simp at hv'
      obtain ⟨rfl, rfl⟩ := hv'
      obtain ⟨gc, oc, rfl, hgc, hat⟩ := hat' (by omega)
      obtain ⟨y0, y1, y2, y3⟩ := hat j hlt
      have hfj := HF.out j hlt
      obtain ⟨t, ht⟩ : ∃ t : Nat, (F j).tb = t := ⟨(F j).tb.toNat, by omega⟩
      have htn : t < n := by omega
      have hst : applyN ls F (j + 1) = updT (applyN ls F j) t (chg (applyN ls F j t) (F j)) := by simp only [applyN, stepL, ht, Int.toNat_natCast]
      have hln : (applyN ls F j t).length ≤ 2000 := by have h1 := apply_len HUp.out F j t htn; have h2 := HL.out t htn; omega
      rw [ht] at y0
      have HST := Lib.hid hst
      have hcf : F j = ⟨(t : Int), (F j).ky, (F j).gn, (F j).vl⟩ := by rw [← ht]
      obtain ⟨L, hL⟩ : ∃ L, applyN ls F j = L := ⟨_, rfl⟩
      rw [hcf, hL] at HST
      rw [hL] at hT hln
      have q1 : (0 : Int) ≤ j := by omega
      have q2 : (j : Int) < m := by omega
      have q3 : (0 : Int) ≤ t := by omega
      have q4 : (t : Int) < n := by omega
      have u1 : IntKind.i64.wrap ((j : Int) + 1) = (j : Int) + 1 := IntWalk.i64_in _ (by omega)
      clear hat hat' hfj ht hst hcf hL
      generalize (F j).ky = a1 at *
      generalize (F j).gn = a2 at *
      generalize (F j).vl = a3 at *
      obtain ⟨gs, os, cs, rfl, hs1, hs2, hs3⟩ := hT.at_ t htn
      obtain ⟨ob, hob⟩ : ∃ ob, wr.heap.size = ob := ⟨_, rfl⟩
      obtain ⟨W, hW⟩ : ∃ W, wr.alloc (.cells #[.int .i64 t, .int .i64 a1, .bool a2, .string a3] 65) = W := ⟨_, rfl⟩
      have hbW : Below wr.heap.size wr W := by rw [← hW]; exact (Below.refl _ _).alloc (Nat.le_refl _) _
      have hTW := hT.below hbW
      have hgs := (hT.fs gs rfl)
      have hA0 : ApS r gs (os + t) (P t) ob (.slice (some ⟨gs, os, none⟩) n cs) #[.int .i64 t, .int .i64 a1, .bool a2, .string a3] W.drew :=
        ⟨hTW.blk, ⟨(hbW.cell (p := ⟨gs, os + t, none⟩) hgs.2).trans hs3, Nat.lt_of_lt_of_le hgs.2 hbW.size⟩, by rw [← hW, ← hob]; exact heap_alloc_new wr _⟩
      have hne : Nonempty (WIn (ApS r gs (os + t) (P t) ob (.slice (some ⟨gs, os, none⟩) n cs) #[.int .i64 t, .int .i64 a1, .bool a2, .string a3])) := ⟨⟨_, hA0⟩⟩
      have z0 : ∀ y : WIn (ApS r gs (os + t) (P t) ob (.slice (some ⟨gs, os, none⟩) n cs) #[.int .i64 t, .int .i64 a1, .bool a2, .string a3]), y.w.cell? ⟨r, 0, none⟩ = some (.slice (some ⟨gs, os, none⟩) n cs) := fun y => y.ok.1.cell 0
      have z1 : ∀ y : WIn (ApS r gs (os + t) (P t) ob (.slice (some ⟨gs, os, none⟩) n cs) #[.int .i64 t, .int .i64 a1, .bool a2, .string a3]), y.w.cell? ⟨gs, os + t, none⟩ = some (.pointer (some ⟨P t, 0, none⟩)) := fun y => y.ok.2.1.1
      have z2 : ∀ y : WIn (ApS r gs (os + t) (P t) ob (.slice (some ⟨gs, os, none⟩) n cs) #[.int .i64 t, .int .i64 a1, .bool a2, .string a3]), y.w.cell? ⟨ob, 0, none⟩ = some (.int .i64 t) := fun y => y.ok.2.2.cell 0
      have z3 : ∀ y : WIn (ApS r gs (os + t) (P t) ob (.slice (some ⟨gs, os, none⟩) n cs) #[.int .i64 t, .int .i64 a1, .bool a2, .string a3]), y.w.cell? ⟨ob, 1, none⟩ = some (.int .i64 a1) := fun y => y.ok.2.2.cell 1
      have z4 : ∀ y : WIn (ApS r gs (os + t) (P t) ob (.slice (some ⟨gs, os, none⟩) n cs) #[.int .i64 t, .int .i64 a1, .bool a2, .string a3]), y.w.cell? ⟨ob, 2, none⟩ = some (.bool a2) := fun y => y.ok.2.2.cell 2
      have z5 : ∀ y : WIn (ApS r gs (os + t) (P t) ob (.slice (some ⟨gs, os, none⟩) n cs) #[.int .i64 t, .int .i64 a1, .bool a2, .string a3]), y.w.cell? ⟨ob, 3, none⟩ = some (.string a3) := fun y => y.ok.2.2.cell 3
      have HA0 := Lib.hid hA0
      have HTW := Lib.hid (show Ts tag fj r W.drew n L (.slice (some ⟨gs, os, none⟩) n cs) P V from hTW.below ⟨rfl, rfl, rfl, Nat.le_refl _, fun _ _ => rfl⟩)
      have HKW := Lib.hid (show Keeps (fun g => tag + 2 ≤ f g ∧ f g < tag + 2 + n) w W.drew from (hK.trans (Keeps.of_below hbW)).drew)
      have HFF := Lib.hid hff
      have HOB := Lib.hid (show ∀ g, (g = P t ∨ (V t).ownBlock = some g) → g < ob from fun g hg => by
        rw [← hob]
        rcases hg with rfl | hg
        · exact (hT.ix t htn).1.lt
        · exact (hT.ix t htn).2.2.2 g hg)
      have HSZ := Lib.hid hK.size
      clear hT hTW hbW hA0 hff hK hgs hs3
      go_upto_region 6 with fail
      clear hW hob y0 y1 y2 y3
      refine wp_region_noPanic ?_
      refine wp_region_held_drew (S := fun w' => ApS r gs (os + t) (P t) ob (.slice (some ⟨gs, os, none⟩) n cs) #[.int .i64 t, .int .i64 a1, .bool a2, .string a3] w') (by kernel_rfl) HA0.out (fun hHeld => ?_)
      (refine takeE (i := 0) rfl (by kernel_rfl) (by kernel_rfl) (by kernel_rfl) (fun _ _ _ _ h => h) hHeld (fun K hK => ?_); go_simp; refine hK _ ?_; clear hK K)
      (refine takeE (i := 1) rfl (by kernel_rfl) (by kernel_rfl) (by kernel_rfl) (fun _ _ _ _ h => h) hHeld (fun K hK => ?_); go_simp; refine hK _ ?_; clear hK K)
      (refine takeE (i := 2) rfl (by kernel_rfl) (by kernel_rfl) (by kernel_rfl) (fun _ _ _ _ h => h) hHeld (fun K hK => ?_); go_simp; refine hK _ ?_; clear hK K)
      (refine takeE (i := 3) rfl (by kernel_rfl) (by kernel_rfl) (by kernel_rfl) (fun _ _ _ _ h => h) hHeld (fun K hK => ?_); go_simp; refine hK _ ?_; clear hK K)
      (refine takeE (i := 4) rfl (by kernel_rfl) (by kernel_rfl) (by kernel_rfl) (fun _ _ _ _ h => h) hHeld (fun K hK => ?_); go_simp; refine hK _ ?_; clear hK K)
      (refine takeE (i := 5) rfl (by kernel_rfl) (by kernel_rfl) (by kernel_rfl) (fun _ _ _ _ h => h) hHeld (fun K hK => ?_); go_simp; refine hK _ ?_; clear hK K)
      (refine takeE (i := 6) rfl (by kernel_rfl) (by kernel_rfl) (by kernel_rfl) (fun _ _ _ _ h => h) hHeld (fun K hK => ?_); go_simp; refine hK _ ?_; clear hK K)
      (refine takeE (i := 7) rfl (by kernel_rfl) (by kernel_rfl) (by kernel_rfl) (fun _ _ _ _ h => h) hHeld (fun K hK => ?_); go_simp; refine hK _ ?_; clear hK K)
      (refine takeE (i := 8) rfl (by kernel_rfl) (by kernel_rfl) (by kernel_rfl) (fun _ _ _ _ h => h) hHeld (fun K hK => ?_); go_simp; refine hK _ ?_; clear hK K)
      refine wpAnyH_ready (rs := [9]) (by kernel_rfl) (by simp) ?_
      refine AllReadyH.cons rfl (fun K hK => ?_) AllReadyH.nil
      go_simp
      refine (do_any (P t) (V t) (L t) t a1 a2 a3 W.drew (HTW.out.ix t htn) (HTW.out.up t htn) hln).mono ?_
      rintro e w7 ⟨⟨u, rfl⟩, v', hI7, hK7, hO7⟩
      have hnr : ∀ g, f g ≠ f g → False := fun g h => h rfl
      have hS7 : ∀ g, (g = P t ∨ (V t).ownBlock = some g) → fj g = tag + 2 + t := fun g hg => by
        rcases hg with rfl | hg
        · exact HTW.out.fp t htn
        · exact (HTW.out.fv t htn g hg).1
      refine hK.out _ _ (hHeld.keeps hK7 (fun e => by have h1 := hS7 r e; have h2 := HTW.out.fr; omega) (fun e => by have h1 := hS7 gs e; have h2 := (HTW.out.fs gs rfl).1; omega) (fun e => by have := HOB.out ob e; omega)) (fun hHeld => ?_)
      have hT7 := HTW.out.change htn hI7 (up_chg (HTW.out.up t htn) _) hK7 hO7
      have HFin := Lib.hid (show ∃ f2, (∀ g, g < w.heap.size → f2 g = f g) ∧ TsE tag f2 r w7 n (applyN ls F (j + 1)) ∧ Keeps (fun g => tag + 2 ≤ f g ∧ f g < tag + 2 + n) w w7 from
        ⟨fun g => if W.drew.heap.size ≤ g then tag + 2 + t else fj g, fun g hg => by show (if W.drew.heap.size ≤ g then tag + 2 + t else fj g) = f g; rw [if_neg (by have := HKW.out.size; omega)]; exact HFF.out g hg, by rw [HST.out]; exact ⟨_, _, _, hT7⟩, HKW.out.trans' hK7 (fun g hg e => by have h1 := hS7 g e; rw [HFF.out g hg] at h1; omega)⟩)
      clear hK K hI7 hK7 hO7 hT7 hS7
      refine wpAnyH_done (by kernel_rfl) ?_ _
      refine NoPanic.normal ?_
      clear hHeld z0 z1 z2 z3 z4 z5 hne HA0 HTW HKW
      go_wp2_with fail
      go_roundw
      case rel => obtain ⟨f2, a1', a2', a3'⟩ := HFin.out; exact ⟨j + 1, by omega, by go_num, f2, a1', a2', a3'⟩
      case measure => simp [intOf]; omega
    · obtain rfl : j = m := by omega
      have q2 : ¬ (j : Int) < j := by omega
      have HT := Lib.hid (show TsE tag fj r wr n (applyN ls F j) from ⟨_, _, _, hT⟩)
      have HFF := Lib.hid hff
      have HKW := Lib.hid hK
      clear hT hff hK
      go_wp2_with fail
      go_ret
      exact ⟨rfl, fj, HFF.out, HT.out, HKW.out⟩
end
end Go.Proofs.Ytkicnjbidbfajaa
