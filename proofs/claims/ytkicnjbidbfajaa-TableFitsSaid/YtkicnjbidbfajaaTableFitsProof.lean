/- The law qanat/qanatlaw09.TableFits returns true for all arguments of its types; no condition. -/
import Derived.Test.YtkicnjbidbfajaaFits2
import Derived.Test.YtkicnjbidbfajaaArgs
import Derived.WalkKit
import Derived.ProofKit
import Derived.OpenShut
import Derived.WideKeyArgs
import Derived.ChangeMaps5
namespace Go.Proofs.Ytkicnjbidbfajaa.tableFits
open Go.ChangeShapes Go.WideShapes Go.ChangeAt Go.RowKit
open Go.ChangeMaps (open_string shut_string)
set_option linter.unusedVariables false
set_option linter.unusedSimpArgs false
theorem own : ownKnob Try.prog.godebug = none := by kernel_rfl
theorem laidOut : laidOutB Try.prog = true := by kernel_rfl
theorem put_last {L : List Rw} {k : Int} (v : ByteArray) (h : ∀ m ∈ L, m.1 < k) : putL L k v = L ++ [(k, v)] := by
  have h1 : has L k = false := has_no fun t ht e => by have := h _ (List.getElem_mem ht); omega
  have h2 : pos L k = L.length := pos_of L k _ (Nat.le_refl _) (fun t ht _ => h _ (List.getElem_mem ht)) (fun t ht h => by omega)
  unfold putL
  rw [h1, h2]
  simp
theorem putAll_up {l : List Rw} (h : Up l) : putAll l = l := by
  have key : ∀ j, j ≤ l.length → putAll (l.take j) = l.take j := by
    intro j
    induction j with
    | zero => intro _; rfl
    | succ j ih =>
      intro hj
      rw [putAll_take l j (by omega), ih (by omega), put_last]
      · rw [List.take_add_one]
        congr 1
        simp [show j < l.length by omega]
      · intro m hm
        obtain ⟨i, hi, rfl⟩ := List.getElem_of_mem hm
        rw [List.getElem_take]
        simp at hi
        exact up_lt h i j (by omega) (by omega)
  have := key l.length (Nat.le_refl _)
  rwa [List.take_length] at this
/-- rows with the keys 1, 2, .. -/
def Cnt (l : List Rw) : Prop := ∀ t (ht : t < l.length), l[t].1 = (t : Int) + 1
theorem cnt_up {l : List Rw} (h : Cnt l) : Up l := List.pairwise_iff_getElem.2 fun i j hi hj hij => by rw [h i hi, h j hj]; omega
theorem cnt_more {l : List Rw} (h : Cnt l) (v : ByteArray) : Cnt (l ++ [((l.length : Int) + 1, v)]) := fun t ht => by
  by_cases e : t < l.length
  · rw [List.getElem_append_left e]; exact h t e
  · simp at ht
    obtain rfl : t = l.length := by omega
    simp
theorem cnt_has1 {l : List Rw} (h : Cnt l) (h0 : 0 < l.length) : has l 1 = true := (has_iff _ _).2 ⟨l[0], List.getElem_mem h0, by rw [h 0 h0]; rfl⟩
theorem cnt_no {l : List Rw} (h : Cnt l) (k : Int) (hk : (l.length : Int) < k) : has l k = false := has_no fun t ht e => by rw [h t ht] at e; omega
def cMore : Cg := ⟨0, 5000, false, ⟨#[120]⟩⟩
def cLess : Cg := ⟨0, 1, true, ⟨#[]⟩⟩
theorem cs_two (w : World) (a b : Int) (c : Bool) (d : ByteArray) (a' b' : Int) (c' : Bool) (d' : ByteArray) : Cs (w.alloc (.cells #[.int .i64 a, .int .i64 b, .bool c, .string d, .int .i64 a', .int .i64 b', .bool c', .string d'] 65)) (.slice (some ⟨w.heap.size, 0, none⟩) 2 2) 2 (fun i => if i = 0 then ⟨a, b, c, d⟩ else ⟨a', b', c', d'⟩) := by
  have hx := heap_alloc_new w (.cells #[.int .i64 a, .int .i64 b, .bool c, .string d, .int .i64 a', .int .i64 b', .bool c', .string d'] 65)
  refine ⟨_, 2, rfl, Nat.le_refl _, by unfold maxLen; omega, fun _ => ⟨_, 0, rfl, by simp, fun i hi => ?_⟩⟩
  have : i = 0 ∨ i = 1 := by omega
  rcases this with rfl | rfl
  · simp only [cells_of hx]
    exact ⟨rfl, rfl, rfl, rfl⟩
  · simp only [cells_of hx]
    exact ⟨rfl, rfl, rfl, rfl⟩
section
variable {l : List Rw}
theorem fits_more (h : Cnt l) (hl : l.length ≤ 2000) : fitsB (fun _ => l) (fun _ => cMore) 1 1 = decide (l.length + 1 ≤ 1000) := by
  have hc := chg_count (cnt_up h) cMore
  rw [cnt_no h _ (by show (l.length : Int) < 5000; omega)] at hc
  have hn : (chg l cMore).length = l.length + 1 := by simp [dN, cMore] at hc ⊢; omega
  have e : applyN (fun _ => l) (fun _ => cMore) 1 0 = chg l cMore := rfl
  unfold fitsB inR
  rw [decide_eq_decide]
  constructor
  · rintro ⟨_, h2⟩
    have := h2 0 (by omega)
    rw [e] at this; omega
  · intro h1
    refine ⟨fun i _ => ⟨by simp [cMore], by simp [cMore]⟩, fun t ht => ?_⟩
    obtain rfl : t = 0 := by omega
    rw [e]; omega
theorem fits_both (h : Cnt l) (hl : l.length ≤ 2000) (h0 : 0 < l.length) : fitsB (fun _ => l) (fun i => if i = 0 then cMore else cLess) 1 2 = decide (l.length ≤ 1000) := by
  have hc := chg_count (cnt_up h) cMore
  rw [cnt_no h _ (by show (l.length : Int) < 5000; omega)] at hc
  have hn : (chg l cMore).length = l.length + 1 := by simp [dN, cMore] at hc ⊢; omega
  have hU := up_chg (cnt_up h) cMore
  have hc2 := chg_count hU cLess
  rw [has_chg (cnt_up h)] at hc2
  have hh : has l cLess.ky = true := cnt_has1 h h0
  rw [hh] at hc2
  have hn2 : (chg (chg l cMore) cLess).length = l.length := by simp [dN, cMore, cLess] at hc2 ⊢; simp [cMore] at hn; omega
  have e : applyN (fun _ => l) (fun i => if i = 0 then cMore else cLess) 2 0 = chg (chg l cMore) cLess := rfl
  unfold fitsB inR
  rw [decide_eq_decide]
  constructor
  · rintro ⟨_, h2⟩
    have := h2 0 (by omega)
    rw [e] at this; omega
  · intro h1
    refine ⟨fun i _ => by dsimp only; split <;> exact ⟨by simp [cMore, cLess], by simp [cMore, cLess]⟩, fun t ht => ?_⟩
    obtain rfl : t = 0 := by omega
    rw [e]; omega
theorem fits_out (F : Nat → Cg) (h : (F 0).tb = 1) : fitsB (fun _ => l) F 1 1 = false := by
  unfold fitsB
  refine decide_eq_false fun h2 => ?_
  have := h2.1 0 (by omega)
  omega
theorem fits_none (F : Nat → Cg) : fitsB (fun _ => l) F 1 0 = decide (l.length ≤ 1000) := by
  unfold fitsB inR
  rw [decide_eq_decide]
  exact ⟨fun h => h.2 0 (by omega), fun h => ⟨fun i hi => by omega, fun t _ => h⟩⟩
end
section
variable {tag : Nat} {f : Nat → Nat} {r n : Nat} {w : World} {ls : Nat → List Rw}
theorem tload_e (t : Nat) (v : Value) (a : List Rw) (h : TsE tag f r w n ls) (ht : t < n) (hn : n ≤ 8) (hR : Rs w v a.length a) (ha : a.length ≤ 1500) :
    Calls Try.prog 38 #[.pointer (some ⟨r, 0, none⟩), .int .i64 t, v] w (LoadPost tag f r n (updT ls t (putAll a)) w) := by
  obtain ⟨s, P, V, h⟩ := h; exact tload t v a h ht hn hR ha
theorem tload_no_e (t : Int) (v : Value) (h : TsE tag f r w n ls) (ht : ¬ (0 ≤ t ∧ t < n)) : Calls Try.prog 38 #[.pointer (some ⟨r, 0, none⟩), .int .i64 t, v] w fun e w' => e = .returned (.bool false) ∧ w = w' := by
  obtain ⟨s, P, V, h⟩ := h; exact tload_no t v h ht
theorem tlen_e (t : Nat) (h : TsE tag f r w n ls) (ht : t < n) : Calls Try.prog 37 #[.pointer (some ⟨r, 0, none⟩), .int .i64 t] w fun e w' => e = .returned (.int .i64 (ls t).length) ∧ w = w' := by
  obtain ⟨s, P, V, h⟩ := h; exact tlen t h ht
theorem tfits_e (v : Value) (m : Nat) (F : Nat → Cg) (h : TsE tag f r w n ls) (hC : Cs w v m F) (hW : ∀ i, i < m → (Lit.int .i64 (F i).ky).wf = true) (hm : m ≤ 500) (h0 : 0 < n) (hn : n ≤ 8) (hl : ∀ t, t < n → (ls t).length ≤ 1200) :
    Calls Try.prog 40 #[.pointer (some ⟨r, 0, none⟩), v] w fun e w' => e = .returned (.bool (fitsB ls F n m)) ∧ Below w.heap.size w w' := by
  obtain ⟨s, P, V, h⟩ := h; exact tfits v m F h hC hW hm h0 hn hl
theorem retag_e (h : TsE tag f r w n ls) (x : Nat) : TsE tag (fun g => if w.heap.size ≤ g then x else f g) r w n ls := by
  obtain ⟨s, P, V, h⟩ := h; exact ⟨s, P, V, h.retag x⟩
theorem tse_same {ls' : Nat → List Rw} (h : TsE tag f r w n ls) (e : ∀ t, t < n → ls' t = ls t) : TsE tag f r w n ls' := by
  obtain ⟨s, P, V, h⟩ := h
  exact ⟨s, P, V, { blk := h.blk, sl := h.sl, fr := h.fr, fs := h.fs, ix := fun t ht => by rw [e t ht]; exact h.ix t ht, up := fun t ht => by rw [e t ht]; exact h.up t ht, fp := h.fp, fv := h.fv }⟩
end

set_option maxRecDepth 100000 in
set_option maxHeartbeats 3000000 in
theorem walk (w : World) (a0 : Int) (w0 : (Lit.int .i64 a0).wf = true) (a1 : ByteArray) (w1 : a1.size ≤ maxLen) :
    Calls Try.prog 10 #[.int .i64 a0, .string a1] w fun e w' => e = .returned (.bool true) ∧ Below w.heap.size w w' := by
  have hvs := w1
  clear w1
  obtain ⟨i0, hi0, hz0, hz1, hz2⟩ := info_parts infoRow
  have hk4 := bigS_bd a0 4 (by decide)
  obtain ⟨d, hd⟩ : ∃ d : Nat, bigS a0 4 = d := ⟨(bigS a0 4).toNat, by omega⟩
  have hdb : d < 4 := by omega
  have hMod := fun w' => mod_any a0 4 w' (by omega) (by omega)
  rw [hd] at hMod
  clear hd hk4
  have HMod := Lib.hid hMod
  clear hMod
  obtain ⟨k, hk⟩ : ∃ k, 998 + d = k := ⟨_, rfl⟩
  have hk1 : 998 ≤ k := by omega
  have hk2 : k ≤ 1001 := by omega
  have u0 : IntKind.i64.wrap (998 + (d : Int)) = (k : Int) := by rw [IntWalk.i64_in _ (by omega)]; omega
  clear hk hdb
  have HN := Lib.hid (tnew_ok 100 (fun _ => 0) 1 w (by omega) (by omega) (fun g _ => .inl (by omega)))
  obtain ⟨r, hr⟩ : ∃ r, w.heap.size = r := ⟨_, rfl⟩
  unfold NewOk at HN
  rw [hr] at HN
  have HR := Lib.hid hr
  clear hr
  go_enter Try.func10, Try.ntmps10
  go_wp2_with fail
  refine HN.out.mono ?_
  rintro e w1 ⟨rfl, f1, hf1, hT1, hb1⟩
  have hrs : r ≤ w1.heap.size := by have := hb1.size; rw [HR.out] at this; exact this
  obtain ⟨f2, hf2⟩ : ∃ f2 : Nat → Nat, (fun g => if w1.heap.size ≤ g then 0 else f1 g) = f2 := ⟨_, rfl⟩
  have hf2' : ∀ g, (if w1.heap.size ≤ g then 0 else f1 g) = f2 g := fun g => congrFun hf2 g
  have HT1 := Lib.hid (show TsE 100 f2 r w1 1 (fun _ => []) from by rw [← hf2]; exact retag_e hT1 0)
  have HF2 := Lib.hid (show ∀ g, g < r → f2 g = 0 from fun g hg => by rw [← hf2' g, if_neg (by omega)]; exact hf1 g hg)
  have HZ2 := Lib.hid (show ∀ g, w1.heap.size ≤ g → f2 g = 0 from fun g hg => by rw [← hf2' g]; exact if_pos hg)
  have HB1 := Lib.hid hb1
  obtain ⟨B1, hB1⟩ : ∃ B1, w1.heap.size = B1 := ⟨_, rfl⟩
  have HB1e := Lib.hid hB1
  rw [hB1] at HZ2 hrs
  clear hf1 hT1 hb1 HN hf2 hf2' hB1
  go_wp2_with fail
  refine (HMod.out _).mono ?_
  rintro e w2 ⟨rfl, rfl⟩
  go_wp2_with fail
  go_loopw [8, 9] (fun s8 s9 wr => ∃ (j : Nat) (A8 : Option Addr) (c8 : Nat) (l : List Rw), j ≤ k ∧ s9 = .int .i64 ((j : Int) + 1) ∧ s8 = .slice A8 j c8 ∧ Hid (l.length = j) ∧ Hid (Cnt l) ∧ Sl wr 26 2 (.slice A8 j c8) j (rowCells l) ∧ (∀ g, (Value.slice A8 j c8).ownBlock = some g → B1 ≤ g ∧ g < wr.heap.size) ∧ TsE 100 f2 r wr 1 (fun _ => []) ∧ Below r w wr ∧ B1 ≤ wr.heap.size) (fun _ s9 _ => k + 1 - (intOf s9).toNat)
  case atStart => exact ⟨0, none, 0, [], by omega, rfl, rfl, Lib.hid rfl, Lib.hid (fun t ht => by simp at ht), Sl.nil _ _ _ _, by simp [Value.ownBlock], HT1.out, HB1.out, by rw [HB1e.out]; exact Nat.le_refl _⟩
  case round =>
    clear HT1 HB1
    obtain ⟨j, A8, c8, l, hj, rfl, rfl, hl, hc, hS, hO, hT, hb, hB⟩ := hrel
    by_cases hlt : j < k
    · have q1 : (j : Int) + 1 ≤ k := by omega
      have u1 : IntKind.i64.wrap ((j : Int) + 1 + 1) = (j : Int) + 1 + 1 := IntWalk.i64_in _ (by omega)
      have HS := Lib.hid hS
      have HO := Lib.hid hO
      have HT := Lib.hid hT
      have HB := Lib.hid hb
      clear hS hO hT hb
      go_wp2_with fail
      refine (cut_any a1 9 _ hvs (by omega)).mono ?_
      rintro e w8 ⟨⟨vv, rfl⟩, rfl⟩
      have hmx : j + 1 ≤ maxLen := by unfold maxLen; omega
      go_wp2_with (refine wpList_append_sl (by rfl) (.tmp 32) (.tmp 37) _ (by rfl) 26 i0 _ 2 24 Try.underlying22 hi0 hz0 hz1 hz2 rfl (by omega) _ j (rowCells l) (by rfl) (HS.out.alloc _) _ 1 1 [.int .i64 ((j : Int) + 1), .string vv] (by rfl) (by rfl) (World.news_of_block (cs := #[.int .i64 ((j : Int) + 1), .string vv]) (t := 26) (fr := (0, 0)) (heap_alloc_new _ _)) (by simp [Value.oneCell']) (by omega) hmx (by omega) ?_; intro v9 w9 hS hK hO; obtain ⟨A9, c9, rfl, _, _⟩ := hS.form; have HS9 := Lib.hid hS; have HK9 := Lib.hid hK; have HO9 := Lib.hid hO; clear hS hK hO)
      go_roundw
      case rel =>
        have hsz := HK9.out.size
        simp at hsz
        refine ⟨j + 1, A9, c9, l ++ [((l.length : Int) + 1, vv)], by omega, by go_num, rfl, Lib.hid (by rw [List.length_append, hl.out]; rfl), Lib.hid (cnt_more hc.out vv), ?_, fun x hx => ?_, ?_, ?_, by omega⟩
        · rw [rowCells_app, hl.out]; exact HS9.out
        · rcases HO9.out with e | ⟨g2, e, hg2⟩
          · rw [e] at hx
            have := HO.out x hx
            exact ⟨this.1, by omega⟩
          · obtain ⟨g3, off3, cap3, hv3, _, _, hlt3, _⟩ := HS9.out.at_ (by omega)
            rw [hv3] at hx
            injection hx with hx
            subst hx
            rw [hv3] at e
            injection e with e
            subst e
            simp at hg2
            have hg3 : w8.heap.size + 1 ≤ g3 := hg2
            exact ⟨by show B1 ≤ g3; omega, hlt3⟩
        · exact tse_keeps (tse_below HT.out ((Below.refl _ _).alloc (Nat.le_refl _) _)) HK9.out (fun _ _ => rfl) (fun x hx _ => .inl (by rw [HZ2.out x (HO.out x hx).1]; omega))
        · exact Keeps.below (HB.out.alloc (by omega) _) HK9.out (by simp; omega) (fun x hx e => by have := (HO.out x e).1; omega)
      case measure => simp [intOf]; omega
    · obtain rfl : k = j := by omega
      have q1 : ¬ (k : Int) + 1 ≤ k := by omega
      have hlk := hl.out
      subst hlk
      have hpa := putAll_up (cnt_up hc.out)
      have hld : ∀ w' , TsE 100 f2 r w' 1 (fun _ => []) → Rs w' (.slice A8 l.length c8) l.length l → Calls Try.prog 38 #[.pointer (some ⟨r, 0, none⟩), .int .i64 0, .slice A8 l.length c8] w' (LoadPost 100 f2 r 1 (fun _ => l) w') := fun w' h1 h2 => by
        refine (tload_e 0 _ l h1 (by omega) (by omega) h2 (by omega)).mono ?_
        rintro e w'' ⟨he, f', h3, h4, h5⟩
        exact ⟨he, f', h3, tse_same h4 (fun t ht => by obtain rfl : t = 0 := by omega
                                                       simp [updT, hpa]), h5⟩
      have HLD := Lib.hid (hld wr hT (Rs.of hS))
      have HB := Lib.hid hb
      clear hld hpa hS hO hT hb HZ2
      go_wp2_with fail
      refine HLD.out.mono ?_
      rintro e w3 ⟨rfl, f3, hf3, hT3, hk3⟩
      have hs3 := hk3.size
      have HT3 := Lib.hid hT3
      have HB3 := Lib.hid (Keeps.below HB.out hk3 (by omega) (fun x hx e => by have := HF2.out x hx; omega))
      clear hf3 hT3 hk3 HLD HB HF2
      go_wp2_with fail
      refine (tload_no_e 1 _ HT3.out (by omega)).mono ?_
      rintro e w4 ⟨rfl, rfl⟩
      go_wp2_with fail
      refine (tload_no_e (-1) _ HT3.out (by omega)).mono ?_
      rintro e w4 ⟨rfl, rfl⟩
      go_wp2_with fail
      refine (tlen_e 0 HT3.out (by omega)).mono ?_
      rintro e w4 ⟨rfl, rfl⟩
      obtain ⟨q1', he1⟩ : ∃ b, decide (l.length + 1 ≤ 1000) = b := ⟨_, rfl⟩
      obtain ⟨q2', he2⟩ : ∃ b, decide (l.length ≤ 1000) = b := ⟨_, rfl⟩
      have HE1 := Lib.hid he1
      have HE2 := Lib.hid he2
      clear he1 he2
      go_upto_region 14 with fail
      have hb4 : Below w3.heap.size w3 ((w3.alloc (.cells #[.int .i64 0, .int .i64 5000, .bool false, .string ⟨#[120]⟩] 65)).alloc (.cells #[.int .i64 0, .int .i64 1, .bool true, .string ⟨#[]⟩] 65)) := ((Below.refl _ _).alloc (Nat.le_refl _) _).alloc (by simp) _
      have hM4 := (Below.heap_alloc (w3.alloc (.cells #[.int .i64 0, .int .i64 5000, .bool false, .string ⟨#[120]⟩] 65)) (.cells #[.int .i64 0, .int .i64 1, .bool true, .string ⟨#[]⟩] 65) w3.heap.size (by simp)).trans (heap_alloc_new w3 (.cells #[.int .i64 0, .int .i64 5000, .bool false, .string ⟨#[120]⟩] 65))
      have hL4 := heap_alloc_new (w3.alloc (.cells #[.int .i64 0, .int .i64 5000, .bool false, .string ⟨#[120]⟩] 65)) (.cells #[.int .i64 0, .int .i64 1, .bool true, .string ⟨#[]⟩] 65)
      have hz : (w3.alloc (.cells #[.int .i64 0, .int .i64 5000, .bool false, .string ⟨#[120]⟩] 65)).heap.size = w3.heap.size + 1 := by simp
      rw [hz] at hL4
      have hT4 := tse_below HT3.out hb4
      have hB4 := HB3.out.trans (hb4.mono (by omega))
      have HM4 : Hid (Blk ((w3.alloc (.cells #[.int .i64 0, .int .i64 5000, .bool false, .string ⟨#[120]⟩] 65)).alloc (.cells #[.int .i64 0, .int .i64 1, .bool true, .string ⟨#[]⟩] 65)) w3.heap.size 65 #[.int .i64 0, .int .i64 5000, .bool false, .string ⟨#[120]⟩]) := Lib.hid hM4
      have HL4 : Hid (Blk ((w3.alloc (.cells #[.int .i64 0, .int .i64 5000, .bool false, .string ⟨#[120]⟩] 65)).alloc (.cells #[.int .i64 0, .int .i64 1, .bool true, .string ⟨#[]⟩] 65)) (w3.heap.size + 1) 65 #[.int .i64 0, .int .i64 1, .bool true, .string ⟨#[]⟩]) := Lib.hid hL4
      have HT4 := Lib.hid hT4
      have HB4 := Lib.hid hB4
      obtain ⟨mb, hmb⟩ : ∃ mb, w3.heap.size = mb := ⟨_, rfl⟩
      rw [hmb] at HM4 HL4 ⊢
      clear hM4 hL4 hT4 hB4 hb4 hz HT3 HB3 hmb
      generalize World.alloc (World.alloc w3 _) _ = w4 at *
      have hwk : ∀ (F : Nat → Cg) (m : Nat), (∀ i, i < m → (F i).ky = 5000 ∨ (F i).ky = 1) → ∀ i, i < m → (Lit.int .i64 (F i).ky).wf = true := fun F m h i hi => by rcases h i hi with e | e <;> rw [e] <;> rfl
      have HWk := Lib.hid hwk
      clear hwk
      have a0' := HM4.out.cell 0
      have a1' := HM4.out.cell 1
      have a2' := HM4.out.cell 2
      have a3' := HM4.out.cell 3
      simp at a0' a1' a2' a3'
      go_wp2_with fail
      have HCs := Lib.hid (cs_one w4 0 5000 false ⟨#[120]⟩)
      have hbn : Below w4.heap.size w4 (w4.alloc (.cells #[.int .i64 0, .int .i64 5000, .bool false, .string ⟨#[120]⟩] 65)) := (Below.refl _ _).alloc (Nat.le_refl _) _
      have hr4 : r ≤ w4.heap.size := by have := HB4.out.size; rw [HR.out] at this; exact this
      have hft := tfits_e _ 1 (fun _ => cMore) (tse_below HT4.out hbn) HCs.out (HWk.out _ _ (fun i _ => .inl rfl)) (by omega) (by omega) (by omega) (fun t _ => by omega)
      rw [fits_more hc.out (by omega), HE1.out] at hft
      refine hft.mono ?_
      rintro e w5 ⟨rfl, b5⟩
      have b45 : Below w4.heap.size w4 w5 := hbn.trans (b5.mono hbn.size)
      have HT5 := Lib.hid (tse_below HT4.out b45)
      have HM5 := Lib.hid (HM4.out.below b45 HM4.out.lt)
      have HL5 := Lib.hid (HL4.out.below b45 HL4.out.lt)
      have HB5 := Lib.hid (HB4.out.trans (b45.mono hr4))
      clear hft b5 b45 hbn HCs a0' a1' a2' a3' HT4 HM4 HL4 HB4
      go_upto_region 15 with fail
      have a0' := HM5.out.cell 0
      have a1' := HM5.out.cell 1
      have a2' := HM5.out.cell 2
      have a3' := HM5.out.cell 3
      have a4' := HL5.out.cell 0
      have a5' := HL5.out.cell 1
      have a6' := HL5.out.cell 2
      have a7' := HL5.out.cell 3
      simp at a0' a1' a2' a3' a4' a5' a6' a7'
      go_wp2_with fail
      have HCs := Lib.hid (cs_two w5 0 5000 false ⟨#[120]⟩ 0 1 true ⟨#[]⟩)
      have hbn : Below w5.heap.size w5 (w5.alloc (.cells #[.int .i64 0, .int .i64 5000, .bool false, .string ⟨#[120]⟩, .int .i64 0, .int .i64 1, .bool true, .string ⟨#[]⟩] 65)) := (Below.refl _ _).alloc (Nat.le_refl _) _
      have hr5 : r ≤ w5.heap.size := by have := HB5.out.size; rw [HR.out] at this; exact this
      have hft := tfits_e _ 2 (fun i => if i = 0 then cMore else cLess) (tse_below HT5.out hbn) HCs.out (HWk.out _ _ (fun i _ => by split <;> simp [cMore, cLess])) (by omega) (by omega) (by omega) (fun t _ => by omega)
      rw [fits_both hc.out (by omega) (by omega), HE2.out] at hft
      refine hft.mono ?_
      rintro e w6 ⟨rfl, b6⟩
      have b56 : Below w5.heap.size w5 w6 := hbn.trans (b6.mono hbn.size)
      have HT6 := Lib.hid (tse_below HT5.out b56)
      have HB6 := Lib.hid (HB5.out.trans (b56.mono hr5))
      clear hft b6 b56 hbn HCs a0' a1' a2' a3' a4' a5' a6' a7' HT5 HM5 HL5 HB5 hr4 hr5
      go_upto_region 16 with fail
      have hr6 : r ≤ w6.heap.size := by have := HB6.out.size; rw [HR.out] at this; exact this
      go_wp2_with fail
      refine (awake09 _).mono ?_
      rintro e w7 ⟨rfl, b7⟩
      have HT7 := Lib.hid (tse_below HT6.out b7)
      have HB7 := Lib.hid (HB6.out.trans (b7.mono hr6))
      have hr7 : r ≤ w7.heap.size := Nat.le_trans hr6 b7.size
      clear HT6 HB6 b7
      go_wp2_with fail
      refine (tlen_e 0 HT7.out (by omega)).mono ?_
      rintro e w8 ⟨rfl, rfl⟩
      have hN : l.length + 1 ≤ 1000 ∧ q1' = true ∧ q2' = true ∨ l.length = 1000 ∧ q1' = false ∧ q2' = true ∨ l.length = 1001 ∧ q1' = false ∧ q2' = false := by
        have e1 := HE1.out
        have e2 := HE2.out
        by_cases h1 : l.length + 1 ≤ 1000
        · left; rw [decide_eq_true h1] at e1; rw [decide_eq_true (by omega)] at e2; exact ⟨h1, e1.symm, e2.symm⟩
        · rw [decide_eq_false h1] at e1
          by_cases h2 : l.length ≤ 1000
          · right; left; rw [decide_eq_true h2] at e2; exact ⟨by omega, e1.symm, e2.symm⟩
          · right; right; rw [decide_eq_false h2] at e2; exact ⟨by omega, e1.symm, e2.symm⟩
      have hfo := fun w' (hT' : TsE 100 f3 r w' 1 (fun _ => l)) => tfits_e (.slice (some ⟨w'.heap.size, 0, none⟩) 1 1) 1 (fun _ => ⟨1, 1, false, ⟨#[]⟩⟩) (tse_below hT' ((Below.refl _ _).alloc (Nat.le_refl _) (.cells #[.int .i64 1, .int .i64 1, .bool false, .string ⟨#[]⟩] 65))) (cs_one w' 1 1 false ⟨#[]⟩) (HWk.out _ _ (fun i _ => .inr rfl)) (by omega) (by omega) (by omega) (fun t _ => by omega)
      have hfn := fun w' (hT' : TsE 100 f3 r w' 1 (fun _ => l)) => tfits_e (.slice none 0 0) 0 (fun _ => ⟨1, 1, false, ⟨#[]⟩⟩) hT' ⟨none, 0, rfl, Nat.le_refl _, by unfold maxLen; omega, fun h => absurd h (by omega)⟩ (fun i hi => absurd hi (by omega)) (by omega) (by omega) (by omega) (fun t _ => by omega)
      rw [show (fitsB (fun _ => l) (fun _ => ⟨1, 1, false, ⟨#[]⟩⟩) 1 1) = false from fits_out _ rfl] at hfo
      rw [fits_none, HE2.out] at hfn
      have HFo := Lib.hid hfo
      have HFn := Lib.hid hfn
      clear hfo hfn HWk
      rcases hN with ⟨h1, rfl, rfl⟩ | ⟨h1, rfl, rfl⟩ | ⟨h1, rfl, rfl⟩
      · have g1 : decide ((l.length : Int) + 1 ≤ 1000) = true := decide_eq_true (by omega)
        have g2 : decide ((l.length : Int) ≤ 1000) = true := decide_eq_true (by omega)
        have u2 : IntKind.i64.wrap ((l.length : Int) + 1) = (l.length : Int) + 1 := IntWalk.i64_in _ (by omega)
        go_wp2_with fail
        refine (HFo.out w7 HT7.out).mono ?_
        rintro e w8 ⟨rfl, b8⟩
        have b78 : Below w7.heap.size w7 w8 := ((Below.refl w7.heap.size w7).alloc (Nat.le_refl _) (.cells #[.int .i64 1, .int .i64 1, .bool false, .string ⟨#[]⟩] 65)).trans (b8.mono (by simp))
        have HT8 := Lib.hid (tse_below HT7.out b78)
        have HB8 := Lib.hid (HB7.out.trans (b78.mono hr7))
        have hr8 : r ≤ w8.heap.size := Nat.le_trans hr7 b78.size
        clear b8 b78 HT7 HB7 HFo
        go_wp2_with fail
        refine (HFn.out w8 HT8.out).mono ?_
        rintro e w9 ⟨rfl, b9⟩
        have HB9 := Lib.hid (HB8.out.trans (b9.mono hr8))
        clear b9 HT8 HB8 HFn
        go_wp2_with fail
        go_ret
        exact ⟨rfl, by rw [HR.out]; exact HB9.out⟩
      · have g1 : decide ((l.length : Int) + 1 ≤ 1000) = false := decide_eq_false (by omega)
        have g2 : decide ((l.length : Int) ≤ 1000) = true := decide_eq_true (by omega)
        have u2 : IntKind.i64.wrap ((l.length : Int) + 1) = (l.length : Int) + 1 := IntWalk.i64_in _ (by omega)
        clear h1
        go_wp2_with fail
        refine (HFo.out w7 HT7.out).mono ?_
        rintro e w8 ⟨rfl, b8⟩
        have b78 : Below w7.heap.size w7 w8 := ((Below.refl w7.heap.size w7).alloc (Nat.le_refl _) (.cells #[.int .i64 1, .int .i64 1, .bool false, .string ⟨#[]⟩] 65)).trans (b8.mono (by simp))
        have HT8 := Lib.hid (tse_below HT7.out b78)
        have HB8 := Lib.hid (HB7.out.trans (b78.mono hr7))
        have hr8 : r ≤ w8.heap.size := Nat.le_trans hr7 b78.size
        clear b8 b78 HT7 HB7 HFo
        go_wp2_with fail
        refine (HFn.out w8 HT8.out).mono ?_
        rintro e w9 ⟨rfl, b9⟩
        have HB9 := Lib.hid (HB8.out.trans (b9.mono hr8))
        clear b9 HT8 HB8 HFn
        go_wp2_with fail
        go_ret
        exact ⟨rfl, by rw [HR.out]; exact HB9.out⟩
      · have g1 : decide ((l.length : Int) + 1 ≤ 1000) = false := decide_eq_false (by omega)
        have g2 : decide ((l.length : Int) ≤ 1000) = false := decide_eq_false (by omega)
        have u2 : IntKind.i64.wrap ((l.length : Int) + 1) = (l.length : Int) + 1 := IntWalk.i64_in _ (by omega)
        clear h1
        go_wp2_with fail
        refine (HFo.out w7 HT7.out).mono ?_
        rintro e w8 ⟨rfl, b8⟩
        have b78 : Below w7.heap.size w7 w8 := ((Below.refl w7.heap.size w7).alloc (Nat.le_refl _) (.cells #[.int .i64 1, .int .i64 1, .bool false, .string ⟨#[]⟩] 65)).trans (b8.mono (by simp))
        have HT8 := Lib.hid (tse_below HT7.out b78)
        have HB8 := Lib.hid (HB7.out.trans (b78.mono hr7))
        have hr8 : r ≤ w8.heap.size := Nat.le_trans hr7 b78.size
        clear b8 b78 HT7 HB7 HFo
        go_wp2_with fail
        refine (HFn.out w8 HT8.out).mono ?_
        rintro e w9 ⟨rfl, b9⟩
        have HB9 := Lib.hid (HB8.out.trans (b9.mono hr8))
        clear b9 HT8 HB8 HFn
        go_wp2_with fail
        go_ret
        exact ⟨rfl, by rw [HR.out]; exact HB9.out⟩

set_option maxRecDepth 100000 in
theorem lifted (os : Os) (started : os.Started) (H : Type) (enc : TypeId × Value → H) :
    ReturnsInHanded {} Try.checked os 10 .any (Rows.tableFitsSpec.pre6 enc Try.prog Try.f10 Rows.tableFitsRow.domain false) (Rows.tableFitsSpec.post enc Try.prog Try.f10 false true false false) := by
  refine returnsInHanded_of_change (C := Try.checked) own started (by kernel_rfl) Try.func10
    (ChangeSpec.witness6 (enc := enc) (C := Try.checked) false ⟨#[], #[.int .i64 0, .string ByteArray.empty], []⟩ 8 (by kernel_rfl) (by kernel_rfl) (by kernel_rfl) (by kernel_rfl)) ?_
  intro W base args ds gs before hval0 hW hcnd _
  have hval : ∀ (j : Nat) t v, Try.f10.params[j]? = some t → args[j]? = some v → Value.okWide Try.prog W .any base t v := hval0
  have hW' := hW
  obtain ⟨p, q, hA0, hV, rfl, hfz, hnd⟩ := hW
  have hA : DataW.TrodAll enc Try.prog W 0 (fun _ => true) true Try.f10.params.toList args.toList ds p := hA0
  rw [Try.params10] at hA hval
  obtain ⟨v0, vs0, d0, ds0, p0, q0, hargs, rfl, rfl, h0, r0⟩ := trodAll_cons hA
  obtain ⟨v1, vs1, d1, ds1, p1, q1, rfl, rfl, rfl, h1, r1⟩ := trodAll_cons r0
  obtain ⟨rfl, rfl, rfl⟩ := trodAll_nil r1
  obtain rfl : args = #[v0, v1] := by cases args; simp_all
  obtain ⟨rfl, rfl⟩ := trodVars_none hV
  obtain ⟨a0, rfl, rfl, rfl, w0⟩ := open_int Try.underlying3 (hval 0 3 v0 rfl rfl) h0
  obtain ⟨a1, rfl, rfl, rfl, w1⟩ := open_string Try.underlying9 (hval 1 9 v1 rfl rfl) h1
  clear hA0 hval0
  have hlt := hW'.lt
  refine (walk W a0 w0 a1 w1).mono fun e W' ⟨he, hb⟩ => ?_
  subst he
  exact ⟨_, rfl, post_of_below (pv := []) hW' (fun _ _ _ => (trodAll_cons_mk (shut_bool Try.underlying4 _) trodAll_mk0)) (fun sp hsp => (trodAll_cons_mk (shut_int Try.underlying3 w0) (trodAll_cons_mk (shut_string Try.underlying9 w1) trodAll_mk0))) (fun _ _ => rfl) (by simp) hb (ok_one (by kernel_rfl) rfl (okWide_bool_mk Try.underlying4 _))⟩

theorem over : Rows.tableFitsRow.holds Try.pinned (OpenSpec.ofChange Rows.tableFitsSpec) :=
  OpenClaim.holds_of_wide 10 Try.f10 rfl rfl rfl rfl rfl rfl rfl ⟨rfl, rfl, rfl, rfl, rfl⟩ rfl rfl rfl rfl rfl (by kernel_rfl) Try.func10 (by kernel_rfl)
    (of_decide_eq_true (by kernel_rfl)) (by unfold Func.isWrapper; first | (rw [if_pos (by decide +kernel)]; kernel_rfl) | (rw [if_neg (by decide +kernel)]; exact ⟨rfl, rfl⟩))
    (fun os started H enc _ => lifted os started H enc)

theorem proved : Rows.TableFitsSaid := over
#print axioms proved
end Go.Proofs.Ytkicnjbidbfajaa.tableFits
