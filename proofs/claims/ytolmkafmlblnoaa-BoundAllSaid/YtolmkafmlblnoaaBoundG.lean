/- Package bound: Rounds and Lag, the program's and the document's. -/
import Derived.Test.YtolmkafmlblnoaaBoundF
namespace Go.Proofs.Ytolmkafmlblnoaa
open Go.ChangeShapes Go.WideShapes Go.ChangeAt Go.RowKit
set_option linter.unusedVariables false
set_option linter.unusedSimpArgs false
def CLIn (x : Nat) (cs ls : Array Value) (w0 w : World) : Prop := Blk w x 23 cs ∧ Blk w (x + 1) 25 ls ∧ Below x w0 w
theorem CLIn.below {x : Nat} {cs ls : Array Value} {w0 w w' : World} (h : CLIn x cs ls w0 w) (hb : Below w.heap.size w w') : CLIn x cs ls w0 w' :=
  ⟨h.1.below hb h.1.lt, h.2.1.below hb h.2.1.lt, h.2.2.trans (hb.mono (Nat.le_of_lt h.1.lt))⟩
theorem CLIn.drew {x : Nat} {cs ls : Array Value} {w0 w : World} (h : CLIn x cs ls w0 w) : CLIn x cs ls w0 w.drew := ⟨h.1, h.2.1, h.2.2.drew⟩
theorem CLIn.mk0 (w : World) (cs ls : Array Value) : CLIn w.heap.size cs ls w ((w.alloc (.cells cs 23)).alloc (.cells ls 25)) :=
  ⟨(Blk.new w _ _).alloc _, alloc2_new _ _ _, ((Below.refl _ _).alloc (Nat.le_refl _) _).alloc (by simp) _⟩
def roundsS (tb lt sz qu ch ba g cap jit ev u r q : Int) (t : Bool) (c f wt : Int) : Int := if mayC tb lt sz qu ch ba g cap jit ev && mayL u r q c f wt then workS u r q t c + waitsS cap jit f wt + ev + 3 else 0
def uS (cap jit : Int) (u r q : Int) (t : Bool) (c f wt m : Int) : Int := max (workS u r q t c) 2 + waitsS cap jit f wt + costS m
def lagS (tb lt sz qu ch ba g cap jit ev u r q : Int) (t : Bool) (c f wt m : Int) : Int := if mayC tb lt sz qu ch ba g cap jit ev && mayL u r q c f wt then 3 * uS cap jit u r q t c f wt m + 2 * (ev + qu + 4 + waitsS cap jit f wt) + costS m + 4 else 0
theorem mayC_bd {tb lt sz qu ch ba g cap jit ev : Int} (h : mayC tb lt sz qu ch ba g cap jit ev = true) : 1 ≤ qu ∧ qu ≤ 64 ∧ mayB g cap jit = true ∧ 1 ≤ ev ∧ ev ≤ 1073741824 := by
  simp only [mayC, inB, Bool.and_eq_true, decide_eq_true_eq] at h
  obtain ⟨⟨⟨⟨⟨⟨⟨⟨_, _⟩, _⟩, h1⟩, _⟩, _⟩, h2⟩, h3⟩, h4⟩ := h
  exact ⟨h1.1, h1.2, h2, h3, h4⟩
theorem work_bd {u r q c f wt : Int} (t : Bool) (h : mayL u r q c f wt = true) : 0 ≤ workS u r q t c ∧ workS u r q t c ≤ 20971522 := by
  simp only [mayL, decide_eq_true_eq] at h
  unfold workS
  cases t <;> simp <;> omega
theorem waits_bd {u r q c f wt g cap jit : Int} (h : mayL u r q c f wt = true) (hb : mayB g cap jit = true) : 0 ≤ waitsS cap jit f wt ∧ waitsS cap jit f wt ≤ 2251801963266048 := by
  simp only [mayL, mayB, decide_eq_true_eq] at h hb
  unfold waitsS
  have := mul_bd f (2 + cap + jit) (by omega) (by omega) (by omega) (by omega)
  omega
theorem cost_bd (m : Int) : 4 ≤ costS m ∧ costS m ≤ 196 := by unfold costS; omega
set_option maxRecDepth 100000 in
set_option maxHeartbeats 2000000 in
theorem rounds_any (tb lt sz qu ch ba g cap jit ev : Int) (u r q : Int) (t : Bool) (c f wt : Int) (w : World) :
    Calls Try.prog 8 #[confV tb lt sz qu ch ba g cap jit ev, loadV u r q t c f wt] w fun e w' => e = .returned (.int .i64 (roundsS tb lt sz qu ch ba g cap jit ev u r q t c f wt)) ∧ Below w.heap.size w w' := by
  unfold loadV confV
  have HI0 := Lib.hid (CLIn.mk0 w #[.int .i64 tb, .int .i64 lt, .int .i64 sz, .int .i64 qu, .int .i64 ch, .int .i64 ba, .int .i64 g, .int .i64 cap, .int .i64 jit, .int .i64 ev] #[.int .i64 u, .int .i64 r, .int .i64 q, .bool t, .int .i64 c, .int .i64 f, .int .i64 wt])
  go_enter Try.func8, Try.ntmps8
  go_wp2_with fail
  obtain ⟨x, hx⟩ : ∃ x, w.heap.size = x := ⟨_, rfl⟩
  have hI := HI0.out
  rw [hx] at hI ⊢
  have HI := Lib.hid hI
  have HX := Lib.hid hx
  clear hI hx HI0
  refine (mayc_any tb lt sz qu ch ba g cap jit ev _).mono ?_
  rintro e w1 ⟨rfl, b1⟩
  have HI1 := Lib.hid (HI.out.below b1)
  clear HI b1
  rcases ff (mayC tb lt sz qu ch ba g cap jit ev) (fun _ => ff (mayL u r q c f wt) (fun _ => trivial)) with h0 | ⟨h0, h1 | ⟨h1, _⟩⟩
  · have HF := Lib.hid (show roundsS tb lt sz qu ch ba g cap jit ev u r q t c f wt = 0 by simp [roundsS, h0])
    rw [h0]
    go_wp2_with fail
    go_ret
    exact ⟨ret_int HF.out.symm, by first | exact HI1.out.2.2 | (rw [HX.out]; exact HI1.out.2.2)⟩
  all_goals
    have z0 : w1.cell? ⟨x + 1, 0, none⟩ = some (.int .i64 u) := HI1.out.2.1.cell 0
    have z1 : w1.cell? ⟨x + 1, 1, none⟩ = some (.int .i64 r) := HI1.out.2.1.cell 1
    have z2 : w1.cell? ⟨x + 1, 2, none⟩ = some (.int .i64 q) := HI1.out.2.1.cell 2
    have z3 : w1.cell? ⟨x + 1, 3, none⟩ = some (.bool t) := HI1.out.2.1.cell 3
    have z4 : w1.cell? ⟨x + 1, 4, none⟩ = some (.int .i64 c) := HI1.out.2.1.cell 4
    have z5 : w1.cell? ⟨x + 1, 5, none⟩ = some (.int .i64 f) := HI1.out.2.1.cell 5
    have z6 : w1.cell? ⟨x + 1, 6, none⟩ = some (.int .i64 wt) := HI1.out.2.1.cell 6
    rw [h0]
    go_wp2_with fail
    refine (mayl_any u r q t c f wt _).mono ?_
    rintro e w2 ⟨rfl, b2⟩
    have HI2 := Lib.hid (HI1.out.below b2)
    clear HI1 b2 z0 z1 z2 z3 z4 z5 z6
  · have HF := Lib.hid (show roundsS tb lt sz qu ch ba g cap jit ev u r q t c f wt = 0 by simp [roundsS, h1])
    rw [h1]
    go_wp2_with fail
    go_ret
    exact ⟨ret_int HF.out.symm, by first | exact HI2.out.2.2 | (rw [HX.out]; exact HI2.out.2.2)⟩
  · rw [h1]
    have hb := mayC_bd h0
    have hwb := work_bd t h1
    have hsb := waits_bd h1 hb.2.2.1
    have hS := Lib.hid (show roundsS tb lt sz qu ch ba g cap jit ev u r q t c f wt = workS u r q t c + waitsS cap jit f wt + ev + 3 by simp [roundsS, h0, h1])
    have HW := Lib.hid h1
    have HB := Lib.hid hb
    have hev := hb.2.2.2
    clear h0 h1 hb
    generalize hWS : workS u r q t c = WS at *
    generalize hVS : waitsS cap jit f wt = VS at *
    have HWS := Lib.hid hWS
    have HVS := Lib.hid hVS
    clear hWS hVS
    have hw1 : IntKind.i64.wrap (WS + VS) = WS + VS := IntWalk.i64_in _ (by omega)
    have hw2 : IntKind.i64.wrap (WS + VS + ev) = WS + VS + ev := IntWalk.i64_in _ (by omega)
    have hw3 : IntKind.i64.wrap (WS + VS + ev + 3) = WS + VS + ev + 3 := IntWalk.i64_in _ (by omega)
    have hsum := Lib.hid (show wrap64 (wrap64 (wrap64 (WS + VS) + ev) + 3) = WS + VS + ev + 3 by simp only [wrap64]; omega)
    have hwsb : -9223372036854775808 ≤ WS ∧ WS ≤ 9223372036854775807 := by omega
    go_wp2_with fail
    have hne : Nonempty (WIn (CLIn x #[.int .i64 tb, .int .i64 lt, .int .i64 sz, .int .i64 qu, .int .i64 ch, .int .i64 ba, .int .i64 g, .int .i64 cap, .int .i64 jit, .int .i64 ev] #[.int .i64 u, .int .i64 r, .int .i64 q, .bool t, .int .i64 c, .int .i64 f, .int .i64 wt] w)) := ⟨⟨_, HI2.out⟩⟩
    have c0 : ∀ y : WIn (CLIn x #[.int .i64 tb, .int .i64 lt, .int .i64 sz, .int .i64 qu, .int .i64 ch, .int .i64 ba, .int .i64 g, .int .i64 cap, .int .i64 jit, .int .i64 ev] #[.int .i64 u, .int .i64 r, .int .i64 q, .bool t, .int .i64 c, .int .i64 f, .int .i64 wt] w), y.w.cell? ⟨x, 0, none⟩ = some (.int .i64 tb) := fun y => y.ok.1.cell 0
    have c1 : ∀ y : WIn (CLIn x #[.int .i64 tb, .int .i64 lt, .int .i64 sz, .int .i64 qu, .int .i64 ch, .int .i64 ba, .int .i64 g, .int .i64 cap, .int .i64 jit, .int .i64 ev] #[.int .i64 u, .int .i64 r, .int .i64 q, .bool t, .int .i64 c, .int .i64 f, .int .i64 wt] w), y.w.cell? ⟨x, 1, none⟩ = some (.int .i64 lt) := fun y => y.ok.1.cell 1
    have c2 : ∀ y : WIn (CLIn x #[.int .i64 tb, .int .i64 lt, .int .i64 sz, .int .i64 qu, .int .i64 ch, .int .i64 ba, .int .i64 g, .int .i64 cap, .int .i64 jit, .int .i64 ev] #[.int .i64 u, .int .i64 r, .int .i64 q, .bool t, .int .i64 c, .int .i64 f, .int .i64 wt] w), y.w.cell? ⟨x, 2, none⟩ = some (.int .i64 sz) := fun y => y.ok.1.cell 2
    have c3 : ∀ y : WIn (CLIn x #[.int .i64 tb, .int .i64 lt, .int .i64 sz, .int .i64 qu, .int .i64 ch, .int .i64 ba, .int .i64 g, .int .i64 cap, .int .i64 jit, .int .i64 ev] #[.int .i64 u, .int .i64 r, .int .i64 q, .bool t, .int .i64 c, .int .i64 f, .int .i64 wt] w), y.w.cell? ⟨x, 3, none⟩ = some (.int .i64 qu) := fun y => y.ok.1.cell 3
    have c4 : ∀ y : WIn (CLIn x #[.int .i64 tb, .int .i64 lt, .int .i64 sz, .int .i64 qu, .int .i64 ch, .int .i64 ba, .int .i64 g, .int .i64 cap, .int .i64 jit, .int .i64 ev] #[.int .i64 u, .int .i64 r, .int .i64 q, .bool t, .int .i64 c, .int .i64 f, .int .i64 wt] w), y.w.cell? ⟨x, 4, none⟩ = some (.int .i64 ch) := fun y => y.ok.1.cell 4
    have c5 : ∀ y : WIn (CLIn x #[.int .i64 tb, .int .i64 lt, .int .i64 sz, .int .i64 qu, .int .i64 ch, .int .i64 ba, .int .i64 g, .int .i64 cap, .int .i64 jit, .int .i64 ev] #[.int .i64 u, .int .i64 r, .int .i64 q, .bool t, .int .i64 c, .int .i64 f, .int .i64 wt] w), y.w.cell? ⟨x, 5, none⟩ = some (.int .i64 ba) := fun y => y.ok.1.cell 5
    have c6 : ∀ y : WIn (CLIn x #[.int .i64 tb, .int .i64 lt, .int .i64 sz, .int .i64 qu, .int .i64 ch, .int .i64 ba, .int .i64 g, .int .i64 cap, .int .i64 jit, .int .i64 ev] #[.int .i64 u, .int .i64 r, .int .i64 q, .bool t, .int .i64 c, .int .i64 f, .int .i64 wt] w), y.w.cell? ⟨x, 6, none⟩ = some (.int .i64 g) := fun y => y.ok.1.cell 6
    have c7 : ∀ y : WIn (CLIn x #[.int .i64 tb, .int .i64 lt, .int .i64 sz, .int .i64 qu, .int .i64 ch, .int .i64 ba, .int .i64 g, .int .i64 cap, .int .i64 jit, .int .i64 ev] #[.int .i64 u, .int .i64 r, .int .i64 q, .bool t, .int .i64 c, .int .i64 f, .int .i64 wt] w), y.w.cell? ⟨x, 7, none⟩ = some (.int .i64 cap) := fun y => y.ok.1.cell 7
    have c8 : ∀ y : WIn (CLIn x #[.int .i64 tb, .int .i64 lt, .int .i64 sz, .int .i64 qu, .int .i64 ch, .int .i64 ba, .int .i64 g, .int .i64 cap, .int .i64 jit, .int .i64 ev] #[.int .i64 u, .int .i64 r, .int .i64 q, .bool t, .int .i64 c, .int .i64 f, .int .i64 wt] w), y.w.cell? ⟨x, 8, none⟩ = some (.int .i64 jit) := fun y => y.ok.1.cell 8
    have c9 : ∀ y : WIn (CLIn x #[.int .i64 tb, .int .i64 lt, .int .i64 sz, .int .i64 qu, .int .i64 ch, .int .i64 ba, .int .i64 g, .int .i64 cap, .int .i64 jit, .int .i64 ev] #[.int .i64 u, .int .i64 r, .int .i64 q, .bool t, .int .i64 c, .int .i64 f, .int .i64 wt] w), y.w.cell? ⟨x, 9, none⟩ = some (.int .i64 ev) := fun y => y.ok.1.cell 9
    have z0 : ∀ y : WIn (CLIn x #[.int .i64 tb, .int .i64 lt, .int .i64 sz, .int .i64 qu, .int .i64 ch, .int .i64 ba, .int .i64 g, .int .i64 cap, .int .i64 jit, .int .i64 ev] #[.int .i64 u, .int .i64 r, .int .i64 q, .bool t, .int .i64 c, .int .i64 f, .int .i64 wt] w), y.w.cell? ⟨x + 1, 0, none⟩ = some (.int .i64 u) := fun y => y.ok.2.1.cell 0
    have z1 : ∀ y : WIn (CLIn x #[.int .i64 tb, .int .i64 lt, .int .i64 sz, .int .i64 qu, .int .i64 ch, .int .i64 ba, .int .i64 g, .int .i64 cap, .int .i64 jit, .int .i64 ev] #[.int .i64 u, .int .i64 r, .int .i64 q, .bool t, .int .i64 c, .int .i64 f, .int .i64 wt] w), y.w.cell? ⟨x + 1, 1, none⟩ = some (.int .i64 r) := fun y => y.ok.2.1.cell 1
    have z2 : ∀ y : WIn (CLIn x #[.int .i64 tb, .int .i64 lt, .int .i64 sz, .int .i64 qu, .int .i64 ch, .int .i64 ba, .int .i64 g, .int .i64 cap, .int .i64 jit, .int .i64 ev] #[.int .i64 u, .int .i64 r, .int .i64 q, .bool t, .int .i64 c, .int .i64 f, .int .i64 wt] w), y.w.cell? ⟨x + 1, 2, none⟩ = some (.int .i64 q) := fun y => y.ok.2.1.cell 2
    have z3 : ∀ y : WIn (CLIn x #[.int .i64 tb, .int .i64 lt, .int .i64 sz, .int .i64 qu, .int .i64 ch, .int .i64 ba, .int .i64 g, .int .i64 cap, .int .i64 jit, .int .i64 ev] #[.int .i64 u, .int .i64 r, .int .i64 q, .bool t, .int .i64 c, .int .i64 f, .int .i64 wt] w), y.w.cell? ⟨x + 1, 3, none⟩ = some (.bool t) := fun y => y.ok.2.1.cell 3
    have z4 : ∀ y : WIn (CLIn x #[.int .i64 tb, .int .i64 lt, .int .i64 sz, .int .i64 qu, .int .i64 ch, .int .i64 ba, .int .i64 g, .int .i64 cap, .int .i64 jit, .int .i64 ev] #[.int .i64 u, .int .i64 r, .int .i64 q, .bool t, .int .i64 c, .int .i64 f, .int .i64 wt] w), y.w.cell? ⟨x + 1, 4, none⟩ = some (.int .i64 c) := fun y => y.ok.2.1.cell 4
    have z5 : ∀ y : WIn (CLIn x #[.int .i64 tb, .int .i64 lt, .int .i64 sz, .int .i64 qu, .int .i64 ch, .int .i64 ba, .int .i64 g, .int .i64 cap, .int .i64 jit, .int .i64 ev] #[.int .i64 u, .int .i64 r, .int .i64 q, .bool t, .int .i64 c, .int .i64 f, .int .i64 wt] w), y.w.cell? ⟨x + 1, 5, none⟩ = some (.int .i64 f) := fun y => y.ok.2.1.cell 5
    have z6 : ∀ y : WIn (CLIn x #[.int .i64 tb, .int .i64 lt, .int .i64 sz, .int .i64 qu, .int .i64 ch, .int .i64 ba, .int .i64 g, .int .i64 cap, .int .i64 jit, .int .i64 ev] #[.int .i64 u, .int .i64 r, .int .i64 q, .bool t, .int .i64 c, .int .i64 f, .int .i64 wt] w), y.w.cell? ⟨x + 1, 6, none⟩ = some (.int .i64 wt) := fun y => y.ok.2.1.cell 6
    have HWC := Lib.hid (show ∀ w, Calls Try.prog 20 #[.agg #[.int .i64 u, .int .i64 r, .int .i64 q, .bool t, .int .i64 c, .int .i64 f, .int .i64 wt]] w fun e w' => e = .returned (.int .i64 WS) ∧ Below w.heap.size w w' from fun w => by rw [← HWS.out]; exact work_any u r q t c f wt w HW.out)
    have HVC := Lib.hid (show ∀ w, Calls Try.prog 21 #[.agg #[.int .i64 tb, .int .i64 lt, .int .i64 sz, .int .i64 qu, .int .i64 ch, .int .i64 ba, .int .i64 g, .int .i64 cap, .int .i64 jit, .int .i64 ev], .agg #[.int .i64 u, .int .i64 r, .int .i64 q, .bool t, .int .i64 c, .int .i64 f, .int .i64 wt]] w fun e w' => e = .returned (.int .i64 VS) ∧ Below w.heap.size w w' from fun w => by rw [← HVS.out]; exact waits_any tb lt sz qu ch ba g cap jit ev u r q t c f wt w HW.out HB.out.2.2.1)
    refine wp_region_qtail2 (CLIn x #[.int .i64 tb, .int .i64 lt, .int .i64 sz, .int .i64 qu, .int .i64 ch, .int .i64 ba, .int .i64 g, .int .i64 cap, .int .i64 jit, .int .i64 ev] #[.int .i64 u, .int .i64 r, .int .i64 q, .bool t, .int .i64 c, .int .i64 f, .int .i64 wt] w) 7 (by kernel_rfl) (by kernel_rfl) HI2.out.drew ?_
    repeat (refine wpQ_step (fun K hK => ?_); go_simp; first | (refine hK _ ?_; clear hK K) | (apply Exists.intro; refine ⟨fun _ => ?_, hK _ ?_⟩; (first | (go_at_call 20; exact (HWC.out _).mono fun e w' ⟨he, hb⟩ => ⟨he, ⟨w', CLIn.below (WIn.ok _) hb⟩, rfl⟩) | (go_at_call 21; exact (HVC.out _).mono fun e w' ⟨he, hb⟩ => ⟨he, ⟨w', CLIn.below (WIn.ok _) hb⟩, rfl⟩)); clear hK K))
    refine wpQ_nil ?_
    intro Y
    have y1 := Lib.hid Y.ok
    clear c0 c1 c2 c3 c4 c5 c6 c7 c8 c9 z0 z1 z2 z3 z4 z5 z6 hne HI2 HWC HVC
    generalize Y.w = W2 at *
    clear Y
    go_wp2_with fail
    refine (sum4' WS VS ev 3 _ _ (t := 2) (by exact heap_alloc_new _ _) _ _ hwsb hsum.out).mono ?_
    rintro e w3 ⟨rfl, rfl⟩
    go_wp2_with fail
    go_ret
    exact ⟨ret_int hS.out.symm, by first | exact y1.out.2.2.alloc (Nat.le_of_lt y1.out.1.lt) _ | (rw [HX.out]; exact y1.out.2.2.alloc (Nat.le_of_lt y1.out.1.lt) _)⟩
set_option maxRecDepth 100000 in
set_option maxHeartbeats 2000000 in
theorem rrounds_any (tb lt sz qu ch ba g cap jit ev : Int) (u r q : Int) (t : Bool) (c f wt : Int) (w : World) :
    Calls Try.prog 9 #[confV tb lt sz qu ch ba g cap jit ev, loadV u r q t c f wt] w fun e w' => e = .returned (.int .i64 (roundsS tb lt sz qu ch ba g cap jit ev u r q t c f wt)) ∧ Below w.heap.size w w' := by
  unfold loadV confV
  have HI0 := Lib.hid (CLIn.mk0 w #[.int .i64 tb, .int .i64 lt, .int .i64 sz, .int .i64 qu, .int .i64 ch, .int .i64 ba, .int .i64 g, .int .i64 cap, .int .i64 jit, .int .i64 ev] #[.int .i64 u, .int .i64 r, .int .i64 q, .bool t, .int .i64 c, .int .i64 f, .int .i64 wt])
  go_enter Try.func9, Try.ntmps9
  go_wp2_with fail
  obtain ⟨x, hx⟩ : ∃ x, w.heap.size = x := ⟨_, rfl⟩
  have hI := HI0.out
  rw [hx] at hI ⊢
  have HI := Lib.hid hI
  have HX := Lib.hid hx
  clear hI hx HI0
  refine (rmayc_any tb lt sz qu ch ba g cap jit ev _).mono ?_
  rintro e w1 ⟨rfl, b1⟩
  have HI1 := Lib.hid (HI.out.below b1)
  clear HI b1
  rcases ff (mayC tb lt sz qu ch ba g cap jit ev) (fun _ => ff (mayL u r q c f wt) (fun _ => trivial)) with h0 | ⟨h0, h1 | ⟨h1, _⟩⟩
  · have HF := Lib.hid (show roundsS tb lt sz qu ch ba g cap jit ev u r q t c f wt = 0 by simp [roundsS, h0])
    rw [h0]
    go_wp2_with fail
    go_ret
    exact ⟨ret_int HF.out.symm, by first | exact HI1.out.2.2 | (rw [HX.out]; exact HI1.out.2.2)⟩
  all_goals
    have z0 : w1.cell? ⟨x + 1, 0, none⟩ = some (.int .i64 u) := HI1.out.2.1.cell 0
    have z1 : w1.cell? ⟨x + 1, 1, none⟩ = some (.int .i64 r) := HI1.out.2.1.cell 1
    have z2 : w1.cell? ⟨x + 1, 2, none⟩ = some (.int .i64 q) := HI1.out.2.1.cell 2
    have z3 : w1.cell? ⟨x + 1, 3, none⟩ = some (.bool t) := HI1.out.2.1.cell 3
    have z4 : w1.cell? ⟨x + 1, 4, none⟩ = some (.int .i64 c) := HI1.out.2.1.cell 4
    have z5 : w1.cell? ⟨x + 1, 5, none⟩ = some (.int .i64 f) := HI1.out.2.1.cell 5
    have z6 : w1.cell? ⟨x + 1, 6, none⟩ = some (.int .i64 wt) := HI1.out.2.1.cell 6
    rw [h0]
    go_wp2_with fail
    refine (rmayl_any u r q t c f wt _).mono ?_
    rintro e w2 ⟨rfl, b2⟩
    have HI2 := Lib.hid (HI1.out.below b2)
    clear HI1 b2 z0 z1 z2 z3 z4 z5 z6
  · have HF := Lib.hid (show roundsS tb lt sz qu ch ba g cap jit ev u r q t c f wt = 0 by simp [roundsS, h1])
    rw [h1]
    go_wp2_with fail
    go_ret
    exact ⟨ret_int HF.out.symm, by first | exact HI2.out.2.2 | (rw [HX.out]; exact HI2.out.2.2)⟩
  · rw [h1]
    have hb := mayC_bd h0
    have hwb := work_bd t h1
    have hsb := waits_bd h1 hb.2.2.1
    have hS := Lib.hid (show roundsS tb lt sz qu ch ba g cap jit ev u r q t c f wt = workS u r q t c + waitsS cap jit f wt + ev + 3 by simp [roundsS, h0, h1])
    have HW := Lib.hid h1
    have HB := Lib.hid hb
    have hev := hb.2.2.2
    clear h0 h1 hb
    generalize hWS : workS u r q t c = WS at *
    generalize hVS : waitsS cap jit f wt = VS at *
    have HWS := Lib.hid hWS
    have HVS := Lib.hid hVS
    clear hWS hVS
    have hw1 : IntKind.i64.wrap (WS + VS) = WS + VS := IntWalk.i64_in _ (by omega)
    have hw2 : IntKind.i64.wrap (WS + VS + ev) = WS + VS + ev := IntWalk.i64_in _ (by omega)
    have hw3 : IntKind.i64.wrap (WS + VS + ev + 3) = WS + VS + ev + 3 := IntWalk.i64_in _ (by omega)
    have hsum := Lib.hid (show wrap64 (wrap64 (wrap64 (WS + VS) + ev) + 3) = WS + VS + ev + 3 by simp only [wrap64]; omega)
    have hwsb : -9223372036854775808 ≤ WS ∧ WS ≤ 9223372036854775807 := by omega
    go_wp2_with fail
    have hne : Nonempty (WIn (CLIn x #[.int .i64 tb, .int .i64 lt, .int .i64 sz, .int .i64 qu, .int .i64 ch, .int .i64 ba, .int .i64 g, .int .i64 cap, .int .i64 jit, .int .i64 ev] #[.int .i64 u, .int .i64 r, .int .i64 q, .bool t, .int .i64 c, .int .i64 f, .int .i64 wt] w)) := ⟨⟨_, HI2.out⟩⟩
    have c0 : ∀ y : WIn (CLIn x #[.int .i64 tb, .int .i64 lt, .int .i64 sz, .int .i64 qu, .int .i64 ch, .int .i64 ba, .int .i64 g, .int .i64 cap, .int .i64 jit, .int .i64 ev] #[.int .i64 u, .int .i64 r, .int .i64 q, .bool t, .int .i64 c, .int .i64 f, .int .i64 wt] w), y.w.cell? ⟨x, 0, none⟩ = some (.int .i64 tb) := fun y => y.ok.1.cell 0
    have c1 : ∀ y : WIn (CLIn x #[.int .i64 tb, .int .i64 lt, .int .i64 sz, .int .i64 qu, .int .i64 ch, .int .i64 ba, .int .i64 g, .int .i64 cap, .int .i64 jit, .int .i64 ev] #[.int .i64 u, .int .i64 r, .int .i64 q, .bool t, .int .i64 c, .int .i64 f, .int .i64 wt] w), y.w.cell? ⟨x, 1, none⟩ = some (.int .i64 lt) := fun y => y.ok.1.cell 1
    have c2 : ∀ y : WIn (CLIn x #[.int .i64 tb, .int .i64 lt, .int .i64 sz, .int .i64 qu, .int .i64 ch, .int .i64 ba, .int .i64 g, .int .i64 cap, .int .i64 jit, .int .i64 ev] #[.int .i64 u, .int .i64 r, .int .i64 q, .bool t, .int .i64 c, .int .i64 f, .int .i64 wt] w), y.w.cell? ⟨x, 2, none⟩ = some (.int .i64 sz) := fun y => y.ok.1.cell 2
    have c3 : ∀ y : WIn (CLIn x #[.int .i64 tb, .int .i64 lt, .int .i64 sz, .int .i64 qu, .int .i64 ch, .int .i64 ba, .int .i64 g, .int .i64 cap, .int .i64 jit, .int .i64 ev] #[.int .i64 u, .int .i64 r, .int .i64 q, .bool t, .int .i64 c, .int .i64 f, .int .i64 wt] w), y.w.cell? ⟨x, 3, none⟩ = some (.int .i64 qu) := fun y => y.ok.1.cell 3
    have c4 : ∀ y : WIn (CLIn x #[.int .i64 tb, .int .i64 lt, .int .i64 sz, .int .i64 qu, .int .i64 ch, .int .i64 ba, .int .i64 g, .int .i64 cap, .int .i64 jit, .int .i64 ev] #[.int .i64 u, .int .i64 r, .int .i64 q, .bool t, .int .i64 c, .int .i64 f, .int .i64 wt] w), y.w.cell? ⟨x, 4, none⟩ = some (.int .i64 ch) := fun y => y.ok.1.cell 4
    have c5 : ∀ y : WIn (CLIn x #[.int .i64 tb, .int .i64 lt, .int .i64 sz, .int .i64 qu, .int .i64 ch, .int .i64 ba, .int .i64 g, .int .i64 cap, .int .i64 jit, .int .i64 ev] #[.int .i64 u, .int .i64 r, .int .i64 q, .bool t, .int .i64 c, .int .i64 f, .int .i64 wt] w), y.w.cell? ⟨x, 5, none⟩ = some (.int .i64 ba) := fun y => y.ok.1.cell 5
    have c6 : ∀ y : WIn (CLIn x #[.int .i64 tb, .int .i64 lt, .int .i64 sz, .int .i64 qu, .int .i64 ch, .int .i64 ba, .int .i64 g, .int .i64 cap, .int .i64 jit, .int .i64 ev] #[.int .i64 u, .int .i64 r, .int .i64 q, .bool t, .int .i64 c, .int .i64 f, .int .i64 wt] w), y.w.cell? ⟨x, 6, none⟩ = some (.int .i64 g) := fun y => y.ok.1.cell 6
    have c7 : ∀ y : WIn (CLIn x #[.int .i64 tb, .int .i64 lt, .int .i64 sz, .int .i64 qu, .int .i64 ch, .int .i64 ba, .int .i64 g, .int .i64 cap, .int .i64 jit, .int .i64 ev] #[.int .i64 u, .int .i64 r, .int .i64 q, .bool t, .int .i64 c, .int .i64 f, .int .i64 wt] w), y.w.cell? ⟨x, 7, none⟩ = some (.int .i64 cap) := fun y => y.ok.1.cell 7
    have c8 : ∀ y : WIn (CLIn x #[.int .i64 tb, .int .i64 lt, .int .i64 sz, .int .i64 qu, .int .i64 ch, .int .i64 ba, .int .i64 g, .int .i64 cap, .int .i64 jit, .int .i64 ev] #[.int .i64 u, .int .i64 r, .int .i64 q, .bool t, .int .i64 c, .int .i64 f, .int .i64 wt] w), y.w.cell? ⟨x, 8, none⟩ = some (.int .i64 jit) := fun y => y.ok.1.cell 8
    have c9 : ∀ y : WIn (CLIn x #[.int .i64 tb, .int .i64 lt, .int .i64 sz, .int .i64 qu, .int .i64 ch, .int .i64 ba, .int .i64 g, .int .i64 cap, .int .i64 jit, .int .i64 ev] #[.int .i64 u, .int .i64 r, .int .i64 q, .bool t, .int .i64 c, .int .i64 f, .int .i64 wt] w), y.w.cell? ⟨x, 9, none⟩ = some (.int .i64 ev) := fun y => y.ok.1.cell 9
    have z0 : ∀ y : WIn (CLIn x #[.int .i64 tb, .int .i64 lt, .int .i64 sz, .int .i64 qu, .int .i64 ch, .int .i64 ba, .int .i64 g, .int .i64 cap, .int .i64 jit, .int .i64 ev] #[.int .i64 u, .int .i64 r, .int .i64 q, .bool t, .int .i64 c, .int .i64 f, .int .i64 wt] w), y.w.cell? ⟨x + 1, 0, none⟩ = some (.int .i64 u) := fun y => y.ok.2.1.cell 0
    have z1 : ∀ y : WIn (CLIn x #[.int .i64 tb, .int .i64 lt, .int .i64 sz, .int .i64 qu, .int .i64 ch, .int .i64 ba, .int .i64 g, .int .i64 cap, .int .i64 jit, .int .i64 ev] #[.int .i64 u, .int .i64 r, .int .i64 q, .bool t, .int .i64 c, .int .i64 f, .int .i64 wt] w), y.w.cell? ⟨x + 1, 1, none⟩ = some (.int .i64 r) := fun y => y.ok.2.1.cell 1
    have z2 : ∀ y : WIn (CLIn x #[.int .i64 tb, .int .i64 lt, .int .i64 sz, .int .i64 qu, .int .i64 ch, .int .i64 ba, .int .i64 g, .int .i64 cap, .int .i64 jit, .int .i64 ev] #[.int .i64 u, .int .i64 r, .int .i64 q, .bool t, .int .i64 c, .int .i64 f, .int .i64 wt] w), y.w.cell? ⟨x + 1, 2, none⟩ = some (.int .i64 q) := fun y => y.ok.2.1.cell 2
    have z3 : ∀ y : WIn (CLIn x #[.int .i64 tb, .int .i64 lt, .int .i64 sz, .int .i64 qu, .int .i64 ch, .int .i64 ba, .int .i64 g, .int .i64 cap, .int .i64 jit, .int .i64 ev] #[.int .i64 u, .int .i64 r, .int .i64 q, .bool t, .int .i64 c, .int .i64 f, .int .i64 wt] w), y.w.cell? ⟨x + 1, 3, none⟩ = some (.bool t) := fun y => y.ok.2.1.cell 3
    have z4 : ∀ y : WIn (CLIn x #[.int .i64 tb, .int .i64 lt, .int .i64 sz, .int .i64 qu, .int .i64 ch, .int .i64 ba, .int .i64 g, .int .i64 cap, .int .i64 jit, .int .i64 ev] #[.int .i64 u, .int .i64 r, .int .i64 q, .bool t, .int .i64 c, .int .i64 f, .int .i64 wt] w), y.w.cell? ⟨x + 1, 4, none⟩ = some (.int .i64 c) := fun y => y.ok.2.1.cell 4
    have z5 : ∀ y : WIn (CLIn x #[.int .i64 tb, .int .i64 lt, .int .i64 sz, .int .i64 qu, .int .i64 ch, .int .i64 ba, .int .i64 g, .int .i64 cap, .int .i64 jit, .int .i64 ev] #[.int .i64 u, .int .i64 r, .int .i64 q, .bool t, .int .i64 c, .int .i64 f, .int .i64 wt] w), y.w.cell? ⟨x + 1, 5, none⟩ = some (.int .i64 f) := fun y => y.ok.2.1.cell 5
    have z6 : ∀ y : WIn (CLIn x #[.int .i64 tb, .int .i64 lt, .int .i64 sz, .int .i64 qu, .int .i64 ch, .int .i64 ba, .int .i64 g, .int .i64 cap, .int .i64 jit, .int .i64 ev] #[.int .i64 u, .int .i64 r, .int .i64 q, .bool t, .int .i64 c, .int .i64 f, .int .i64 wt] w), y.w.cell? ⟨x + 1, 6, none⟩ = some (.int .i64 wt) := fun y => y.ok.2.1.cell 6
    have HWC := Lib.hid (show ∀ w, Calls Try.prog 24 #[.agg #[.int .i64 u, .int .i64 r, .int .i64 q, .bool t, .int .i64 c, .int .i64 f, .int .i64 wt]] w fun e w' => e = .returned (.int .i64 WS) ∧ Below w.heap.size w w' from fun w => by rw [← HWS.out]; exact rwork_any u r q t c f wt w HW.out)
    have HVC := Lib.hid (show ∀ w, Calls Try.prog 25 #[.agg #[.int .i64 tb, .int .i64 lt, .int .i64 sz, .int .i64 qu, .int .i64 ch, .int .i64 ba, .int .i64 g, .int .i64 cap, .int .i64 jit, .int .i64 ev], .agg #[.int .i64 u, .int .i64 r, .int .i64 q, .bool t, .int .i64 c, .int .i64 f, .int .i64 wt]] w fun e w' => e = .returned (.int .i64 VS) ∧ Below w.heap.size w w' from fun w => by rw [← HVS.out]; exact slow_any tb lt sz qu ch ba g cap jit ev u r q t c f wt w HW.out HB.out.2.2.1)
    refine wp_region_quiet2 (CLIn x #[.int .i64 tb, .int .i64 lt, .int .i64 sz, .int .i64 qu, .int .i64 ch, .int .i64 ba, .int .i64 g, .int .i64 cap, .int .i64 jit, .int .i64 ev] #[.int .i64 u, .int .i64 r, .int .i64 q, .bool t, .int .i64 c, .int .i64 f, .int .i64 wt] w) (by kernel_rfl) (by kernel_rfl) HI2.out.drew ?_
    repeat (refine wpQ_step (fun K hK => ?_); go_simp; first | (refine hK _ ?_; clear hK K) | (apply Exists.intro; refine ⟨fun _ => ?_, hK _ ?_⟩; (first | (go_at_call 24; exact (HWC.out _).mono fun e w' ⟨he, hb⟩ => ⟨he, ⟨w', CLIn.below (WIn.ok _) hb⟩, rfl⟩) | (go_at_call 25; exact (HVC.out _).mono fun e w' ⟨he, hb⟩ => ⟨he, ⟨w', CLIn.below (WIn.ok _) hb⟩, rfl⟩)); clear hK K))
    refine wpQ_nil ?_
    intro Y
    have y1 := Lib.hid Y.ok
    clear c0 c1 c2 c3 c4 c5 c6 c7 c8 c9 z0 z1 z2 z3 z4 z5 z6 hne HI2 HWC HVC
    generalize Y.w = W2 at *
    clear Y
    go_wp2_with fail
    go_ret
    exact ⟨ret_int hS.out.symm, by first | exact y1.out.2.2 | (rw [HX.out]; exact y1.out.2.2)⟩
theorem alloc3_new (w : World) (o p r : Obj) : (((w.alloc o).alloc p).alloc r).heap[w.heap.size + 1 + 1]? = some r := by
  have h := heap_alloc_new ((w.alloc o).alloc p) r
  rwa [World.size_alloc, World.size_alloc] at h
set_option maxRecDepth 100000 in
set_option maxHeartbeats 2000000 in
theorem lag_any (tb lt sz qu ch ba g cap jit ev : Int) (u r q : Int) (t : Bool) (c f wt : Int) (m : Int) (w : World) :
    Calls Try.prog 10 #[confV tb lt sz qu ch ba g cap jit ev, loadV u r q t c f wt, .int .i64 m] w fun e w' => e = .returned (.int .i64 (lagS tb lt sz qu ch ba g cap jit ev u r q t c f wt m)) ∧ Below w.heap.size w w' := by
  unfold loadV confV
  have HI0 := Lib.hid (CLIn.mk0 w #[.int .i64 tb, .int .i64 lt, .int .i64 sz, .int .i64 qu, .int .i64 ch, .int .i64 ba, .int .i64 g, .int .i64 cap, .int .i64 jit, .int .i64 ev] #[.int .i64 u, .int .i64 r, .int .i64 q, .bool t, .int .i64 c, .int .i64 f, .int .i64 wt])
  go_enter Try.func10, Try.ntmps10
  go_wp2_with fail
  obtain ⟨x, hx⟩ : ∃ x, w.heap.size = x := ⟨_, rfl⟩
  have hI := HI0.out
  rw [hx] at hI ⊢
  have HI := Lib.hid hI
  have HX := Lib.hid hx
  clear hI hx HI0
  refine (mayc_any tb lt sz qu ch ba g cap jit ev _).mono ?_
  rintro e w1 ⟨rfl, b1⟩
  have HI1 := Lib.hid (HI.out.below b1)
  clear HI b1
  rcases ff (mayC tb lt sz qu ch ba g cap jit ev) (fun _ => ff (mayL u r q c f wt) (fun _ => trivial)) with h0 | ⟨h0, h1 | ⟨h1, _⟩⟩
  · have HF := Lib.hid (show lagS tb lt sz qu ch ba g cap jit ev u r q t c f wt m = 0 by simp [lagS, h0])
    rw [h0]
    go_wp2_with fail
    go_ret
    exact ⟨ret_int HF.out.symm, by first | exact HI1.out.2.2 | (rw [HX.out]; exact HI1.out.2.2)⟩
  all_goals
    have z0 : w1.cell? ⟨x + 1, 0, none⟩ = some (.int .i64 u) := HI1.out.2.1.cell 0
    have z1 : w1.cell? ⟨x + 1, 1, none⟩ = some (.int .i64 r) := HI1.out.2.1.cell 1
    have z2 : w1.cell? ⟨x + 1, 2, none⟩ = some (.int .i64 q) := HI1.out.2.1.cell 2
    have z3 : w1.cell? ⟨x + 1, 3, none⟩ = some (.bool t) := HI1.out.2.1.cell 3
    have z4 : w1.cell? ⟨x + 1, 4, none⟩ = some (.int .i64 c) := HI1.out.2.1.cell 4
    have z5 : w1.cell? ⟨x + 1, 5, none⟩ = some (.int .i64 f) := HI1.out.2.1.cell 5
    have z6 : w1.cell? ⟨x + 1, 6, none⟩ = some (.int .i64 wt) := HI1.out.2.1.cell 6
    rw [h0]
    go_wp2_with fail
    refine (mayl_any u r q t c f wt _).mono ?_
    rintro e w2 ⟨rfl, b2⟩
    have HI2 := Lib.hid (HI1.out.below b2)
    clear HI1 b2 z0 z1 z2 z3 z4 z5 z6
  · have HF := Lib.hid (show lagS tb lt sz qu ch ba g cap jit ev u r q t c f wt m = 0 by simp [lagS, h1])
    rw [h1]
    go_wp2_with fail
    go_ret
    exact ⟨ret_int HF.out.symm, by first | exact HI2.out.2.2 | (rw [HX.out]; exact HI2.out.2.2)⟩
  · rw [h1]
    have hb := mayC_bd h0
    have hwb := work_bd t h1
    have hsb := waits_bd h1 hb.2.2.1
    have hcb := cost_bd m
    have hS := Lib.hid (show lagS tb lt sz qu ch ba g cap jit ev u r q t c f wt m = 3 * (max (workS u r q t c) 2 + waitsS cap jit f wt + costS m) + 2 * (ev + qu + 4 + waitsS cap jit f wt) + costS m + 4 by simp [lagS, uS, h0, h1])
    have HW := Lib.hid h1
    have HB := Lib.hid hb
    have hev := hb.2.2.2
    have hqu := And.intro hb.1 hb.2.1
    clear h0 h1 hb
    have HWC := Lib.hid (fun w => work_any u r q t c f wt w HW.out)
    have HVC := Lib.hid (fun w => waits_any tb lt sz qu ch ba g cap jit ev u r q t c f wt w HW.out HB.out.2.2.1)
    have HCC := Lib.hid (fun w => cost_any m w)
    generalize workS u r q t c = WS at *
    generalize waitsS cap jit f wt = VS at *
    generalize costS m = CS at *
    have c0 : w2.cell? ⟨x, 0, none⟩ = some (.int .i64 tb) := HI2.out.1.cell 0
    have c1 : w2.cell? ⟨x, 1, none⟩ = some (.int .i64 lt) := HI2.out.1.cell 1
    have c2 : w2.cell? ⟨x, 2, none⟩ = some (.int .i64 sz) := HI2.out.1.cell 2
    have c3 : w2.cell? ⟨x, 3, none⟩ = some (.int .i64 qu) := HI2.out.1.cell 3
    have c4 : w2.cell? ⟨x, 4, none⟩ = some (.int .i64 ch) := HI2.out.1.cell 4
    have c5 : w2.cell? ⟨x, 5, none⟩ = some (.int .i64 ba) := HI2.out.1.cell 5
    have c6 : w2.cell? ⟨x, 6, none⟩ = some (.int .i64 g) := HI2.out.1.cell 6
    have c7 : w2.cell? ⟨x, 7, none⟩ = some (.int .i64 cap) := HI2.out.1.cell 7
    have c8 : w2.cell? ⟨x, 8, none⟩ = some (.int .i64 jit) := HI2.out.1.cell 8
    have c9 : w2.cell? ⟨x, 9, none⟩ = some (.int .i64 ev) := HI2.out.1.cell 9
    have z0 : w2.cell? ⟨x + 1, 0, none⟩ = some (.int .i64 u) := HI2.out.2.1.cell 0
    have z1 : w2.cell? ⟨x + 1, 1, none⟩ = some (.int .i64 r) := HI2.out.2.1.cell 1
    have z2 : w2.cell? ⟨x + 1, 2, none⟩ = some (.int .i64 q) := HI2.out.2.1.cell 2
    have z3 : w2.cell? ⟨x + 1, 3, none⟩ = some (.bool t) := HI2.out.2.1.cell 3
    have z4 : w2.cell? ⟨x + 1, 4, none⟩ = some (.int .i64 c) := HI2.out.2.1.cell 4
    have z5 : w2.cell? ⟨x + 1, 5, none⟩ = some (.int .i64 f) := HI2.out.2.1.cell 5
    have z6 : w2.cell? ⟨x + 1, 6, none⟩ = some (.int .i64 wt) := HI2.out.2.1.cell 6
    go_wp2_with fail
    refine (HVC.out _).mono ?_
    rintro e w3 ⟨rfl, b3⟩
    have HI3 := Lib.hid (HI2.out.below b3)
    clear HI2 b3 c0 c1 c2 c3 c4 c5 c6 c7 c8 c9 z0 z1 z2 z3 z4 z5 z6
    go_wp2_with fail
    refine (HCC.out _).mono ?_
    rintro e w4 ⟨rfl, b4⟩
    have HI4 := Lib.hid (HI3.out.below b4)
    clear HI3 b4
    have z0 : w4.cell? ⟨x + 1, 0, none⟩ = some (.int .i64 u) := HI4.out.2.1.cell 0
    have z1 : w4.cell? ⟨x + 1, 1, none⟩ = some (.int .i64 r) := HI4.out.2.1.cell 1
    have z2 : w4.cell? ⟨x + 1, 2, none⟩ = some (.int .i64 q) := HI4.out.2.1.cell 2
    have z3 : w4.cell? ⟨x + 1, 3, none⟩ = some (.bool t) := HI4.out.2.1.cell 3
    have z4 : w4.cell? ⟨x + 1, 4, none⟩ = some (.int .i64 c) := HI4.out.2.1.cell 4
    have z5 : w4.cell? ⟨x + 1, 5, none⟩ = some (.int .i64 f) := HI4.out.2.1.cell 5
    have z6 : w4.cell? ⟨x + 1, 6, none⟩ = some (.int .i64 wt) := HI4.out.2.1.cell 6
    go_wp2_with fail
    refine (HWC.out _).mono ?_
    rintro e w5 ⟨rfl, b5⟩
    have HI5 := Lib.hid (HI4.out.below b5)
    clear HI4 b5 z0 z1 z2 z3 z4 z5 z6
    obtain ⟨M, hM⟩ : ∃ M, max WS 2 = M := ⟨_, rfl⟩
    have hMb : 2 ≤ M ∧ M ≤ 20971522 := by omega
    rw [hM] at hS
    have c0 : w5.cell? ⟨x, 0, none⟩ = some (.int .i64 tb) := HI5.out.1.cell 0
    have c1 : w5.cell? ⟨x, 1, none⟩ = some (.int .i64 lt) := HI5.out.1.cell 1
    have c2 : w5.cell? ⟨x, 2, none⟩ = some (.int .i64 sz) := HI5.out.1.cell 2
    have c3 : w5.cell? ⟨x, 3, none⟩ = some (.int .i64 qu) := HI5.out.1.cell 3
    have c4 : w5.cell? ⟨x, 4, none⟩ = some (.int .i64 ch) := HI5.out.1.cell 4
    have c5 : w5.cell? ⟨x, 5, none⟩ = some (.int .i64 ba) := HI5.out.1.cell 5
    have c6 : w5.cell? ⟨x, 6, none⟩ = some (.int .i64 g) := HI5.out.1.cell 6
    have c7 : w5.cell? ⟨x, 7, none⟩ = some (.int .i64 cap) := HI5.out.1.cell 7
    have c8 : w5.cell? ⟨x, 8, none⟩ = some (.int .i64 jit) := HI5.out.1.cell 8
    have c9 : w5.cell? ⟨x, 9, none⟩ = some (.int .i64 ev) := HI5.out.1.cell 9
    have s1 := Lib.hid (show wrap64 (wrap64 (M + VS) + CS) = M + VS + CS by simp only [wrap64]; omega)
    have s2 := Lib.hid (show wrap64 (wrap64 (wrap64 (ev + qu) + 4) + VS) = ev + qu + 4 + VS by simp only [wrap64]; omega)
    have s3 := Lib.hid (show wrap64 (wrap64 (wrap64 (3 * (M + VS + CS) + 2 * (ev + qu + 4 + VS)) + CS) + 4) = 3 * (M + VS + CS) + 2 * (ev + qu + 4 + VS) + CS + 4 by simp only [wrap64]; omega)
    have q1 := Lib.hid (show -9223372036854775808 ≤ M ∧ M ≤ 9223372036854775807 by omega)
    have q2 := Lib.hid (show -9223372036854775808 ≤ ev ∧ ev ≤ 9223372036854775807 by omega)
    have q3 := Lib.hid (show -9223372036854775808 ≤ 3 * (M + VS + CS) ∧ 3 * (M + VS + CS) ≤ 9223372036854775807 by omega)
    have hx1 := HI5.out.1.lt
    rcases (by omega : WS < 2 ∧ M = 2 ∨ ¬ WS < 2 ∧ WS = M) with ⟨hlt, rfl⟩ | ⟨hlt, rfl⟩
    all_goals
      clear hM
      go_wp2_with fail
      refine (sum3' _ VS CS _ _ (t := 2) (by exact heap_alloc_new _ _) _ _ q1.out s1.out).mono ?_
      rintro e w6 ⟨rfl, rfl⟩
      go_wp2_with fail
      refine (sum4' ev qu 4 VS _ _ (t := 2) (by exact alloc2_new _ _ _) _ _ q2.out s2.out).mono ?_
      rintro e w7 ⟨rfl, rfl⟩
      go_wp2_with fail
      refine (sum4' _ (2 * (ev + qu + 4 + VS)) CS 4 _ _ (t := 2) (by exact alloc3_new _ _ _ _) _ _ q3.out s3.out).mono ?_
      rintro e w8 ⟨rfl, rfl⟩
      go_wp2_with fail
      go_ret
      exact ⟨ret_int hS.out.symm, by first | exact ((HI5.out.2.2.alloc (by omega) _).alloc (by simp; omega) _).alloc (by simp; omega) _ | (rw [HX.out]; exact ((HI5.out.2.2.alloc (by omega) _).alloc (by simp; omega) _).alloc (by simp; omega) _)⟩
set_option maxRecDepth 100000 in
set_option maxHeartbeats 2000000 in
theorem rlag_any (tb lt sz qu ch ba g cap jit ev : Int) (u r q : Int) (t : Bool) (c f wt : Int) (m : Int) (w : World) :
    Calls Try.prog 11 #[confV tb lt sz qu ch ba g cap jit ev, loadV u r q t c f wt, .int .i64 m] w fun e w' => e = .returned (.int .i64 (lagS tb lt sz qu ch ba g cap jit ev u r q t c f wt m)) ∧ Below w.heap.size w w' := by
  unfold loadV confV
  have HI0 := Lib.hid (CLIn.mk0 w #[.int .i64 tb, .int .i64 lt, .int .i64 sz, .int .i64 qu, .int .i64 ch, .int .i64 ba, .int .i64 g, .int .i64 cap, .int .i64 jit, .int .i64 ev] #[.int .i64 u, .int .i64 r, .int .i64 q, .bool t, .int .i64 c, .int .i64 f, .int .i64 wt])
  go_enter Try.func11, Try.ntmps11
  go_wp2_with fail
  obtain ⟨x, hx⟩ : ∃ x, w.heap.size = x := ⟨_, rfl⟩
  have hI := HI0.out
  rw [hx] at hI ⊢
  have HI := Lib.hid hI
  have HX := Lib.hid hx
  clear hI hx HI0
  refine (rmayc_any tb lt sz qu ch ba g cap jit ev _).mono ?_
  rintro e w1 ⟨rfl, b1⟩
  have HI1 := Lib.hid (HI.out.below b1)
  clear HI b1
  rcases ff (mayC tb lt sz qu ch ba g cap jit ev) (fun _ => ff (mayL u r q c f wt) (fun _ => trivial)) with h0 | ⟨h0, h1 | ⟨h1, _⟩⟩
  · have HF := Lib.hid (show lagS tb lt sz qu ch ba g cap jit ev u r q t c f wt m = 0 by simp [lagS, h0])
    rw [h0]
    go_wp2_with fail
    go_ret
    exact ⟨ret_int HF.out.symm, by first | exact HI1.out.2.2 | (rw [HX.out]; exact HI1.out.2.2)⟩
  all_goals
    have z0 : w1.cell? ⟨x + 1, 0, none⟩ = some (.int .i64 u) := HI1.out.2.1.cell 0
    have z1 : w1.cell? ⟨x + 1, 1, none⟩ = some (.int .i64 r) := HI1.out.2.1.cell 1
    have z2 : w1.cell? ⟨x + 1, 2, none⟩ = some (.int .i64 q) := HI1.out.2.1.cell 2
    have z3 : w1.cell? ⟨x + 1, 3, none⟩ = some (.bool t) := HI1.out.2.1.cell 3
    have z4 : w1.cell? ⟨x + 1, 4, none⟩ = some (.int .i64 c) := HI1.out.2.1.cell 4
    have z5 : w1.cell? ⟨x + 1, 5, none⟩ = some (.int .i64 f) := HI1.out.2.1.cell 5
    have z6 : w1.cell? ⟨x + 1, 6, none⟩ = some (.int .i64 wt) := HI1.out.2.1.cell 6
    rw [h0]
    go_wp2_with fail
    refine (rmayl_any u r q t c f wt _).mono ?_
    rintro e w2 ⟨rfl, b2⟩
    have HI2 := Lib.hid (HI1.out.below b2)
    clear HI1 b2 z0 z1 z2 z3 z4 z5 z6
  · have HF := Lib.hid (show lagS tb lt sz qu ch ba g cap jit ev u r q t c f wt m = 0 by simp [lagS, h1])
    rw [h1]
    go_wp2_with fail
    go_ret
    exact ⟨ret_int HF.out.symm, by first | exact HI2.out.2.2 | (rw [HX.out]; exact HI2.out.2.2)⟩
  · rw [h1]
    have hb := mayC_bd h0
    have hwb := work_bd t h1
    have hsb := waits_bd h1 hb.2.2.1
    have hcb := cost_bd m
    have hS := Lib.hid (show lagS tb lt sz qu ch ba g cap jit ev u r q t c f wt m = 3 * (max (workS u r q t c) 2 + waitsS cap jit f wt + costS m) + 2 * (ev + qu + 4 + waitsS cap jit f wt) + costS m + 4 by simp [lagS, uS, h0, h1])
    have HW := Lib.hid h1
    have HB := Lib.hid hb
    have hev := hb.2.2.2
    have hqu := And.intro hb.1 hb.2.1
    clear h0 h1 hb
    have HWC := Lib.hid (fun w => rwork_any u r q t c f wt w HW.out)
    have HVC := Lib.hid (fun w => slow_any tb lt sz qu ch ba g cap jit ev u r q t c f wt w HW.out HB.out.2.2.1)
    have HCC := Lib.hid (fun w => rcost_any m w)
    generalize workS u r q t c = WS at *
    generalize waitsS cap jit f wt = VS at *
    generalize costS m = CS at *
    have c0 : w2.cell? ⟨x, 0, none⟩ = some (.int .i64 tb) := HI2.out.1.cell 0
    have c1 : w2.cell? ⟨x, 1, none⟩ = some (.int .i64 lt) := HI2.out.1.cell 1
    have c2 : w2.cell? ⟨x, 2, none⟩ = some (.int .i64 sz) := HI2.out.1.cell 2
    have c3 : w2.cell? ⟨x, 3, none⟩ = some (.int .i64 qu) := HI2.out.1.cell 3
    have c4 : w2.cell? ⟨x, 4, none⟩ = some (.int .i64 ch) := HI2.out.1.cell 4
    have c5 : w2.cell? ⟨x, 5, none⟩ = some (.int .i64 ba) := HI2.out.1.cell 5
    have c6 : w2.cell? ⟨x, 6, none⟩ = some (.int .i64 g) := HI2.out.1.cell 6
    have c7 : w2.cell? ⟨x, 7, none⟩ = some (.int .i64 cap) := HI2.out.1.cell 7
    have c8 : w2.cell? ⟨x, 8, none⟩ = some (.int .i64 jit) := HI2.out.1.cell 8
    have c9 : w2.cell? ⟨x, 9, none⟩ = some (.int .i64 ev) := HI2.out.1.cell 9
    have z0 : w2.cell? ⟨x + 1, 0, none⟩ = some (.int .i64 u) := HI2.out.2.1.cell 0
    have z1 : w2.cell? ⟨x + 1, 1, none⟩ = some (.int .i64 r) := HI2.out.2.1.cell 1
    have z2 : w2.cell? ⟨x + 1, 2, none⟩ = some (.int .i64 q) := HI2.out.2.1.cell 2
    have z3 : w2.cell? ⟨x + 1, 3, none⟩ = some (.bool t) := HI2.out.2.1.cell 3
    have z4 : w2.cell? ⟨x + 1, 4, none⟩ = some (.int .i64 c) := HI2.out.2.1.cell 4
    have z5 : w2.cell? ⟨x + 1, 5, none⟩ = some (.int .i64 f) := HI2.out.2.1.cell 5
    have z6 : w2.cell? ⟨x + 1, 6, none⟩ = some (.int .i64 wt) := HI2.out.2.1.cell 6
    go_wp2_with fail
    refine (HVC.out _).mono ?_
    rintro e w3 ⟨rfl, b3⟩
    have HI3 := Lib.hid (HI2.out.below b3)
    clear HI2 b3 c0 c1 c2 c3 c4 c5 c6 c7 c8 c9 z0 z1 z2 z3 z4 z5 z6
    go_wp2_with fail
    refine (HCC.out _).mono ?_
    rintro e w4 ⟨rfl, b4⟩
    have HI4 := Lib.hid (HI3.out.below b4)
    clear HI3 b4
    have z0 : w4.cell? ⟨x + 1, 0, none⟩ = some (.int .i64 u) := HI4.out.2.1.cell 0
    have z1 : w4.cell? ⟨x + 1, 1, none⟩ = some (.int .i64 r) := HI4.out.2.1.cell 1
    have z2 : w4.cell? ⟨x + 1, 2, none⟩ = some (.int .i64 q) := HI4.out.2.1.cell 2
    have z3 : w4.cell? ⟨x + 1, 3, none⟩ = some (.bool t) := HI4.out.2.1.cell 3
    have z4 : w4.cell? ⟨x + 1, 4, none⟩ = some (.int .i64 c) := HI4.out.2.1.cell 4
    have z5 : w4.cell? ⟨x + 1, 5, none⟩ = some (.int .i64 f) := HI4.out.2.1.cell 5
    have z6 : w4.cell? ⟨x + 1, 6, none⟩ = some (.int .i64 wt) := HI4.out.2.1.cell 6
    go_wp2_with fail
    refine (HWC.out _).mono ?_
    rintro e w5 ⟨rfl, b5⟩
    have HI5 := Lib.hid (HI4.out.below b5)
    clear HI4 b5 z0 z1 z2 z3 z4 z5 z6
    obtain ⟨M, hM⟩ : ∃ M, max WS 2 = M := ⟨_, rfl⟩
    have hMb : 2 ≤ M ∧ M ≤ 20971522 := by omega
    rw [hM] at hS
    have c0 : w5.cell? ⟨x, 0, none⟩ = some (.int .i64 tb) := HI5.out.1.cell 0
    have c1 : w5.cell? ⟨x, 1, none⟩ = some (.int .i64 lt) := HI5.out.1.cell 1
    have c2 : w5.cell? ⟨x, 2, none⟩ = some (.int .i64 sz) := HI5.out.1.cell 2
    have c3 : w5.cell? ⟨x, 3, none⟩ = some (.int .i64 qu) := HI5.out.1.cell 3
    have c4 : w5.cell? ⟨x, 4, none⟩ = some (.int .i64 ch) := HI5.out.1.cell 4
    have c5 : w5.cell? ⟨x, 5, none⟩ = some (.int .i64 ba) := HI5.out.1.cell 5
    have c6 : w5.cell? ⟨x, 6, none⟩ = some (.int .i64 g) := HI5.out.1.cell 6
    have c7 : w5.cell? ⟨x, 7, none⟩ = some (.int .i64 cap) := HI5.out.1.cell 7
    have c8 : w5.cell? ⟨x, 8, none⟩ = some (.int .i64 jit) := HI5.out.1.cell 8
    have c9 : w5.cell? ⟨x, 9, none⟩ = some (.int .i64 ev) := HI5.out.1.cell 9
    rcases (by omega : WS < 2 ∧ M = 2 ∨ ¬ WS < 2 ∧ WS = M) with ⟨hlt, rfl⟩ | ⟨hlt, rfl⟩
    all_goals
      clear hM
      go_wp2_with fail
      go_ret
      exact ⟨ret_int (by first | exact hS.out.symm | (rw [hS.out]; simp only [wrap64]; omega)), by first | exact HI5.out.2.2 | (rw [HX.out]; exact HI5.out.2.2)⟩
end Go.Proofs.Ytolmkafmlblnoaa
