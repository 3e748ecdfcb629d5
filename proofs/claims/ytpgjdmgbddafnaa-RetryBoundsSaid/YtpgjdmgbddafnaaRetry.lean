/- Package retry and its reference: what each method returns and what it leaves in its object. -/
import Derived.Test.YtpgjdmgbddafnaaBackoff
import Derived.Test.YtpgjdmgbddafnaaRegion
import Derived.WalkSmall
namespace Go.Proofs.Ytpgjdmgbddafnaa
open Go.ChangeShapes Go.WideShapes Go.ChangeAt Go.RowKit
set_option linter.unusedVariables false
set_option linter.unusedSimpArgs false
def clockS (n : Int) : Int := min (max n 0) 1125899906842624
theorem clock_any (n : Int) (w : World) : Calls Try.prog 29 #[.int .i64 n] w fun e w' => e = .returned (.int .i64 (clockS n)) ∧ w = w' := by
  by_cases h0 : n < 0 <;> by_cases h1 : n < 1125899906842624
  all_goals
    go_enter Try.func29, Try.ntmps29
    go_wp2
    all_goals go_ret
    all_goals first | (exfalso; omega) | exact ⟨ret_int (by unfold clockS; omega), rfl⟩
theorem twait_any (k b m j d : Int) (w : World) (hd : d ≤ 9223372036854775807) :
    Calls Try.prog 28 #[.agg #[.int .i64 b, .int .i64 m, .int .i64 j], .int .i64 k, .int .i64 d] w fun e w' => e = .returned (.int .i64 (waitS k b m j d)) ∧ Below w.heap.size w w' := by
  go_enter Try.func28, Try.ntmps28
  go_wp2_with (go_at_call 14; refine (wait_any _ _ _ _ _ _ hd).mono ?_; rintro e w' ⟨rfl, n, rfl⟩)
  go_ret
  exact ⟨rfl, below_drewN ((Below.refl _ _).alloc (Nat.le_refl _) _) _⟩
theorem waitS_range (k b m j d : Int) : waitS k b m j d ≤ 2147483648 ∧ 0 ≤ waitS k b m j d := by
  by_cases h : mayB b m j = true
  · have h1 := waitS_bd k b m j d h
    have h2 := dlyS_bd k b m
    simp only [mayB, decide_eq_true_eq] at h
    omega
  · simp [waitS, h]
def retryAt (w : World) (r : Nat) (b m j f u : Int) : Prop := w.heap[r]? = some (.cells #[.int .i64 b, .int .i64 m, .int .i64 j, .int .i64 f, .int .i64 u] 51 (0, 0))
def failIn (r : Nat) (b m j f u : Int) (w w' : World) : Prop := retryAt w' r b m j (f + 1) u ∧ Keeps (· = r) w w'
theorem retryAt_below {w w' : World} {r : Nat} {b m j f u : Int} (h : retryAt w r b m j f u) (hb : Below w.heap.size w w') : retryAt w' r b m j f u := (hb.block r (lt_of_block h)).trans h
theorem failIn_below {r : Nat} {b m j f u : Int} {w w1 w2 : World} (h : failIn r b m j f u w w1) (hb : Below w1.heap.size w1 w2) : failIn r b m j f u w w2 := ⟨retryAt_below h.1 hb, h.2.trans (Keeps.of_below hb)⟩
theorem fail_any (r : Nat) (b m j f u now d : Int) (w : World) (hr : retryAt w r b m j f u) (hd : d ≤ 9223372036854775807) (hf0 : 0 ≤ f) (hf : f < 1152921504606846976) :
    Calls Try.prog 24 #[.pointer (some ⟨r, 0, none⟩), .int .i64 now, .int .i64 d] w fun e w' =>
      e = .returned (.int .i64 (clockS now + waitS (f + 1) b m j d)) ∧ retryAt w' r b m j (f + 1) (clockS now + waitS (f + 1) b m j d) ∧ Keeps (· = r) w w' := by
  have c0 := cells_of hr 0
  have c1 := cells_of hr 1
  have c2 := cells_of hr 2
  have c3 := cells_of hr 3
  have c4 := cells_of hr 4
  have f0 := fun i => free_of hr i
  have HR := Lib.hid hr
  clear hr
  simp at c0 c1 c2 c3 c4
  go_enter Try.func24, Try.ntmps24
  go_wp2_with fail
  have hr1 : retryAt (w.setCell ⟨r, 3, none⟩ (.int .i64 (f + 1))) r b m j (f + 1) u := by simpa [retryAt] using block_set HR.out 3 (.int .i64 (f + 1))
  have hk1 : Keeps (· = r) w (w.setCell ⟨r, 3, none⟩ (.int .i64 (f + 1))) := (Keeps.refl (· = r) w).setCell (p := ⟨r, 3, none⟩) rfl _
  have hI : (failIn r b m j f u w) (w.setCell ⟨r, 3, none⟩ (.int .i64 (f + 1))).drew := ⟨hr1, Keeps.drewN hk1 1⟩
  have hne : Nonempty (WIn (failIn r b m j f u w)) := ⟨⟨_, hI⟩⟩
  have d0 : ∀ x : WIn (failIn r b m j f u w), x.w.cell? ⟨r, 0, none⟩ = some (.int .i64 b) := fun x => by simpa using cells_of x.ok.1 0
  have d1 : ∀ x : WIn (failIn r b m j f u w), x.w.cell? ⟨r, 1, none⟩ = some (.int .i64 m) := fun x => by simpa using cells_of x.ok.1 1
  have d2 : ∀ x : WIn (failIn r b m j f u w), x.w.cell? ⟨r, 2, none⟩ = some (.int .i64 j) := fun x => by simpa using cells_of x.ok.1 2
  have d3 : ∀ x : WIn (failIn r b m j f u w), x.w.cell? ⟨r, 3, none⟩ = some (.int .i64 (f + 1)) := fun x => by simpa using cells_of x.ok.1 3
  have HI := Lib.hid hI
  clear c0 c1 c2 c3 c4 f0 HR hr1 hk1 hI
  refine wp_region_qtail_in (failIn r b m j f u w) 15 (by kernel_rfl) (by kernel_rfl) HI.out ?_
  simp only [List.take_succ_cons, List.take_zero, List.drop_succ_cons, List.drop_zero]
  have hw : waitS (f + 1) b m j d ≤ 2147483648 ∧ 0 ≤ waitS (f + 1) b m j d := waitS_range _ _ _ _ _
  have HC : Hid (clockS now = (if now < 0 then 0 else if 1125899906842624 < now then 1125899906842624 else now)) := Lib.hid (by unfold clockS; omega)
  have hcb : 0 ≤ clockS now ∧ clockS now ≤ 1125899906842624 := by unfold clockS; omega
  have hd4 : ∀ x : WIn (failIn r b m j f u w), x.w.cell? ⟨r, 4, none⟩ = some (.int .i64 u) := fun x => by simpa using cells_of x.ok.1 4
  have hf4 : ∀ x : WIn (failIn r b m j f u w), x.w.frozen? ⟨r, 4, none⟩ = false := fun x => free_of x.ok.1 4
  have hend : ∀ (x : WIn (failIn r b m j f u w)) (v : Int), v = clockS now + waitS (f + 1) b m j d → retryAt (x.w.setCell ⟨r, 4, none⟩ (.int .i64 v)) r b m j (f + 1) (clockS now + waitS (f + 1) b m j d) ∧ Keeps (· = r) w (x.w.setCell ⟨r, 4, none⟩ (.int .i64 v)) := by
    intro x v hv
    subst hv
    exact ⟨by simpa [retryAt] using block_set x.ok.1 4 _, x.ok.2.setCell (p := ⟨r, 4, none⟩) rfl _⟩
  have HE := Lib.hid hend
  clear hend
  have hs : ∀ t : Int, 0 ≤ t → t ≤ 1125899906842624 → IntKind.i64.wrap (t + waitS (f + 1) b m j d) = t + waitS (f + 1) b m j d := fun t _ _ => IntWalk.i64_in _ (by omega)
  by_cases h0 : now < 0
  rotate_left
  by_cases h1 : 1125899906842624 < now
  have hs1 := hs 1125899906842624 (by decide) (by decide)
  clear hs
  rotate_left
  have hs1 := hs now (by omega) (by omega)
  clear hs
  rotate_left
  have hs1 := hs 0 (by decide) (by decide)
  clear hs
  rw [Int.zero_add] at hs1
  all_goals
    repeat quiet_step ((go_at_call 28; exact (twait_any _ _ _ _ _ _ hd).mono fun e w' ⟨he, hb⟩ => ⟨he, ⟨w', failIn_below (WIn.ok _) hb⟩, rfl⟩))
    refine wpQuiet_nil ?_
    intro x
    have x4 := hd4 x
    have y4 := hf4 x
    clear hd4 hf4 d0 d1 d2 d3
    go_wp2
    go_ret
    have hv := HC.out
    exact ⟨ret_int (by omega), HE.out x _ (by omega)⟩
/-! the reference's -/
def rretryAt (w : World) (r : Nat) (b m j f u : Int) : Prop := w.heap[r]? = some (.cells #[.int .i64 b, .int .i64 m, .int .i64 j, .int .i64 f, .int .i64 u] 42 (0, 0))
theorem rretryAt_below {w w' : World} {r : Nat} {b m j f u : Int} (h : rretryAt w r b m j f u) (hb : Below w.heap.size w w') : rretryAt w' r b m j f u := (hb.block r (lt_of_block h)).trans h
def rfailIn (r : Nat) (b m j f u : Int) (w w' : World) : Prop := rretryAt w' r b m j (f + 1) u ∧ Keeps (· = r) w w'
theorem rfailIn_drew {r : Nat} {b m j f u : Int} {w w1 : World} (h : rfailIn r b m j f u w w1) (n : Nat) : rfailIn r b m j f u w (w1.drewN n) := ⟨h.1, h.2.drewN n⟩
theorem rfail_any (r : Nat) (b m j f u now d : Int) (w : World) (hr : rretryAt w r b m j f u) (hd : d ≤ 9223372036854775807) (hf0 : 0 ≤ f) (hf : f < 1152921504606846976) :
    Calls Try.prog 25 #[.pointer (some ⟨r, 0, none⟩), .int .i64 now, .int .i64 d] w fun e w' =>
      e = .returned (.int .i64 (clockS now + waitS (f + 1) b m j d)) ∧ rretryAt w' r b m j (f + 1) (clockS now + waitS (f + 1) b m j d) ∧ Keeps (· = r) w w' := by
  have c3 := cells_of hr 3
  have f0 := fun i => free_of hr i
  have HR := Lib.hid hr
  clear hr
  simp at c3
  go_enter Try.func25, Try.ntmps25
  go_wp2_with fail
  have hr1 : rretryAt (w.setCell ⟨r, 3, none⟩ (.int .i64 (f + 1))) r b m j (f + 1) u := by simpa [rretryAt] using block_set HR.out 3 (.int .i64 (f + 1))
  have hk1 : Keeps (· = r) w (w.setCell ⟨r, 3, none⟩ (.int .i64 (f + 1))) := (Keeps.refl (· = r) w).setCell (p := ⟨r, 3, none⟩) rfl _
  have hI : (rfailIn r b m j f u w) (w.setCell ⟨r, 3, none⟩ (.int .i64 (f + 1))).drew := ⟨hr1, Keeps.drewN hk1 1⟩
  have hne : Nonempty (WIn (rfailIn r b m j f u w)) := ⟨⟨_, hI⟩⟩
  have d0 : ∀ x : WIn (rfailIn r b m j f u w), x.w.cell? ⟨r, 0, none⟩ = some (.int .i64 b) := fun x => by simpa using cells_of x.ok.1 0
  have d1 : ∀ x : WIn (rfailIn r b m j f u w), x.w.cell? ⟨r, 1, none⟩ = some (.int .i64 m) := fun x => by simpa using cells_of x.ok.1 1
  have d2 : ∀ x : WIn (rfailIn r b m j f u w), x.w.cell? ⟨r, 2, none⟩ = some (.int .i64 j) := fun x => by simpa using cells_of x.ok.1 2
  have d3 : ∀ x : WIn (rfailIn r b m j f u w), x.w.cell? ⟨r, 3, none⟩ = some (.int .i64 (f + 1)) := fun x => by simpa using cells_of x.ok.1 3
  have HI := Lib.hid hI
  clear c3 f0 HR hr1 hk1 hI
  refine wp_region_qtail_in (rfailIn r b m j f u w) 22 (by kernel_rfl) (by kernel_rfl) HI.out ?_
  simp only [List.take_succ_cons, List.take_zero, List.drop_succ_cons, List.drop_zero]
  have hw : waitS (f + 1) b m j d ≤ 2147483648 ∧ 0 ≤ waitS (f + 1) b m j d := waitS_range _ _ _ _ _
  have hcb : 0 ≤ clockS now ∧ clockS now ≤ 1125899906842624 := by unfold clockS; omega
  have hd4 : ∀ x : WIn (rfailIn r b m j f u w), x.w.cell? ⟨r, 4, none⟩ = some (.int .i64 u) := fun x => by simpa using cells_of x.ok.1 4
  have hf4 : ∀ x : WIn (rfailIn r b m j f u w), x.w.frozen? ⟨r, 4, none⟩ = false := fun x => free_of x.ok.1 4
  have hend : ∀ (x : WIn (rfailIn r b m j f u w)), rretryAt (x.w.setCell ⟨r, 4, none⟩ (.int .i64 (clockS now + waitS (f + 1) b m j d))) r b m j (f + 1) (clockS now + waitS (f + 1) b m j d) ∧ Keeps (· = r) w (x.w.setCell ⟨r, 4, none⟩ (.int .i64 (clockS now + waitS (f + 1) b m j d))) :=
    fun x => ⟨by simpa [rretryAt] using block_set x.ok.1 4 _, x.ok.2.setCell (p := ⟨r, 4, none⟩) rfl _⟩
  have HE := Lib.hid hend
  clear hend
  have hs1 : IntKind.i64.wrap (clockS now + waitS (f + 1) b m j d) = clockS now + waitS (f + 1) b m j d := IntWalk.i64_in _ (by omega)
  repeat quiet_step (first | (go_at_call 29; exact (clock_any _ _).mono fun e w' ⟨he, hb⟩ => ⟨he, ⟨w', hb ▸ WIn.ok _⟩, rfl⟩) | (go_at_call 15; exact (rwait_any _ _ _ _ _ _ hd (by omega)).mono fun e w' ⟨he, n, hb⟩ => ⟨he, ⟨w', by rw [hb]; exact rfailIn_drew (WIn.ok _) n⟩, rfl⟩))
  refine wpQuiet_nil ?_
  intro x
  have x4 := hd4 x
  have y4 := hf4 x
  clear hd4 hf4 d0 d1 d2 d3
  go_wp2
  go_ret
  exact ⟨rfl, HE.out x⟩
theorem rnew_ok (b m j : Int) (w : World) (h : mayB b m j = true) :
    Calls Try.prog 18 #[.int .i64 b, .int .i64 m, .int .i64 j] w fun e w' => e = .returned (.tuple #[.pointer (some ⟨w.heap.size, 0, none⟩), .int .i64 0]) ∧ retryAt w' w.heap.size b m j 0 0 ∧ Below w.heap.size w w' := by
  go_enter Try.func18, Try.ntmps18
  go_wp2_with (go_at_call 10; refine (may_any _ _ _ _).mono ?_; rintro e w' ⟨rfl, rfl⟩)
  go_ret2
  exact ⟨rfl, heap_alloc_new w _, (Below.refl _ _).alloc (Nat.le_refl _) _⟩
theorem rnew_no (b m j : Int) (w : World) (h : mayB b m j = false) :
    Calls Try.prog 18 #[.int .i64 b, .int .i64 m, .int .i64 j] w fun e w' => e = .returned (.tuple #[.pointer none, .int .i64 1]) ∧ w = w' := by
  go_enter Try.func18, Try.ntmps18
  go_wp2_with (go_at_call 10; refine (may_any _ _ _ _).mono ?_; rintro e w' ⟨rfl, rfl⟩)
  go_ret2
  exact ⟨rfl, rfl⟩
theorem rfails_any (r : Nat) (b m j f u : Int) (w : World) (hr : retryAt w r b m j f u) :
    Calls Try.prog 21 #[.pointer (some ⟨r, 0, none⟩)] w fun e w' => e = .returned (.int .i64 f) ∧ w = w' := by
  have c3 := cells_of hr 3
  clear hr
  simp at c3
  go_enter Try.func21, Try.ntmps21
  go_wp2
  go_ret
  exact ⟨rfl, rfl⟩
theorem runtil_any (r : Nat) (b m j f u : Int) (w : World) (hr : retryAt w r b m j f u) :
    Calls Try.prog 20 #[.pointer (some ⟨r, 0, none⟩)] w fun e w' => e = .returned (.int .i64 u) ∧ w = w' := by
  have c4 := cells_of hr 4
  clear hr
  simp at c4
  go_enter Try.func20, Try.ntmps20
  go_wp2
  go_ret
  exact ⟨rfl, rfl⟩
theorem rready_any (r : Nat) (b m j f u n : Int) (w : World) (hr : retryAt w r b m j f u) :
    Calls Try.prog 22 #[.pointer (some ⟨r, 0, none⟩), .int .i64 n] w fun e w' => e = .returned (.bool (decide (u ≤ n))) ∧ w = w' := by
  have c4 := cells_of hr 4
  clear hr
  simp at c4
  go_enter Try.func22, Try.ntmps22
  go_wp2
  go_ret
  exact ⟨rfl, rfl⟩
theorem rdone_any (r : Nat) (b m j f u : Int) (w : World) (hr : retryAt w r b m j f u) :
    Calls Try.prog 26 #[.pointer (some ⟨r, 0, none⟩)] w fun e w' => e = .returned (.tuple #[]) ∧ retryAt w' r b m j 0 0 ∧ Keeps (· = r) w w' := by
  have c3 := cells_of hr 3
  have c4 := cells_of hr 4
  have f0 := fun i => free_of hr i
  have hlt := lt_of_block hr
  have HR := Lib.hid hr
  clear hr
  simp at c3 c4
  go_enter Try.func26, Try.ntmps26
  go_wp2
  go_end0
  exact ⟨rfl, by simpa [retryAt] using block_set (block_set HR.out 3 (.int .i64 0)) 4 (.int .i64 0), ((Keeps.refl (· = r) w).setCell (p := ⟨r, 3, none⟩) rfl _).setCell (p := ⟨r, 4, none⟩) rfl _⟩
theorem rrdone_any (r : Nat) (b m j f u : Int) (w : World) (hr : rretryAt w r b m j f u) :
    Calls Try.prog 27 #[.pointer (some ⟨r, 0, none⟩)] w fun e w' => e = .returned (.tuple #[]) ∧ rretryAt w' r b m j 0 0 ∧ Keeps (· = r) w w' := by
  have c3 := cells_of hr 3
  have c4 := cells_of hr 4
  have f0 := fun i => free_of hr i
  have hlt := lt_of_block hr
  have HR := Lib.hid hr
  clear hr
  simp at c3 c4
  go_enter Try.func27, Try.ntmps27
  go_wp2
  go_end0
  exact ⟨rfl, by simpa [rretryAt] using block_set (block_set HR.out 3 (.int .i64 0)) 4 (.int .i64 0), ((Keeps.refl (· = r) w).setCell (p := ⟨r, 3, none⟩) rfl _).setCell (p := ⟨r, 4, none⟩) rfl _⟩
theorem awake20 (w : World) : Calls Try.prog 19 #[] w fun e w' => e = .returned (.bool true) ∧ Below w.heap.size w w' := by
  have v1 : clockS 7 + waitS (0 + 1) 5 100 0 0 = 17 := by decide
  have v2 : clockS 17 + waitS (0 + 1 + 1) 5 100 0 0 = 37 := by decide
  go_enter Try.func19, Try.ntmps19
  go_wp2_with fail
  refine (rnew_ok _ _ _ _ (by decide)).mono ?_
  rintro e w1 ⟨rfl, h1, b1⟩
  go_wp2_with fail
  refine (rnew_no _ _ _ _ (by decide)).mono ?_
  rintro e w2 ⟨rfl, rfl⟩
  generalize hr : w.heap.size = r at h1 b1 ⊢
  go_wp2_with fail
  refine (fail_any _ _ _ _ _ _ _ _ _ h1 (by decide) (by decide) (by decide)).mono ?_
  rintro e w3 ⟨rfl, h3, b3⟩
  rw [v1] at *
  go_wp2_with fail
  refine (fail_any _ _ _ _ _ _ _ _ _ h3 (by decide) (by decide) (by decide)).mono ?_
  rintro e w4 ⟨rfl, h4, b4⟩
  rw [v2] at *
  go_wp2_with fail
  refine (rfails_any _ _ _ _ _ _ _ h4).mono ?_
  rintro e w5 ⟨rfl, rfl⟩
  go_wp2_with fail
  refine (runtil_any _ _ _ _ _ _ _ h4).mono ?_
  rintro e w5 ⟨rfl, rfl⟩
  go_wp2_with fail
  refine (rready_any _ _ _ _ _ _ _ _ h4).mono ?_
  rintro e w5 ⟨rfl, rfl⟩
  go_wp2_with fail
  refine (rready_any _ _ _ _ _ _ _ _ h4).mono ?_
  rintro e w5 ⟨rfl, rfl⟩
  go_wp2_with fail
  go_ret
  subst hr
  have hlt := lt_of_block h1
  exact ⟨rfl, Keeps.below (Keeps.below b1 b3 (by omega) (by intro x hx e; omega)) b4 (by have := b3.size; omega) (by intro x hx e; omega)⟩
end Go.Proofs.Ytpgjdmgbddafnaa
