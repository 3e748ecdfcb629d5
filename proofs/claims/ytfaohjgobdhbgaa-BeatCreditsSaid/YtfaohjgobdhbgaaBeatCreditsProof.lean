/- The law qanat/qanatlaw30.BeatCredits returns true for all arguments of its types; no condition. -/
import Derived.Test.YtfaohjgobdhbgaaBeatAwake
import Derived.WalkKit
import Derived.ProofKit
import Derived.OpenShut
import Derived.WideKeyArgs
namespace Go.Proofs.Ytfaohjgobdhbgaa.beatCredits
open Go.ChangeShapes Go.WideShapes Go.ChangeAt Go.RowKit
set_option linter.unusedVariables false
set_option linter.unusedSimpArgs false
theorem own : ownKnob Try.prog.godebug = none := by kernel_rfl
theorem laidOut : laidOutB Try.prog = true := by kernel_rfl
theorem no_step (n now s : Int) (h1 : n ≤ now) (hs : 1 ≤ s) : readyS n 0 now s 0 = false ∧ stLsn n 0 now s 0 = 0 ∧ stDid n 0 now s 0 = 0 ∧ stDue n n 0 now s 0 = n ∧ stLast n 0 now s 0 = 0 := by
  have h : readyS n 0 now s 0 = false := by simp [readyS]; omega
  simp [stLsn, stDid, stDue, stLast, h]
theorem rest_step (n m s : Int) (h1 : n ≤ m) (h0 : 0 ≤ m) (h2 : m ≤ 1000) (hs : 1 ≤ s) : stLsn n s m s 0 = 0 ∧ stDid n s m s 0 = 9 ∧ stDue n n s m s 0 = m + n ∧ stLast n s m s 0 = s := by
  have h : readyS n s m s 0 = true := by simp [readyS]; omega
  have hc : clockS m = m := by unfold clockS; omega
  simp [stLsn, stDid, stDue, stLast, h, hc]
theorem beat_step (n m s : Int) (h1 : n ≤ m) (h0 : 0 ≤ m) (h2 : m ≤ 1000) (hs : 1 ≤ s) : stLsn n 0 m s 1 = s ∧ stDid n 0 m s 1 = 8 ∧ stDue n n 0 m s 1 = m + n ∧ stLast n 0 m s 1 = s := by
  have h : readyS n 0 m s 1 = true := by simp [readyS]; omega
  have hc : clockS m = m := by unfold clockS; omega
  have hn : ¬ s ≤ 0 := by omega
  simp [stLsn, stDid, stDue, stLast, h, hc, hn]; omega

set_option maxRecDepth 100000 in
set_option maxHeartbeats 1200000 in
theorem walk (w : World) (a0 : Int) (w0 : (Lit.int .i64 a0).wf = true) (a1 : Int) (w1 : (Lit.int .i64 a1).wf = true) (a2 : Int) (w2 : (Lit.int .i64 a2).wf = true) :
    Calls Try.prog 6 #[.int .i64 a0, .int .i64 a1, .int .i64 a2] w fun e w' => e = .returned (.bool true) ∧ Below w.heap.size w w' := by
  have c1 := bigS_bd a0 50 (by decide)
  have c2 := bigS_bd a1 1000 (by decide)
  have c3 := bigS_bd a2 50 (by decide)
  have hnew : newS (1 + bigS a0 50) 0 0 = true := by simp [newS]; omega
  have HN := Lib.hid hnew
  clear hnew
  go_enter Try.func6, Try.ntmps6
  go_wp2_with (go_at_call 12; refine (big_any _ _ _ (by omega) (by omega)).mono ?_; rintro e w' ⟨rfl, rfl⟩)
  refine (new_ok _ _ _ _ HN.out).mono ?_
  rintro e w1 ⟨rfl, h1, b1⟩
  rw [Int.zero_add] at h1
  obtain ⟨r, hr⟩ : ∃ r, w.heap.size = r := ⟨_, rfl⟩
  rw [hr] at h1 b1 ⊢
  have HR := Lib.hid hr
  clear hr HN
  go_wp2_with (go_at_call 14; refine (mod_any _ _ _ (by omega) (by omega)).mono ?_; rintro e w' ⟨rfl, rfl⟩)
  obtain ⟨n, hn⟩ : ∃ n, 1 + bigS a0 50 = n := ⟨_, rfl⟩
  obtain ⟨s, hs⟩ : ∃ s, 1 + bigS a1 1000 = s := ⟨_, rfl⟩
  have hn1 : 1 ≤ n ∧ n ≤ 50 := by omega
  have hs1 : 1 ≤ s ∧ s ≤ 1000 := by omega
  rw [hn] at h1 ⊢
  rw [hs]
  clear hn hs
  generalize bigS a2 50 = lt at *
  clear c1 c2
  go_loopw [12] (fun i wr => ∃ (now : Int), n ≤ now ∧ now ≤ n + lt + 1 ∧ i = .int .i64 now ∧ beatAt wr r n n 0 ∧ Below r w wr) (fun i _ => (n + lt + 1 - intOf i).toNat)
  case atStart => exact ⟨n, by omega, by omega, rfl, h1, b1⟩
  case round =>
    obtain ⟨now, hn2, hn3, rfl, h2, b2⟩ := hrel
    have hr2 := lt_of_block h2
    by_cases hle : now ≤ n + lt
    · obtain ⟨e0, e1, e2, e3, e4⟩ := no_step n now s hn2 hs1.1
      have E1 := Lib.hid e1
      have E2 := Lib.hid e2
      have E3 := Lib.hid e3
      have E4 := Lib.hid e4
      clear e1 e2 e3 e4
      go_wp2_with fail
      refine (ready_any _ _ _ _ _ _ _ _ h2).mono ?_
      rintro e w2 ⟨rfl, k, rfl⟩
      go_wp2_with fail
      refine (step_any r n n 0 now s 0 (wr.drewN k) h2 (by omega)).mono ?_
      rintro e w3 ⟨rfl, h3, k3⟩
      rw [E3.out, E4.out] at h3
      rw [E1.out, E2.out]
      have hr3 := lt_of_block h3
      have h4 : beatAt (w3.alloc (.cells #[.int .i64 0, .slice none 0 0, .slice none 0 0] 38)) r n n 0 := (Below.heap_alloc w3 _ r hr3).trans h3
      have b3 : Below r w w3 := Keeps.below (below_drewN b2 k) k3 (by show r ≤ wr.heap.size; omega) (by intro v hv e; omega)
      have b4 : Below r w (w3.alloc (.cells #[.int .i64 0, .slice none 0 0, .slice none 0 0] 38)) := b3.alloc (by omega) _
      clear E1 E2 E3 E4 h3 k3 b3 e0
      go_wp2_with fail
      refine (due_any _ _ _ _ _ h4).mono ?_
      rintro e w4 ⟨rfl, rfl⟩
      go_wp2_with fail
      go_roundw
      case rel => exact ⟨now + 1, by omega, by omega, rfl, h4, b4⟩
      case measure => simp [intOf]; omega
    · have hm0 : 0 ≤ n + lt := by omega
      by_cases ht : (a2.tmod 2 == 0) = true
      · have ht2 : 0 ≤ a2 → (a2 % 2 == 0) = true := fun h => by rw [← Int.tmod_eq_emod_of_nonneg h]; exact ht
        obtain ⟨e1, e2, e3, e4⟩ := rest_step n (n + lt) s (by omega) hm0 (by omega) hs1.1
        have E1 := Lib.hid e1
        have E2 := Lib.hid e2
        have E3 := Lib.hid e3
        have E4 := Lib.hid e4
        have e5 := Lib.hid (show max 0 s = s by omega)
        clear e1 e2 e3 e4
        by_cases hp : 0 ≤ a2
        all_goals
          first | have ht3 := ht2 hp | have ht3 := trivial
          clear ht2
          go_wp2_with fail
          refine (queued_any _ _ _ _ _ _ h2).mono ?_
          rintro e w2 ⟨rfl, h3, k3⟩
          rw [e5.out] at h3
          have b3 : Below r w w2 := Keeps.below b2 k3 (by omega) (by intro v hv e; omega)
          have hr3 := Lib.hid (lt_of_block h3)
          clear k3 h2 b2 e5
          go_wp2_with fail
          refine (step_any r n n s (n + lt) s 0 w2 h3 (by omega)).mono ?_
          rintro e w3 ⟨rfl, h4, k4⟩
          rw [E3.out, E4.out] at h4
          rw [E1.out, E2.out]
          have b4 : Below r w w3 := Keeps.below b3 k4 (by have := hr3.out; omega) (by intro v hv e; omega)
          have hr4 := lt_of_block h4
          have h5 : beatAt (w3.alloc (.cells #[.int .i64 0, .slice none 0 0, .slice none 0 0] 38)) r n (n + lt + n) s := (Below.heap_alloc w3 _ r hr4).trans h4
          have b5 : Below r w (w3.alloc (.cells #[.int .i64 0, .slice none 0 0, .slice none 0 0] 38)) := b4.alloc (by omega) _
          clear E1 E2 E3 E4 h4 k4 b4 b3 h3 hr3
          go_wp2_with fail
          refine (awake30 _).mono ?_
          rintro e w5 ⟨rfl, b6⟩
          have h6 := beatAt_below h5 b6
          have b7 : Below r w w5 := b5.trans (b6.mono (by have := lt_of_block h5; omega))
          clear h5 b5 b6
          go_wp2_with fail
          refine (due_any _ _ _ _ _ h6).mono ?_
          rintro e w6 ⟨rfl, rfl⟩
          go_wp2_with fail
          go_ret
          have e := HR.out
          subst e
          exact ⟨rfl, b7⟩
      · have ht1 : (a2.tmod 2 == 0) = false := by simpa using ht
        have ht2 : 0 ≤ a2 → (a2 % 2 == 0) = false := fun h => by rw [← Int.tmod_eq_emod_of_nonneg h]; exact ht1
        obtain ⟨e1, e2, e3, e4⟩ := beat_step n (n + lt) s (by omega) hm0 (by omega) hs1.1
        have E1 := Lib.hid e1
        have E2 := Lib.hid e2
        have E3 := Lib.hid e3
        have E4 := Lib.hid e4
        clear e1 e2 e3 e4 ht
        by_cases hp : 0 ≤ a2
        all_goals
          first | have ht3 := ht2 hp | have ht3 := trivial
          clear ht2
          go_wp2_with fail
          refine (step_any r n n 0 (n + lt) s 1 wr h2 (by omega)).mono ?_
          rintro e w3 ⟨rfl, h4, k4⟩
          rw [E3.out, E4.out] at h4
          rw [E1.out, E2.out]
          have b4 : Below r w w3 := Keeps.below b2 k4 (by omega) (by intro v hv e; omega)
          have hr4 := lt_of_block h4
          have h5 : beatAt (w3.alloc (.cells #[.int .i64 s, .slice none 0 0, .slice none 0 0] 38)) r n (n + lt + n) s := (Below.heap_alloc w3 _ r hr4).trans h4
          have q5 : Blk (w3.alloc (.cells #[.int .i64 s, .slice none 0 0, .slice none 0 0] 38)) w3.heap.size 38 #[.int .i64 s, .slice none 0 0, .slice none 0 0] := heap_alloc_new w3 _
          have b5 : Below r w (w3.alloc (.cells #[.int .i64 s, .slice none 0 0, .slice none 0 0] 38)) := b4.alloc (by omega) _
          clear E1 E2 E3 E4 h4 k4 b4
          go_wp2_with fail
          refine (awake30 _).mono ?_
          rintro e w5 ⟨rfl, b6⟩
          have h6 := beatAt_below h5 b6
          have b7 : Below r w w5 := b5.trans (b6.mono (by have := lt_of_block h5; omega))
          have q6 := Blk.below q5 b6 (Blk.lt q5)
          have r0 := Blk.cell q6 0
          simp at r0
          clear h5 b5 b6 q5 q6
          generalize w3.heap.size = xb at *
          go_wp2_with fail
          refine (due_any _ _ _ _ _ h6).mono ?_
          rintro e w6 ⟨rfl, rfl⟩
          go_wp2_with fail
          refine (last_any _ _ _ _ _ h6).mono ?_
          rintro e w6 ⟨rfl, rfl⟩
          go_wp2_with fail
          go_ret
          have e := HR.out
          subst e
          exact ⟨rfl, b7⟩

set_option maxRecDepth 100000 in
theorem lifted (os : Os) (started : os.Started) (H : Type) (enc : TypeId × Value → H) :
    ReturnsInHanded {} Try.checked os 6 .any (Rows.beatCreditsSpec.pre6 enc Try.prog Try.f6 Rows.beatCreditsRow.domain false) (Rows.beatCreditsSpec.post enc Try.prog Try.f6 false true false false) := by
  refine returnsInHanded_of_change (C := Try.checked) own started (by kernel_rfl) Try.func6
    (ChangeSpec.witness6 (enc := enc) (C := Try.checked) false ⟨#[], #[.int .i64 0, .int .i64 0, .int .i64 0], []⟩ 8 (by kernel_rfl) (by kernel_rfl) (by kernel_rfl) (by kernel_rfl)) ?_
  intro W base args ds gs before hval0 hW hcnd _
  have hval : ∀ (j : Nat) t v, Try.f6.params[j]? = some t → args[j]? = some v → Value.okWide Try.prog W .any base t v := hval0
  have hW' := hW
  obtain ⟨p, q, hA0, hV, rfl, hfz, hnd⟩ := hW
  have hA : DataW.TrodAll enc Try.prog W 0 (fun _ => true) true Try.f6.params.toList args.toList ds p := hA0
  rw [Try.params6] at hA hval
  obtain ⟨v0, vs0, d0, ds0, p0, q0, hargs, rfl, rfl, h0, r0⟩ := trodAll_cons hA
  obtain ⟨v1, vs1, d1, ds1, p1, q1, rfl, rfl, rfl, h1, r1⟩ := trodAll_cons r0
  obtain ⟨v2, vs2, d2, ds2, p2, q2, rfl, rfl, rfl, h2, r2⟩ := trodAll_cons r1
  obtain ⟨rfl, rfl, rfl⟩ := trodAll_nil r2
  obtain rfl : args = #[v0, v1, v2] := by cases args; simp_all
  obtain ⟨rfl, rfl⟩ := trodVars_none hV
  obtain ⟨a0, rfl, rfl, rfl, w0⟩ := open_int Try.underlying2 (hval 0 2 v0 rfl rfl) h0
  obtain ⟨a1, rfl, rfl, rfl, w1⟩ := open_int Try.underlying2 (hval 1 2 v1 rfl rfl) h1
  obtain ⟨a2, rfl, rfl, rfl, w2⟩ := open_int Try.underlying3 (hval 2 3 v2 rfl rfl) h2
  clear hA0 hval0
  have hlt := hW'.lt
  refine (walk W a0 w0 a1 w1 a2 w2).mono fun e W' ⟨he, hb⟩ => ?_
  subst he
  exact ⟨_, rfl, post_of_below (pv := []) hW' (fun _ _ _ => (trodAll_cons_mk (shut_bool Try.underlying4 _) trodAll_mk0)) (fun sp hsp => (trodAll_cons_mk (shut_int Try.underlying2 w0) (trodAll_cons_mk (shut_int Try.underlying2 w1) (trodAll_cons_mk (shut_int Try.underlying3 w2) trodAll_mk0)))) (fun _ _ => rfl) (by simp) hb (ok_one (by kernel_rfl) rfl (okWide_bool_mk Try.underlying4 _))⟩

theorem over : Rows.beatCreditsRow.holds Try.pinned (OpenSpec.ofChange Rows.beatCreditsSpec) :=
  OpenClaim.holds_of_wide 6 Try.f6 rfl rfl rfl rfl rfl rfl rfl ⟨rfl, rfl, rfl, rfl, rfl⟩ rfl rfl rfl rfl rfl (by kernel_rfl) Try.func6 (by kernel_rfl)
    (of_decide_eq_true (by kernel_rfl)) (by unfold Func.isWrapper; first | (rw [if_pos (by decide +kernel)]; kernel_rfl) | (rw [if_neg (by decide +kernel)]; exact ⟨rfl, rfl⟩))
    (fun os started H enc _ => lifted os started H enc)

theorem proved : Rows.BeatCreditsSaid := over
#print axioms proved
end Go.Proofs.Ytfaohjgobdhbgaa.beatCredits
