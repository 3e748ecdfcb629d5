/- The law qanat/qanatlaw30.BeatTimes returns true for all arguments of its types; no condition. -/
import Derived.Test.YtfaohjgobdhbgaaBeatAwake
import Derived.WalkKit
import Derived.ProofKit
import Derived.OpenShut
import Derived.WideKeyArgs
namespace Go.Proofs.Ytfaohjgobdhbgaa.beatTimes
open Go.ChangeShapes Go.WideShapes Go.ChangeAt Go.RowKit
set_option linter.unusedVariables false
set_option linter.unusedSimpArgs false
theorem own : ownKnob Try.prog.godebug = none := by kernel_rfl
theorem laidOut : laidOutB Try.prog = true := by kernel_rfl
theorem due_of (n N D : Int) (hn : 1 ≤ n ∧ n ≤ 9) (h1 : N ≤ D) (h2 : D < N + n) (h3 : D % n = 0) (h4 : N % n = 0) : D = N := by
  have : n = 1 ∨ n = 2 ∨ n = 3 ∨ n = 4 ∨ n = 5 ∨ n = 6 ∨ n = 7 ∨ n = 8 ∨ n = 9 := by omega
  rcases this with rfl | rfl | rfl | rfl | rfl | rfl | rfl | rfl | rfl <;> omega
theorem tm_no (n D T N A : Int) (h : N < D) : stLsn D T N A 1 = 0 ∧ stDid D T N A 1 = 0 ∧ stDue n D T N A 1 = D ∧ stLast D T N A 1 = T := by
  have h : readyS D T N A 1 = false := by simp [readyS]; omega
  simp [stLsn, stDid, stDue, stLast, h]
theorem tm_beat (n T N A : Int) (h0 : 0 ≤ N ∧ N ≤ 1000) (hA : T < A) : stLsn N T N A 1 = A ∧ stDid N T N A 1 = 8 ∧ stDue n N T N A 1 = N + n ∧ stLast N T N A 1 = A := by
  have h : readyS N T N A 1 = true := by simp [readyS]
  have hc : clockS N = N := by unfold clockS; omega
  have hn : ¬ A ≤ T := by omega
  simp [stLsn, stDid, stDue, stLast, h, hc, hn]; omega
theorem tm_rest (n T N A : Int) (h0 : 0 ≤ N ∧ N ≤ 1000) (hA : A ≤ T) : stLsn N T N A 1 = 0 ∧ stDid N T N A 1 = 9 ∧ stDue n N T N A 1 = N + n ∧ stLast N T N A 1 = T := by
  have h : readyS N T N A 1 = true := by simp [readyS]
  have hc : clockS N = N := by unfold clockS; omega
  simp [stLsn, stDid, stDue, stLast, h, hc, hA]; omega

set_option maxRecDepth 100000 in
set_option maxHeartbeats 1200000 in
theorem walk {H : Type} {enc : TypeId × Value → H} (w : World) {base : Nat} (a0 : Int) (w0 : (Lit.int .i64 a0).wf = true) (v1 : Value) (d1 : DataW H) (p1 : List MemPlace) (o1 : Value.okWide Try.prog w .any base 33 v1) (h1 : DataW.Trod enc Try.prog w 0 (fun _ => true) true 33 v1 d1 p1) (l1 : ∀ x ∈ p1, x.block < w.heap.size) :
    Calls Try.prog 4 #[.int .i64 a0, v1] w fun e w' => e = .returned (.bool true) ∧ Below w.heap.size w w' := by
  obtain ⟨A, len, cap, F, rfl, hlc, hcm, hat⟩ := open_bools (P := Try.prog) Try.underlying33 Try.underlying4 (by kernel_rfl) o1 h1
  unfold maxLen at hcm
  have HAT := Lib.hid hat
  clear hat h1 o1 l1
  have c1 := bigS_bd a0 9 (by decide)
  have hnew : newS (1 + bigS a0 9) 0 0 = true := by simp [newS]; omega
  have HN := Lib.hid hnew
  clear hnew
  go_enter Try.func4, Try.ntmps4
  go_wp2_with (go_at_call 12; refine (big_any _ _ _ (by omega) (by omega)).mono ?_; rintro e w' ⟨rfl, rfl⟩)
  refine (new_ok _ _ _ _ HN.out).mono ?_
  rintro e w1 ⟨rfl, h1, b1⟩
  rw [Int.zero_add] at h1
  obtain ⟨r, hr⟩ : ∃ r, w.heap.size = r := ⟨_, rfl⟩
  rw [hr] at h1 b1 ⊢
  have HR := Lib.hid hr
  clear hr HN
  obtain ⟨n, hn⟩ : ∃ n, 1 + bigS a0 9 = n := ⟨_, rfl⟩
  have hn1 : 1 ≤ n ∧ n ≤ 9 := by omega
  rw [hn] at h1 ⊢
  clear hn c1
  go_wp2_with fail
  go_loopw [8, 9, 10] (fun at_ told i wr => ∃ (k : Nat) (A T D : Int), k ≤ 100 ∧ i = .int .i64 (k + 1) ∧ at_ = .int .i64 A ∧ told = .int .i64 T ∧ 0 ≤ T ∧ T ≤ A ∧ A ≤ k ∧ k + 1 ≤ D ∧ D < k + 1 + n ∧ D % n = 0 ∧ beatAt wr r n D T ∧ Below r w wr) (fun _ _ i _ => 101 - (intOf i).toNat)
  case atStart => exact ⟨0, 0, 0, n, by omega, by go_num, rfl, rfl, by omega, by omega, by omega, by omega, by omega, Int.emod_self, h1, b1⟩
  case round =>
    obtain ⟨k, A, T, D, hk, rfl, rfl, rfl, hT0, hTA, hAk, hD1, hD2, hD3, h2, b2⟩ := hrel
    have hr2 := Lib.hid (lt_of_block h2)
    have HD3 := Lib.hid hD3
    have H2 := Lib.hid h2
    have B2 := Lib.hid b2
    clear hD3 h2 b2
    by_cases hlt : k < 100
    · by_cases hkl : k < len
      · obtain ⟨bl, off, rfl, hbl, hcell⟩ := HAT.out (by omega)
        have k0 := hcell k hkl
        have hbr : bl < r := by have := HR.out; omega
        have e0 : wr.cell? ⟨bl, off + k, none⟩ = some (.bool (F k)) := (B2.out.cell hbr).trans k0
        have hk1 : (k : Int) + 1 ≤ len := by omega
        have hk2 : (k : Int) < len := by omega
        clear k0 hcell HAT
        cases hF : F k with
        | true =>
          rw [hF] at e0
          clear hF
          by_cases hz : ((k : Int) + 1) % n = 0
          · have hz1 : (((k : Int) + 1) % n != 0) = false := by simp [hz]
            have hDk : D = k + 1 := due_of n (k + 1) D hn1 hD1 hD2 HD3.out hz
            subst hDk
            have HM := Lib.hid (show ((k : Int) + 1 + n) % n = 0 by rw [Int.add_emod_right]; exact hz)
            clear hz
            by_cases ha : T < (A + 1)
            · obtain ⟨e1, e2, e3, e4⟩ := tm_beat n T (k + 1) (A + 1) (by omega) (by omega)
              have E1 := Lib.hid e1
              have E2 := Lib.hid e2
              have E3 := Lib.hid e3
              have E4 := Lib.hid e4
              clear e1 e2 e3 e4
              go_wp2_with fail
              refine (step_any r n (k + 1) T (k + 1) (A + 1) 1 wr H2.out (by omega)).mono ?_
              rintro e w3 ⟨rfl, h4, k4⟩
              rw [E3.out, E4.out] at h4
              rw [E1.out, E2.out]
              have b4 : Below r w w3 := Keeps.below B2.out k4 (by have := hr2.out; omega) (by intro v hv e; omega)
              have hr4 := lt_of_block h4
              have h5 : beatAt (w3.alloc (.cells #[.int .i64 (A + 1), .slice none 0 0, .slice none 0 0] 38)) r n (k + 1 + n) (A + 1) := (Below.heap_alloc w3 _ r hr4).trans h4
              have b5 : Below r w (w3.alloc (.cells #[.int .i64 (A + 1), .slice none 0 0, .slice none 0 0] 38)) := b4.alloc (by omega) _
              have H5 := Lib.hid h5
              have B5 := Lib.hid b5
              clear E1 E2 E3 E4 h4 k4 b4 h5 b5
              go_wp2_with fail
              refine (last_any _ _ _ _ _ H5.out).mono ?_
              rintro e w6 ⟨rfl, rfl⟩
              go_wp2_with fail
              go_roundw
              case rel => exact ⟨k + 1, (A + 1), (A + 1), (k + 1 + n), by omega, by go_num, rfl, rfl, by omega, by omega, by omega, by omega, by omega, HM.out, H5.out, B5.out⟩
              case measure => simp [intOf]; omega
            · have ha2 : (A + 1) ≤ T := by omega
              omega
          · have hz1 : (((k : Int) + 1) % n != 0) = true := by simpa using hz
            have hDk : (k : Int) + 1 < D := by
              have : D ≠ k + 1 := fun e => hz (e ▸ HD3.out)
              omega
            clear hz
            obtain ⟨e1, e2, e3, e4⟩ := tm_no n D T (k + 1) (A + 1) (by omega)
            have E1 := Lib.hid e1
            have E2 := Lib.hid e2
            have E3 := Lib.hid e3
            have E4 := Lib.hid e4
            clear e1 e2 e3 e4
            go_wp2_with fail
            refine (step_any r n D T (k + 1) (A + 1) 1 wr H2.out (by omega)).mono ?_
            rintro e w3 ⟨rfl, h4, k4⟩
            rw [E3.out, E4.out] at h4
            rw [E1.out, E2.out]
            have b4 : Below r w w3 := Keeps.below B2.out k4 (by have := hr2.out; omega) (by intro v hv e; omega)
            have hr4 := lt_of_block h4
            have h5 : beatAt (w3.alloc (.cells #[.int .i64 0, .slice none 0 0, .slice none 0 0] 38)) r n D T := (Below.heap_alloc w3 _ r hr4).trans h4
            have b5 : Below r w (w3.alloc (.cells #[.int .i64 0, .slice none 0 0, .slice none 0 0] 38)) := b4.alloc (by omega) _
            have H5 := Lib.hid h5
            have B5 := Lib.hid b5
            clear E1 E2 E3 E4 h4 k4 b4 h5 b5
            go_wp2_with fail
            refine (last_any _ _ _ _ _ H5.out).mono ?_
            rintro e w6 ⟨rfl, rfl⟩
            go_wp2_with fail
            go_roundw
            case rel => exact ⟨k + 1, (A + 1), T, D, by omega, by go_num, rfl, rfl, by omega, by omega, by omega, by omega, by omega, HD3.out, H5.out, B5.out⟩
            case measure => simp [intOf]; omega
        | false =>
          rw [hF] at e0
          clear hF
          by_cases hz : ((k : Int) + 1) % n = 0
          · have hz1 : (((k : Int) + 1) % n != 0) = false := by simp [hz]
            have hDk : D = k + 1 := due_of n (k + 1) D hn1 hD1 hD2 HD3.out hz
            subst hDk
            have HM := Lib.hid (show ((k : Int) + 1 + n) % n = 0 by rw [Int.add_emod_right]; exact hz)
            clear hz
            by_cases ha : T < A
            · obtain ⟨e1, e2, e3, e4⟩ := tm_beat n T (k + 1) A (by omega) (by omega)
              have E1 := Lib.hid e1
              have E2 := Lib.hid e2
              have E3 := Lib.hid e3
              have E4 := Lib.hid e4
              clear e1 e2 e3 e4
              go_wp2_with fail
              refine (step_any r n (k + 1) T (k + 1) A 1 wr H2.out (by omega)).mono ?_
              rintro e w3 ⟨rfl, h4, k4⟩
              rw [E3.out, E4.out] at h4
              rw [E1.out, E2.out]
              have b4 : Below r w w3 := Keeps.below B2.out k4 (by have := hr2.out; omega) (by intro v hv e; omega)
              have hr4 := lt_of_block h4
              have h5 : beatAt (w3.alloc (.cells #[.int .i64 A, .slice none 0 0, .slice none 0 0] 38)) r n (k + 1 + n) A := (Below.heap_alloc w3 _ r hr4).trans h4
              have b5 : Below r w (w3.alloc (.cells #[.int .i64 A, .slice none 0 0, .slice none 0 0] 38)) := b4.alloc (by omega) _
              have H5 := Lib.hid h5
              have B5 := Lib.hid b5
              clear E1 E2 E3 E4 h4 k4 b4 h5 b5
              go_wp2_with fail
              refine (last_any _ _ _ _ _ H5.out).mono ?_
              rintro e w6 ⟨rfl, rfl⟩
              go_wp2_with fail
              go_roundw
              case rel => exact ⟨k + 1, A, A, (k + 1 + n), by omega, by go_num, rfl, rfl, by omega, by omega, by omega, by omega, by omega, HM.out, H5.out, B5.out⟩
              case measure => simp [intOf]; omega
            · have ha2 : A ≤ T := by omega
              obtain ⟨e1, e2, e3, e4⟩ := tm_rest n T (k + 1) A (by omega) (by omega)
              have E1 := Lib.hid e1
              have E2 := Lib.hid e2
              have E3 := Lib.hid e3
              have E4 := Lib.hid e4
              clear e1 e2 e3 e4
              go_wp2_with fail
              refine (step_any r n (k + 1) T (k + 1) A 1 wr H2.out (by omega)).mono ?_
              rintro e w3 ⟨rfl, h4, k4⟩
              rw [E3.out, E4.out] at h4
              rw [E1.out, E2.out]
              have b4 : Below r w w3 := Keeps.below B2.out k4 (by have := hr2.out; omega) (by intro v hv e; omega)
              have hr4 := lt_of_block h4
              have h5 : beatAt (w3.alloc (.cells #[.int .i64 0, .slice none 0 0, .slice none 0 0] 38)) r n (k + 1 + n) T := (Below.heap_alloc w3 _ r hr4).trans h4
              have b5 : Below r w (w3.alloc (.cells #[.int .i64 0, .slice none 0 0, .slice none 0 0] 38)) := b4.alloc (by omega) _
              have H5 := Lib.hid h5
              have B5 := Lib.hid b5
              clear E1 E2 E3 E4 h4 k4 b4 h5 b5
              go_wp2_with fail
              refine (last_any _ _ _ _ _ H5.out).mono ?_
              rintro e w6 ⟨rfl, rfl⟩
              go_wp2_with fail
              go_roundw
              case rel => exact ⟨k + 1, A, T, (k + 1 + n), by omega, by go_num, rfl, rfl, by omega, by omega, by omega, by omega, by omega, HM.out, H5.out, B5.out⟩
              case measure => simp [intOf]; omega
          · have hz1 : (((k : Int) + 1) % n != 0) = true := by simpa using hz
            have hDk : (k : Int) + 1 < D := by
              have : D ≠ k + 1 := fun e => hz (e ▸ HD3.out)
              omega
            clear hz
            obtain ⟨e1, e2, e3, e4⟩ := tm_no n D T (k + 1) A (by omega)
            have E1 := Lib.hid e1
            have E2 := Lib.hid e2
            have E3 := Lib.hid e3
            have E4 := Lib.hid e4
            clear e1 e2 e3 e4
            go_wp2_with fail
            refine (step_any r n D T (k + 1) A 1 wr H2.out (by omega)).mono ?_
            rintro e w3 ⟨rfl, h4, k4⟩
            rw [E3.out, E4.out] at h4
            rw [E1.out, E2.out]
            have b4 : Below r w w3 := Keeps.below B2.out k4 (by have := hr2.out; omega) (by intro v hv e; omega)
            have hr4 := lt_of_block h4
            have h5 : beatAt (w3.alloc (.cells #[.int .i64 0, .slice none 0 0, .slice none 0 0] 38)) r n D T := (Below.heap_alloc w3 _ r hr4).trans h4
            have b5 : Below r w (w3.alloc (.cells #[.int .i64 0, .slice none 0 0, .slice none 0 0] 38)) := b4.alloc (by omega) _
            have H5 := Lib.hid h5
            have B5 := Lib.hid b5
            clear E1 E2 E3 E4 h4 k4 b4 h5 b5
            go_wp2_with fail
            refine (last_any _ _ _ _ _ H5.out).mono ?_
            rintro e w6 ⟨rfl, rfl⟩
            go_wp2_with fail
            go_roundw
            case rel => exact ⟨k + 1, A, T, D, by omega, by go_num, rfl, rfl, by omega, by omega, by omega, by omega, by omega, HD3.out, H5.out, B5.out⟩
            case measure => simp [intOf]; omega
      · have hk1 : ¬ (k : Int) + 1 ≤ len := by omega
        by_cases hz : ((k : Int) + 1) % n = 0
        · have hz1 : (((k : Int) + 1) % n != 0) = false := by simp [hz]
          have hDk : D = k + 1 := due_of n (k + 1) D hn1 hD1 hD2 HD3.out hz
          subst hDk
          have HM := Lib.hid (show ((k : Int) + 1 + n) % n = 0 by rw [Int.add_emod_right]; exact hz)
          clear hz
          by_cases ha : T < A
          · obtain ⟨e1, e2, e3, e4⟩ := tm_beat n T (k + 1) A (by omega) (by omega)
            have E1 := Lib.hid e1
            have E2 := Lib.hid e2
            have E3 := Lib.hid e3
            have E4 := Lib.hid e4
            clear e1 e2 e3 e4
            go_wp2_with fail
            refine (step_any r n (k + 1) T (k + 1) A 1 wr H2.out (by omega)).mono ?_
            rintro e w3 ⟨rfl, h4, k4⟩
            rw [E3.out, E4.out] at h4
            rw [E1.out, E2.out]
            have b4 : Below r w w3 := Keeps.below B2.out k4 (by have := hr2.out; omega) (by intro v hv e; omega)
            have hr4 := lt_of_block h4
            have h5 : beatAt (w3.alloc (.cells #[.int .i64 A, .slice none 0 0, .slice none 0 0] 38)) r n (k + 1 + n) A := (Below.heap_alloc w3 _ r hr4).trans h4
            have b5 : Below r w (w3.alloc (.cells #[.int .i64 A, .slice none 0 0, .slice none 0 0] 38)) := b4.alloc (by omega) _
            have H5 := Lib.hid h5
            have B5 := Lib.hid b5
            clear E1 E2 E3 E4 h4 k4 b4 h5 b5
            go_wp2_with fail
            refine (last_any _ _ _ _ _ H5.out).mono ?_
            rintro e w6 ⟨rfl, rfl⟩
            go_wp2_with fail
            go_roundw
            case rel => exact ⟨k + 1, A, A, (k + 1 + n), by omega, by go_num, rfl, rfl, by omega, by omega, by omega, by omega, by omega, HM.out, H5.out, B5.out⟩
            case measure => simp [intOf]; omega
          · have ha2 : A ≤ T := by omega
            obtain ⟨e1, e2, e3, e4⟩ := tm_rest n T (k + 1) A (by omega) (by omega)
            have E1 := Lib.hid e1
            have E2 := Lib.hid e2
            have E3 := Lib.hid e3
            have E4 := Lib.hid e4
            clear e1 e2 e3 e4
            go_wp2_with fail
            refine (step_any r n (k + 1) T (k + 1) A 1 wr H2.out (by omega)).mono ?_
            rintro e w3 ⟨rfl, h4, k4⟩
            rw [E3.out, E4.out] at h4
            rw [E1.out, E2.out]
            have b4 : Below r w w3 := Keeps.below B2.out k4 (by have := hr2.out; omega) (by intro v hv e; omega)
            have hr4 := lt_of_block h4
            have h5 : beatAt (w3.alloc (.cells #[.int .i64 0, .slice none 0 0, .slice none 0 0] 38)) r n (k + 1 + n) T := (Below.heap_alloc w3 _ r hr4).trans h4
            have b5 : Below r w (w3.alloc (.cells #[.int .i64 0, .slice none 0 0, .slice none 0 0] 38)) := b4.alloc (by omega) _
            have H5 := Lib.hid h5
            have B5 := Lib.hid b5
            clear E1 E2 E3 E4 h4 k4 b4 h5 b5
            go_wp2_with fail
            refine (last_any _ _ _ _ _ H5.out).mono ?_
            rintro e w6 ⟨rfl, rfl⟩
            go_wp2_with fail
            go_roundw
            case rel => exact ⟨k + 1, A, T, (k + 1 + n), by omega, by go_num, rfl, rfl, by omega, by omega, by omega, by omega, by omega, HM.out, H5.out, B5.out⟩
            case measure => simp [intOf]; omega
        · have hz1 : (((k : Int) + 1) % n != 0) = true := by simpa using hz
          have hDk : (k : Int) + 1 < D := by
            have : D ≠ k + 1 := fun e => hz (e ▸ HD3.out)
            omega
          clear hz
          obtain ⟨e1, e2, e3, e4⟩ := tm_no n D T (k + 1) A (by omega)
          have E1 := Lib.hid e1
          have E2 := Lib.hid e2
          have E3 := Lib.hid e3
          have E4 := Lib.hid e4
          clear e1 e2 e3 e4
          go_wp2_with fail
          refine (step_any r n D T (k + 1) A 1 wr H2.out (by omega)).mono ?_
          rintro e w3 ⟨rfl, h4, k4⟩
          rw [E3.out, E4.out] at h4
          rw [E1.out, E2.out]
          have b4 : Below r w w3 := Keeps.below B2.out k4 (by have := hr2.out; omega) (by intro v hv e; omega)
          have hr4 := lt_of_block h4
          have h5 : beatAt (w3.alloc (.cells #[.int .i64 0, .slice none 0 0, .slice none 0 0] 38)) r n D T := (Below.heap_alloc w3 _ r hr4).trans h4
          have b5 : Below r w (w3.alloc (.cells #[.int .i64 0, .slice none 0 0, .slice none 0 0] 38)) := b4.alloc (by omega) _
          have H5 := Lib.hid h5
          have B5 := Lib.hid b5
          clear E1 E2 E3 E4 h4 k4 b4 h5 b5
          go_wp2_with fail
          refine (last_any _ _ _ _ _ H5.out).mono ?_
          rintro e w6 ⟨rfl, rfl⟩
          go_wp2_with fail
          go_roundw
          case rel => exact ⟨k + 1, A, T, D, by omega, by go_num, rfl, rfl, by omega, by omega, by omega, by omega, by omega, HD3.out, H5.out, B5.out⟩
          case measure => simp [intOf]; omega
    · go_wp2_with fail
      refine (awake30 _).mono ?_
      rintro e w3 ⟨rfl, b3⟩
      go_wp2_with fail
      go_ret
      have e := HR.out
      have := hr2.out
      subst e
      exact ⟨rfl, B2.out.trans (b3.mono (by omega))⟩

set_option maxRecDepth 100000 in
theorem lifted (os : Os) (started : os.Started) (H : Type) (enc : TypeId × Value → H) :
    ReturnsInHanded {} Try.checked os 4 .any (Rows.beatTimesSpec.pre6 enc Try.prog Try.f4 Rows.beatTimesRow.domain false) (Rows.beatTimesSpec.post enc Try.prog Try.f4 false true false false) := by
  refine returnsInHanded_of_change (C := Try.checked) own started (by kernel_rfl) Try.func4
    (ChangeSpec.witness6 (enc := enc) (C := Try.checked) false ⟨#[], #[.int .i64 0, .slice none 0 0], []⟩ 8 (by kernel_rfl) (by kernel_rfl) (by kernel_rfl) (by kernel_rfl)) ?_
  intro W base args ds gs before hval0 hW hcnd _
  have hval : ∀ (j : Nat) t v, Try.f4.params[j]? = some t → args[j]? = some v → Value.okWide Try.prog W .any base t v := hval0
  have hW' := hW
  obtain ⟨p, q, hA0, hV, rfl, hfz, hnd⟩ := hW
  have hA : DataW.TrodAll enc Try.prog W 0 (fun _ => true) true Try.f4.params.toList args.toList ds p := hA0
  rw [Try.params4] at hA hval
  obtain ⟨v0, vs0, d0, ds0, p0, q0, hargs, rfl, rfl, h0, r0⟩ := trodAll_cons hA
  obtain ⟨v1, vs1, d1, ds1, p1, q1, rfl, rfl, rfl, h1, r1⟩ := trodAll_cons r0
  obtain ⟨rfl, rfl, rfl⟩ := trodAll_nil r1
  obtain rfl : args = #[v0, v1] := by cases args; simp_all
  obtain ⟨rfl, rfl⟩ := trodVars_none hV
  obtain ⟨a0, rfl, rfl, rfl, w0⟩ := open_int Try.underlying2 (hval 0 2 v0 rfl rfl) h0
  clear hA0 hval0
  have hlt := hW'.lt
  refine (walk W a0 w0 v1 d1 p1 (hval 1 33 v1 rfl rfl) h1 (fun x hx => hlt x (by simp [hx]))).mono fun e W' ⟨he, hb⟩ => ?_
  subst he
  exact ⟨_, rfl, post_of_below (pv := []) hW' (fun _ _ _ => (trodAll_cons_mk (shut_bool Try.underlying4 _) trodAll_mk0)) (fun sp hsp => (trodAll_cons_mk (shut_int Try.underlying2 w0) (trodAll_cons_mk (WideElems.Trod_stays laidOut (by kernel_rfl) (of_decide_eq_true (by kernel_rfl)) h1 (fun x hx => hb.same (hlt x (by simp [hx]))) (fun x hx => hsp x (by simp [hx]))) trodAll_mk0))) (fun _ _ => rfl) (by simp) hb (ok_one (by kernel_rfl) rfl (okWide_bool_mk Try.underlying4 _))⟩

theorem over : Rows.beatTimesRow.holds Try.pinned (OpenSpec.ofChange Rows.beatTimesSpec) :=
  OpenClaim.holds_of_wide 4 Try.f4 rfl rfl rfl rfl rfl rfl rfl ⟨rfl, rfl, rfl, rfl, rfl⟩ rfl rfl rfl rfl rfl (by kernel_rfl) Try.func4 (by kernel_rfl)
    (of_decide_eq_true (by kernel_rfl)) (by unfold Func.isWrapper; first | (rw [if_pos (by decide +kernel)]; kernel_rfl) | (rw [if_neg (by decide +kernel)]; exact ⟨rfl, rfl⟩))
    (fun os started H enc _ => lifted os started H enc)

theorem proved : Rows.BeatTimesSaid := over
#print axioms proved
end Go.Proofs.Ytfaohjgobdhbgaa.beatTimes
