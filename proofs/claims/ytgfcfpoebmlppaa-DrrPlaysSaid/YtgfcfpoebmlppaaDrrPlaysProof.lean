/- The law qanat/qanatlaw23.DrrPlays returns true for all arguments of its types; no condition. -/
import Derived.Test.YtgfcfpoebmlppaaDrrPlay
import Derived.Test.YtgfcfpoebmlppaaArgs
import Derived.Test.YtgfcfpoebmlppaaHeld
import Derived.WalkKit
import Derived.ProofKit
import Derived.OpenShut
import Derived.WideKeyArgs
namespace Go.Proofs.Ytgfcfpoebmlppaa.drrPlays
open Go.ChangeShapes Go.WideShapes Go.ChangeAt Go.RowKit
set_option linter.unusedVariables false
set_option linter.unusedSimpArgs false
theorem own : ownKnob Try.prog.godebug = none := by kernel_rfl
theorem laidOut : laidOutB Try.prog = true := by kernel_rfl
theorem findS_cases (l : List Mem) (id : Int) : findS l id = -1 ∨ ∃ i : Nat, findS l id = i ∧ i < l.length := by
  unfold findS
  cases h : l.findIdx? (fun m => m.2 == id) with
  | none => exact .inl rfl
  | some i => exact .inr ⟨i, rfl, (List.findIdx?_eq_some_iff_findIdx_eq.1 h).1⟩

set_option maxRecDepth 100000 in
set_option maxHeartbeats 3000000 in
theorem walk {H : Type} {enc : TypeId × Value → H} (w : World) {base : Nat} (v0 : Value) (d0 : DataW H) (p0 : List MemPlace) (o0 : Value.okWide Try.prog w .any base 34 v0) (h0 : DataW.Trod enc Try.prog w 0 (fun _ => true) true 34 v0 d0 p0) (l0 : ∀ x ∈ p0, x.block < w.heap.size) :
    Calls Try.prog 4 #[v0] w fun e w' => e = .returned (.bool true) ∧ Below w.heap.size w w' := by
  obtain ⟨A, len, cap, F, rfl, hlc, hcm, hat⟩ := open_int_structs (P := Try.prog) Try.underlying34 Try.underlying38 (by kernel_rfl) (by kernel_rfl) (fun j f hf => by rcases j with _ | _ | _ | j <;> simp at hf <;> subst hf <;> exact Try.underlying3) o0 h0 l0 (by decide)
  unfold maxLen at hcm
  have HAT := Lib.hid hat
  clear hat h0 l0 o0
  go_enter Try.func4, Try.ntmps4
  go_wp2_with fail
  refine (dnew w).mono ?_
  rintro e w1 ⟨rfl, d1⟩
  obtain ⟨r, hr⟩ : ∃ r, w.heap.size = r := ⟨_, rfl⟩
  rw [hr] at d1 ⊢
  have HR := Lib.hid hr
  have D1 := Lib.hid d1
  clear hr d1
  go_wp2_with fail
  refine (rnew_any w1).mono ?_
  rintro e w2 ⟨rfl, a2, b2⟩
  have hB : Both w r w1.heap.size w2 [] 0 false 0 := both_first D1.out a2 b2
  generalize w1.heap.size = x at *
  have HB := Lib.hid hB
  clear hB a2 b2 D1
  go_wp2_with fail
  go_loopw [5] (fun s5 wr => ∃ (q : Nat) (l : List Mem) (at_ : Nat) (turn : Bool) (left : Int), q ≤ len ∧ q ≤ 120 ∧ s5 = .int .i64 q ∧ l.length ≤ q ∧ Both w r x wr l at_ turn left) (fun s5 _ => 120 - (intOf s5).toNat)
  case atStart => exact ⟨0, [], 0, false, 0, by omega, by omega, rfl, by simp, HB.out⟩
  case round =>
    clear HB
    obtain ⟨q, l, at_, turn, left, hq, hq2, rfl, hll, hB⟩ := hrel
    have HB := Lib.hid hB
    clear hB
    by_cases hlt : q < len ∧ q < 120
    · obtain ⟨bl, off, rfl, hbl, hcell⟩ := HAT.out (by omega)
      have k0 := (hcell q hlt.1 0 (by decide)).1
      have k1 := (hcell q hlt.1 1 (by decide)).1
      have k2 := (hcell q hlt.1 2 (by decide)).1
      have hbr : bl < r := by have := HR.out; omega
      have b3 := HB.out.low
      have e0 : wr.cell? ⟨bl, off + q * 3, none⟩ = some (.int .i64 (F q 0)) := (b3.cell hbr).trans k0
      have e1 : wr.cell? ⟨bl, off + q * 3 + 1, none⟩ = some (.int .i64 (F q 1)) := (b3.cell hbr).trans k1
      have e2 : wr.cell? ⟨bl, off + q * 3 + 2, none⟩ = some (.int .i64 (F q 2)) := (b3.cell hbr).trans k2
      have hq1 : (q : Int) < len := by omega
      have hq2 : (q : Int) < 120 := by omega
      have u1 : IntKind.i64.wrap ((q : Int) + 1) = (q : Int) + 1 := IntWalk.i64_in _ (by omega)
      clear k0 k1 k2 hcell b3
      have HQ := Lib.hid hlt
      clear hlt
      generalize F q 0 = o0 at *
      generalize F q 1 = o1 at *
      generalize F q 2 = o2 at *
      go_upto_region 9 with fail
      have hB2 := HB.out.below ((Below.refl wr.heap.size wr).alloc (Nat.le_refl _) (.cells #[.int .i64 o0, .int .i64 o1, .int .i64 o2] 38))
      have hO2 : Blk (wr.alloc (.cells #[.int .i64 o0, .int .i64 o1, .int .i64 o2] 38)) wr.heap.size 38 #[.int .i64 o0, .int .i64 o1, .int .i64 o2] := heap_alloc_new wr _
      generalize wr.heap.size = ob at *
      generalize World.alloc wr _ = W at *
      have v0 := hO2.cell 0
      have v1 := hO2.cell 1
      have v2 := hO2.cell 2
      simp at v0 v1 v2
      have HB2 := Lib.hid hB2
      have HO2 := Lib.hid hO2
      have hob := hO2.lt
      clear hB2 hO2 e0 e1 e2 HB
      have m1 := bigS_bd o1 6 (by decide)
      have m2 := bigS_bd o2 4 (by decide)
      have m3 := bigS_bd o1 13 (by decide)
      have m4 := bigS_bd o0 8 (by decide)
      go_quiet ((go_at_call 9; exact (mod_any _ _ _ (by omega) (by omega)).mono fun e w' ⟨he, hb⟩ => ⟨he, _, hb.symm⟩))
      have HB3 := Lib.hid (HB2.out.drewN nq)
      have HO3 := Lib.hid (show Blk (W.drewN nq) ob 38 #[.int .i64 o0, .int .i64 o1, .int .i64 o2] from HO2.out)
      clear HB2 HO2 v0 v1 v2 hob
      generalize World.drewN W _ = W3 at *
      have v0 := HO3.out.cell 0
      have v1 := HO3.out.cell 1
      have v2 := HO3.out.cell 2
      simp at v0 v1 v2
      have hob := HO3.out.lt
      generalize bigS o1 6 = i6 at *
      generalize bigS o2 4 = i4 at *
      go_upto_if 44 with (go_at_call 9; refine (mod_any _ _ _ (by omega) (by omega)).mono ?_; rintro e w' ⟨rfl, rfl⟩)
      go_cut [7, 8] (fun s7 s8 wx => ∃ id wt : Int, s7 = .int .i64 id ∧ s8 = .int .i64 wt ∧ Both w r x wx l at_ turn left ∧ Blk wx ob 38 #[.int .i64 o0, .int .i64 o1, .int .i64 o2])
      case first =>
        by_cases h12 : bigS o1 13 = 12
        · have g1 : (bigS o1 13 == 12) = true := beq_iff_eq.2 h12
          go_upto_region 11 with fail
          go_quiet (fail)
          go_wp2_with fail
          go_meet
          case rel => exact ⟨o1, o2, rfl, rfl, HB3.out.drewN _, HO3.out⟩
        · have g1 : (bigS o1 13 == 12) = false := beq_eq_false_iff_ne.2 h12
          go_wp2_with fail
          go_meet
          case rel => exact ⟨1 + i6, 1 + i4, rfl, rfl, HB3.out, HO3.out⟩
      case rest =>
        clear HB3 HO3 v0 v1 v2 hob m1 m2 m3
        obtain ⟨id, wt, rfl, rfl, hB, hO⟩ := hcut
        have v0 := hO.cell 0
        simp at v0
        have HB := Lib.hid hB
        clear hB hO
        generalize hkk : bigS o0 8 = kk at *
        go_upto_block 2 with (go_at_call 9; refine (mod_any _ _ _ (by omega) (by omega)).mono ?_; rintro e w' ⟨rfl, rfl⟩)
        go_cut [9, 11, 12, 13, 14] (fun s9 s11 s12 s13 s14 wx => ∃ (l' : List Mem) (at' : Nat) (turn' : Bool) (left' : Int), s9 = .bool true ∧ l'.length ≤ q + 1 ∧ Both w r x wx l' at' turn' left')
        case first =>
          have hF := HB.out.fine
          have hbd := hF.1
          have HFi := Lib.hid hF
          clear hF
          have hll2 := Lib.hid hll
          by_cases h5 : kk < 5
          · by_cases hn : 0 < l.length
            · go_wp2_with fail
              refine (two_d_next HB.out hn).mono ?_
              rintro e w4 ⟨rfl, t4⟩
              have T4 := Lib.hid t4
              clear t4 HB
              go_wp2_with fail
              refine (two_r_next (at2 := 0) (turn2 := true) (left2 := 0) T4.out HFi.out hn).mono ?_
              rintro e w5 ⟨rfl, t5⟩
              have T5 := Lib.hid t5
              clear t5 T4
              generalize nextId l at_ turn left = ni at *
              go_wp2_with fail
              go_meet
              case rel => exact ⟨_, _, _, _, rfl, by have := hll2.out; omega, T5.out⟩
            · obtain rfl : l = [] := List.eq_nil_of_length_eq_zero (by omega)
              go_wp2_with fail
              refine (two_d_empty HB.out).mono ?_
              rintro e w4 ⟨rfl, rfl⟩
              go_wp2_with fail
              refine (two_r_none HB.out).mono ?_
              rintro e w5 ⟨rfl, rfl⟩
              go_wp2_with fail
              go_meet
              case rel => exact ⟨_, _, _, _, rfl, by simp, HB.out⟩
          · by_cases h7 : kk < 7
            · cases ha : argB id wt with
              | false =>
                have HA := Lib.hid ha
                clear ha
                go_wp2_with fail
                refine (dadd_arg id wt HA.out).mono ?_
                rintro e w4 ⟨rfl, rfl⟩
                go_wp2_with fail
                refine (radd_arg x id wt _ HA.out).mono ?_
                rintro e w5 ⟨rfl, rfl⟩
                go_wp2_with fail
                go_meet
                case rel => exact ⟨_, _, _, _, rfl, by have := hll2.out; omega, HB.out⟩
              | true =>
                have HA := Lib.hid ha
                clear ha
                rcases findS_cases l id with hf | ⟨i, hf, hi⟩
                · have HF := Lib.hid hf
                  clear hf
                  go_wp2_with fail
                  refine (two_d_add id wt HB.out HA.out HF.out (by omega)).mono ?_
                  rintro e w4 ⟨rfl, t4⟩
                  have T4 := Lib.hid t4
                  clear t4 HB
                  go_wp2_with fail
                  refine (two_r_add id wt T4.out HA.out HF.out (by omega)).mono ?_
                  rintro e w5 ⟨rfl, t5⟩
                  have T5 := Lib.hid t5
                  clear t5 T4
                  go_wp2_with fail
                  go_meet
                  case rel => exact ⟨_, _, _, _, rfl, by have := hll2.out; simp; omega, T5.out⟩
                · have HF := Lib.hid (show 0 ≤ findS l id by omega)
                  clear hf hi
                  go_wp2_with fail
                  refine (two_d_twice id wt HB.out HA.out HF.out).mono ?_
                  rintro e w4 ⟨rfl, t4⟩
                  have T4 := Lib.hid t4
                  clear t4 HB
                  go_wp2_with fail
                  refine (two_r_twice id wt T4.out HA.out HF.out).mono ?_
                  rintro e w5 ⟨rfl, rfl⟩
                  go_wp2_with fail
                  go_meet
                  case rel => exact ⟨_, _, _, _, rfl, by have := hll2.out; omega, T4.out⟩
            · rcases findS_cases l id with hf | ⟨i, hf, hi⟩
              · have HF := Lib.hid hf
                clear hf
                go_wp2_with fail
                refine (two_d_none id HB.out HF.out).mono ?_
                rintro e w4 ⟨rfl, t4⟩
                have T4 := Lib.hid t4
                clear t4 HB
                go_wp2_with fail
                refine (two_r_dnone id T4.out HF.out).mono ?_
                rintro e w5 ⟨rfl, rfl⟩
                go_wp2_with fail
                go_meet
                case rel => exact ⟨_, _, _, _, rfl, by have := hll2.out; omega, T4.out⟩
              · have HF := Lib.hid hf
                have HI := Lib.hid hi
                have hle := Lib.hid (show (l.eraseIdx i).length ≤ q + 1 by rw [List.length_eraseIdx_of_lt hi]; omega)
                clear hf hi
                go_wp2_with fail
                refine (two_d_del i id HB.out HF.out HI.out).mono ?_
                rintro e w4 ⟨rfl, t4⟩
                have T4 := Lib.hid t4
                clear t4 HB
                go_wp2_with fail
                refine (two_r_del i id T4.out HFi.out HF.out HI.out).mono ?_
                rintro e w5 ⟨rfl, t5⟩
                have T5 := Lib.hid t5
                clear t5 T4
                go_wp2_with fail
                go_meet
                case rel => exact ⟨_, _, _, _, rfl, hle.out, T5.out⟩
        case rest =>
          clear HB hkk v0
          obtain ⟨l', at', turn', left', rfl, hl', hB⟩ := hcut
          have HB := Lib.hid hB
          clear hB hll
          go_upto_region 21 with fail
          obtain ⟨vi, vw, f1, f2, f3⟩ := HB.out
          have hlen : l'.length ≤ 200 := f1.fine.1
          obtain ⟨A9, d9, rfl, _, _⟩ := f2.2.1.1.form
          have HFx := Lib.hid (show Fix w r x (.slice A9 l'.length d9) vw l' at' turn' left' wc.drew from Fix.drewN ⟨f1, f2, f3⟩ 1)
          clear f1 f2 f3 HB
          have hne : Nonempty (WIn (Fix w r x (.slice A9 l'.length d9) vw l' at' turn' left')) := ⟨⟨_, HFx.out⟩⟩
          have c0 : ∀ y : WIn (Fix w r x (.slice A9 l'.length d9) vw l' at' turn' left'), y.w.cell? ⟨x, 0, none⟩ = some (.slice A9 l'.length d9) := fun y => y.ok.2.1.1.cell 0
          refine wp_region_noPanic ?_
          refine wp_region_held_drew (S := fun w' => Fix w r x (.slice A9 l'.length d9) vw l' at' turn' left' w') (by kernel_rfl) HFx.out (fun hHeld => ?_)
          (refine takeE (i := 0) rfl (by kernel_rfl) (by kernel_rfl) (by kernel_rfl) (fun _ _ _ _ h => h) hHeld (fun K hK => ?_); go_simp; refine hK _ ?_; clear hK K)
          (refine takeE (i := 1) rfl (by kernel_rfl) (by kernel_rfl) (by kernel_rfl) (fun _ _ _ _ h => h) hHeld (fun K hK => ?_); go_simp; refine hK _ ?_; clear hK K)
          (refine takeE (i := 2) rfl (by kernel_rfl) (by kernel_rfl) (by kernel_rfl) (fun _ _ _ _ h => h) hHeld (fun K hK => ?_); go_simp; refine hK _ ?_; clear hK K)
          (refine takeE (i := 3) rfl (by kernel_rfl) (by kernel_rfl) (by kernel_rfl) (fun _ _ _ _ h => h) hHeld (fun K hK => ?_); go_simp; refine hK _ ?_; clear hK K)
          (refine takeE (i := 5) rfl (by kernel_rfl) (by kernel_rfl) (by kernel_rfl) (fun _ _ _ _ h => h) hHeld (fun K hK => ?_); go_simp; refine hK _ ?_; clear hK K)
          (refine takeE (i := 6) rfl (by kernel_rfl) (by kernel_rfl) (by kernel_rfl) (fun _ _ _ _ h => h) hHeld (fun K hK => ?_); go_simp; refine hK _ ?_; clear hK K)
          (refine takeE (i := 7) rfl (by kernel_rfl) (by kernel_rfl) (by kernel_rfl) (fun _ _ _ _ h => h) hHeld (fun K hK => ?_); go_simp; refine hK _ ?_; clear hK K)
          (refine takeE (i := 8) rfl (by kernel_rfl) (by kernel_rfl) (by kernel_rfl) (fun _ _ _ _ h => h) hHeld (fun K hK => ?_); go_simp; refine hK _ ?_; clear hK K)
          refine wpAnyH_ready (rs := [4]) (by kernel_rfl) (by simp) ?_
          refine AllReadyH.cons rfl (fun K hK => ?_) AllReadyH.nil
          go_simp
          refine (two_d_all hHeld.both).mono ?_
          rintro e w7 ⟨Av, cap7, rfl, hS7, hb7⟩
          refine hK.out _ _ (Fix.below hHeld hb7) (fun hHeld => ?_)
          clear hK K hb7
          have HS7 := Lib.hid hS7
          clear hS7
          try simp only [List.getElem_toArray, List.getElem_cons_succ, List.getElem_cons_zero, Act.put, List.setIfInBounds_toArray, List.set_cons_zero, List.set_cons_succ]
          refine wpAnyH_ready (rs := [9]) (by kernel_rfl) (by simp) ?_
          refine AllReadyH.cons rfl (fun K hK => ?_) AllReadyH.nil
          go_simp
          refine (plain_int _ _ l'.length l' _ HS7.out hHeld.2.1.2.1.1 (by omega)).mono ?_
          rintro e w8 ⟨rfl, k8, rfl⟩
          refine hK.out _ _ (Fix.drewN hHeld k8) (fun hHeld => ?_)
          clear hK K
          try simp only [List.getElem_toArray, List.getElem_cons_succ, List.getElem_cons_zero, Act.put, List.setIfInBounds_toArray, List.set_cons_zero, List.set_cons_succ]
          (refine takeE (i := 10) rfl (by kernel_rfl) (by kernel_rfl) (by kernel_rfl) (fun _ _ _ _ h => h) hHeld (fun K hK => ?_); go_simp; refine hK _ ?_; clear hK K)
          (refine takeE (i := 11) rfl (by kernel_rfl) (by kernel_rfl) (by kernel_rfl) (fun _ _ _ _ h => h) hHeld (fun K hK => ?_); go_simp; refine hK _ ?_; clear hK K)
          refine wpAnyH_done (by kernel_rfl) ?_ _
          refine NoPanic.normal ?_
          have HB := Lib.hid hHeld.both
          clear hHeld c0 hne HFx HS7
          go_wp2_with fail
          go_roundw
          case rel => exact ⟨q + 1, l', at', turn', left', by have := HQ.out; omega, by have := HQ.out; omega, by go_num, hl', HB.out⟩
          case measure => have := HQ.out; simp [intOf]; omega
    · have L1 := Lib.hid HB.out.low
      clear HB
      have g1 : ¬ ((q : Int) < len ∧ (q : Int) < 120) := by omega
      by_cases g2 : (q : Int) < len
      · have g3 : ¬ (q : Int) < 120 := by omega
        clear g1
        go_wp2_with fail
        refine (awake23 _).mono ?_
        rintro e w5 ⟨rfl, b5⟩
        go_wp2_with fail
        go_ret
        exact ⟨rfl, by rw [HR.out]; exact L1.out.trans (b5.mono (by rw [← HR.out]; exact L1.out.size))⟩
      · clear g1
        go_wp2_with fail
        refine (awake23 _).mono ?_
        rintro e w5 ⟨rfl, b5⟩
        go_wp2_with fail
        go_ret
        exact ⟨rfl, by rw [HR.out]; exact L1.out.trans (b5.mono (by rw [← HR.out]; exact L1.out.size))⟩

set_option maxRecDepth 100000 in
theorem lifted (os : Os) (started : os.Started) (H : Type) (enc : TypeId × Value → H) :
    ReturnsInHanded {} Try.checked os 4 .any (Rows.drrPlaysSpec.pre6 enc Try.prog Try.f4 Rows.drrPlaysRow.domain false) (Rows.drrPlaysSpec.post enc Try.prog Try.f4 false true false false) := by
  refine returnsInHanded_of_change (C := Try.checked) own started (by kernel_rfl) Try.func4
    (ChangeSpec.witness6 (enc := enc) (C := Try.checked) false ⟨#[], #[.slice none 0 0], []⟩ 8 (by kernel_rfl) (by kernel_rfl) (by kernel_rfl) (by kernel_rfl)) ?_
  intro W base args ds gs before hval0 hW hcnd _
  have hval : ∀ (j : Nat) t v, Try.f4.params[j]? = some t → args[j]? = some v → Value.okWide Try.prog W .any base t v := hval0
  have hW' := hW
  obtain ⟨p, q, hA0, hV, rfl, hfz, hnd⟩ := hW
  have hA : DataW.TrodAll enc Try.prog W 0 (fun _ => true) true Try.f4.params.toList args.toList ds p := hA0
  rw [Try.params4] at hA hval
  obtain ⟨v0, vs0, d0, ds0, p0, q0, hargs, rfl, rfl, h0, r0⟩ := trodAll_cons hA
  obtain ⟨rfl, rfl, rfl⟩ := trodAll_nil r0
  obtain rfl : args = #[v0] := by cases args; simp_all
  obtain ⟨rfl, rfl⟩ := trodVars_none hV
  clear hA0 hval0
  have hlt := hW'.lt
  refine (walk W v0 d0 p0 (hval 0 34 v0 rfl rfl) h0 (fun x hx => hlt x (by simp [hx]))).mono fun e W' ⟨he, hb⟩ => ?_
  subst he
  exact ⟨_, rfl, post_of_below (pv := []) hW' (fun _ _ _ => (trodAll_cons_mk (shut_bool Try.underlying4 _) trodAll_mk0)) (fun sp hsp => (trodAll_cons_mk (WideElems.Trod_stays laidOut (by kernel_rfl) (of_decide_eq_true (by kernel_rfl)) h0 (fun x hx => hb.same (hlt x (by simp [hx]))) (fun x hx => hsp x (by simp [hx]))) trodAll_mk0)) (fun _ _ => rfl) (by simp) hb (ok_one (by kernel_rfl) rfl (okWide_bool_mk Try.underlying4 _))⟩

theorem over : Rows.drrPlaysRow.holds Try.pinned (OpenSpec.ofChange Rows.drrPlaysSpec) :=
  OpenClaim.holds_of_wide 4 Try.f4 rfl rfl rfl rfl rfl rfl rfl ⟨rfl, rfl, rfl, rfl, rfl⟩ rfl rfl rfl rfl rfl (by kernel_rfl) Try.func4 (by kernel_rfl)
    (of_decide_eq_true (by kernel_rfl)) (by unfold Func.isWrapper; first | (rw [if_pos (by decide +kernel)]; kernel_rfl) | (rw [if_neg (by decide +kernel)]; exact ⟨rfl, rfl⟩))
    (fun os started H enc _ => lifted os started H enc)

theorem proved : Rows.DrrPlaysSaid := over
#print axioms proved
end Go.Proofs.Ytgfcfpoebmlppaa.drrPlays
