/- The law qanat/qanatlaw08.IndexLast returns true for all arguments of its types; no condition. -/
import Derived.Test.YtkicnjbidbfajaaRowSame
import Derived.Test.YtkicnjbidbfajaaArgs
import Derived.WalkKit
import Derived.ProofKit
import Derived.OpenShut
import Derived.WideKeyArgs
namespace Go.Proofs.Ytkicnjbidbfajaa.indexLast
open Go.ChangeShapes Go.WideShapes Go.ChangeAt Go.RowKit
set_option linter.unusedVariables false
set_option linter.unusedSimpArgs false
theorem own : ownKnob Try.prog.godebug = none := by kernel_rfl
theorem laidOut : laidOutB Try.prog = true := by kernel_rfl


set_option maxRecDepth 100000 in
set_option maxHeartbeats 3000000 in
theorem walk {H : Type} {enc : TypeId × Value → H} (w : World) {base : Nat} (v0 : Value) (d0 : DataW H) (p0 : List MemPlace) (o0 : Value.okWide Try.prog w .any base 22 v0) (h0 : DataW.Trod enc Try.prog w 0 (fun _ => true) true 22 v0 d0 p0) (l0 : ∀ x ∈ p0, x.block < w.heap.size) :
    Calls Try.prog 4 #[v0] w fun e w' => e = .returned (.bool true) ∧ Below w.heap.size w w' := by
  obtain ⟨n, a, hR, _⟩ := open_rows (P := Try.prog) Try.underlying22 Try.underlying26 (by kernel_rfl) (by kernel_rfl) (by rfl) (fun f hf => by simp at hf; subst hf; exact Try.underlying2) (fun f hf => by simp at hf; subst hf; exact Try.underlying9) o0 h0 l0
  obtain ⟨A, cap, rfl, hlc, hcm⟩ := hR.form
  unfold maxLen at hcm
  have HRs := Lib.hid hR
  have hal := hR.1
  clear hR h0 l0 o0
  by_cases hbig : 200 < n
  · have g1 : (200 : Int) < n := by omega
    go_enter Try.func4, Try.ntmps4
    go_wp2_with fail
    refine (awake08 _).mono ?_
    rintro e w5 ⟨rfl, b5⟩
    go_wp2_with fail
    go_ret
    exact ⟨rfl, b5⟩
  · have g1 : ¬ (200 : Int) < n := by omega
    go_enter Try.func4, Try.ntmps4
    go_wp2_with fail
    subst hal
    refine (inew _ a w HRs.out (by omega)).mono ?_
    rintro e w1 ⟨rfl, h1⟩
    have H1 := Lib.hid h1
    clear h1
    obtain ⟨r, hr⟩ : ∃ r, w.heap.size = r := ⟨_, rfl⟩
    rw [hr] at H1 ⊢
    have HR := Lib.hid hr
    clear hr
    obtain ⟨L, hL⟩ : ∃ L, putAll a = L := ⟨_, rfl⟩
    have hLl := all_len a
    have HG := Lib.hid (get_all a)
    rw [hL] at H1 hLl HG
    have HL := Lib.hid hL
    clear hL
    go_wp2_with fail
    go_loopw [4, 5, 6, 7, 8] (fun s4 s5 s6 s7 s8 wr => ∃ i : Nat, i ≤ a.length ∧ s4 = .int .i64 i ∧ Ix w r (fun _ => False) wr L) (fun s4 _ _ _ _ _ => a.length - (intOf s4).toNat)
    case atStart => exact ⟨0, by omega, rfl, H1.out⟩
    case round =>
      clear H1
      obtain ⟨i, hi, rfl, hI⟩ := hrel
      have HI := Lib.hid hI
      clear hI
      by_cases hlt : i < a.length
      · obtain ⟨g, off, cap', hv, _, _, hg, hat, _⟩ := HRs.out.at_ (by omega)
        simp at hv
        obtain ⟨rfl, rfl⟩ := hv
        have hgr : g < r := by have := HR.out; omega
        have HAT := Lib.hid hat
        have q1 : (i : Int) < a.length := by omega
        have q2 : (0 : Int) ≤ i := by omega
        have u1 : IntKind.i64.wrap ((i : Int) + 1) = (i : Int) + 1 := IntWalk.i64_in _ (by omega)
        have hxi : w.cell? ⟨g, off + i * 2, none⟩ = some (.int .i64 a[i].1) := hat _ _ (rowCells_at a i hlt).1
        have hlt2 := Lib.hid hlt
        have hany : a.any (fun x => x.1 == a[i].1) = true := List.any_eq_true.2 ⟨a[i], List.getElem_mem hlt, by simp⟩
        have HK := Lib.hid (show has L a[i].1 = true from (HG.out _).1.trans hany)
        have HGK := Lib.hid (HG.out a[i].1).2
        have HX := Lib.hid hxi
        clear hat hxi hany
        generalize a[i].1 = k at *
        clear hlt
        go_upto_region 11 with fail
        go_loopw [5, 6] (fun s5 s6 wx => ∃ m : Nat, m ≤ a.length ∧ s6 = .int .i64 m ∧ s5 = .string (lastV a k m) ∧ Ix w r (fun _ => False) wx L) (fun _ s6 _ => a.length - (intOf s6).toNat)
        case atStart => exact ⟨0, by omega, rfl, rfl, HI.out⟩
        case round =>
          clear HI
          obtain ⟨m, hm, rfl, rfl, hI⟩ := hrel
          have HI := Lib.hid hI
          clear hI
          by_cases hml : m < a.length
          · have hb := HI.out.low
            have x0 : wr.cell? ⟨g, off + i * 2, none⟩ = some (.int .i64 k) := (hb.cell hgr).trans HX.out
            have x1 : wr.cell? ⟨g, off + m * 2, none⟩ = some (.int .i64 a[m].1) := (hb.cell hgr).trans (HAT.out _ _ (rowCells_at a m hml).1)
            have x2 : wr.cell? ⟨g, off + m * 2 + 1, none⟩ = some (.string a[m].2) := (hb.cell hgr).trans (HAT.out _ _ (rowCells_at a m hml).2)
            have HS := Lib.hid (lastV_succ a k m hml)
            have p1 : (m : Int) < a.length := by omega
            have p2 : (0 : Int) ≤ m := by omega
            have u2 : IntKind.i64.wrap ((m : Int) + 1) = (m : Int) + 1 := IntWalk.i64_in _ (by omega)
            have hml2 := Lib.hid hml
            generalize a[m].1 = y at *
            generalize a[m].2 = z at *
            clear hb hml
            by_cases hy : y = k
            · have g2 : (y == k) = true := beq_iff_eq.2 hy
              have HS2 := Lib.hid (show lastV a k (m + 1) = z by rw [HS.out, if_pos hy])
              clear HS hy
              go_wp2_with fail
              go_quiet (fail)
              have x3 : (wr.drewN nq).cell? ⟨g, off + m * 2 + 1, none⟩ = some (.string z) := x2
              go_wp2_with fail
              go_roundw
              case rel => exact ⟨m + 1, by have := hml2.out; omega, by go_num, by rw [HS2.out], HI.out.drewN _⟩
              case measure => have := hml2.out; simp [intOf]; omega
            · have g2 : (y == k) = false := beq_eq_false_iff_ne.2 hy
              have HS2 := Lib.hid (show lastV a k (m + 1) = lastV a k m by rw [HS.out, if_neg hy])
              clear HS hy
              go_wp2_with fail
              go_quiet (fail)
              go_wp2_with fail
              go_roundw
              case rel => exact ⟨m + 1, by have := hml2.out; omega, by go_num, by rw [HS2.out], HI.out.drewN _⟩
              case measure => have := hml2.out; simp [intOf]; omega
          · obtain rfl : m = a.length := by omega
            have p1 : ¬ (a.length : Int) < a.length := by omega
            have x0 : wr.cell? ⟨g, off + i * 2, none⟩ = some (.int .i64 k) := (HI.out.low.cell hgr).trans HX.out
            rw [← HGK.out]
            go_wp2_with fail
            refine (iget k HI.out (by omega)).mono ?_
            rintro e w4 ⟨rfl, h4, b4⟩
            rw [HK.out]
            have H4 := Lib.hid h4
            clear h4 b4 HI x0
            generalize getL L k = y at *
            go_wp2_with fail
            go_roundw
            case rel => exact ⟨i + 1, by have := hlt2.out; omega, by go_num, H4.out⟩
            case measure => have := hlt2.out; simp [intOf]; omega
      · obtain rfl : i = a.length := by omega
        have p1 : ¬ (a.length : Int) < a.length := by omega
        have L1 := Lib.hid HI.out.low
        clear HI
        go_wp2_with fail
        refine (awake08 _).mono ?_
        rintro e w5 ⟨rfl, b5⟩
        go_wp2_with fail
        go_ret
        exact ⟨rfl, by rw [HR.out]; exact L1.out.trans (b5.mono (by rw [← HR.out]; exact L1.out.size))⟩

set_option maxRecDepth 100000 in
theorem lifted (os : Os) (started : os.Started) (H : Type) (enc : TypeId × Value → H) :
    ReturnsInHanded {} Try.checked os 4 .any (Rows.indexLastSpec.pre6 enc Try.prog Try.f4 Rows.indexLastRow.domain false) (Rows.indexLastSpec.post enc Try.prog Try.f4 false true false false) := by
  refine returnsInHanded_of_change (C := Try.checked) own started (by kernel_rfl) Try.func4
    (ChangeSpec.witness6 (enc := enc) (C := Try.checked) false ⟨#[], #[.slice none 0 0], []⟩ 8 (by kernel_rfl) (by kernel_rfl) (by kernel_rfl) (by kernel_rfl)) ?_
  intro W base args ds gs before hval0 hW hcnd _
  have hval : ∀ (j : Nat) t v, Try.f4.params[j]? = some t → args[j]? = some v → Value.okWide Try.prog W .any base t v := hval0
  have hW' := hW
  obtain ⟨p, q, hA0, hV, rfl, hfz, hnd⟩ := hW
  have hA : DataW.TrodAll enc Try.prog W 0 (fun _ => true) true Try.f4.params.toList args.toList ds p := hA0
  rw [Try.params4] at hA hval
  obtain ⟨v0, vs0, d0, ds0, p0, q0, hargs, rfl, rfl, h0, r0⟩ := trodAll_cons hA
  obtain ⟨rfl, rfl, rfl⟩ := trodAll_nil r0
  obtain rfl : args = #[v0] := by cases args; simp_all
  obtain ⟨rfl, rfl⟩ := trodVars_none hV
  clear hA0 hval0
  have hlt := hW'.lt
  refine (walk W v0 d0 p0 (hval 0 22 v0 rfl rfl) h0 (fun x hx => hlt x (by simp [hx]))).mono fun e W' ⟨he, hb⟩ => ?_
  subst he
  exact ⟨_, rfl, post_of_below (pv := []) hW' (fun _ _ _ => (trodAll_cons_mk (shut_bool Try.underlying4 _) trodAll_mk0)) (fun sp hsp => (trodAll_cons_mk (WideElems.Trod_stays laidOut (by kernel_rfl) (of_decide_eq_true (by kernel_rfl)) h0 (fun x hx => hb.same (hlt x (by simp [hx]))) (fun x hx => hsp x (by simp [hx]))) trodAll_mk0)) (fun _ _ => rfl) (by simp) hb (ok_one (by kernel_rfl) rfl (okWide_bool_mk Try.underlying4 _))⟩

theorem over : Rows.indexLastRow.holds Try.pinned (OpenSpec.ofChange Rows.indexLastSpec) :=
  OpenClaim.holds_of_wide 4 Try.f4 rfl rfl rfl rfl rfl rfl rfl ⟨rfl, rfl, rfl, rfl, rfl⟩ rfl rfl rfl rfl rfl (by kernel_rfl) Try.func4 (by kernel_rfl)
    (of_decide_eq_true (by kernel_rfl)) (by unfold Func.isWrapper; first | (rw [if_pos (by decide +kernel)]; kernel_rfl) | (rw [if_neg (by decide +kernel)]; exact ⟨rfl, rfl⟩))
    (fun os started H enc _ => lifted os started H enc)

theorem proved : Rows.IndexLastSaid := over
#print axioms proved
end Go.Proofs.Ytkicnjbidbfajaa.indexLast
