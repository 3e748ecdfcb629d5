/- The law qanat/qanatlaw30.BeatPlays returns true for all arguments of its types; no condition. -/
import Derived.Test.YtfaohjgobdhbgaaBeatSame
import Derived.WalkKit
import Derived.ProofKit
import Derived.OpenShut
import Derived.WideKeyArgs
namespace Go.Proofs.Ytfaohjgobdhbgaa.beatPlays
open Go.ChangeShapes Go.WideShapes Go.ChangeAt Go.RowKit
set_option linter.unusedVariables false
set_option linter.unusedSimpArgs false
theorem own : ownKnob Try.prog.godebug = none := by kernel_rfl
theorem laidOut : laidOutB Try.prog = true := by kernel_rfl
def PlIn (b x ob t : Nat) (n D L : Int) (cs : Array Value) (w0 w : World) : Prop := beatAt w b n D L ∧ rbeatAt w x n D L ∧ Blk w ob t cs ∧ Below b w0 w
theorem PlIn.drew {b x ob t : Nat} {n D L : Int} {cs : Array Value} {w0 w : World} (h : PlIn b x ob t n D L cs w0 w) : PlIn b x ob t n D L cs w0 w.drew := ⟨h.1, h.2.1, h.2.2.1, h.2.2.2.drew⟩
theorem PlIn.drewN {b x ob t : Nat} {n D L : Int} {cs : Array Value} {w0 w : World} (h : PlIn b x ob t n D L cs w0 w) (k : Nat) : PlIn b x ob t n D L cs w0 (w.drewN k) := ⟨h.1, h.2.1, h.2.2.1, below_drewN h.2.2.2 k⟩

set_option maxRecDepth 100000 in
set_option maxHeartbeats 3000000 in
theorem walk {H : Type} {enc : TypeId × Value → H} (w : World) {base : Nat} (a0 : Int) (w0 : (Lit.int .i64 a0).wf = true) (a1 : Int) (w1 : (Lit.int .i64 a1).wf = true) (a2 : Int) (w2 : (Lit.int .i64 a2).wf = true) (v3 : Value) (d3 : DataW H) (p3 : List MemPlace) (o3 : Value.okWide Try.prog w .any base 42 v3) (h3 : DataW.Trod enc Try.prog w 0 (fun _ => true) true 42 v3 d3 p3) (l3 : ∀ x ∈ p3, x.block < w.heap.size) :
    Calls Try.prog 5 #[.int .i64 a0, .int .i64 a1, .int .i64 a2, v3] w fun e w' => e = .returned (.bool true) ∧ Below w.heap.size w w' := by
  obtain ⟨A, len, cap, F, rfl, hlc, hcm, hat⟩ := open_int_structs (P := Try.prog) Try.underlying42 Try.underlying44 (by kernel_rfl) (by kernel_rfl) (fun j f hf => by rcases j with _ | _ | _ | _ | j <;> simp at hf <;> subst hf <;> first | exact Try.underlying3 | exact Try.underlying2) o3 h3 l3 (by decide)
  unfold maxLen at hcm
  have HAT := Lib.hid hat
  clear hat h3 l3 o3
  have c1 := bigS_bd a0 30 (by decide)
  have c2 := bigS_bd a1 1000 (by decide)
  have c3 := bigS_bd a2 100 (by decide)
  have hnew : newS (1 + bigS a0 30) (bigS a1 1000) (bigS a2 100) = true := by simp [newS]; omega
  have HN := Lib.hid hnew
  clear hnew
  go_enter Try.func5, Try.ntmps5
  go_wp2_with (go_at_call 12; refine (big_any _ _ _ (by omega) (by omega)).mono ?_; rintro e w' ⟨rfl, rfl⟩)
  refine (new_ok _ _ _ _ HN.out).mono ?_
  rintro e w1 ⟨rfl, h1, b1⟩
  obtain ⟨b, hr⟩ : ∃ b, w.heap.size = b := ⟨_, rfl⟩
  rw [hr] at h1 b1 ⊢
  have HR := Lib.hid hr
  clear hr
  go_wp2_with fail
  refine (rnew_ok _ _ _ _ HN.out).mono ?_
  rintro e w2 ⟨rfl, h2, b2⟩
  have hb1 := lt_of_block h1
  have h1' := beatAt_below h1 b2
  have b3 : Below b w w2 := b1.trans (b2.mono (by omega))
  obtain ⟨x, hx⟩ : ∃ x, w1.heap.size = x := ⟨_, rfl⟩
  rw [hx] at h2 ⊢
  have hbx : b < x := by omega
  obtain ⟨n, hn⟩ : ∃ n, 1 + bigS a0 30 = n := ⟨_, rfl⟩
  obtain ⟨D0, hd⟩ : ∃ D0, bigS a1 1000 + n = D0 := ⟨_, rfl⟩
  have hn1 : 1 ≤ n ∧ n ≤ 30 := by omega
  rw [hn] at h1' h2 ⊢
  rw [hd] at h1' h2
  clear hx hn hd h1 b1 b2 hb1 HN
  go_wp2_with fail
  go_loopw [15] (fun i wr => ∃ (q : Nat) (D L : Int), q ≤ len ∧ q ≤ 80 ∧ i = .int .i64 q ∧ beatAt wr b n D L ∧ rbeatAt wr x n D L ∧ Below b w wr) (fun i _ => 80 - (intOf i).toNat)
  case atStart => exact ⟨0, D0, _, by omega, by omega, rfl, h1', h2, b3⟩
  case round =>
    clear h1' h2 b3
    obtain ⟨q, D, L, hq, hq80, rfl, h1, h2, b3⟩ := hrel
    by_cases hlt : q < len ∧ q < 80
    · obtain ⟨bl, off, rfl, hbl, hcell⟩ := HAT.out (by omega)
      have g0 := (hcell q hlt.1 0 (by decide)).1
      have g1 := (hcell q hlt.1 1 (by decide)).1
      have g2 := (hcell q hlt.1 2 (by decide)).1
      have g3 := (hcell q hlt.1 3 (by decide)).1
      have hbr : bl < b := by have := HR.out; omega
      have e0 : wr.cell? ⟨bl, off + q * 4, none⟩ = some (.int .i64 (F q 0)) := (b3.cell hbr).trans g0
      have e1 : wr.cell? ⟨bl, off + q * 4 + 1, none⟩ = some (.int .i64 (F q 1)) := (b3.cell hbr).trans g1
      have e2 : wr.cell? ⟨bl, off + q * 4 + 2, none⟩ = some (.int .i64 (F q 2)) := (b3.cell hbr).trans g2
      have e3 : wr.cell? ⟨bl, off + q * 4 + 3, none⟩ = some (.int .i64 (F q 3)) := (b3.cell hbr).trans g3
      have hq1 : (q : Int) < len := by omega
      have hq2 : (q : Int) < 80 := by omega
      clear g0 g1 g2 g3 hcell HAT
      have HQ := Lib.hid hlt
      clear hlt
      generalize F q 0 = k0 at *
      generalize F q 1 = k1 at *
      generalize F q 2 = k2 at *
      generalize F q 3 = k3 at *
      clear F
      have H1 := Lib.hid h1
      have H2 := Lib.hid h2
      have B3 := Lib.hid b3
      clear h1 h2 b3
      go_wp2_with fail
      have hb0 := lt_of_block H1.out
      have hx0 := lt_of_block H2.out
      have hI : PlIn b x wr.heap.size 44 n D L #[.int .i64 k0, .int .i64 k1, .int .i64 k2, .int .i64 k3] w (wr.alloc (.cells #[.int .i64 k0, .int .i64 k1, .int .i64 k2, .int .i64 k3] 44)) := ⟨(Below.heap_alloc wr _ b hb0).trans H1.out, (Below.heap_alloc wr _ x hx0).trans H2.out, heap_alloc_new wr _, B3.out.alloc (by omega) _⟩
      generalize wr.alloc (.cells #[.int .i64 k0, .int .i64 k1, .int .i64 k2, .int .i64 k3] 44) = W at *
      generalize hob : wr.heap.size = ob at *
      have hne1 : ob ≠ b := by omega
      have hne2 : ob ≠ x := by omega
      have hne3 : b ≠ x := by omega
      clear e0 e1 e2 e3 hob H1 H2 B3 hb0 hx0
      have hne : Nonempty (WIn (PlIn b x ob 44 n D L #[.int .i64 k0, .int .i64 k1, .int .i64 k2, .int .i64 k3] w)) := ⟨⟨_, hI⟩⟩
      have z2 : ∀ y : WIn (PlIn b x ob 44 n D L #[.int .i64 k0, .int .i64 k1, .int .i64 k2, .int .i64 k3] w), y.w.cell? ⟨ob, 2, none⟩ = some (.int .i64 k2) := fun y => y.ok.2.2.1.cell 2
      have z3 : ∀ y : WIn (PlIn b x ob 44 n D L #[.int .i64 k0, .int .i64 k1, .int .i64 k2, .int .i64 k3] w), y.w.cell? ⟨ob, 3, none⟩ = some (.int .i64 k3) := fun y => y.ok.2.2.1.cell 3
      have z4 : ∀ y : WIn (PlIn b x ob 44 n D L #[.int .i64 k0, .int .i64 k1, .int .i64 k2, .int .i64 k3] w), y.w.cell? ⟨x, 1, none⟩ = some (.int .i64 D) := fun y => by simpa using cells_of y.ok.2.1 1
      have z5 : ∀ y : WIn (PlIn b x ob 44 n D L #[.int .i64 k0, .int .i64 k1, .int .i64 k2, .int .i64 k3] w), y.w.cell? ⟨x, 2, none⟩ = some (.int .i64 L) := fun y => by simpa using cells_of y.ok.2.1 2
      have HI := Lib.hid hI
      clear hI
      refine wp_region_quiet2 (PlIn b x ob 44 n D L #[.int .i64 k0, .int .i64 k1, .int .i64 k2, .int .i64 k3] w) (by kernel_rfl) (by kernel_rfl) HI.out.drew ?_
      repeat (refine wpQ_step (fun K hK => ?_); go_simp; first | (refine hK _ ?_; clear hK K) | (apply Exists.intro; refine ⟨fun _ => ?_, hK _ ?_⟩; ((go_at_call 12; exact (big_any _ _ _ (by omega) (by omega)).mono fun e w' ⟨he, hb⟩ => ⟨he, ⟨w', by rw [← hb]; exact WIn.ok _⟩, rfl⟩)); clear hK K))
      refine wpQ_nil ?_
      intro Y
      have y1 := Y.ok
      clear z2 z3 z4 z5 hne HI
      generalize Y.w = W1 at *
      clear Y
      generalize IntKind.i64.wrap (IntKind.i64.wrap (D - 5) + bigS k2 11) = wv0
      generalize IntKind.i64.wrap (IntKind.i64.wrap (L - 1) + bigS k3 4) = av0
      have v1 : W1.cell? ⟨ob, 1, none⟩ = some (.int .i64 k1) := y1.2.2.1.cell 1
      have Y1 := Lib.hid y1
      clear y1
      go_upto_if 84 with (go_at_call 14; refine (mod_any _ _ _ (by omega) (by omega)).mono ?_; rintro e w' ⟨rfl, rfl⟩)
      go_cut [17, 18] (fun s17 s18 wx => ∃ wv av : Int, s17 = .int .i64 wv ∧ s18 = .int .i64 av ∧ PlIn b x ob 44 n D L #[.int .i64 k0, .int .i64 k1, .int .i64 k2, .int .i64 k3] w wx)
      case first =>
        by_cases c8 : bigS k1 9 = 8
        · go_wp2_with fail
          have hI := Y1.out.drew
          have hne : Nonempty (WIn (PlIn b x ob 44 n D L #[.int .i64 k0, .int .i64 k1, .int .i64 k2, .int .i64 k3] w)) := ⟨⟨_, hI⟩⟩
          have z2 : ∀ y : WIn (PlIn b x ob 44 n D L #[.int .i64 k0, .int .i64 k1, .int .i64 k2, .int .i64 k3] w), y.w.cell? ⟨ob, 2, none⟩ = some (.int .i64 k2) := fun y => y.ok.2.2.1.cell 2
          have z3 : ∀ y : WIn (PlIn b x ob 44 n D L #[.int .i64 k0, .int .i64 k1, .int .i64 k2, .int .i64 k3] w), y.w.cell? ⟨ob, 3, none⟩ = some (.int .i64 k3) := fun y => y.ok.2.2.1.cell 3
          have HI := Lib.hid hI
          clear hI
          refine wp_region_quiet2 (PlIn b x ob 44 n D L #[.int .i64 k0, .int .i64 k1, .int .i64 k2, .int .i64 k3] w) (by kernel_rfl) (by kernel_rfl) HI.out ?_
          repeat (refine wpQ_step (fun K hK => ?_); go_simp; first | (refine hK _ ?_; clear hK K) | (apply Exists.intro; refine ⟨fun _ => ?_, hK _ ?_⟩; (fail); clear hK K))
          refine wpQ_nil ?_
          intro Y
          have y1 := Y.ok
          clear z2 z3 hne HI v1 Y1
          generalize Y.w = W2 at *
          clear Y
          have Y1 := Lib.hid y1
          clear y1
          go_wp2_with fail
          go_meet
          case rel => exact ⟨_, _, rfl, rfl, Y1.out⟩
        · have c8' : (bigS k1 9 == 8) = false := beq_eq_false_iff_ne.2 c8
          go_wp2_with fail
          go_meet
          case rel => exact ⟨_, _, rfl, rfl, Y1.out⟩
      case rest =>
        clear Y1 v1
        obtain ⟨wv, av, rfl, rfl, y2⟩ := hcut
        have v0 : wc.cell? ⟨ob, 0, none⟩ = some (.int .i64 k0) := y2.2.2.1.cell 0
        have Y2 := Lib.hid y2
        clear y2
        go_upto_block 2 with (go_at_call 14; refine (mod_any _ _ _ (by omega) (by omega)).mono ?_; rintro e w' ⟨rfl, rfl⟩)
        have c7 := bigS_bd k0 7 (by decide)
        generalize bigS k0 7 = kk at *
        clear v0
        go_cut [19] (fun s19 wx => s19 = .bool true ∧ ∃ D' L' : Int, PlIn b x ob 44 n D' L' #[.int .i64 k0, .int .i64 k1, .int .i64 k2, .int .i64 k3] w wx)
        case first =>
          obtain ⟨y1, y2, y3, y4⟩ := Y2.out
          have v1 : wc.cell? ⟨ob, 1, none⟩ = some (.int .i64 k1) := y3.cell 1
          have hbc := lt_of_block y1
          by_cases k4 : kk < 4
          · go_wp2_with fail
            refine (step_any b n D L wv av _ wc y1 (by omega)).mono ?_
            rintro e w3 ⟨rfl, p1, p4⟩
            have p2 : rbeatAt w3 x n D L := p4.at_ y2 (Ne.symm hne3)
            have p3 : Blk w3 ob 44 #[.int .i64 k0, .int .i64 k1, .int .i64 k2, .int .i64 k3] := p4.at_ y3 hne1
            have p5 : Below b w w3 := Keeps.below y4 p4 (by omega) (by intro v hv e; omega)
            have q1 : beatAt (w3.alloc (.cells #[.int .i64 (stLsn D L wv av (k1.tmod 3)), .slice none 0 0, .slice none 0 0] 38)) b n (stDue n D L wv av (k1.tmod 3)) (stLast D L wv av (k1.tmod 3)) := (Below.heap_alloc w3 _ b (lt_of_block p1)).trans p1
            have q2 : rbeatAt (w3.alloc (.cells #[.int .i64 (stLsn D L wv av (k1.tmod 3)), .slice none 0 0, .slice none 0 0] 38)) x n D L := (Below.heap_alloc w3 _ x (lt_of_block p2)).trans p2
            have q3 : Blk (w3.alloc (.cells #[.int .i64 (stLsn D L wv av (k1.tmod 3)), .slice none 0 0, .slice none 0 0] 38)) ob 44 #[.int .i64 k0, .int .i64 k1, .int .i64 k2, .int .i64 k3] := (Below.heap_alloc w3 _ ob (lt_of_block p3)).trans p3
            have q4 : Blk (w3.alloc (.cells #[.int .i64 (stLsn D L wv av (k1.tmod 3)), .slice none 0 0, .slice none 0 0] 38)) w3.heap.size 38 #[.int .i64 (stLsn D L wv av (k1.tmod 3)), .slice none 0 0, .slice none 0 0] := heap_alloc_new w3 _
            have q5 : Below b w (w3.alloc (.cells #[.int .i64 (stLsn D L wv av (k1.tmod 3)), .slice none 0 0, .slice none 0 0] 38)) := p5.alloc (by have := lt_of_block p1; omega) _
            have hyx : w3.heap.size ≠ x := by have := lt_of_block p2; omega
            have v2 : (w3.alloc (.cells #[.int .i64 (stLsn D L wv av (k1.tmod 3)), .slice none 0 0, .slice none 0 0] 38)).cell? ⟨ob, 1, none⟩ = some (.int .i64 k1) := q3.cell 1
            have Q1 := Lib.hid q1
            have Q2 := Lib.hid q2
            have Q3 := Lib.hid q3
            have Q4 := Lib.hid q4
            have Q5 := Lib.hid q5
            have hob3 := lt_of_block p3
            clear y1 y2 y3 y4 v1 Y2 hbc p1 p2 p3 p4 p5 q1 q2 q3 q4 q5
            go_wp2_with fail
            refine (rstep_any x n D L wv av (k1.tmod 3) _ Q2.out (by omega)).mono ?_
            rintro e w5 ⟨rfl, r2, r4⟩
            have r1 : beatAt w5 b n (stDue n D L wv av (k1.tmod 3)) (stLast D L wv av (k1.tmod 3)) := r4.at_ Q1.out hne3
            have r3 : Blk w5 ob 44 #[.int .i64 k0, .int .i64 k1, .int .i64 k2, .int .i64 k3] := r4.at_ Q3.out hne2
            have ry : Blk w5 w3.heap.size 38 #[.int .i64 (stLsn D L wv av (k1.tmod 3)), .slice none 0 0, .slice none 0 0] := r4.at_ Q4.out hyx
            have r5 : Below b w w5 := Keeps.below Q5.out r4 (by have := lt_of_block Q1.out; omega) (by intro v hv e; omega)
            clear Q1 Q2 Q3 Q4 Q5 r4 v2 hob3
            generalize stDue n D L wv av (k1.tmod 3) = D1 at *
            generalize stLast D L wv av (k1.tmod 3) = L1 at *
            generalize stDid D L wv av (k1.tmod 3) = d1 at *
            generalize stLsn D L wv av (k1.tmod 3) = l1 at *
            generalize w3.heap.size = yb at *
            have hyb := Blk.lt ry
            have cy0 := Blk.cell ry 0
            have cy1 := Blk.cell ry 1
            have cy2 := Blk.cell ry 2
            simp at cy0 cy1 cy2
            have s1 : beatAt (w5.alloc (.cells #[.int .i64 l1, .slice none 0 0, .slice none 0 0] 38)) b n D1 L1 := (Below.heap_alloc w5 _ b (lt_of_block r1)).trans r1
            have s2 : rbeatAt (w5.alloc (.cells #[.int .i64 l1, .slice none 0 0, .slice none 0 0] 38)) x n D1 L1 := (Below.heap_alloc w5 _ x (lt_of_block r2)).trans r2
            have s3 : Blk (w5.alloc (.cells #[.int .i64 l1, .slice none 0 0, .slice none 0 0] 38)) ob 44 #[.int .i64 k0, .int .i64 k1, .int .i64 k2, .int .i64 k3] := (Below.heap_alloc w5 _ ob (lt_of_block r3)).trans r3
            have s5 : Below b w (w5.alloc (.cells #[.int .i64 l1, .slice none 0 0, .slice none 0 0] 38)) := r5.alloc (by have := lt_of_block r1; omega) _
            have S1 := Lib.hid s1
            have S2 := Lib.hid s2
            have S3 := Lib.hid s3
            have S5 := Lib.hid s5
            clear r1 r2 r3 r5 ry s1 s2 s3 s5
            go_wp2_with fail
            refine (item_any l1 _).mono ?_
            rintro e w6 ⟨rfl, t1⟩
            clear cy0 cy1 cy2 hyb
            go_wp2_with fail
            go_meet
            case rel => exact ⟨rfl, D1, L1, beatAt_below S1.out t1, rbeatAt_below S2.out t1, Blk.below S3.out t1 (lt_of_block S3.out), S5.out.trans (t1.mono (by have := lt_of_block S1.out; omega))⟩
          · by_cases k5 : kk = 4
            · subst k5
              go_wp2_with fail
              refine (queued_any b n D L av wc y1).mono ?_
              rintro e w3 ⟨rfl, p1, p4⟩
              have p2 : rbeatAt w3 x n D L := p4.at_ y2 (Ne.symm hne3)
              have p3 : Blk w3 ob 44 #[.int .i64 k0, .int .i64 k1, .int .i64 k2, .int .i64 k3] := p4.at_ y3 hne1
              have p5 : Below b w w3 := Keeps.below y4 p4 (by omega) (by intro v hv e; omega)
              clear y1 y2 y3 y4 v1 Y2 hbc p4
              go_wp2_with fail
              refine (rqueued_any x n D L av w3 p2).mono ?_
              rintro e w4 ⟨rfl, r2, r4⟩
              have r1 : beatAt w4 b n D (max L av) := r4.at_ p1 hne3
              have r3 : Blk w4 ob 44 #[.int .i64 k0, .int .i64 k1, .int .i64 k2, .int .i64 k3] := r4.at_ p3 hne2
              have r5 : Below b w w4 := Keeps.below p5 r4 (by have := lt_of_block p1; omega) (by intro v hv e; omega)
              have R1 := Lib.hid r1
              have R2 := Lib.hid r2
              have R3 := Lib.hid r3
              have R5 := Lib.hid r5
              clear p1 p2 p3 p5 r1 r2 r3 r4 r5
              go_wp2_with fail
              go_meet
              case rel => exact ⟨rfl, D, max L av, R1.out, R2.out, R3.out, R5.out⟩
            · have k5' : (kk == 4) = false := beq_eq_false_iff_ne.2 k5
              have R1 := Lib.hid y1
              have R2 := Lib.hid y2
              have R3 := Lib.hid y3
              have R5 := Lib.hid y4
              clear y1 y2 y3 y4 v1 Y2 k5
              go_wp2_with fail
              go_meet
              case rel => exact ⟨rfl, D, L, R1.out, R2.out, R3.out, R5.out⟩
        case rest =>
          obtain ⟨rfl, D1, L1, y1⟩ := hcut
          clear Y2
          have hI := y1.drew
          have hne : Nonempty (WIn (PlIn b x ob 44 n D1 L1 #[.int .i64 k0, .int .i64 k1, .int .i64 k2, .int .i64 k3] w)) := ⟨⟨_, hI⟩⟩
          have z1 : ∀ y : WIn (PlIn b x ob 44 n D1 L1 #[.int .i64 k0, .int .i64 k1, .int .i64 k2, .int .i64 k3] w), y.w.cell? ⟨ob, 1, none⟩ = some (.int .i64 k1) := fun y => y.ok.2.2.1.cell 1
          have z4 : ∀ y : WIn (PlIn b x ob 44 n D1 L1 #[.int .i64 k0, .int .i64 k1, .int .i64 k2, .int .i64 k3] w), y.w.cell? ⟨x, 1, none⟩ = some (.int .i64 D1) := fun y => by simpa using cells_of y.ok.2.1 1
          have z5 : ∀ y : WIn (PlIn b x ob 44 n D1 L1 #[.int .i64 k0, .int .i64 k1, .int .i64 k2, .int .i64 k3] w), y.w.cell? ⟨x, 2, none⟩ = some (.int .i64 L1) := fun y => by simpa using cells_of y.ok.2.1 2
          have HI := Lib.hid hI
          have HB := Lib.hid (show ∀ y : WIn (PlIn b x ob 44 n D1 L1 #[.int .i64 k0, .int .i64 k1, .int .i64 k2, .int .i64 k3] w), beatAt y.w b n D1 L1 from fun y => y.ok.1)
          have HBR := Lib.hid (show ∀ y : WIn (PlIn b x ob 44 n D1 L1 #[.int .i64 k0, .int .i64 k1, .int .i64 k2, .int .i64 k3] w), rbeatAt y.w x n D1 L1 from fun y => y.ok.2.1)
          clear hI y1
          go_wp2_with fail
          refine wp_region_quiet2 (PlIn b x ob 44 n D1 L1 #[.int .i64 k0, .int .i64 k1, .int .i64 k2, .int .i64 k3] w) (by kernel_rfl) (by kernel_rfl) HI.out ?_
          repeat (refine wpQ_step (fun K hK => ?_); go_simp; first | (refine hK _ ?_; clear hK K) | (apply Exists.intro; refine ⟨fun _ => ?_, hK _ ?_⟩; (first | (go_at_call 19; exact (ready_any _ _ _ _ _ _ _ _ (HB.out _)).mono fun e w' ⟨he, nn, hb⟩ => ⟨he, ⟨w', by rw [hb]; exact PlIn.drewN (WIn.ok _) nn⟩, rfl⟩) | (go_at_call 20; exact (rready_any _ _ _ _ _ _ _ _ (HBR.out _)).mono fun e w' ⟨he, nn, hb⟩ => ⟨he, ⟨w', by rw [hb]; exact PlIn.drewN (WIn.ok _) nn⟩, rfl⟩) | (go_at_call 10; exact (due_any _ _ _ _ _ (HB.out _)).mono fun e w' ⟨he, hb⟩ => ⟨he, ⟨w', by rw [← hb]; exact WIn.ok _⟩, rfl⟩) | (go_at_call 11; exact (last_any _ _ _ _ _ (HB.out _)).mono fun e w' ⟨he, hb⟩ => ⟨he, ⟨w', by rw [← hb]; exact WIn.ok _⟩, rfl⟩)); clear hK K))
          refine wpQ_nil ?_
          intro Y
          obtain ⟨y1, y2, y3, y4⟩ := Y.ok
          have R1 := Lib.hid y1
          have R2 := Lib.hid y2
          have R5 := Lib.hid y4
          clear z1 z4 z5 hne HI HB HBR y1 y2 y3 y4
          generalize Y.w = W2 at *
          clear Y
          go_wp2_with fail
          go_roundw
          case rel => exact ⟨q + 1, D1, L1, by have := HQ.out; omega, by have := HQ.out; omega, by go_num, R1.out, R2.out, R5.out⟩
          case measure => have := HQ.out; simp [intOf]; omega
    · have H1 := Lib.hid h1
      have B3 := Lib.hid b3
      clear h1 h2 b3 HAT
      by_cases hq4 : q < len
      · have hq5 : ¬ (q : Int) < 80 := by omega
        have hq6 : (q : Int) < len := by omega
        go_wp2_with fail
        refine (awake30 _).mono ?_
        rintro e w3 ⟨rfl, b4⟩
        go_wp2_with fail
        go_ret
        have hlt := lt_of_block H1.out
        have e := HR.out
        subst e
        exact ⟨rfl, B3.out.trans (b4.mono (by omega))⟩
      · have hq5 : ¬ (q : Int) < len := by omega
        go_wp2_with fail
        refine (awake30 _).mono ?_
        rintro e w3 ⟨rfl, b4⟩
        go_wp2_with fail
        go_ret
        have hlt := lt_of_block H1.out
        have e := HR.out
        subst e
        exact ⟨rfl, B3.out.trans (b4.mono (by omega))⟩

set_option maxRecDepth 100000 in
theorem lifted (os : Os) (started : os.Started) (H : Type) (enc : TypeId × Value → H) :
    ReturnsInHanded {} Try.checked os 5 .any (Rows.beatPlaysSpec.pre6 enc Try.prog Try.f5 Rows.beatPlaysRow.domain false) (Rows.beatPlaysSpec.post enc Try.prog Try.f5 false true false false) := by
  refine returnsInHanded_of_change (C := Try.checked) own started (by kernel_rfl) Try.func5
    (ChangeSpec.witness6 (enc := enc) (C := Try.checked) false ⟨#[], #[.int .i64 0, .int .i64 0, .int .i64 0, .slice none 0 0], []⟩ 8 (by kernel_rfl) (by kernel_rfl) (by kernel_rfl) (by kernel_rfl)) ?_
  intro W base args ds gs before hval0 hW hcnd _
  have hval : ∀ (j : Nat) t v, Try.f5.params[j]? = some t → args[j]? = some v → Value.okWide Try.prog W .any base t v := hval0
  have hW' := hW
  obtain ⟨p, q, hA0, hV, rfl, hfz, hnd⟩ := hW
  have hA : DataW.TrodAll enc Try.prog W 0 (fun _ => true) true Try.f5.params.toList args.toList ds p := hA0
  rw [Try.params5] at hA hval
  obtain ⟨v0, vs0, d0, ds0, p0, q0, hargs, rfl, rfl, h0, r0⟩ := trodAll_cons hA
  obtain ⟨v1, vs1, d1, ds1, p1, q1, rfl, rfl, rfl, h1, r1⟩ := trodAll_cons r0
  obtain ⟨v2, vs2, d2, ds2, p2, q2, rfl, rfl, rfl, h2, r2⟩ := trodAll_cons r1
  obtain ⟨v3, vs3, d3, ds3, p3, q3, rfl, rfl, rfl, h3, r3⟩ := trodAll_cons r2
  obtain ⟨rfl, rfl, rfl⟩ := trodAll_nil r3
  obtain rfl : args = #[v0, v1, v2, v3] := by cases args; simp_all
  obtain ⟨rfl, rfl⟩ := trodVars_none hV
  obtain ⟨a0, rfl, rfl, rfl, w0⟩ := open_int Try.underlying2 (hval 0 2 v0 rfl rfl) h0
  obtain ⟨a1, rfl, rfl, rfl, w1⟩ := open_int Try.underlying2 (hval 1 2 v1 rfl rfl) h1
  obtain ⟨a2, rfl, rfl, rfl, w2⟩ := open_int Try.underlying2 (hval 2 2 v2 rfl rfl) h2
  clear hA0 hval0
  have hlt := hW'.lt
  refine (walk W a0 w0 a1 w1 a2 w2 v3 d3 p3 (hval 3 42 v3 rfl rfl) h3 (fun x hx => hlt x (by simp [hx]))).mono fun e W' ⟨he, hb⟩ => ?_
  subst he
  exact ⟨_, rfl, post_of_below (pv := []) hW' (fun _ _ _ => (trodAll_cons_mk (shut_bool Try.underlying4 _) trodAll_mk0)) (fun sp hsp => (trodAll_cons_mk (shut_int Try.underlying2 w0) (trodAll_cons_mk (shut_int Try.underlying2 w1) (trodAll_cons_mk (shut_int Try.underlying2 w2) (trodAll_cons_mk (WideElems.Trod_stays laidOut (by kernel_rfl) (of_decide_eq_true (by kernel_rfl)) h3 (fun x hx => hb.same (hlt x (by simp [hx]))) (fun x hx => hsp x (by simp [hx]))) trodAll_mk0))))) (fun _ _ => rfl) (by simp) hb (ok_one (by kernel_rfl) rfl (okWide_bool_mk Try.underlying4 _))⟩

theorem over : Rows.beatPlaysRow.holds Try.pinned (OpenSpec.ofChange Rows.beatPlaysSpec) :=
  OpenClaim.holds_of_wide 5 Try.f5 rfl rfl rfl rfl rfl rfl rfl ⟨rfl, rfl, rfl, rfl, rfl⟩ rfl rfl rfl rfl rfl (by kernel_rfl) Try.func5 (by kernel_rfl)
    (of_decide_eq_true (by kernel_rfl)) (by unfold Func.isWrapper; first | (rw [if_pos (by decide +kernel)]; kernel_rfl) | (rw [if_neg (by decide +kernel)]; exact ⟨rfl, rfl⟩))
    (fun os started H enc _ => lifted os started H enc)

theorem proved : Rows.BeatPlaysSaid := over
#print axioms proved
end Go.Proofs.Ytfaohjgobdhbgaa.beatPlays
