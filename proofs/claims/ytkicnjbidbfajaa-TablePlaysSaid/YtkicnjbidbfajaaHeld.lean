/- A region that draws its order: an operation, or a call that leaves the world as it is, whose value is one in every world of a class, may be taken ahead of all others; what is left is branched over. Asked: the closed facts of the region's edges. -/
import Derived.Test.YtkicnjbidbfajaaStage
import Derived.OrdersHeld
import Derived.Deep.RegionHeld
namespace Go.Proofs.Ytkicnjbidbfajaa
section
variable {P : Program} {ops : Array Oper} {Q : Exit → Act → World → Prop} {md : Region.Mode} {S : World → Prop}
/-- In state a operation o comes to v in every world of the class, and leaves it as it is. -/
def YieldsE (P : Program) (ops : Array Oper) (S : World → Prop) (o : Oper) (v : Value) (a : Act) : Prop :=
  (Region.wanted o (yielded ops a.tmps) = true ∧ ∀ x : WIn S, upTo P (fun w' => w' = x.w) v ((execOp a.eval o).run P x.w)) ∨ (Region.wanted o (yielded ops a.tmps) = false ∧ v = undef)
theorem YieldsE.op {i : Nat} {o : Oper} {v : Value} {a : Act} (hi : ops[i]? = some o) (hy : YieldsE P ops S o v a) {K : Act → World → Prop} {w : World} (hS : S w) (h : K (a.put o.dst v) w) : wpOp P ops Q i K a w := by
  unfold wpOp
  simp only [hi]
  rcases hy with ⟨hw, hv⟩ | ⟨hw, rfl⟩
  · simp only [hw, if_true]
    exact .inl (wp_of_upTo (fun w' e => by subst e; exact h) (hv ⟨w, hS⟩))
  · simp only [hw]; exact h
theorem YieldsE.same {o : Oper} {v : Value} {a a' : Act} (hy : YieldsE P ops S o v a) (h1 : execOp a'.eval o = execOp a.eval o) (h2 : Region.wanted o (yielded ops a'.tmps) = Region.wanted o (yielded ops a.tmps)) : YieldsE P ops S o v a' := by
  unfold YieldsE at *
  rw [h1, h2]; exact hy
/-- Another operation does not see whether it has been taken. -/
theorem wpOp_ahead {j : Nat} {oi oj : Oper} {v : Value} (hj : ops[j]? = some oj) (hap : oi.apart ops oj = true) (hsi : ∀ cs b, oi.op ≠ .select cs b) (hsj : ∀ cs b, oj.op ≠ .select cs b)
    (hQ : ∀ c a w, Q (.panic c) (a.put oi.dst v) w → Q (.panic c) a w) {K : Act → World → Prop} {a : Act} {w : World} (hy : YieldsE P ops S oi v a) (h : wpOp P ops Q j K (a.put oi.dst v) w) :
    wpOp P ops Q j (fun a' w' => YieldsE P ops S oi v a' ∧ K (a'.put oi.dst v) w') a w := by
  obtain ⟨h1, h2, h3⟩ := Oper.apart_spec hap
  have put : ∀ b : Act, YieldsE P ops S oi v b → ∀ u, YieldsE P ops S oi v (b.put oj.dst u) := fun b hb u => hb.same (execOp_put oi hsi b oj.dst u h3) (wanted_put oi b oj.dst u h3)
  unfold wpOp at h ⊢
  simp only [hj] at h ⊢
  rw [wanted_put oj a oi.dst v h1] at h
  by_cases hw : Region.wanted oj (yielded ops a.tmps) = true
  · rw [if_pos hw] at h ⊢
    unfold Oper.wp Oper.asks at *
    rw [execOp_put oj hsj a oi.dst v h1] at h
    refine h.imp (fun h => ?_) (fun h => h)
    cases hr : (execOp a.eval oj).run P w with
    | halt x w' =>
      rw [hr] at h
      cases x <;> simp only [Oper.upon] at h ⊢
      exact hQ _ _ _ h
    | ok n w' =>
      rw [hr] at h
      cases n <;> simp only [Oper.upon] at h ⊢
      case value u => exact ⟨put a hy u, by rw [← Act.put_comm a v u h2]; exact h⟩
      case skip => exact ⟨put a hy _, by rw [← Act.put_comm a v undef h2]; exact h⟩
      case defer d =>
        refine ⟨put { tmps := a.tmps, defers := d :: a.defers } (hy.same rfl rfl) _, ?_⟩
        rw [← Act.put_comm _ v undef h2, ← Act.put_defers]
        exact h
      case enter f args =>
        refine Calls.mono h fun e w'' he => ?_
        cases e with
        | returned u => exact ⟨put a hy u, by rw [← Act.put_comm a v u h2]; exact he⟩
        | panicked c => exact hQ _ _ _ he
        | outgrown => exact he
      case row row args => exact Rows.mono h fun u w'' he => ⟨put a hy u, by rw [← Act.put_comm a v u h2]; exact he⟩
  · rw [if_neg hw] at h ⊢
    exact ⟨put a hy _, by rw [← Act.put_comm a v undef h2]; exact h⟩
theorem wpAnyH_ahead {i : Nat} {oi : Oper} {v : Value} (hi : ops[i]? = some oi) (hsel : ∀ (j : Nat) (o : Oper) cs b, ops[j]? = some o → o.op ≠ .select cs b)
    (hQ : ∀ c a w, Q (.panic c) (a.put oi.dst v) w → Q (.panic c) a w) (fuel : Nat) :
    ∀ (s : Array Bool) (a : Act) (w : World),
      (∀ j oj, ops[j]? = some oj → j ≠ i → s.getD j true = false → (∀ e ∈ oj.after, Region.binds md e = true → e.on ≠ i) → oi.apart ops oj = true) →
      i ∈ Region.ready md ops s → YieldsE P ops S oi v a → S w →
      wpAnyH P md ops Q S fuel (s.setIfInBounds i true) (a.put oi.dst v) w → wpAnyH P md ops Q S (fuel + 1) s a w := by
  induction fuel with
  | zero =>
    intro s a w _ hr hy hS H
    refine ⟨fun h => absurd hr (by rw [h]; simp), fun j hj => ?_⟩
    by_cases hji : j = i
    · subst hji; exact hy.op hi hS ⟨hS, H⟩
    · have h2 := ready_mono hj hji
      rw [H.1] at h2
      cases h2
  | succ fuel ih =>
    intro s a w hfree hr hy hS H
    refine ⟨fun h => absurd hr (by rw [h]; simp), fun j hj => ?_⟩
    by_cases hji : j = i
    · subst hji; exact hy.op hi hS ⟨hS, H⟩
    · obtain ⟨hjun, oj, hoj, hall⟩ := mem_ready.1 hj
      have hun := (mem_ready.1 hr).1
      have hnot : ∀ e ∈ oj.after, Region.binds md e = true → e.on ≠ i := fun e he hb heq => by
        have h1 := hall e he hb
        rw [heq, getD_both hun] at h1
        cases h1
      have h2 := wpOp_ahead hoj (hfree j oj hoj hji hjun hnot) (fun cs b => hsel i oi cs b hi) (fun cs b => hsel j oj cs b hoj) hQ hy (H.2 j (ready_mono hj hji))
      refine wpOp_mono (fun a' w' h3 => ⟨h3.2.1, ih (s.setIfInBounds j true) a' w' ?_ (ready_mono hr (Ne.symm hji)) h3.1 h3.2.1 ?_⟩) h2
      · intro k ok hk hki hkun hno
        refine hfree k ok hk hki ?_ hno
        by_cases hjk : j = k
        · subst hjk; exact hjun
        · rw [getD_set_ne true hjk] at hkun; exact hkun
      · rw [Array.setIfInBounds_comm _ _ hji]
        exact h3.2.2
/-- Number i is taken ahead. -/
theorem takeE {i : Nat} {oi : Oper} {fuel : Nat} {s : Array Bool} {a : Act} {w : World} (hi : ops[i]? = some oi) (hs : Region.noSelect ops = true) (hf : Region.free md ops s i = true) (hr : (Region.ready md ops s).contains i = true)
    (hQ : ∀ v c a w, Q (.panic c) (a.put oi.dst v) w → Q (.panic c) a w) (hS : S w)
    (h : ∀ K : Act → Prop, (∀ a, wpAnyH P md ops Q S fuel (s.setIfInBounds i true) a w → K a) → if Region.wanted oi (yielded ops a.tmps) then ∃ v, (∀ x : WIn S, upTo P (fun w' => w' = x.w) v ((execOp a.eval oi).run P x.w)) ∧ K (a.put oi.dst v) else K (a.put oi.dst undef)) :
    wpAnyH P md ops Q S (fuel + 1) s a w := by
  have h' := h _ (fun _ h => h)
  have go := fun v hy H => wpAnyH_ahead (P := P) (S := S) (v := v) hi (Region.noSelect_spec hs) (hQ v) fuel s a w (Region.free_spec hi hf) (by simpa using hr) hy hS H
  by_cases hw : Region.wanted oi (yielded ops a.tmps) = true
  · rw [if_pos hw] at h'
    obtain ⟨v, h1, h2⟩ := h'
    exact go v (.inl ⟨hw, h1⟩) h2
  · rw [if_neg hw] at h'
    exact go undef (.inr ⟨by simpa using hw, rfl⟩) h'
/-- The class may be made narrower. -/
theorem held_narrow {S' : World → Prop} (hSS : ∀ w, S' w → S w) : ∀ (fuel : Nat) (s : Array Bool) (a : Act) (w : World), wpAnyH P md ops Q S' fuel s a w → wpAnyH P md ops Q S fuel s a w
  | 0, _, _, _, h => h
  | fuel + 1, _, _, _, h => ⟨h.1, fun i hi => wpOp_mono (fun a' w' h' => ⟨hSS _ h'.1, held_narrow hSS fuel _ a' w' h'.2⟩) (h.2 i hi)⟩
@[go_sem] theorem upTo_value {T : World → Prop} {v u : Value} {w : World} : upTo P T v (.ok (.value u) w) = (u = v ∧ T w) := rfl
@[go_sem] theorem upTo_skip {T : World → Prop} {v : Value} {w : World} : upTo P T v (.ok .skip w) = (v = undef ∧ T w) := rfl
@[go_sem] theorem upTo_enter {T : World → Prop} {v : Value} {w : World} {f : FuncId} {args : Array Value} : upTo P T v (.ok (.enter f args) w) = Calls P f args w (fun e w'' => e = .returned v ∧ T w'') := rfl
end
end Go.Proofs.Ytkicnjbidbfajaa
