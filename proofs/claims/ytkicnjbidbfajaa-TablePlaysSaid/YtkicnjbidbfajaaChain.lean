/- A drawn region of three effects, each of which makes its world from the one ahead: its worlds, named. Over any program. -/
import Derived.Test.YtkicnjbidbfajaaStage
namespace Go.Proofs.Ytkicnjbidbfajaa
open Go.RowKit
set_option linter.unusedVariables false
set_option linter.unusedSimpArgs false
/-- four worlds, one behind the other -/
def Ch4 (W0 W1 W2 W3 : World) (k : Nat) (w : World) : Prop := (k = 0 ∧ w = W0) ∨ (k = 1 ∧ w = W1) ∨ (k = 2 ∧ w = W2) ∨ (k = 3 ∧ w = W3)
theorem WSt.all {W0 W1 W2 W3 : World} {p : World → Prop} (y : WSt (Ch4 W0 W1 W2 W3)) (h0 : p W0) (h1 : p W1) (h2 : p W2) (h3 : p W3) : p y.w := by
  rcases y.ok with ⟨_, h⟩ | ⟨_, h⟩ | ⟨_, h⟩ | ⟨_, h⟩ <;> rw [h] <;> assumption
theorem upTo_append {P : Program} {T : World → Prop} {a : Act} {o : Oper} {w w2 : World} {v : Value} (s x : Operand) (t : TypeId) (hop : o.op = .call { callee := .builtin .append, args := #[s, x], argTypes := #[t, t] })
    (vs vx : Value) (hs : a.eval s = vs) (hx : a.eval x = vx) (hr : (Builtin.append_ #[t, t] o.type #[vs, vx]).run P w = .ok v w2) (hT : T w2) : upTo P T v ((execOp a.eval o).run P w) := by
  simp [execOp, hop, resolve, invoke, builtin, hs, hx, hr, Result.andThen, upTo]
  exact hT
def Ch5 (W0 W1 W2 W3 W4 : World) (k : Nat) (w : World) : Prop := (k = 0 ∧ w = W0) ∨ (k = 1 ∧ w = W1) ∨ (k = 2 ∧ w = W2) ∨ (k = 3 ∧ w = W3) ∨ (k = 4 ∧ w = W4)
theorem WSt.all5 {W0 W1 W2 W3 W4 : World} {p : World → Prop} (y : WSt (Ch5 W0 W1 W2 W3 W4)) (h0 : p W0) (h1 : p W1) (h2 : p W2) (h3 : p W3) (h4 : p W4) : p y.w := by
  rcases y.ok with ⟨_, h⟩ | ⟨_, h⟩ | ⟨_, h⟩ | ⟨_, h⟩ | ⟨_, h⟩ <;> rw [h] <;> assumption
end Go.Proofs.Ytkicnjbidbfajaa
