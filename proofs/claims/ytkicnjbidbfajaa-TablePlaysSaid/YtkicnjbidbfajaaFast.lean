/- Calls of the program's own functions in the walk, met at once (not through the table of builtins). No condition. -/
import Derived.WalkKit
import Derived.ProofKit
namespace Go.Proofs.Ytkicnjbidbfajaa
/-- A call of a function's value. -/
@[irreducible] def callVal (f : Value) (args : Array Value) : Sem Next := do
  let d ← Deferred.ofValue f args
  invoke d.target d.args
@[go_sem ↓] theorem execOp_fn (a : Act) (d : Option Tmp) (t : TypeId) (p : String) (e : Array Edge) (g : Option (Nat × Bool)) (k : FuncId) (args : Array Operand) (tys : Array TypeId) :
    execOp a.eval { dst := d, op := .call { callee := .value (.func k), args := args, argTypes := tys }, type := t, pos := p, after := e, guard := g } = callFunc k (args.map a.eval) := by
  simp [execOp, resolve, Deferred.ofValue, invoke, Act.eval]
@[go_sem ↓] theorem execOp_val (a : Act) (d : Option Tmp) (t : TypeId) (p : String) (e : Array Edge) (g : Option (Nat × Bool)) (k : Tmp) (args : Array Operand) (tys : Array TypeId) :
    execOp a.eval { dst := d, op := .call { callee := .value (.tmp k), args := args, argTypes := tys }, type := t, pos := p, after := e, guard := g } = callVal (a.eval (.tmp k)) (args.map a.eval) := by
  simp [execOp, resolve, callVal]
@[go_sem] theorem callVal_fn (f : FuncId) (first lb args : Array Value) : callVal (.func (.func f) first lb) args = callFunc f (first ++ args ++ lb) := by
  simp [callVal, Deferred.ofValue, invoke]
end Go.Proofs.Ytkicnjbidbfajaa
