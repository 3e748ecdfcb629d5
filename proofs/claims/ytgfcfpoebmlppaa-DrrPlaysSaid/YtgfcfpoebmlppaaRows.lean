/-
  No cell of these rows narrows 'for every input' (looked for: loops, veiled, ifaces, maps, wideKeys, modest, calm, conditions, laid).
  DERIVED. THE GIVEN ROWS OF THIS SEAT. 4 by the template 'for every input the law returns true; each argument reads behind the call as it read before'; 0 by the template 'total and deterministic' (their statements: YtgfcfpoebmlppaaTotals.lean).
  GIVEN WITH THE SEED: the statements are not yours to turn. If you find one false, say at which input.
  Laid BY PROGRAM, IN A SANDBOX (cutbox-rows.mjs): the forced cells as the released guide's own fill.sh prints them over the translation 3bba9681486f5883… (all of the seat's roots in one cut). By AI agents, Wed Nov 11 2026. No macro, syntax, notation, axiom, sorry.
-/
import Derived.Test.YtgfcfpoebmlppaaChecked
import GoSem.Claim
import GoSem.ClaimJoined
import GoSem.ClaimMapViews
import Derived.JoinedTies
import Derived.KernelRfl
namespace Go.Proofs.Ytgfcfpoebmlppaa
/- THE CELL 'sum', in the pinned program and in every row, IS THE sha256 OF THE DUMP (.gsa) THAT YtgfcfpoebmlppaaProg.lean LOADS. Nothing in Lean hashes anything: it is a label: what it is worth is what the hold of that sum in a sandbox is worth. -/
noncomputable def Try.pinned : Pinned := { name := "ytgfcfpoebmlppaa", sum := "3bba9681486f5883bddce554a62bdd507799d8d8fc892a408b918a9247a51073", checked := Try.checked }
namespace Rows
def none {H : Type} : Left H := { results := [], args := [] }

/-- 'qanatlaw23.DrrFair': WHATEVER THE INPUT: true; the input reads as it did. -/
def drrFairSpec : ChangeSpec := { name := "drrFair", fn := fun _ => fun
  | [d1, d2] => { results := [.lit (.bool true)], args := [d1, d2] }
  | _ => none }
def drrFairRow : OpenClaim := { program := "ytgfcfpoebmlppaa", sum := "3bba9681486f5883bddce554a62bdd507799d8d8fc892a408b918a9247a51073", func := "qanat/qanatlaw23.DrrFair", spec := "drrFair", unfollowed := true, recurses := true, apart := false }
def DrrFairSaid : Prop := drrFairRow.holds Try.pinned (OpenSpec.ofChange drrFairSpec)

/-- ITS FALSE NEIGHBOUR: 'it returns false'. Refute it at one input. -/
def drrFairWrong : ChangeSpec := { name := "drrFair", fn := fun _ => fun
  | [d1, d2] => { results := [.lit (.bool false)], args := [d1, d2] }
  | _ => none }
def DrrFairWrongFalsely : Prop := drrFairRow.holds Try.pinned (OpenSpec.ofChange drrFairWrong)

/-- 'qanatlaw23.DrrPlays': WHATEVER THE INPUT: true; the input reads as it did. -/
def drrPlaysSpec : ChangeSpec := { name := "drrPlays", fn := fun _ => fun
  | [d] => { results := [.lit (.bool true)], args := [d] }
  | _ => none }
def drrPlaysRow : OpenClaim := { program := "ytgfcfpoebmlppaa", sum := "3bba9681486f5883bddce554a62bdd507799d8d8fc892a408b918a9247a51073", func := "qanat/qanatlaw23.DrrPlays", spec := "drrPlays", unfollowed := true, recurses := true, apart := false }
def DrrPlaysSaid : Prop := drrPlaysRow.holds Try.pinned (OpenSpec.ofChange drrPlaysSpec)

/-- ITS FALSE NEIGHBOUR: 'it returns false'. Refute it at one input. -/
def drrPlaysWrong : ChangeSpec := { name := "drrPlays", fn := fun _ => fun
  | [d] => { results := [.lit (.bool false)], args := [d] }
  | _ => none }
def DrrPlaysWrongFalsely : Prop := drrPlaysRow.holds Try.pinned (OpenSpec.ofChange drrPlaysWrong)

/-- 'qanatlaw23.DrrNews': WHATEVER THE INPUT: true; the input reads as it did. -/
def drrNewsSpec : ChangeSpec := { name := "drrNews", fn := fun _ => fun
  | [d1, d2] => { results := [.lit (.bool true)], args := [d1, d2] }
  | _ => none }
def drrNewsRow : OpenClaim := { program := "ytgfcfpoebmlppaa", sum := "3bba9681486f5883bddce554a62bdd507799d8d8fc892a408b918a9247a51073", func := "qanat/qanatlaw23.DrrNews", spec := "drrNews", unfollowed := true, recurses := true, apart := false }
def DrrNewsSaid : Prop := drrNewsRow.holds Try.pinned (OpenSpec.ofChange drrNewsSpec)

/-- ITS FALSE NEIGHBOUR: 'it returns false'. Refute it at one input. -/
def drrNewsWrong : ChangeSpec := { name := "drrNews", fn := fun _ => fun
  | [d1, d2] => { results := [.lit (.bool false)], args := [d1, d2] }
  | _ => none }
def DrrNewsWrongFalsely : Prop := drrNewsRow.holds Try.pinned (OpenSpec.ofChange drrNewsWrong)

/-- 'qanatlaw23.DrrLeaves': WHATEVER THE INPUT: true; the input reads as it did. -/
def drrLeavesSpec : ChangeSpec := { name := "drrLeaves", fn := fun _ => fun
  | [d1, d2, d3] => { results := [.lit (.bool true)], args := [d1, d2, d3] }
  | _ => none }
def drrLeavesRow : OpenClaim := { program := "ytgfcfpoebmlppaa", sum := "3bba9681486f5883bddce554a62bdd507799d8d8fc892a408b918a9247a51073", func := "qanat/qanatlaw23.DrrLeaves", spec := "drrLeaves", unfollowed := true, recurses := true, apart := false }
def DrrLeavesSaid : Prop := drrLeavesRow.holds Try.pinned (OpenSpec.ofChange drrLeavesSpec)

/-- ITS FALSE NEIGHBOUR: 'it returns false'. Refute it at one input. -/
def drrLeavesWrong : ChangeSpec := { name := "drrLeaves", fn := fun _ => fun
  | [d1, d2, d3] => { results := [.lit (.bool false)], args := [d1, d2, d3] }
  | _ => none }
def DrrLeavesWrongFalsely : Prop := drrLeavesRow.holds Try.pinned (OpenSpec.ofChange drrLeavesWrong)

/- THE SECOND FORM. 'bulk': how many values and letters a reading holds, each counted each time it is reached (what is shared counts as often as it is met; a slice's spare places count too). A statement '..UptoSaid' is the law's where the arguments, and the package variables that the reading takes, are together of bulk at most 1048576: NARROWER than '..Said'. Prove '..Said' where nothing that the law and all that it calls make is longer than what came in: it says more and counts as full. Else prove '..UptoSaid'. A law counts once. -/
mutual
def uptoBulk {H : Type} : DataW H → Nat
  | .lit (.string bytes) => bytes.length + 1
  | .lit _ => 1
  | .nil => 1
  | .ptr d => uptoBulk d + 1
  | .slice elems spare => uptoBulkAll elems + uptoBulkAll spare + 1
  | .agg parts => uptoBulkAll parts + 1
  | .iface _ d => uptoBulk d + 1
  | .map entries => uptoBulkEntries entries + 1
  | .held _ => 1
def uptoBulkAll {H : Type} : List (DataW H) → Nat
  | [] => 0
  | d :: r => uptoBulk d + uptoBulkAll r
def uptoBulkEntries {H : Type} : List (Lit × DataW H) → Nat
  | [] => 0
  | x :: r => uptoBulkEntry x + uptoBulkEntries r
def uptoBulkEntry {H : Type} : Lit × DataW H → Nat
  | (.string bytes, d) => bytes.length + uptoBulk d + 1
  | (_, d) => uptoBulk d + 1
 end
def uptoSmall : (H : Type) → List (DataW H) → Bool := fun _ ds => decide (uptoBulkAll ds ≤ 1048576)
def OpenSpec.upto (s : _root_.Go.ChangeSpec) : _root_.Go.OpenSpec := { _root_.Go.OpenSpec.ofChange s with cond := some uptoSmall }

/-- 'qanatlaw23.DrrFair', WHERE WHAT IT READS IS OF BULK AT MOST 1048576: true; the input reads as it did. -/
def drrFairUptoRow : OpenClaim := { program := "ytgfcfpoebmlppaa", sum := "3bba9681486f5883bddce554a62bdd507799d8d8fc892a408b918a9247a51073", func := "qanat/qanatlaw23.DrrFair", spec := "drrFair", unfollowed := true, recurses := true, apart := false, narrowed := true }
def DrrFairUptoSaid : Prop := drrFairUptoRow.holds Try.pinned (OpenSpec.upto drrFairSpec)

/-- 'qanatlaw23.DrrPlays', WHERE WHAT IT READS IS OF BULK AT MOST 1048576: true; the input reads as it did. -/
def drrPlaysUptoRow : OpenClaim := { program := "ytgfcfpoebmlppaa", sum := "3bba9681486f5883bddce554a62bdd507799d8d8fc892a408b918a9247a51073", func := "qanat/qanatlaw23.DrrPlays", spec := "drrPlays", unfollowed := true, recurses := true, apart := false, narrowed := true }
def DrrPlaysUptoSaid : Prop := drrPlaysUptoRow.holds Try.pinned (OpenSpec.upto drrPlaysSpec)

/-- 'qanatlaw23.DrrNews', WHERE WHAT IT READS IS OF BULK AT MOST 1048576: true; the input reads as it did. -/
def drrNewsUptoRow : OpenClaim := { program := "ytgfcfpoebmlppaa", sum := "3bba9681486f5883bddce554a62bdd507799d8d8fc892a408b918a9247a51073", func := "qanat/qanatlaw23.DrrNews", spec := "drrNews", unfollowed := true, recurses := true, apart := false, narrowed := true }
def DrrNewsUptoSaid : Prop := drrNewsUptoRow.holds Try.pinned (OpenSpec.upto drrNewsSpec)

/-- 'qanatlaw23.DrrLeaves', WHERE WHAT IT READS IS OF BULK AT MOST 1048576: true; the input reads as it did. -/
def drrLeavesUptoRow : OpenClaim := { program := "ytgfcfpoebmlppaa", sum := "3bba9681486f5883bddce554a62bdd507799d8d8fc892a408b918a9247a51073", func := "qanat/qanatlaw23.DrrLeaves", spec := "drrLeaves", unfollowed := true, recurses := true, apart := false, narrowed := true }
def DrrLeavesUptoSaid : Prop := drrLeavesUptoRow.holds Try.pinned (OpenSpec.upto drrLeavesSpec)

end Rows
end Go.Proofs.Ytgfcfpoebmlppaa
