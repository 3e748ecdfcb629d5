/-
  No cell of these rows narrows 'for every input' (looked for: loops, veiled, ifaces, maps, wideKeys, modest, calm, conditions, laid).
  DERIVED. THE GIVEN ROWS OF THIS SEAT. 3 by the template 'for every input the law returns true; each argument reads behind the call as it read before'; 0 by the template 'total and deterministic' (their statements: YtolmkafmlblnoaaTotals.lean).
  GIVEN WITH THE SEED: the statements are not yours to turn. If you find one false, say at which input.
  Laid BY PROGRAM, IN A SANDBOX (cutbox-rows.mjs): the forced cells as the released guide's own fill.sh prints them over the translation 44551c80dd0b2395… (all of the seat's roots in one cut). By AI agents, Wed Nov 11 2026. No macro, syntax, notation, axiom, sorry.
-/
import Derived.Test.YtolmkafmlblnoaaChecked
import GoSem.Claim
import GoSem.ClaimJoined
import GoSem.ClaimMapViews
import Derived.JoinedTies
import Derived.KernelRfl
namespace Go.Proofs.Ytolmkafmlblnoaa
/- THE CELL 'sum', in the pinned program and in every row, IS THE sha256 OF THE DUMP (.gsa) THAT YtolmkafmlblnoaaProg.lean LOADS. Nothing in Lean hashes anything: it is a label: what it is worth is what the hold of that sum in a sandbox is worth. -/
noncomputable def Try.pinned : Pinned := { name := "ytolmkafmlblnoaa", sum := "44551c80dd0b239560f4a54fbe6eb2fe99ee31c91c98d105db29a6a8ad755259", checked := Try.checked }
namespace Rows
def none {H : Type} : Left H := { results := [], args := [] }

/-- 'qanatlaw33.BoundAll': WHATEVER THE INPUT: true; the input reads as it did. -/
def boundAllSpec : ChangeSpec := { name := "boundAll", fn := fun _ => fun
  | [d1, d2, d3] => { results := [.lit (.bool true)], args := [d1, d2, d3] }
  | _ => none }
def boundAllRow : OpenClaim := { program := "ytolmkafmlblnoaa", sum := "44551c80dd0b239560f4a54fbe6eb2fe99ee31c91c98d105db29a6a8ad755259", func := "qanat/qanatlaw33.BoundAll", spec := "boundAll", unfollowed := true, recurses := true, apart := false }
def BoundAllSaid : Prop := boundAllRow.holds Try.pinned (OpenSpec.ofChange boundAllSpec)

/-- ITS FALSE NEIGHBOUR: 'it returns false'. Refute it at one input. -/
def boundAllWrong : ChangeSpec := { name := "boundAll", fn := fun _ => fun
  | [d1, d2, d3] => { results := [.lit (.bool false)], args := [d1, d2, d3] }
  | _ => none }
def BoundAllWrongFalsely : Prop := boundAllRow.holds Try.pinned (OpenSpec.ofChange boundAllWrong)

/-- 'qanatlaw33.BoundRises': WHATEVER THE INPUT: true; the input reads as it did. -/
def boundRisesSpec : ChangeSpec := { name := "boundRises", fn := fun _ => fun
  | [d1, d2, d3, d4] => { results := [.lit (.bool true)], args := [d1, d2, d3, d4] }
  | _ => none }
def boundRisesRow : OpenClaim := { program := "ytolmkafmlblnoaa", sum := "44551c80dd0b239560f4a54fbe6eb2fe99ee31c91c98d105db29a6a8ad755259", func := "qanat/qanatlaw33.BoundRises", spec := "boundRises", unfollowed := true, recurses := true, apart := false }
def BoundRisesSaid : Prop := boundRisesRow.holds Try.pinned (OpenSpec.ofChange boundRisesSpec)

/-- ITS FALSE NEIGHBOUR: 'it returns false'. Refute it at one input. -/
def boundRisesWrong : ChangeSpec := { name := "boundRises", fn := fun _ => fun
  | [d1, d2, d3, d4] => { results := [.lit (.bool false)], args := [d1, d2, d3, d4] }
  | _ => none }
def BoundRisesWrongFalsely : Prop := boundRisesRow.holds Try.pinned (OpenSpec.ofChange boundRisesWrong)

/-- 'qanatlaw33.BoundNone': WHATEVER THE INPUT: true; the input reads as it did. -/
def boundNoneSpec : ChangeSpec := { name := "boundNone", fn := fun _ => fun
  | [d1, d2, d3] => { results := [.lit (.bool true)], args := [d1, d2, d3] }
  | _ => none }
def boundNoneRow : OpenClaim := { program := "ytolmkafmlblnoaa", sum := "44551c80dd0b239560f4a54fbe6eb2fe99ee31c91c98d105db29a6a8ad755259", func := "qanat/qanatlaw33.BoundNone", spec := "boundNone", unfollowed := true, recurses := true, apart := false }
def BoundNoneSaid : Prop := boundNoneRow.holds Try.pinned (OpenSpec.ofChange boundNoneSpec)

/-- ITS FALSE NEIGHBOUR: 'it returns false'. Refute it at one input. -/
def boundNoneWrong : ChangeSpec := { name := "boundNone", fn := fun _ => fun
  | [d1, d2, d3] => { results := [.lit (.bool false)], args := [d1, d2, d3] }
  | _ => none }
def BoundNoneWrongFalsely : Prop := boundNoneRow.holds Try.pinned (OpenSpec.ofChange boundNoneWrong)

/- THE SECOND FORM. 'bulk': how many values and letters a reading holds, each counted each time it is reached (what is shared counts as often as it is met; a slice's spare places count too). A statement '..UptoSaid' is the law's where the arguments, and the package variables that the reading takes, are together of bulk at most 1048576: NARROWER than '..Said'. Prove '..Said' where nothing that the law and all that it calls make is longer than what came in: it says more and counts as full. Else prove '..UptoSaid'. A law counts once. -/
mutual
def uptoBulk {H : Type} : DataW H → Nat
  | .lit (.string bytes) => bytes.length + 1
  | .lit _ => 1
  | .nil => 1
  | .ptr d => uptoBulk d + 1
  | .slice elems spare => uptoBulkAll elems + uptoBulkAll spare + 1
  | .agg parts => uptoBulkAll parts + 1
  | .iface _ d => uptoBulk d + 1
  | .map entries => uptoBulkEntries entries + 1
  | .held _ => 1
def uptoBulkAll {H : Type} : List (DataW H) → Nat
  | [] => 0
  | d :: r => uptoBulk d + uptoBulkAll r
def uptoBulkEntries {H : Type} : List (Lit × DataW H) → Nat
  | [] => 0
  | x :: r => uptoBulkEntry x + uptoBulkEntries r
def uptoBulkEntry {H : Type} : Lit × DataW H → Nat
  | (.string bytes, d) => bytes.length + uptoBulk d + 1
  | (_, d) => uptoBulk d + 1
 end
def uptoSmall : (H : Type) → List (DataW H) → Bool := fun _ ds => decide (uptoBulkAll ds ≤ 1048576)
def OpenSpec.upto (s : _root_.Go.ChangeSpec) : _root_.Go.OpenSpec := { _root_.Go.OpenSpec.ofChange s with cond := some uptoSmall }

/-- 'qanatlaw33.BoundAll', WHERE WHAT IT READS IS OF BULK AT MOST 1048576: true; the input reads as it did. -/
def boundAllUptoRow : OpenClaim := { program := "ytolmkafmlblnoaa", sum := "44551c80dd0b239560f4a54fbe6eb2fe99ee31c91c98d105db29a6a8ad755259", func := "qanat/qanatlaw33.BoundAll", spec := "boundAll", unfollowed := true, recurses := true, apart := false, narrowed := true }
def BoundAllUptoSaid : Prop := boundAllUptoRow.holds Try.pinned (OpenSpec.upto boundAllSpec)

/-- 'qanatlaw33.BoundRises', WHERE WHAT IT READS IS OF BULK AT MOST 1048576: true; the input reads as it did. -/
def boundRisesUptoRow : OpenClaim := { program := "ytolmkafmlblnoaa", sum := "44551c80dd0b239560f4a54fbe6eb2fe99ee31c91c98d105db29a6a8ad755259", func := "qanat/qanatlaw33.BoundRises", spec := "boundRises", unfollowed := true, recurses := true, apart := false, narrowed := true }
def BoundRisesUptoSaid : Prop := boundRisesUptoRow.holds Try.pinned (OpenSpec.upto boundRisesSpec)

/-- 'qanatlaw33.BoundNone', WHERE WHAT IT READS IS OF BULK AT MOST 1048576: true; the input reads as it did. -/
def boundNoneUptoRow : OpenClaim := { program := "ytolmkafmlblnoaa", sum := "44551c80dd0b239560f4a54fbe6eb2fe99ee31c91c98d105db29a6a8ad755259", func := "qanat/qanatlaw33.BoundNone", spec := "boundNone", unfollowed := true, recurses := true, apart := false, narrowed := true }
def BoundNoneUptoSaid : Prop := boundNoneUptoRow.holds Try.pinned (OpenSpec.upto boundNoneSpec)

end Rows
end Go.Proofs.Ytolmkafmlblnoaa
