/-
  No cell of these rows narrows 'for every input' (looked for: loops, veiled, ifaces, maps, wideKeys, modest, calm, conditions, laid).
  DERIVED. THE GIVEN ROWS OF THIS SEAT. 4 by the template 'for every input the law returns true; each argument reads behind the call as it read before'; 0 by the template 'total and deterministic' (their statements: YtfaohjgobdhbgaaTotals.lean).
  GIVEN WITH THE SEED: the statements are not yours to turn. If you find one false, say at which input.
  Laid BY PROGRAM, IN A SANDBOX (cutbox-rows.mjs): the forced cells as the released guide's own fill.sh prints them over the translation 5a83674ec821d92c… (all of the seat's roots in one cut). By AI agents, Wed Nov 11 2026. No macro, syntax, notation, axiom, sorry.
-/
import Derived.Test.YtfaohjgobdhbgaaChecked
import GoSem.Claim
import GoSem.ClaimJoined
import GoSem.ClaimMapViews
import Derived.JoinedTies
import Derived.KernelRfl
namespace Go.Proofs.Ytfaohjgobdhbgaa
/- THE CELL 'sum', in the pinned program and in every row, IS THE sha256 OF THE DUMP (.gsa) THAT YtfaohjgobdhbgaaProg.lean LOADS. Nothing in Lean hashes anything: it is a label: what it is worth is what the hold of that sum in a sandbox is worth. -/
noncomputable def Try.pinned : Pinned := { name := "ytfaohjgobdhbgaa", sum := "5a83674ec821d92c30492620de72df9d0ca9a567d43809408c0098cca878a698", checked := Try.checked }
namespace Rows
def none {H : Type} : Left H := { results := [], args := [] }

/-- 'qanatlaw30.BeatNews': WHATEVER THE INPUT: true; the input reads as it did. -/
def beatNewsSpec : ChangeSpec := { name := "beatNews", fn := fun _ => fun
  | [d1, d2, d3] => { results := [.lit (.bool true)], args := [d1, d2, d3] }
  | _ => none }
def beatNewsRow : OpenClaim := { program := "ytfaohjgobdhbgaa", sum := "5a83674ec821d92c30492620de72df9d0ca9a567d43809408c0098cca878a698", func := "qanat/qanatlaw30.BeatNews", spec := "beatNews", apart := false }
def BeatNewsSaid : Prop := beatNewsRow.holds Try.pinned (OpenSpec.ofChange beatNewsSpec)

/-- ITS FALSE NEIGHBOUR: 'it returns false'. Refute it at one input. -/
def beatNewsWrong : ChangeSpec := { name := "beatNews", fn := fun _ => fun
  | [d1, d2, d3] => { results := [.lit (.bool false)], args := [d1, d2, d3] }
  | _ => none }
def BeatNewsWrongFalsely : Prop := beatNewsRow.holds Try.pinned (OpenSpec.ofChange beatNewsWrong)

/-- 'qanatlaw30.BeatTimes': WHATEVER THE INPUT: true; the input reads as it did. -/
def beatTimesSpec : ChangeSpec := { name := "beatTimes", fn := fun _ => fun
  | [d1, d2] => { results := [.lit (.bool true)], args := [d1, d2] }
  | _ => none }
def beatTimesRow : OpenClaim := { program := "ytfaohjgobdhbgaa", sum := "5a83674ec821d92c30492620de72df9d0ca9a567d43809408c0098cca878a698", func := "qanat/qanatlaw30.BeatTimes", spec := "beatTimes", apart := false }
def BeatTimesSaid : Prop := beatTimesRow.holds Try.pinned (OpenSpec.ofChange beatTimesSpec)

/-- ITS FALSE NEIGHBOUR: 'it returns false'. Refute it at one input. -/
def beatTimesWrong : ChangeSpec := { name := "beatTimes", fn := fun _ => fun
  | [d1, d2] => { results := [.lit (.bool false)], args := [d1, d2] }
  | _ => none }
def BeatTimesWrongFalsely : Prop := beatTimesRow.holds Try.pinned (OpenSpec.ofChange beatTimesWrong)

/-- 'qanatlaw30.BeatPlays': WHATEVER THE INPUT: true; the input reads as it did. -/
def beatPlaysSpec : ChangeSpec := { name := "beatPlays", fn := fun _ => fun
  | [d1, d2, d3, d4] => { results := [.lit (.bool true)], args := [d1, d2, d3, d4] }
  | _ => none }
def beatPlaysRow : OpenClaim := { program := "ytfaohjgobdhbgaa", sum := "5a83674ec821d92c30492620de72df9d0ca9a567d43809408c0098cca878a698", func := "qanat/qanatlaw30.BeatPlays", spec := "beatPlays", unfollowed := true, recurses := true, apart := false }
def BeatPlaysSaid : Prop := beatPlaysRow.holds Try.pinned (OpenSpec.ofChange beatPlaysSpec)

/-- ITS FALSE NEIGHBOUR: 'it returns false'. Refute it at one input. -/
def beatPlaysWrong : ChangeSpec := { name := "beatPlays", fn := fun _ => fun
  | [d1, d2, d3, d4] => { results := [.lit (.bool false)], args := [d1, d2, d3, d4] }
  | _ => none }
def BeatPlaysWrongFalsely : Prop := beatPlaysRow.holds Try.pinned (OpenSpec.ofChange beatPlaysWrong)

/-- 'qanatlaw30.BeatCredits': WHATEVER THE INPUT: true; the input reads as it did. -/
def beatCreditsSpec : ChangeSpec := { name := "beatCredits", fn := fun _ => fun
  | [d1, d2, d3] => { results := [.lit (.bool true)], args := [d1, d2, d3] }
  | _ => none }
def beatCreditsRow : OpenClaim := { program := "ytfaohjgobdhbgaa", sum := "5a83674ec821d92c30492620de72df9d0ca9a567d43809408c0098cca878a698", func := "qanat/qanatlaw30.BeatCredits", spec := "beatCredits", apart := false }
def BeatCreditsSaid : Prop := beatCreditsRow.holds Try.pinned (OpenSpec.ofChange beatCreditsSpec)

/-- ITS FALSE NEIGHBOUR: 'it returns false'. Refute it at one input. -/
def beatCreditsWrong : ChangeSpec := { name := "beatCredits", fn := fun _ => fun
  | [d1, d2, d3] => { results := [.lit (.bool false)], args := [d1, d2, d3] }
  | _ => none }
def BeatCreditsWrongFalsely : Prop := beatCreditsRow.holds Try.pinned (OpenSpec.ofChange beatCreditsWrong)

/- THE SECOND FORM. 'bulk': how many values and letters a reading holds, each counted each time it is reached (what is shared counts as often as it is met; a slice's spare places count too). A statement '..UptoSaid' is the law's where the arguments, and the package variables that the reading takes, are together of bulk at most 1048576: NARROWER than '..Said'. Prove '..Said' where nothing that the law and all that it calls make is longer than what came in: it says more and counts as full. Else prove '..UptoSaid'. A law counts once. -/
mutual
def uptoBulk {H : Type} : DataW H → Nat
  | .lit (.string bytes) => bytes.length + 1
  | .lit _ => 1
  | .nil => 1
  | .ptr d => uptoBulk d + 1
  | .slice elems spare => uptoBulkAll elems + uptoBulkAll spare + 1
  | .agg parts => uptoBulkAll parts + 1
  | .iface _ d => uptoBulk d + 1
  | .map entries => uptoBulkEntries entries + 1
  | .held _ => 1
def uptoBulkAll {H : Type} : List (DataW H) → Nat
  | [] => 0
  | d :: r => uptoBulk d + uptoBulkAll r
def uptoBulkEntries {H : Type} : List (Lit × DataW H) → Nat
  | [] => 0
  | x :: r => uptoBulkEntry x + uptoBulkEntries r
def uptoBulkEntry {H : Type} : Lit × DataW H → Nat
  | (.string bytes, d) => bytes.length + uptoBulk d + 1
  | (_, d) => uptoBulk d + 1
 end
def uptoSmall : (H : Type) → List (DataW H) → Bool := fun _ ds => decide (uptoBulkAll ds ≤ 1048576)
def OpenSpec.upto (s : _root_.Go.ChangeSpec) : _root_.Go.OpenSpec := { _root_.Go.OpenSpec.ofChange s with cond := some uptoSmall }

/-- 'qanatlaw30.BeatNews', WHERE WHAT IT READS IS OF BULK AT MOST 1048576: true; the input reads as it did. -/
def beatNewsUptoRow : OpenClaim := { program := "ytfaohjgobdhbgaa", sum := "5a83674ec821d92c30492620de72df9d0ca9a567d43809408c0098cca878a698", func := "qanat/qanatlaw30.BeatNews", spec := "beatNews", apart := false, narrowed := true }
def BeatNewsUptoSaid : Prop := beatNewsUptoRow.holds Try.pinned (OpenSpec.upto beatNewsSpec)

/-- 'qanatlaw30.BeatTimes', WHERE WHAT IT READS IS OF BULK AT MOST 1048576: true; the input reads as it did. -/
def beatTimesUptoRow : OpenClaim := { program := "ytfaohjgobdhbgaa", sum := "5a83674ec821d92c30492620de72df9d0ca9a567d43809408c0098cca878a698", func := "qanat/qanatlaw30.BeatTimes", spec := "beatTimes", apart := false, narrowed := true }
def BeatTimesUptoSaid : Prop := beatTimesUptoRow.holds Try.pinned (OpenSpec.upto beatTimesSpec)

/-- 'qanatlaw30.BeatPlays', WHERE WHAT IT READS IS OF BULK AT MOST 1048576: true; the input reads as it did. -/
def beatPlaysUptoRow : OpenClaim := { program := "ytfaohjgobdhbgaa", sum := "5a83674ec821d92c30492620de72df9d0ca9a567d43809408c0098cca878a698", func := "qanat/qanatlaw30.BeatPlays", spec := "beatPlays", unfollowed := true, recurses := true, apart := false, narrowed := true }
def BeatPlaysUptoSaid : Prop := beatPlaysUptoRow.holds Try.pinned (OpenSpec.upto beatPlaysSpec)

/-- 'qanatlaw30.BeatCredits', WHERE WHAT IT READS IS OF BULK AT MOST 1048576: true; the input reads as it did. -/
def beatCreditsUptoRow : OpenClaim := { program := "ytfaohjgobdhbgaa", sum := "5a83674ec821d92c30492620de72df9d0ca9a567d43809408c0098cca878a698", func := "qanat/qanatlaw30.BeatCredits", spec := "beatCredits", apart := false, narrowed := true }
def BeatCreditsUptoSaid : Prop := beatCreditsUptoRow.holds Try.pinned (OpenSpec.upto beatCreditsSpec)

end Rows
end Go.Proofs.Ytfaohjgobdhbgaa
