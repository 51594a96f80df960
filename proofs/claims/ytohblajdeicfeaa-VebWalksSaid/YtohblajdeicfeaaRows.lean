/-
  No cell of these rows narrows 'for every input' (looked for: loops, veiled, ifaces, maps, wideKeys, modest, calm, conditions, laid).
  DERIVED. THE GIVEN ROWS OF THIS SEAT. 4 by the template 'for every input the law returns true; each argument reads behind the call as it read before'; 0 by the template 'total and deterministic' (their statements: YtohblajdeicfeaaTotals.lean).
  GIVEN WITH THE SEED: the statements are not yours to turn. If you find one false, say at which input.
  Laid BY PROGRAM, IN A SANDBOX (cutbox-rows.mjs): the forced cells as the released guide's own fill.sh prints them over the translation f3dd5d5a4b1661c5… (all of the seat's roots in one cut). By AI agents, Wed Nov 11 2026. No macro, syntax, notation, axiom, sorry.
-/
import Derived.Test.YtohblajdeicfeaaChecked
import GoSem.Claim
import GoSem.ClaimJoined
import GoSem.ClaimMapViews
import Derived.JoinedTies
import Derived.KernelRfl
namespace Go.Proofs.Ytohblajdeicfeaa
/- THE CELL 'sum', in the pinned program and in every row, IS THE sha256 OF THE DUMP (.gsa) THAT YtohblajdeicfeaaProg.lean LOADS. Nothing in Lean hashes anything: it is a label: what it is worth is what the hold of that sum in a sandbox is worth. -/
noncomputable def Try.pinned : Pinned := { name := "ytohblajdeicfeaa", sum := "f3dd5d5a4b1661c502b1d4520ced0a497222336ca780df1e4bc25300bd0cabc2", checked := Try.checked }
namespace Rows
def none {H : Type} : Left H := { results := [], args := [] }

/-- 'heartwoodlaw26.VebSteps': WHATEVER THE INPUT: true; the input reads as it did. -/
def vebStepsSpec : ChangeSpec := { name := "vebSteps", fn := fun _ => fun
  | [d1, d2, d3] => { results := [.lit (.bool true)], args := [d1, d2, d3] }
  | _ => none }
def vebStepsRow : OpenClaim := { program := "ytohblajdeicfeaa", sum := "f3dd5d5a4b1661c502b1d4520ced0a497222336ca780df1e4bc25300bd0cabc2", func := "heartwood/heartwoodlaw26.VebSteps", spec := "vebSteps", recurses := true, apart := false }
def VebStepsSaid : Prop := vebStepsRow.holds Try.pinned (OpenSpec.ofChange vebStepsSpec)

/-- ITS FALSE NEIGHBOUR: 'it returns false'. Refute it at one input. -/
def vebStepsWrong : ChangeSpec := { name := "vebSteps", fn := fun _ => fun
  | [d1, d2, d3] => { results := [.lit (.bool false)], args := [d1, d2, d3] }
  | _ => none }
def VebStepsWrongFalsely : Prop := vebStepsRow.holds Try.pinned (OpenSpec.ofChange vebStepsWrong)

/-- 'heartwoodlaw26.VebPlays': WHATEVER THE INPUT: true; the input reads as it did. -/
def vebPlaysSpec : ChangeSpec := { name := "vebPlays", fn := fun _ => fun
  | [d1, d2, d3] => { results := [.lit (.bool true)], args := [d1, d2, d3] }
  | _ => none }
def vebPlaysRow : OpenClaim := { program := "ytohblajdeicfeaa", sum := "f3dd5d5a4b1661c502b1d4520ced0a497222336ca780df1e4bc25300bd0cabc2", func := "heartwood/heartwoodlaw26.VebPlays", spec := "vebPlays", recurses := true, apart := false }
def VebPlaysSaid : Prop := vebPlaysRow.holds Try.pinned (OpenSpec.ofChange vebPlaysSpec)

/-- ITS FALSE NEIGHBOUR: 'it returns false'. Refute it at one input. -/
def vebPlaysWrong : ChangeSpec := { name := "vebPlays", fn := fun _ => fun
  | [d1, d2, d3] => { results := [.lit (.bool false)], args := [d1, d2, d3] }
  | _ => none }
def VebPlaysWrongFalsely : Prop := vebPlaysRow.holds Try.pinned (OpenSpec.ofChange vebPlaysWrong)

/-- 'heartwoodlaw26.VebWalks': WHATEVER THE INPUT: true; the input reads as it did. -/
def vebWalksSpec : ChangeSpec := { name := "vebWalks", fn := fun _ => fun
  | [d1, d2, d3, d4] => { results := [.lit (.bool true)], args := [d1, d2, d3, d4] }
  | _ => none }
def vebWalksRow : OpenClaim := { program := "ytohblajdeicfeaa", sum := "f3dd5d5a4b1661c502b1d4520ced0a497222336ca780df1e4bc25300bd0cabc2", func := "heartwood/heartwoodlaw26.VebWalks", spec := "vebWalks", recurses := true, apart := false }
def VebWalksSaid : Prop := vebWalksRow.holds Try.pinned (OpenSpec.ofChange vebWalksSpec)

/-- ITS FALSE NEIGHBOUR: 'it returns false'. Refute it at one input. -/
def vebWalksWrong : ChangeSpec := { name := "vebWalks", fn := fun _ => fun
  | [d1, d2, d3, d4] => { results := [.lit (.bool false)], args := [d1, d2, d3, d4] }
  | _ => none }
def VebWalksWrongFalsely : Prop := vebWalksRow.holds Try.pinned (OpenSpec.ofChange vebWalksWrong)

/-- 'heartwoodlaw26.VebApart': WHATEVER THE INPUT: true; the input reads as it did. -/
def vebApartSpec : ChangeSpec := { name := "vebApart", fn := fun _ => fun
  | [d1, d2, d3] => { results := [.lit (.bool true)], args := [d1, d2, d3] }
  | _ => none }
def vebApartRow : OpenClaim := { program := "ytohblajdeicfeaa", sum := "f3dd5d5a4b1661c502b1d4520ced0a497222336ca780df1e4bc25300bd0cabc2", func := "heartwood/heartwoodlaw26.VebApart", spec := "vebApart", recurses := true, apart := false }
def VebApartSaid : Prop := vebApartRow.holds Try.pinned (OpenSpec.ofChange vebApartSpec)

/-- ITS FALSE NEIGHBOUR: 'it returns false'. Refute it at one input. -/
def vebApartWrong : ChangeSpec := { name := "vebApart", fn := fun _ => fun
  | [d1, d2, d3] => { results := [.lit (.bool false)], args := [d1, d2, d3] }
  | _ => none }
def VebApartWrongFalsely : Prop := vebApartRow.holds Try.pinned (OpenSpec.ofChange vebApartWrong)

/- THE SECOND FORM. 'bulk': how many values and letters a reading holds, each counted each time it is reached (what is shared counts as often as it is met; a slice's spare places count too). A statement '..UptoSaid' is the law's where the arguments, and the package variables that the reading takes, are together of bulk at most 1048576: NARROWER than '..Said'. Prove '..Said' where nothing that the law and all that it calls make is longer than what came in: it says more and counts as full. Else prove '..UptoSaid'. A law counts once. -/
mutual
def uptoBulk {H : Type} : DataW H → Nat
  | .lit (.string bytes) => bytes.length + 1
  | .lit _ => 1
  | .nil => 1
  | .ptr d => uptoBulk d + 1
  | .slice elems spare => uptoBulkAll elems + uptoBulkAll spare + 1
  | .agg parts => uptoBulkAll parts + 1
  | .iface _ d => uptoBulk d + 1
  | .map entries => uptoBulkEntries entries + 1
  | .held _ => 1
def uptoBulkAll {H : Type} : List (DataW H) → Nat
  | [] => 0
  | d :: r => uptoBulk d + uptoBulkAll r
def uptoBulkEntries {H : Type} : List (Lit × DataW H) → Nat
  | [] => 0
  | x :: r => uptoBulkEntry x + uptoBulkEntries r
def uptoBulkEntry {H : Type} : Lit × DataW H → Nat
  | (.string bytes, d) => bytes.length + uptoBulk d + 1
  | (_, d) => uptoBulk d + 1
 end
def uptoSmall : (H : Type) → List (DataW H) → Bool := fun _ ds => decide (uptoBulkAll ds ≤ 1048576)
def OpenSpec.upto (s : _root_.Go.ChangeSpec) : _root_.Go.OpenSpec := { _root_.Go.OpenSpec.ofChange s with cond := some uptoSmall }

/-- 'heartwoodlaw26.VebSteps', WHERE WHAT IT READS IS OF BULK AT MOST 1048576: true; the input reads as it did. -/
def vebStepsUptoRow : OpenClaim := { program := "ytohblajdeicfeaa", sum := "f3dd5d5a4b1661c502b1d4520ced0a497222336ca780df1e4bc25300bd0cabc2", func := "heartwood/heartwoodlaw26.VebSteps", spec := "vebSteps", recurses := true, apart := false, narrowed := true }
def VebStepsUptoSaid : Prop := vebStepsUptoRow.holds Try.pinned (OpenSpec.upto vebStepsSpec)

/-- 'heartwoodlaw26.VebPlays', WHERE WHAT IT READS IS OF BULK AT MOST 1048576: true; the input reads as it did. -/
def vebPlaysUptoRow : OpenClaim := { program := "ytohblajdeicfeaa", sum := "f3dd5d5a4b1661c502b1d4520ced0a497222336ca780df1e4bc25300bd0cabc2", func := "heartwood/heartwoodlaw26.VebPlays", spec := "vebPlays", recurses := true, apart := false, narrowed := true }
def VebPlaysUptoSaid : Prop := vebPlaysUptoRow.holds Try.pinned (OpenSpec.upto vebPlaysSpec)

/-- 'heartwoodlaw26.VebWalks', WHERE WHAT IT READS IS OF BULK AT MOST 1048576: true; the input reads as it did. -/
def vebWalksUptoRow : OpenClaim := { program := "ytohblajdeicfeaa", sum := "f3dd5d5a4b1661c502b1d4520ced0a497222336ca780df1e4bc25300bd0cabc2", func := "heartwood/heartwoodlaw26.VebWalks", spec := "vebWalks", recurses := true, apart := false, narrowed := true }
def VebWalksUptoSaid : Prop := vebWalksUptoRow.holds Try.pinned (OpenSpec.upto vebWalksSpec)

/-- 'heartwoodlaw26.VebApart', WHERE WHAT IT READS IS OF BULK AT MOST 1048576: true; the input reads as it did. -/
def vebApartUptoRow : OpenClaim := { program := "ytohblajdeicfeaa", sum := "f3dd5d5a4b1661c502b1d4520ced0a497222336ca780df1e4bc25300bd0cabc2", func := "heartwood/heartwoodlaw26.VebApart", spec := "vebApart", recurses := true, apart := false, narrowed := true }
def VebApartUptoSaid : Prop := vebApartUptoRow.holds Try.pinned (OpenSpec.upto vebApartSpec)

end Rows
end Go.Proofs.Ytohblajdeicfeaa
