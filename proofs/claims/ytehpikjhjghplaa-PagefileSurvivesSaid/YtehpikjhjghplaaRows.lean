/-
  No cell of these rows narrows 'for every input' (looked for: loops, veiled, ifaces, maps, wideKeys, modest, calm, conditions, laid).
  DERIVED. THE GIVEN ROWS OF THIS SEAT. 7 by the template 'for every input the law returns true; each argument reads behind the call as it read before'; 0 by the template 'total and deterministic' (their statements: YtehpikjhjghplaaTotals.lean).
  GIVEN WITH THE SEED: the statements are not yours to turn. If you find one false, say at which input.
  Laid BY PROGRAM, IN A SANDBOX (cutbox-rows.mjs): the forced cells as the released guide's own fill.sh prints them over the translation d695f1b325b4aeb5… (all of the seat's roots in one cut). By AI agents, Wed Nov 11 2026. No macro, syntax, notation, axiom, sorry.
-/
import Derived.Test.YtehpikjhjghplaaChecked
import GoSem.Claim
import GoSem.ClaimJoined
import GoSem.ClaimMapViews
import Derived.JoinedTies
import Derived.KernelRfl
namespace Go.Proofs.Ytehpikjhjghplaa
/- THE CELL 'sum', in the pinned program and in every row, IS THE sha256 OF THE DUMP (.gsa) THAT YtehpikjhjghplaaProg.lean LOADS. Nothing in Lean hashes anything: it is a label: what it is worth is what the hold of that sum in a sandbox is worth. -/
noncomputable def Try.pinned : Pinned := { name := "ytehpikjhjghplaa", sum := "d695f1b325b4aeb5bd3b4bce64ce545f401c67deaddda652e87dae50cdf433c0", checked := Try.checked }
namespace Rows
def none {H : Type} : Left H := { results := [], args := [] }

/-- 'heartwoodlaw52.PagefileCommits': WHATEVER THE INPUT: true; the input reads as it did. -/
def pagefileCommitsSpec : ChangeSpec := { name := "pagefileCommits", fn := fun _ => fun
  | [d1, d2, d3] => { results := [.lit (.bool true)], args := [d1, d2, d3] }
  | _ => none }
def pagefileCommitsRow : OpenClaim := { program := "ytehpikjhjghplaa", sum := "d695f1b325b4aeb5bd3b4bce64ce545f401c67deaddda652e87dae50cdf433c0", func := "heartwood/heartwoodlaw52.PagefileCommits", spec := "pagefileCommits", unfollowed := true, recurses := true, apart := false }
def PagefileCommitsSaid : Prop := pagefileCommitsRow.holds Try.pinned (OpenSpec.ofChange pagefileCommitsSpec)

/-- ITS FALSE NEIGHBOUR: 'it returns false'. Refute it at one input. -/
def pagefileCommitsWrong : ChangeSpec := { name := "pagefileCommits", fn := fun _ => fun
  | [d1, d2, d3] => { results := [.lit (.bool false)], args := [d1, d2, d3] }
  | _ => none }
def PagefileCommitsWrongFalsely : Prop := pagefileCommitsRow.holds Try.pinned (OpenSpec.ofChange pagefileCommitsWrong)

/-- 'heartwoodlaw52.PagefileTorn': WHATEVER THE INPUT: true; the input reads as it did. -/
def pagefileTornSpec : ChangeSpec := { name := "pagefileTorn", fn := fun _ => fun
  | [d1, d2, d3] => { results := [.lit (.bool true)], args := [d1, d2, d3] }
  | _ => none }
def pagefileTornRow : OpenClaim := { program := "ytehpikjhjghplaa", sum := "d695f1b325b4aeb5bd3b4bce64ce545f401c67deaddda652e87dae50cdf433c0", func := "heartwood/heartwoodlaw52.PagefileTorn", spec := "pagefileTorn", unfollowed := true, recurses := true, apart := false }
def PagefileTornSaid : Prop := pagefileTornRow.holds Try.pinned (OpenSpec.ofChange pagefileTornSpec)

/-- ITS FALSE NEIGHBOUR: 'it returns false'. Refute it at one input. -/
def pagefileTornWrong : ChangeSpec := { name := "pagefileTorn", fn := fun _ => fun
  | [d1, d2, d3] => { results := [.lit (.bool false)], args := [d1, d2, d3] }
  | _ => none }
def PagefileTornWrongFalsely : Prop := pagefileTornRow.holds Try.pinned (OpenSpec.ofChange pagefileTornWrong)

/-- 'heartwoodlaw52.PagefileReads': WHATEVER THE INPUT: true; the input reads as it did. -/
def pagefileReadsSpec : ChangeSpec := { name := "pagefileReads", fn := fun _ => fun
  | [d1, d2] => { results := [.lit (.bool true)], args := [d1, d2] }
  | _ => none }
def pagefileReadsRow : OpenClaim := { program := "ytehpikjhjghplaa", sum := "d695f1b325b4aeb5bd3b4bce64ce545f401c67deaddda652e87dae50cdf433c0", func := "heartwood/heartwoodlaw52.PagefileReads", spec := "pagefileReads", unfollowed := true, recurses := true, apart := false }
def PagefileReadsSaid : Prop := pagefileReadsRow.holds Try.pinned (OpenSpec.ofChange pagefileReadsSpec)

/-- ITS FALSE NEIGHBOUR: 'it returns false'. Refute it at one input. -/
def pagefileReadsWrong : ChangeSpec := { name := "pagefileReads", fn := fun _ => fun
  | [d1, d2] => { results := [.lit (.bool false)], args := [d1, d2] }
  | _ => none }
def PagefileReadsWrongFalsely : Prop := pagefileReadsRow.holds Try.pinned (OpenSpec.ofChange pagefileReadsWrong)

/-- 'heartwoodlaw52.PagefileLeft': WHATEVER THE INPUT: true; the input reads as it did. -/
def pagefileLeftSpec : ChangeSpec := { name := "pagefileLeft", fn := fun _ => fun
  | [d1, d2] => { results := [.lit (.bool true)], args := [d1, d2] }
  | _ => none }
def pagefileLeftRow : OpenClaim := { program := "ytehpikjhjghplaa", sum := "d695f1b325b4aeb5bd3b4bce64ce545f401c67deaddda652e87dae50cdf433c0", func := "heartwood/heartwoodlaw52.PagefileLeft", spec := "pagefileLeft", unfollowed := true, recurses := true, apart := false }
def PagefileLeftSaid : Prop := pagefileLeftRow.holds Try.pinned (OpenSpec.ofChange pagefileLeftSpec)

/-- ITS FALSE NEIGHBOUR: 'it returns false'. Refute it at one input. -/
def pagefileLeftWrong : ChangeSpec := { name := "pagefileLeft", fn := fun _ => fun
  | [d1, d2] => { results := [.lit (.bool false)], args := [d1, d2] }
  | _ => none }
def PagefileLeftWrongFalsely : Prop := pagefileLeftRow.holds Try.pinned (OpenSpec.ofChange pagefileLeftWrong)

/-- 'heartwoodlaw52.PagefileKeeps': WHATEVER THE INPUT: true; the input reads as it did. -/
def pagefileKeepsSpec : ChangeSpec := { name := "pagefileKeeps", fn := fun _ => fun
  | [d] => { results := [.lit (.bool true)], args := [d] }
  | _ => none }
def pagefileKeepsRow : OpenClaim := { program := "ytehpikjhjghplaa", sum := "d695f1b325b4aeb5bd3b4bce64ce545f401c67deaddda652e87dae50cdf433c0", func := "heartwood/heartwoodlaw52.PagefileKeeps", spec := "pagefileKeeps", unfollowed := true, recurses := true, apart := false }
def PagefileKeepsSaid : Prop := pagefileKeepsRow.holds Try.pinned (OpenSpec.ofChange pagefileKeepsSpec)

/-- ITS FALSE NEIGHBOUR: 'it returns false'. Refute it at one input. -/
def pagefileKeepsWrong : ChangeSpec := { name := "pagefileKeeps", fn := fun _ => fun
  | [d] => { results := [.lit (.bool false)], args := [d] }
  | _ => none }
def PagefileKeepsWrongFalsely : Prop := pagefileKeepsRow.holds Try.pinned (OpenSpec.ofChange pagefileKeepsWrong)

/-- 'heartwoodlaw52.PagefileApart': WHATEVER THE INPUT: true; the input reads as it did. -/
def pagefileApartSpec : ChangeSpec := { name := "pagefileApart", fn := fun _ => fun
  | [d] => { results := [.lit (.bool true)], args := [d] }
  | _ => none }
def pagefileApartRow : OpenClaim := { program := "ytehpikjhjghplaa", sum := "d695f1b325b4aeb5bd3b4bce64ce545f401c67deaddda652e87dae50cdf433c0", func := "heartwood/heartwoodlaw52.PagefileApart", spec := "pagefileApart", unfollowed := true, recurses := true, apart := false }
def PagefileApartSaid : Prop := pagefileApartRow.holds Try.pinned (OpenSpec.ofChange pagefileApartSpec)

/-- ITS FALSE NEIGHBOUR: 'it returns false'. Refute it at one input. -/
def pagefileApartWrong : ChangeSpec := { name := "pagefileApart", fn := fun _ => fun
  | [d] => { results := [.lit (.bool false)], args := [d] }
  | _ => none }
def PagefileApartWrongFalsely : Prop := pagefileApartRow.holds Try.pinned (OpenSpec.ofChange pagefileApartWrong)

/-- 'heartwoodlaw52.PagefileSurvives': WHATEVER THE INPUT: true; the input reads as it did. -/
def pagefileSurvivesSpec : ChangeSpec := { name := "pagefileSurvives", fn := fun _ => fun
  | [d1, d2, d3, d4, d5] => { results := [.lit (.bool true)], args := [d1, d2, d3, d4, d5] }
  | _ => none }
def pagefileSurvivesRow : OpenClaim := { program := "ytehpikjhjghplaa", sum := "d695f1b325b4aeb5bd3b4bce64ce545f401c67deaddda652e87dae50cdf433c0", func := "heartwood/heartwoodlaw52.PagefileSurvives", spec := "pagefileSurvives", unfollowed := true, recurses := true, apart := false }
def PagefileSurvivesSaid : Prop := pagefileSurvivesRow.holds Try.pinned (OpenSpec.ofChange pagefileSurvivesSpec)

/-- ITS FALSE NEIGHBOUR: 'it returns false'. Refute it at one input. -/
def pagefileSurvivesWrong : ChangeSpec := { name := "pagefileSurvives", fn := fun _ => fun
  | [d1, d2, d3, d4, d5] => { results := [.lit (.bool false)], args := [d1, d2, d3, d4, d5] }
  | _ => none }
def PagefileSurvivesWrongFalsely : Prop := pagefileSurvivesRow.holds Try.pinned (OpenSpec.ofChange pagefileSurvivesWrong)

/- THE SECOND FORM. 'bulk': how many values and letters a reading holds, each counted each time it is reached (what is shared counts as often as it is met; a slice's spare places count too). A statement '..UptoSaid' is the law's where the arguments, and the package variables that the reading takes, are together of bulk at most 1048576: NARROWER than '..Said'. Prove '..Said' where nothing that the law and all that it calls make is longer than what came in: it says more and counts as full. Else prove '..UptoSaid'. A law counts once. -/
mutual
def uptoBulk {H : Type} : DataW H → Nat
  | .lit (.string bytes) => bytes.length + 1
  | .lit _ => 1
  | .nil => 1
  | .ptr d => uptoBulk d + 1
  | .slice elems spare => uptoBulkAll elems + uptoBulkAll spare + 1
  | .agg parts => uptoBulkAll parts + 1
  | .iface _ d => uptoBulk d + 1
  | .map entries => uptoBulkEntries entries + 1
  | .held _ => 1
def uptoBulkAll {H : Type} : List (DataW H) → Nat
  | [] => 0
  | d :: r => uptoBulk d + uptoBulkAll r
def uptoBulkEntries {H : Type} : List (Lit × DataW H) → Nat
  | [] => 0
  | x :: r => uptoBulkEntry x + uptoBulkEntries r
def uptoBulkEntry {H : Type} : Lit × DataW H → Nat
  | (.string bytes, d) => bytes.length + uptoBulk d + 1
  | (_, d) => uptoBulk d + 1
 end
def uptoSmall : (H : Type) → List (DataW H) → Bool := fun _ ds => decide (uptoBulkAll ds ≤ 1048576)
def OpenSpec.upto (s : _root_.Go.ChangeSpec) : _root_.Go.OpenSpec := { _root_.Go.OpenSpec.ofChange s with cond := some uptoSmall }

/-- 'heartwoodlaw52.PagefileCommits', WHERE WHAT IT READS IS OF BULK AT MOST 1048576: true; the input reads as it did. -/
def pagefileCommitsUptoRow : OpenClaim := { program := "ytehpikjhjghplaa", sum := "d695f1b325b4aeb5bd3b4bce64ce545f401c67deaddda652e87dae50cdf433c0", func := "heartwood/heartwoodlaw52.PagefileCommits", spec := "pagefileCommits", unfollowed := true, recurses := true, apart := false, narrowed := true }
def PagefileCommitsUptoSaid : Prop := pagefileCommitsUptoRow.holds Try.pinned (OpenSpec.upto pagefileCommitsSpec)

/-- 'heartwoodlaw52.PagefileTorn', WHERE WHAT IT READS IS OF BULK AT MOST 1048576: true; the input reads as it did. -/
def pagefileTornUptoRow : OpenClaim := { program := "ytehpikjhjghplaa", sum := "d695f1b325b4aeb5bd3b4bce64ce545f401c67deaddda652e87dae50cdf433c0", func := "heartwood/heartwoodlaw52.PagefileTorn", spec := "pagefileTorn", unfollowed := true, recurses := true, apart := false, narrowed := true }
def PagefileTornUptoSaid : Prop := pagefileTornUptoRow.holds Try.pinned (OpenSpec.upto pagefileTornSpec)

/-- 'heartwoodlaw52.PagefileReads', WHERE WHAT IT READS IS OF BULK AT MOST 1048576: true; the input reads as it did. -/
def pagefileReadsUptoRow : OpenClaim := { program := "ytehpikjhjghplaa", sum := "d695f1b325b4aeb5bd3b4bce64ce545f401c67deaddda652e87dae50cdf433c0", func := "heartwood/heartwoodlaw52.PagefileReads", spec := "pagefileReads", unfollowed := true, recurses := true, apart := false, narrowed := true }
def PagefileReadsUptoSaid : Prop := pagefileReadsUptoRow.holds Try.pinned (OpenSpec.upto pagefileReadsSpec)

/-- 'heartwoodlaw52.PagefileLeft', WHERE WHAT IT READS IS OF BULK AT MOST 1048576: true; the input reads as it did. -/
def pagefileLeftUptoRow : OpenClaim := { program := "ytehpikjhjghplaa", sum := "d695f1b325b4aeb5bd3b4bce64ce545f401c67deaddda652e87dae50cdf433c0", func := "heartwood/heartwoodlaw52.PagefileLeft", spec := "pagefileLeft", unfollowed := true, recurses := true, apart := false, narrowed := true }
def PagefileLeftUptoSaid : Prop := pagefileLeftUptoRow.holds Try.pinned (OpenSpec.upto pagefileLeftSpec)

/-- 'heartwoodlaw52.PagefileKeeps', WHERE WHAT IT READS IS OF BULK AT MOST 1048576: true; the input reads as it did. -/
def pagefileKeepsUptoRow : OpenClaim := { program := "ytehpikjhjghplaa", sum := "d695f1b325b4aeb5bd3b4bce64ce545f401c67deaddda652e87dae50cdf433c0", func := "heartwood/heartwoodlaw52.PagefileKeeps", spec := "pagefileKeeps", unfollowed := true, recurses := true, apart := false, narrowed := true }
def PagefileKeepsUptoSaid : Prop := pagefileKeepsUptoRow.holds Try.pinned (OpenSpec.upto pagefileKeepsSpec)

/-- 'heartwoodlaw52.PagefileApart', WHERE WHAT IT READS IS OF BULK AT MOST 1048576: true; the input reads as it did. -/
def pagefileApartUptoRow : OpenClaim := { program := "ytehpikjhjghplaa", sum := "d695f1b325b4aeb5bd3b4bce64ce545f401c67deaddda652e87dae50cdf433c0", func := "heartwood/heartwoodlaw52.PagefileApart", spec := "pagefileApart", unfollowed := true, recurses := true, apart := false, narrowed := true }
def PagefileApartUptoSaid : Prop := pagefileApartUptoRow.holds Try.pinned (OpenSpec.upto pagefileApartSpec)

/-- 'heartwoodlaw52.PagefileSurvives', WHERE WHAT IT READS IS OF BULK AT MOST 1048576: true; the input reads as it did. -/
def pagefileSurvivesUptoRow : OpenClaim := { program := "ytehpikjhjghplaa", sum := "d695f1b325b4aeb5bd3b4bce64ce545f401c67deaddda652e87dae50cdf433c0", func := "heartwood/heartwoodlaw52.PagefileSurvives", spec := "pagefileSurvives", unfollowed := true, recurses := true, apart := false, narrowed := true }
def PagefileSurvivesUptoSaid : Prop := pagefileSurvivesUptoRow.holds Try.pinned (OpenSpec.upto pagefileSurvivesSpec)

end Rows
end Go.Proofs.Ytehpikjhjghplaa
