/-
  No cell of these rows narrows 'for every input' (looked for: loops, veiled, ifaces, maps, wideKeys, modest, calm, conditions, laid).
  DERIVED. THE GIVEN ROWS OF THIS SEAT. 6 by the template 'for every input the law returns true; each argument reads behind the call as it read before'; 0 by the template 'total and deterministic' (their statements: YtfeokafjehpgnaaTotals.lean).
  GIVEN WITH THE SEED: the statements are not yours to turn. If you find one false, say at which input.
  Laid BY PROGRAM, IN A SANDBOX (cutbox-rows.mjs): the forced cells as the released guide's own fill.sh prints them over the translation f35104af9750037d… (all of the seat's roots in one cut). By AI agents, Wed Nov 11 2026. No macro, syntax, notation, axiom, sorry.
-/
import Derived.Test.YtfeokafjehpgnaaChecked
import GoSem.Claim
import GoSem.ClaimJoined
import GoSem.ClaimMapViews
import Derived.JoinedTies
import Derived.KernelRfl
namespace Go.Proofs.Ytfeokafjehpgnaa
/- THE CELL 'sum', in the pinned program and in every row, IS THE sha256 OF THE DUMP (.gsa) THAT YtfeokafjehpgnaaProg.lean LOADS. Nothing in Lean hashes anything: it is a label: what it is worth is what the hold of that sum in a sandbox is worth. -/
noncomputable def Try.pinned : Pinned := { name := "ytfeokafjehpgnaa", sum := "f35104af9750037d8eec60b90d031a148e95de8adac74b6f793933823be6053a", checked := Try.checked }
namespace Rows
def none {H : Type} : Left H := { results := [], args := [] }

/-- 'heartwoodlaw24.LinkcutPaths': WHATEVER THE INPUT: true; the input reads as it did. -/
def linkcutPathsSpec : ChangeSpec := { name := "linkcutPaths", fn := fun _ => fun
  | [d1, d2, d3, d4] => { results := [.lit (.bool true)], args := [d1, d2, d3, d4] }
  | _ => none }
def linkcutPathsRow : OpenClaim := { program := "ytfeokafjehpgnaa", sum := "f35104af9750037d8eec60b90d031a148e95de8adac74b6f793933823be6053a", func := "heartwood/heartwoodlaw24.LinkcutPaths", spec := "linkcutPaths", unfollowed := true, recurses := true, apart := false }
def LinkcutPathsSaid : Prop := linkcutPathsRow.holds Try.pinned (OpenSpec.ofChange linkcutPathsSpec)

/-- ITS FALSE NEIGHBOUR: 'it returns false'. Refute it at one input. -/
def linkcutPathsWrong : ChangeSpec := { name := "linkcutPaths", fn := fun _ => fun
  | [d1, d2, d3, d4] => { results := [.lit (.bool false)], args := [d1, d2, d3, d4] }
  | _ => none }
def LinkcutPathsWrongFalsely : Prop := linkcutPathsRow.holds Try.pinned (OpenSpec.ofChange linkcutPathsWrong)

/-- 'heartwoodlaw24.LinkcutSums': WHATEVER THE INPUT: true; the input reads as it did. -/
def linkcutSumsSpec : ChangeSpec := { name := "linkcutSums", fn := fun _ => fun
  | [d1, d2, d3, d4, d5, d6] => { results := [.lit (.bool true)], args := [d1, d2, d3, d4, d5, d6] }
  | _ => none }
def linkcutSumsRow : OpenClaim := { program := "ytfeokafjehpgnaa", sum := "f35104af9750037d8eec60b90d031a148e95de8adac74b6f793933823be6053a", func := "heartwood/heartwoodlaw24.LinkcutSums", spec := "linkcutSums", unfollowed := true, recurses := true, apart := false }
def LinkcutSumsSaid : Prop := linkcutSumsRow.holds Try.pinned (OpenSpec.ofChange linkcutSumsSpec)

/-- ITS FALSE NEIGHBOUR: 'it returns false'. Refute it at one input. -/
def linkcutSumsWrong : ChangeSpec := { name := "linkcutSums", fn := fun _ => fun
  | [d1, d2, d3, d4, d5, d6] => { results := [.lit (.bool false)], args := [d1, d2, d3, d4, d5, d6] }
  | _ => none }
def LinkcutSumsWrongFalsely : Prop := linkcutSumsRow.holds Try.pinned (OpenSpec.ofChange linkcutSumsWrong)

/-- 'heartwoodlaw24.LinkcutTurned': WHATEVER THE INPUT: true; the input reads as it did. -/
def linkcutTurnedSpec : ChangeSpec := { name := "linkcutTurned", fn := fun _ => fun
  | [d1, d2, d3, d4, d5] => { results := [.lit (.bool true)], args := [d1, d2, d3, d4, d5] }
  | _ => none }
def linkcutTurnedRow : OpenClaim := { program := "ytfeokafjehpgnaa", sum := "f35104af9750037d8eec60b90d031a148e95de8adac74b6f793933823be6053a", func := "heartwood/heartwoodlaw24.LinkcutTurned", spec := "linkcutTurned", unfollowed := true, recurses := true, apart := false }
def LinkcutTurnedSaid : Prop := linkcutTurnedRow.holds Try.pinned (OpenSpec.ofChange linkcutTurnedSpec)

/-- ITS FALSE NEIGHBOUR: 'it returns false'. Refute it at one input. -/
def linkcutTurnedWrong : ChangeSpec := { name := "linkcutTurned", fn := fun _ => fun
  | [d1, d2, d3, d4, d5] => { results := [.lit (.bool false)], args := [d1, d2, d3, d4, d5] }
  | _ => none }
def LinkcutTurnedWrongFalsely : Prop := linkcutTurnedRow.holds Try.pinned (OpenSpec.ofChange linkcutTurnedWrong)

/-- 'heartwoodlaw24.LinkcutUndone': WHATEVER THE INPUT: true; the input reads as it did. -/
def linkcutUndoneSpec : ChangeSpec := { name := "linkcutUndone", fn := fun _ => fun
  | [d1, d2, d3, d4] => { results := [.lit (.bool true)], args := [d1, d2, d3, d4] }
  | _ => none }
def linkcutUndoneRow : OpenClaim := { program := "ytfeokafjehpgnaa", sum := "f35104af9750037d8eec60b90d031a148e95de8adac74b6f793933823be6053a", func := "heartwood/heartwoodlaw24.LinkcutUndone", spec := "linkcutUndone", unfollowed := true, recurses := true, apart := false }
def LinkcutUndoneSaid : Prop := linkcutUndoneRow.holds Try.pinned (OpenSpec.ofChange linkcutUndoneSpec)

/-- ITS FALSE NEIGHBOUR: 'it returns false'. Refute it at one input. -/
def linkcutUndoneWrong : ChangeSpec := { name := "linkcutUndone", fn := fun _ => fun
  | [d1, d2, d3, d4] => { results := [.lit (.bool false)], args := [d1, d2, d3, d4] }
  | _ => none }
def LinkcutUndoneWrongFalsely : Prop := linkcutUndoneRow.holds Try.pinned (OpenSpec.ofChange linkcutUndoneWrong)

/-- 'heartwoodlaw24.LinkcutTrees': WHATEVER THE INPUT: true; the input reads as it did. -/
def linkcutTreesSpec : ChangeSpec := { name := "linkcutTrees", fn := fun _ => fun
  | [d1, d2, d3, d4] => { results := [.lit (.bool true)], args := [d1, d2, d3, d4] }
  | _ => none }
def linkcutTreesRow : OpenClaim := { program := "ytfeokafjehpgnaa", sum := "f35104af9750037d8eec60b90d031a148e95de8adac74b6f793933823be6053a", func := "heartwood/heartwoodlaw24.LinkcutTrees", spec := "linkcutTrees", unfollowed := true, recurses := true, apart := false }
def LinkcutTreesSaid : Prop := linkcutTreesRow.holds Try.pinned (OpenSpec.ofChange linkcutTreesSpec)

/-- ITS FALSE NEIGHBOUR: 'it returns false'. Refute it at one input. -/
def linkcutTreesWrong : ChangeSpec := { name := "linkcutTrees", fn := fun _ => fun
  | [d1, d2, d3, d4] => { results := [.lit (.bool false)], args := [d1, d2, d3, d4] }
  | _ => none }
def LinkcutTreesWrongFalsely : Prop := linkcutTreesRow.holds Try.pinned (OpenSpec.ofChange linkcutTreesWrong)

/-- 'heartwoodlaw24.LinkcutApart': WHATEVER THE INPUT: true; the input reads as it did. -/
def linkcutApartSpec : ChangeSpec := { name := "linkcutApart", fn := fun _ => fun
  | [d] => { results := [.lit (.bool true)], args := [d] }
  | _ => none }
def linkcutApartRow : OpenClaim := { program := "ytfeokafjehpgnaa", sum := "f35104af9750037d8eec60b90d031a148e95de8adac74b6f793933823be6053a", func := "heartwood/heartwoodlaw24.LinkcutApart", spec := "linkcutApart", unfollowed := true, recurses := true, apart := false }
def LinkcutApartSaid : Prop := linkcutApartRow.holds Try.pinned (OpenSpec.ofChange linkcutApartSpec)

/-- ITS FALSE NEIGHBOUR: 'it returns false'. Refute it at one input. -/
def linkcutApartWrong : ChangeSpec := { name := "linkcutApart", fn := fun _ => fun
  | [d] => { results := [.lit (.bool false)], args := [d] }
  | _ => none }
def LinkcutApartWrongFalsely : Prop := linkcutApartRow.holds Try.pinned (OpenSpec.ofChange linkcutApartWrong)

/- THE SECOND FORM. 'bulk': how many values and letters a reading holds, each counted each time it is reached (what is shared counts as often as it is met; a slice's spare places count too). A statement '..UptoSaid' is the law's where the arguments, and the package variables that the reading takes, are together of bulk at most 1048576: NARROWER than '..Said'. Prove '..Said' where nothing that the law and all that it calls make is longer than what came in: it says more and counts as full. Else prove '..UptoSaid'. A law counts once. -/
mutual
def uptoBulk {H : Type} : DataW H → Nat
  | .lit (.string bytes) => bytes.length + 1
  | .lit _ => 1
  | .nil => 1
  | .ptr d => uptoBulk d + 1
  | .slice elems spare => uptoBulkAll elems + uptoBulkAll spare + 1
  | .agg parts => uptoBulkAll parts + 1
  | .iface _ d => uptoBulk d + 1
  | .map entries => uptoBulkEntries entries + 1
  | .held _ => 1
def uptoBulkAll {H : Type} : List (DataW H) → Nat
  | [] => 0
  | d :: r => uptoBulk d + uptoBulkAll r
def uptoBulkEntries {H : Type} : List (Lit × DataW H) → Nat
  | [] => 0
  | x :: r => uptoBulkEntry x + uptoBulkEntries r
def uptoBulkEntry {H : Type} : Lit × DataW H → Nat
  | (.string bytes, d) => bytes.length + uptoBulk d + 1
  | (_, d) => uptoBulk d + 1
 end
def uptoSmall : (H : Type) → List (DataW H) → Bool := fun _ ds => decide (uptoBulkAll ds ≤ 1048576)
def OpenSpec.upto (s : _root_.Go.ChangeSpec) : _root_.Go.OpenSpec := { _root_.Go.OpenSpec.ofChange s with cond := some uptoSmall }

/-- 'heartwoodlaw24.LinkcutPaths', WHERE WHAT IT READS IS OF BULK AT MOST 1048576: true; the input reads as it did. -/
def linkcutPathsUptoRow : OpenClaim := { program := "ytfeokafjehpgnaa", sum := "f35104af9750037d8eec60b90d031a148e95de8adac74b6f793933823be6053a", func := "heartwood/heartwoodlaw24.LinkcutPaths", spec := "linkcutPaths", unfollowed := true, recurses := true, apart := false, narrowed := true }
def LinkcutPathsUptoSaid : Prop := linkcutPathsUptoRow.holds Try.pinned (OpenSpec.upto linkcutPathsSpec)

/-- 'heartwoodlaw24.LinkcutSums', WHERE WHAT IT READS IS OF BULK AT MOST 1048576: true; the input reads as it did. -/
def linkcutSumsUptoRow : OpenClaim := { program := "ytfeokafjehpgnaa", sum := "f35104af9750037d8eec60b90d031a148e95de8adac74b6f793933823be6053a", func := "heartwood/heartwoodlaw24.LinkcutSums", spec := "linkcutSums", unfollowed := true, recurses := true, apart := false, narrowed := true }
def LinkcutSumsUptoSaid : Prop := linkcutSumsUptoRow.holds Try.pinned (OpenSpec.upto linkcutSumsSpec)

/-- 'heartwoodlaw24.LinkcutTurned', WHERE WHAT IT READS IS OF BULK AT MOST 1048576: true; the input reads as it did. -/
def linkcutTurnedUptoRow : OpenClaim := { program := "ytfeokafjehpgnaa", sum := "f35104af9750037d8eec60b90d031a148e95de8adac74b6f793933823be6053a", func := "heartwood/heartwoodlaw24.LinkcutTurned", spec := "linkcutTurned", unfollowed := true, recurses := true, apart := false, narrowed := true }
def LinkcutTurnedUptoSaid : Prop := linkcutTurnedUptoRow.holds Try.pinned (OpenSpec.upto linkcutTurnedSpec)

/-- 'heartwoodlaw24.LinkcutUndone', WHERE WHAT IT READS IS OF BULK AT MOST 1048576: true; the input reads as it did. -/
def linkcutUndoneUptoRow : OpenClaim := { program := "ytfeokafjehpgnaa", sum := "f35104af9750037d8eec60b90d031a148e95de8adac74b6f793933823be6053a", func := "heartwood/heartwoodlaw24.LinkcutUndone", spec := "linkcutUndone", unfollowed := true, recurses := true, apart := false, narrowed := true }
def LinkcutUndoneUptoSaid : Prop := linkcutUndoneUptoRow.holds Try.pinned (OpenSpec.upto linkcutUndoneSpec)

/-- 'heartwoodlaw24.LinkcutTrees', WHERE WHAT IT READS IS OF BULK AT MOST 1048576: true; the input reads as it did. -/
def linkcutTreesUptoRow : OpenClaim := { program := "ytfeokafjehpgnaa", sum := "f35104af9750037d8eec60b90d031a148e95de8adac74b6f793933823be6053a", func := "heartwood/heartwoodlaw24.LinkcutTrees", spec := "linkcutTrees", unfollowed := true, recurses := true, apart := false, narrowed := true }
def LinkcutTreesUptoSaid : Prop := linkcutTreesUptoRow.holds Try.pinned (OpenSpec.upto linkcutTreesSpec)

/-- 'heartwoodlaw24.LinkcutApart', WHERE WHAT IT READS IS OF BULK AT MOST 1048576: true; the input reads as it did. -/
def linkcutApartUptoRow : OpenClaim := { program := "ytfeokafjehpgnaa", sum := "f35104af9750037d8eec60b90d031a148e95de8adac74b6f793933823be6053a", func := "heartwood/heartwoodlaw24.LinkcutApart", spec := "linkcutApart", unfollowed := true, recurses := true, apart := false, narrowed := true }
def LinkcutApartUptoSaid : Prop := linkcutApartUptoRow.holds Try.pinned (OpenSpec.upto linkcutApartSpec)

end Rows
end Go.Proofs.Ytfeokafjehpgnaa
