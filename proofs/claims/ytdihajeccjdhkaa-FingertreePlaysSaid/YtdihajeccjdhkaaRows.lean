/-
  No cell of these rows narrows 'for every input' (looked for: loops, veiled, ifaces, maps, wideKeys, modest, calm, conditions, laid).
  DERIVED. THE GIVEN ROWS OF THIS SEAT. 6 by the template 'for every input the law returns true; each argument reads behind the call as it read before'; 0 by the template 'total and deterministic' (their statements: YtdihajeccjdhkaaTotals.lean).
  GIVEN WITH THE SEED: the statements are not yours to turn. If you find one false, say at which input.
  Laid BY PROGRAM, IN A SANDBOX (cutbox-rows.mjs): the forced cells as the released guide's own fill.sh prints them over the translation ba4c91560259dc7a… (all of the seat's roots in one cut). By AI agents, Wed Nov 11 2026. No macro, syntax, notation, axiom, sorry.
-/
import Derived.Test.YtdihajeccjdhkaaChecked
import GoSem.Claim
import GoSem.ClaimJoined
import GoSem.ClaimMapViews
import Derived.JoinedTies
import Derived.KernelRfl
namespace Go.Proofs.Ytdihajeccjdhkaa
/- THE CELL 'sum', in the pinned program and in every row, IS THE sha256 OF THE DUMP (.gsa) THAT YtdihajeccjdhkaaProg.lean LOADS. Nothing in Lean hashes anything: it is a label: what it is worth is what the hold of that sum in a sandbox is worth. -/
noncomputable def Try.pinned : Pinned := { name := "ytdihajeccjdhkaa", sum := "ba4c91560259dc7a8c15e7450d03759ab0cd24cb40984e7035b4dfb3d45bc0ab", checked := Try.checked }
namespace Rows
def none {H : Type} : Left H := { results := [], args := [] }

/-- 'heartwoodlaw27.FingertreeMakes': WHATEVER THE INPUT: true; the input reads as it did. -/
def fingertreeMakesSpec : ChangeSpec := { name := "fingertreeMakes", fn := fun _ => fun
  | [d] => { results := [.lit (.bool true)], args := [d] }
  | _ => none }
def fingertreeMakesRow : OpenClaim := { program := "ytdihajeccjdhkaa", sum := "ba4c91560259dc7a8c15e7450d03759ab0cd24cb40984e7035b4dfb3d45bc0ab", func := "heartwood/heartwoodlaw27.FingertreeMakes", spec := "fingertreeMakes", unfollowed := true, recurses := true, apart := false }
def FingertreeMakesSaid : Prop := fingertreeMakesRow.holds Try.pinned (OpenSpec.ofChange fingertreeMakesSpec)

/-- ITS FALSE NEIGHBOUR: 'it returns false'. Refute it at one input. -/
def fingertreeMakesWrong : ChangeSpec := { name := "fingertreeMakes", fn := fun _ => fun
  | [d] => { results := [.lit (.bool false)], args := [d] }
  | _ => none }
def FingertreeMakesWrongFalsely : Prop := fingertreeMakesRow.holds Try.pinned (OpenSpec.ofChange fingertreeMakesWrong)

/-- 'heartwoodlaw27.FingertreeAsks': WHATEVER THE INPUT: true; the input reads as it did. -/
def fingertreeAsksSpec : ChangeSpec := { name := "fingertreeAsks", fn := fun _ => fun
  | [d1, d2, d3, d4, d5] => { results := [.lit (.bool true)], args := [d1, d2, d3, d4, d5] }
  | _ => none }
def fingertreeAsksRow : OpenClaim := { program := "ytdihajeccjdhkaa", sum := "ba4c91560259dc7a8c15e7450d03759ab0cd24cb40984e7035b4dfb3d45bc0ab", func := "heartwood/heartwoodlaw27.FingertreeAsks", spec := "fingertreeAsks", unfollowed := true, recurses := true, apart := false }
def FingertreeAsksSaid : Prop := fingertreeAsksRow.holds Try.pinned (OpenSpec.ofChange fingertreeAsksSpec)

/-- ITS FALSE NEIGHBOUR: 'it returns false'. Refute it at one input. -/
def fingertreeAsksWrong : ChangeSpec := { name := "fingertreeAsks", fn := fun _ => fun
  | [d1, d2, d3, d4, d5] => { results := [.lit (.bool false)], args := [d1, d2, d3, d4, d5] }
  | _ => none }
def FingertreeAsksWrongFalsely : Prop := fingertreeAsksRow.holds Try.pinned (OpenSpec.ofChange fingertreeAsksWrong)

/-- 'heartwoodlaw27.FingertreeSplits': WHATEVER THE INPUT: true; the input reads as it did. -/
def fingertreeSplitsSpec : ChangeSpec := { name := "fingertreeSplits", fn := fun _ => fun
  | [d1, d2, d3, d4] => { results := [.lit (.bool true)], args := [d1, d2, d3, d4] }
  | _ => none }
def fingertreeSplitsRow : OpenClaim := { program := "ytdihajeccjdhkaa", sum := "ba4c91560259dc7a8c15e7450d03759ab0cd24cb40984e7035b4dfb3d45bc0ab", func := "heartwood/heartwoodlaw27.FingertreeSplits", spec := "fingertreeSplits", unfollowed := true, recurses := true, apart := false }
def FingertreeSplitsSaid : Prop := fingertreeSplitsRow.holds Try.pinned (OpenSpec.ofChange fingertreeSplitsSpec)

/-- ITS FALSE NEIGHBOUR: 'it returns false'. Refute it at one input. -/
def fingertreeSplitsWrong : ChangeSpec := { name := "fingertreeSplits", fn := fun _ => fun
  | [d1, d2, d3, d4] => { results := [.lit (.bool false)], args := [d1, d2, d3, d4] }
  | _ => none }
def FingertreeSplitsWrongFalsely : Prop := fingertreeSplitsRow.holds Try.pinned (OpenSpec.ofChange fingertreeSplitsWrong)

/-- 'heartwoodlaw27.FingertreeFull': WHATEVER THE INPUT: true; the input reads as it did. -/
def fingertreeFullSpec : ChangeSpec := { name := "fingertreeFull", fn := fun _ => fun
  | [d1, d2] => { results := [.lit (.bool true)], args := [d1, d2] }
  | _ => none }
def fingertreeFullRow : OpenClaim := { program := "ytdihajeccjdhkaa", sum := "ba4c91560259dc7a8c15e7450d03759ab0cd24cb40984e7035b4dfb3d45bc0ab", func := "heartwood/heartwoodlaw27.FingertreeFull", spec := "fingertreeFull", unfollowed := true, recurses := true, apart := false }
def FingertreeFullSaid : Prop := fingertreeFullRow.holds Try.pinned (OpenSpec.ofChange fingertreeFullSpec)

/-- ITS FALSE NEIGHBOUR: 'it returns false'. Refute it at one input. -/
def fingertreeFullWrong : ChangeSpec := { name := "fingertreeFull", fn := fun _ => fun
  | [d1, d2] => { results := [.lit (.bool false)], args := [d1, d2] }
  | _ => none }
def FingertreeFullWrongFalsely : Prop := fingertreeFullRow.holds Try.pinned (OpenSpec.ofChange fingertreeFullWrong)

/-- 'heartwoodlaw27.FingertreePlays': WHATEVER THE INPUT: true; the input reads as it did. -/
def fingertreePlaysSpec : ChangeSpec := { name := "fingertreePlays", fn := fun _ => fun
  | [d1, d2] => { results := [.lit (.bool true)], args := [d1, d2] }
  | _ => none }
def fingertreePlaysRow : OpenClaim := { program := "ytdihajeccjdhkaa", sum := "ba4c91560259dc7a8c15e7450d03759ab0cd24cb40984e7035b4dfb3d45bc0ab", func := "heartwood/heartwoodlaw27.FingertreePlays", spec := "fingertreePlays", unfollowed := true, recurses := true, apart := false }
def FingertreePlaysSaid : Prop := fingertreePlaysRow.holds Try.pinned (OpenSpec.ofChange fingertreePlaysSpec)

/-- ITS FALSE NEIGHBOUR: 'it returns false'. Refute it at one input. -/
def fingertreePlaysWrong : ChangeSpec := { name := "fingertreePlays", fn := fun _ => fun
  | [d1, d2] => { results := [.lit (.bool false)], args := [d1, d2] }
  | _ => none }
def FingertreePlaysWrongFalsely : Prop := fingertreePlaysRow.holds Try.pinned (OpenSpec.ofChange fingertreePlaysWrong)

/-- 'heartwoodlaw27.FingertreeSums': WHATEVER THE INPUT: true; the input reads as it did. -/
def fingertreeSumsSpec : ChangeSpec := { name := "fingertreeSums", fn := fun _ => fun
  | [d1, d2, d3, d4, d5] => { results := [.lit (.bool true)], args := [d1, d2, d3, d4, d5] }
  | _ => none }
def fingertreeSumsRow : OpenClaim := { program := "ytdihajeccjdhkaa", sum := "ba4c91560259dc7a8c15e7450d03759ab0cd24cb40984e7035b4dfb3d45bc0ab", func := "heartwood/heartwoodlaw27.FingertreeSums", spec := "fingertreeSums", unfollowed := true, recurses := true, apart := false }
def FingertreeSumsSaid : Prop := fingertreeSumsRow.holds Try.pinned (OpenSpec.ofChange fingertreeSumsSpec)

/-- ITS FALSE NEIGHBOUR: 'it returns false'. Refute it at one input. -/
def fingertreeSumsWrong : ChangeSpec := { name := "fingertreeSums", fn := fun _ => fun
  | [d1, d2, d3, d4, d5] => { results := [.lit (.bool false)], args := [d1, d2, d3, d4, d5] }
  | _ => none }
def FingertreeSumsWrongFalsely : Prop := fingertreeSumsRow.holds Try.pinned (OpenSpec.ofChange fingertreeSumsWrong)

/- THE SECOND FORM. 'bulk': how many values and letters a reading holds, each counted each time it is reached (what is shared counts as often as it is met; a slice's spare places count too). A statement '..UptoSaid' is the law's where the arguments, and the package variables that the reading takes, are together of bulk at most 1048576: NARROWER than '..Said'. Prove '..Said' where nothing that the law and all that it calls make is longer than what came in: it says more and counts as full. Else prove '..UptoSaid'. A law counts once. -/
mutual
def uptoBulk {H : Type} : DataW H → Nat
  | .lit (.string bytes) => bytes.length + 1
  | .lit _ => 1
  | .nil => 1
  | .ptr d => uptoBulk d + 1
  | .slice elems spare => uptoBulkAll elems + uptoBulkAll spare + 1
  | .agg parts => uptoBulkAll parts + 1
  | .iface _ d => uptoBulk d + 1
  | .map entries => uptoBulkEntries entries + 1
  | .held _ => 1
def uptoBulkAll {H : Type} : List (DataW H) → Nat
  | [] => 0
  | d :: r => uptoBulk d + uptoBulkAll r
def uptoBulkEntries {H : Type} : List (Lit × DataW H) → Nat
  | [] => 0
  | x :: r => uptoBulkEntry x + uptoBulkEntries r
def uptoBulkEntry {H : Type} : Lit × DataW H → Nat
  | (.string bytes, d) => bytes.length + uptoBulk d + 1
  | (_, d) => uptoBulk d + 1
 end
def uptoSmall : (H : Type) → List (DataW H) → Bool := fun _ ds => decide (uptoBulkAll ds ≤ 1048576)
def OpenSpec.upto (s : _root_.Go.ChangeSpec) : _root_.Go.OpenSpec := { _root_.Go.OpenSpec.ofChange s with cond := some uptoSmall }

/-- 'heartwoodlaw27.FingertreeMakes', WHERE WHAT IT READS IS OF BULK AT MOST 1048576: true; the input reads as it did. -/
def fingertreeMakesUptoRow : OpenClaim := { program := "ytdihajeccjdhkaa", sum := "ba4c91560259dc7a8c15e7450d03759ab0cd24cb40984e7035b4dfb3d45bc0ab", func := "heartwood/heartwoodlaw27.FingertreeMakes", spec := "fingertreeMakes", unfollowed := true, recurses := true, apart := false, narrowed := true }
def FingertreeMakesUptoSaid : Prop := fingertreeMakesUptoRow.holds Try.pinned (OpenSpec.upto fingertreeMakesSpec)

/-- 'heartwoodlaw27.FingertreeAsks', WHERE WHAT IT READS IS OF BULK AT MOST 1048576: true; the input reads as it did. -/
def fingertreeAsksUptoRow : OpenClaim := { program := "ytdihajeccjdhkaa", sum := "ba4c91560259dc7a8c15e7450d03759ab0cd24cb40984e7035b4dfb3d45bc0ab", func := "heartwood/heartwoodlaw27.FingertreeAsks", spec := "fingertreeAsks", unfollowed := true, recurses := true, apart := false, narrowed := true }
def FingertreeAsksUptoSaid : Prop := fingertreeAsksUptoRow.holds Try.pinned (OpenSpec.upto fingertreeAsksSpec)

/-- 'heartwoodlaw27.FingertreeSplits', WHERE WHAT IT READS IS OF BULK AT MOST 1048576: true; the input reads as it did. -/
def fingertreeSplitsUptoRow : OpenClaim := { program := "ytdihajeccjdhkaa", sum := "ba4c91560259dc7a8c15e7450d03759ab0cd24cb40984e7035b4dfb3d45bc0ab", func := "heartwood/heartwoodlaw27.FingertreeSplits", spec := "fingertreeSplits", unfollowed := true, recurses := true, apart := false, narrowed := true }
def FingertreeSplitsUptoSaid : Prop := fingertreeSplitsUptoRow.holds Try.pinned (OpenSpec.upto fingertreeSplitsSpec)

/-- 'heartwoodlaw27.FingertreeFull', WHERE WHAT IT READS IS OF BULK AT MOST 1048576: true; the input reads as it did. -/
def fingertreeFullUptoRow : OpenClaim := { program := "ytdihajeccjdhkaa", sum := "ba4c91560259dc7a8c15e7450d03759ab0cd24cb40984e7035b4dfb3d45bc0ab", func := "heartwood/heartwoodlaw27.FingertreeFull", spec := "fingertreeFull", unfollowed := true, recurses := true, apart := false, narrowed := true }
def FingertreeFullUptoSaid : Prop := fingertreeFullUptoRow.holds Try.pinned (OpenSpec.upto fingertreeFullSpec)

/-- 'heartwoodlaw27.FingertreePlays', WHERE WHAT IT READS IS OF BULK AT MOST 1048576: true; the input reads as it did. -/
def fingertreePlaysUptoRow : OpenClaim := { program := "ytdihajeccjdhkaa", sum := "ba4c91560259dc7a8c15e7450d03759ab0cd24cb40984e7035b4dfb3d45bc0ab", func := "heartwood/heartwoodlaw27.FingertreePlays", spec := "fingertreePlays", unfollowed := true, recurses := true, apart := false, narrowed := true }
def FingertreePlaysUptoSaid : Prop := fingertreePlaysUptoRow.holds Try.pinned (OpenSpec.upto fingertreePlaysSpec)

/-- 'heartwoodlaw27.FingertreeSums', WHERE WHAT IT READS IS OF BULK AT MOST 1048576: true; the input reads as it did. -/
def fingertreeSumsUptoRow : OpenClaim := { program := "ytdihajeccjdhkaa", sum := "ba4c91560259dc7a8c15e7450d03759ab0cd24cb40984e7035b4dfb3d45bc0ab", func := "heartwood/heartwoodlaw27.FingertreeSums", spec := "fingertreeSums", unfollowed := true, recurses := true, apart := false, narrowed := true }
def FingertreeSumsUptoSaid : Prop := fingertreeSumsUptoRow.holds Try.pinned (OpenSpec.upto fingertreeSumsSpec)

end Rows
end Go.Proofs.Ytdihajeccjdhkaa
