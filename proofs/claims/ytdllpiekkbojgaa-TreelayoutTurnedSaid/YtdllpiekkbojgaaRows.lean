/-
  No cell of these rows narrows 'for every input' (looked for: loops, veiled, ifaces, maps, wideKeys, modest, calm, conditions, laid).
  DERIVED. THE GIVEN ROWS OF THIS SEAT. 6 by the template 'for every input the law returns true; each argument reads behind the call as it read before'; 0 by the template 'total and deterministic' (their statements: YtdllpiekkbojgaaTotals.lean).
  GIVEN WITH THE SEED: the statements are not yours to turn. If you find one false, say at which input.
  Laid BY PROGRAM, IN A SANDBOX (cutbox-rows.mjs): the forced cells as the released guide's own fill.sh prints them over the translation 98f2f12cedbca43e… (all of the seat's roots in one cut). By AI agents, Wed Nov 11 2026. No macro, syntax, notation, axiom, sorry.
-/
import Derived.Test.YtdllpiekkbojgaaChecked
import GoSem.Claim
import GoSem.ClaimJoined
import GoSem.ClaimMapViews
import Derived.JoinedTies
import Derived.KernelRfl
namespace Go.Proofs.Ytdllpiekkbojgaa
/- THE CELL 'sum', in the pinned program and in every row, IS THE sha256 OF THE DUMP (.gsa) THAT YtdllpiekkbojgaaProg.lean LOADS. Nothing in Lean hashes anything: it is a label: what it is worth is what the hold of that sum in a sandbox is worth. -/
noncomputable def Try.pinned : Pinned := { name := "ytdllpiekkbojgaa", sum := "98f2f12cedbca43e251dc55dc1c4e33fe1333bd0d4dfd0fbd377a2b13e1755b3", checked := Try.checked }
namespace Rows
def none {H : Type} : Left H := { results := [], args := [] }

/-- 'heartwoodlaw25.TreelayoutLays': WHATEVER THE INPUT: true; the input reads as it did. -/
def treelayoutLaysSpec : ChangeSpec := { name := "treelayoutLays", fn := fun _ => fun
  | [d1, d2, d3] => { results := [.lit (.bool true)], args := [d1, d2, d3] }
  | _ => none }
def treelayoutLaysRow : OpenClaim := { program := "ytdllpiekkbojgaa", sum := "98f2f12cedbca43e251dc55dc1c4e33fe1333bd0d4dfd0fbd377a2b13e1755b3", func := "heartwood/heartwoodlaw25.TreelayoutLays", spec := "treelayoutLays", unfollowed := true, recurses := true, apart := false }
def TreelayoutLaysSaid : Prop := treelayoutLaysRow.holds Try.pinned (OpenSpec.ofChange treelayoutLaysSpec)

/-- ITS FALSE NEIGHBOUR: 'it returns false'. Refute it at one input. -/
def treelayoutLaysWrong : ChangeSpec := { name := "treelayoutLays", fn := fun _ => fun
  | [d1, d2, d3] => { results := [.lit (.bool false)], args := [d1, d2, d3] }
  | _ => none }
def TreelayoutLaysWrongFalsely : Prop := treelayoutLaysRow.holds Try.pinned (OpenSpec.ofChange treelayoutLaysWrong)

/-- 'heartwoodlaw25.TreelayoutWorst': WHATEVER THE INPUT: true; the input reads as it did. -/
def treelayoutWorstSpec : ChangeSpec := { name := "treelayoutWorst", fn := fun _ => fun
  | [d1, d2, d3] => { results := [.lit (.bool true)], args := [d1, d2, d3] }
  | _ => none }
def treelayoutWorstRow : OpenClaim := { program := "ytdllpiekkbojgaa", sum := "98f2f12cedbca43e251dc55dc1c4e33fe1333bd0d4dfd0fbd377a2b13e1755b3", func := "heartwood/heartwoodlaw25.TreelayoutWorst", spec := "treelayoutWorst", unfollowed := true, recurses := true, apart := false }
def TreelayoutWorstSaid : Prop := treelayoutWorstRow.holds Try.pinned (OpenSpec.ofChange treelayoutWorstSpec)

/-- ITS FALSE NEIGHBOUR: 'it returns false'. Refute it at one input. -/
def treelayoutWorstWrong : ChangeSpec := { name := "treelayoutWorst", fn := fun _ => fun
  | [d1, d2, d3] => { results := [.lit (.bool false)], args := [d1, d2, d3] }
  | _ => none }
def TreelayoutWorstWrongFalsely : Prop := treelayoutWorstRow.holds Try.pinned (OpenSpec.ofChange treelayoutWorstWrong)

/-- 'heartwoodlaw25.TreelayoutBlocks': WHATEVER THE INPUT: true; the input reads as it did. -/
def treelayoutBlocksSpec : ChangeSpec := { name := "treelayoutBlocks", fn := fun _ => fun
  | [d1, d2, d3] => { results := [.lit (.bool true)], args := [d1, d2, d3] }
  | _ => none }
def treelayoutBlocksRow : OpenClaim := { program := "ytdllpiekkbojgaa", sum := "98f2f12cedbca43e251dc55dc1c4e33fe1333bd0d4dfd0fbd377a2b13e1755b3", func := "heartwood/heartwoodlaw25.TreelayoutBlocks", spec := "treelayoutBlocks", unfollowed := true, recurses := true, apart := false }
def TreelayoutBlocksSaid : Prop := treelayoutBlocksRow.holds Try.pinned (OpenSpec.ofChange treelayoutBlocksSpec)

/-- ITS FALSE NEIGHBOUR: 'it returns false'. Refute it at one input. -/
def treelayoutBlocksWrong : ChangeSpec := { name := "treelayoutBlocks", fn := fun _ => fun
  | [d1, d2, d3] => { results := [.lit (.bool false)], args := [d1, d2, d3] }
  | _ => none }
def TreelayoutBlocksWrongFalsely : Prop := treelayoutBlocksRow.holds Try.pinned (OpenSpec.ofChange treelayoutBlocksWrong)

/-- 'heartwoodlaw25.TreelayoutSearches': WHATEVER THE INPUT: true; the input reads as it did. -/
def treelayoutSearchesSpec : ChangeSpec := { name := "treelayoutSearches", fn := fun _ => fun
  | [d1, d2, d3, d4, d5] => { results := [.lit (.bool true)], args := [d1, d2, d3, d4, d5] }
  | _ => none }
def treelayoutSearchesRow : OpenClaim := { program := "ytdllpiekkbojgaa", sum := "98f2f12cedbca43e251dc55dc1c4e33fe1333bd0d4dfd0fbd377a2b13e1755b3", func := "heartwood/heartwoodlaw25.TreelayoutSearches", spec := "treelayoutSearches", unfollowed := true, recurses := true, apart := false }
def TreelayoutSearchesSaid : Prop := treelayoutSearchesRow.holds Try.pinned (OpenSpec.ofChange treelayoutSearchesSpec)

/-- ITS FALSE NEIGHBOUR: 'it returns false'. Refute it at one input. -/
def treelayoutSearchesWrong : ChangeSpec := { name := "treelayoutSearches", fn := fun _ => fun
  | [d1, d2, d3, d4, d5] => { results := [.lit (.bool false)], args := [d1, d2, d3, d4, d5] }
  | _ => none }
def TreelayoutSearchesWrongFalsely : Prop := treelayoutSearchesRow.holds Try.pinned (OpenSpec.ofChange treelayoutSearchesWrong)

/-- 'heartwoodlaw25.TreelayoutTurned': WHATEVER THE INPUT: true; the input reads as it did. -/
def treelayoutTurnedSpec : ChangeSpec := { name := "treelayoutTurned", fn := fun _ => fun
  | [d1, d2, d3] => { results := [.lit (.bool true)], args := [d1, d2, d3] }
  | _ => none }
def treelayoutTurnedRow : OpenClaim := { program := "ytdllpiekkbojgaa", sum := "98f2f12cedbca43e251dc55dc1c4e33fe1333bd0d4dfd0fbd377a2b13e1755b3", func := "heartwood/heartwoodlaw25.TreelayoutTurned", spec := "treelayoutTurned", unfollowed := true, recurses := true, apart := false }
def TreelayoutTurnedSaid : Prop := treelayoutTurnedRow.holds Try.pinned (OpenSpec.ofChange treelayoutTurnedSpec)

/-- ITS FALSE NEIGHBOUR: 'it returns false'. Refute it at one input. -/
def treelayoutTurnedWrong : ChangeSpec := { name := "treelayoutTurned", fn := fun _ => fun
  | [d1, d2, d3] => { results := [.lit (.bool false)], args := [d1, d2, d3] }
  | _ => none }
def TreelayoutTurnedWrongFalsely : Prop := treelayoutTurnedRow.holds Try.pinned (OpenSpec.ofChange treelayoutTurnedWrong)

/-- 'heartwoodlaw25.TreelayoutFound': WHATEVER THE INPUT: true; the input reads as it did. -/
def treelayoutFoundSpec : ChangeSpec := { name := "treelayoutFound", fn := fun _ => fun
  | [d1, d2, d3, d4] => { results := [.lit (.bool true)], args := [d1, d2, d3, d4] }
  | _ => none }
def treelayoutFoundRow : OpenClaim := { program := "ytdllpiekkbojgaa", sum := "98f2f12cedbca43e251dc55dc1c4e33fe1333bd0d4dfd0fbd377a2b13e1755b3", func := "heartwood/heartwoodlaw25.TreelayoutFound", spec := "treelayoutFound", unfollowed := true, recurses := true, apart := false }
def TreelayoutFoundSaid : Prop := treelayoutFoundRow.holds Try.pinned (OpenSpec.ofChange treelayoutFoundSpec)

/-- ITS FALSE NEIGHBOUR: 'it returns false'. Refute it at one input. -/
def treelayoutFoundWrong : ChangeSpec := { name := "treelayoutFound", fn := fun _ => fun
  | [d1, d2, d3, d4] => { results := [.lit (.bool false)], args := [d1, d2, d3, d4] }
  | _ => none }
def TreelayoutFoundWrongFalsely : Prop := treelayoutFoundRow.holds Try.pinned (OpenSpec.ofChange treelayoutFoundWrong)

/- THE SECOND FORM. 'bulk': how many values and letters a reading holds, each counted each time it is reached (what is shared counts as often as it is met; a slice's spare places count too). A statement '..UptoSaid' is the law's where the arguments, and the package variables that the reading takes, are together of bulk at most 1048576: NARROWER than '..Said'. Prove '..Said' where nothing that the law and all that it calls make is longer than what came in: it says more and counts as full. Else prove '..UptoSaid'. A law counts once. -/
mutual
def uptoBulk {H : Type} : DataW H → Nat
  | .lit (.string bytes) => bytes.length + 1
  | .lit _ => 1
  | .nil => 1
  | .ptr d => uptoBulk d + 1
  | .slice elems spare => uptoBulkAll elems + uptoBulkAll spare + 1
  | .agg parts => uptoBulkAll parts + 1
  | .iface _ d => uptoBulk d + 1
  | .map entries => uptoBulkEntries entries + 1
  | .held _ => 1
def uptoBulkAll {H : Type} : List (DataW H) → Nat
  | [] => 0
  | d :: r => uptoBulk d + uptoBulkAll r
def uptoBulkEntries {H : Type} : List (Lit × DataW H) → Nat
  | [] => 0
  | x :: r => uptoBulkEntry x + uptoBulkEntries r
def uptoBulkEntry {H : Type} : Lit × DataW H → Nat
  | (.string bytes, d) => bytes.length + uptoBulk d + 1
  | (_, d) => uptoBulk d + 1
 end
def uptoSmall : (H : Type) → List (DataW H) → Bool := fun _ ds => decide (uptoBulkAll ds ≤ 1048576)
def OpenSpec.upto (s : _root_.Go.ChangeSpec) : _root_.Go.OpenSpec := { _root_.Go.OpenSpec.ofChange s with cond := some uptoSmall }

/-- 'heartwoodlaw25.TreelayoutLays', WHERE WHAT IT READS IS OF BULK AT MOST 1048576: true; the input reads as it did. -/
def treelayoutLaysUptoRow : OpenClaim := { program := "ytdllpiekkbojgaa", sum := "98f2f12cedbca43e251dc55dc1c4e33fe1333bd0d4dfd0fbd377a2b13e1755b3", func := "heartwood/heartwoodlaw25.TreelayoutLays", spec := "treelayoutLays", unfollowed := true, recurses := true, apart := false, narrowed := true }
def TreelayoutLaysUptoSaid : Prop := treelayoutLaysUptoRow.holds Try.pinned (OpenSpec.upto treelayoutLaysSpec)

/-- 'heartwoodlaw25.TreelayoutWorst', WHERE WHAT IT READS IS OF BULK AT MOST 1048576: true; the input reads as it did. -/
def treelayoutWorstUptoRow : OpenClaim := { program := "ytdllpiekkbojgaa", sum := "98f2f12cedbca43e251dc55dc1c4e33fe1333bd0d4dfd0fbd377a2b13e1755b3", func := "heartwood/heartwoodlaw25.TreelayoutWorst", spec := "treelayoutWorst", unfollowed := true, recurses := true, apart := false, narrowed := true }
def TreelayoutWorstUptoSaid : Prop := treelayoutWorstUptoRow.holds Try.pinned (OpenSpec.upto treelayoutWorstSpec)

/-- 'heartwoodlaw25.TreelayoutBlocks', WHERE WHAT IT READS IS OF BULK AT MOST 1048576: true; the input reads as it did. -/
def treelayoutBlocksUptoRow : OpenClaim := { program := "ytdllpiekkbojgaa", sum := "98f2f12cedbca43e251dc55dc1c4e33fe1333bd0d4dfd0fbd377a2b13e1755b3", func := "heartwood/heartwoodlaw25.TreelayoutBlocks", spec := "treelayoutBlocks", unfollowed := true, recurses := true, apart := false, narrowed := true }
def TreelayoutBlocksUptoSaid : Prop := treelayoutBlocksUptoRow.holds Try.pinned (OpenSpec.upto treelayoutBlocksSpec)

/-- 'heartwoodlaw25.TreelayoutSearches', WHERE WHAT IT READS IS OF BULK AT MOST 1048576: true; the input reads as it did. -/
def treelayoutSearchesUptoRow : OpenClaim := { program := "ytdllpiekkbojgaa", sum := "98f2f12cedbca43e251dc55dc1c4e33fe1333bd0d4dfd0fbd377a2b13e1755b3", func := "heartwood/heartwoodlaw25.TreelayoutSearches", spec := "treelayoutSearches", unfollowed := true, recurses := true, apart := false, narrowed := true }
def TreelayoutSearchesUptoSaid : Prop := treelayoutSearchesUptoRow.holds Try.pinned (OpenSpec.upto treelayoutSearchesSpec)

/-- 'heartwoodlaw25.TreelayoutTurned', WHERE WHAT IT READS IS OF BULK AT MOST 1048576: true; the input reads as it did. -/
def treelayoutTurnedUptoRow : OpenClaim := { program := "ytdllpiekkbojgaa", sum := "98f2f12cedbca43e251dc55dc1c4e33fe1333bd0d4dfd0fbd377a2b13e1755b3", func := "heartwood/heartwoodlaw25.TreelayoutTurned", spec := "treelayoutTurned", unfollowed := true, recurses := true, apart := false, narrowed := true }
def TreelayoutTurnedUptoSaid : Prop := treelayoutTurnedUptoRow.holds Try.pinned (OpenSpec.upto treelayoutTurnedSpec)

/-- 'heartwoodlaw25.TreelayoutFound', WHERE WHAT IT READS IS OF BULK AT MOST 1048576: true; the input reads as it did. -/
def treelayoutFoundUptoRow : OpenClaim := { program := "ytdllpiekkbojgaa", sum := "98f2f12cedbca43e251dc55dc1c4e33fe1333bd0d4dfd0fbd377a2b13e1755b3", func := "heartwood/heartwoodlaw25.TreelayoutFound", spec := "treelayoutFound", unfollowed := true, recurses := true, apart := false, narrowed := true }
def TreelayoutFoundUptoSaid : Prop := treelayoutFoundUptoRow.holds Try.pinned (OpenSpec.upto treelayoutFoundSpec)

end Rows
end Go.Proofs.Ytdllpiekkbojgaa
