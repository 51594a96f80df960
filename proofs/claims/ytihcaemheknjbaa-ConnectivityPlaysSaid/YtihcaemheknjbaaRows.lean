/-
  No cell of these rows narrows 'for every input' (looked for: loops, veiled, ifaces, maps, wideKeys, modest, calm, conditions, laid).
  DERIVED. THE GIVEN ROWS OF THIS SEAT. 6 by the template 'for every input the law returns true; each argument reads behind the call as it read before'; 0 by the template 'total and deterministic' (their statements: YtihcaemheknjbaaTotals.lean).
  GIVEN WITH THE SEED: the statements are not yours to turn. If you find one false, say at which input.
  Laid BY PROGRAM, IN A SANDBOX (cutbox-rows.mjs): the forced cells as the released guide's own fill.sh prints them over the translation 189492861d92a72c… (all of the seat's roots in one cut). By AI agents, Wed Nov 11 2026. No macro, syntax, notation, axiom, sorry.
-/
import Derived.Test.YtihcaemheknjbaaChecked
import GoSem.Claim
import GoSem.ClaimJoined
import GoSem.ClaimMapViews
import Derived.JoinedTies
import Derived.KernelRfl
namespace Go.Proofs.Ytihcaemheknjbaa
/- THE CELL 'sum', in the pinned program and in every row, IS THE sha256 OF THE DUMP (.gsa) THAT YtihcaemheknjbaaProg.lean LOADS. Nothing in Lean hashes anything: it is a label: what it is worth is what the hold of that sum in a sandbox is worth. -/
noncomputable def Try.pinned : Pinned := { name := "ytihcaemheknjbaa", sum := "189492861d92a72c52d7ad6a14a083bb62f117c2963300464802696de9920af8", checked := Try.checked }
namespace Rows
def none {H : Type} : Left H := { results := [], args := [] }

/-- 'heartwoodlaw38.ConnectivitySolves': WHATEVER THE INPUT: true; the input reads as it did. -/
def connectivitySolvesSpec : ChangeSpec := { name := "connectivitySolves", fn := fun _ => fun
  | [d1, d2] => { results := [.lit (.bool true)], args := [d1, d2] }
  | _ => none }
def connectivitySolvesRow : OpenClaim := { program := "ytihcaemheknjbaa", sum := "189492861d92a72c52d7ad6a14a083bb62f117c2963300464802696de9920af8", func := "heartwood/heartwoodlaw38.ConnectivitySolves", spec := "connectivitySolves", unfollowed := true, recurses := true, plainKeys := false, apart := false }
def ConnectivitySolvesSaid : Prop := connectivitySolvesRow.holds Try.pinned (OpenSpec.ofChange connectivitySolvesSpec)

/-- ITS FALSE NEIGHBOUR: 'it returns false'. Refute it at one input. -/
def connectivitySolvesWrong : ChangeSpec := { name := "connectivitySolves", fn := fun _ => fun
  | [d1, d2] => { results := [.lit (.bool false)], args := [d1, d2] }
  | _ => none }
def ConnectivitySolvesWrongFalsely : Prop := connectivitySolvesRow.holds Try.pinned (OpenSpec.ofChange connectivitySolvesWrong)

/-- 'heartwoodlaw38.ConnectivityEvents': WHATEVER THE INPUT: true; the input reads as it did. -/
def connectivityEventsSpec : ChangeSpec := { name := "connectivityEvents", fn := fun _ => fun
  | [d1, d2] => { results := [.lit (.bool true)], args := [d1, d2] }
  | _ => none }
def connectivityEventsRow : OpenClaim := { program := "ytihcaemheknjbaa", sum := "189492861d92a72c52d7ad6a14a083bb62f117c2963300464802696de9920af8", func := "heartwood/heartwoodlaw38.ConnectivityEvents", spec := "connectivityEvents", unfollowed := true, recurses := true, plainKeys := false, apart := false }
def ConnectivityEventsSaid : Prop := connectivityEventsRow.holds Try.pinned (OpenSpec.ofChange connectivityEventsSpec)

/-- ITS FALSE NEIGHBOUR: 'it returns false'. Refute it at one input. -/
def connectivityEventsWrong : ChangeSpec := { name := "connectivityEvents", fn := fun _ => fun
  | [d1, d2] => { results := [.lit (.bool false)], args := [d1, d2] }
  | _ => none }
def ConnectivityEventsWrongFalsely : Prop := connectivityEventsRow.holds Try.pinned (OpenSpec.ofChange connectivityEventsWrong)

/-- 'heartwoodlaw38.ConnectivityReplays': WHATEVER THE INPUT: true; the input reads as it did. -/
def connectivityReplaysSpec : ChangeSpec := { name := "connectivityReplays", fn := fun _ => fun
  | [d1, d2] => { results := [.lit (.bool true)], args := [d1, d2] }
  | _ => none }
def connectivityReplaysRow : OpenClaim := { program := "ytihcaemheknjbaa", sum := "189492861d92a72c52d7ad6a14a083bb62f117c2963300464802696de9920af8", func := "heartwood/heartwoodlaw38.ConnectivityReplays", spec := "connectivityReplays", unfollowed := true, recurses := true, plainKeys := false, apart := false }
def ConnectivityReplaysSaid : Prop := connectivityReplaysRow.holds Try.pinned (OpenSpec.ofChange connectivityReplaysSpec)

/-- ITS FALSE NEIGHBOUR: 'it returns false'. Refute it at one input. -/
def connectivityReplaysWrong : ChangeSpec := { name := "connectivityReplays", fn := fun _ => fun
  | [d1, d2] => { results := [.lit (.bool false)], args := [d1, d2] }
  | _ => none }
def ConnectivityReplaysWrongFalsely : Prop := connectivityReplaysRow.holds Try.pinned (OpenSpec.ofChange connectivityReplaysWrong)

/-- 'heartwoodlaw38.ConnectivityPlays': WHATEVER THE INPUT: true; the input reads as it did. -/
def connectivityPlaysSpec : ChangeSpec := { name := "connectivityPlays", fn := fun _ => fun
  | [d1, d2, d3, d4] => { results := [.lit (.bool true)], args := [d1, d2, d3, d4] }
  | _ => none }
def connectivityPlaysRow : OpenClaim := { program := "ytihcaemheknjbaa", sum := "189492861d92a72c52d7ad6a14a083bb62f117c2963300464802696de9920af8", func := "heartwood/heartwoodlaw38.ConnectivityPlays", spec := "connectivityPlays", unfollowed := true, recurses := true, plainKeys := false, apart := false }
def ConnectivityPlaysSaid : Prop := connectivityPlaysRow.holds Try.pinned (OpenSpec.ofChange connectivityPlaysSpec)

/-- ITS FALSE NEIGHBOUR: 'it returns false'. Refute it at one input. -/
def connectivityPlaysWrong : ChangeSpec := { name := "connectivityPlays", fn := fun _ => fun
  | [d1, d2, d3, d4] => { results := [.lit (.bool false)], args := [d1, d2, d3, d4] }
  | _ => none }
def ConnectivityPlaysWrongFalsely : Prop := connectivityPlaysRow.holds Try.pinned (OpenSpec.ofChange connectivityPlaysWrong)

/-- 'heartwoodlaw38.ConnectivityUndoes': WHATEVER THE INPUT: true; the input reads as it did. -/
def connectivityUndoesSpec : ChangeSpec := { name := "connectivityUndoes", fn := fun _ => fun
  | [d1, d2, d3] => { results := [.lit (.bool true)], args := [d1, d2, d3] }
  | _ => none }
def connectivityUndoesRow : OpenClaim := { program := "ytihcaemheknjbaa", sum := "189492861d92a72c52d7ad6a14a083bb62f117c2963300464802696de9920af8", func := "heartwood/heartwoodlaw38.ConnectivityUndoes", spec := "connectivityUndoes", unfollowed := true, recurses := true, plainKeys := false, apart := false }
def ConnectivityUndoesSaid : Prop := connectivityUndoesRow.holds Try.pinned (OpenSpec.ofChange connectivityUndoesSpec)

/-- ITS FALSE NEIGHBOUR: 'it returns false'. Refute it at one input. -/
def connectivityUndoesWrong : ChangeSpec := { name := "connectivityUndoes", fn := fun _ => fun
  | [d1, d2, d3] => { results := [.lit (.bool false)], args := [d1, d2, d3] }
  | _ => none }
def ConnectivityUndoesWrongFalsely : Prop := connectivityUndoesRow.holds Try.pinned (OpenSpec.ofChange connectivityUndoesWrong)

/-- 'heartwoodlaw38.ConnectivityBridges': WHATEVER THE INPUT: true; the input reads as it did. -/
def connectivityBridgesSpec : ChangeSpec := { name := "connectivityBridges", fn := fun _ => fun
  | [d1, d2] => { results := [.lit (.bool true)], args := [d1, d2] }
  | _ => none }
def connectivityBridgesRow : OpenClaim := { program := "ytihcaemheknjbaa", sum := "189492861d92a72c52d7ad6a14a083bb62f117c2963300464802696de9920af8", func := "heartwood/heartwoodlaw38.ConnectivityBridges", spec := "connectivityBridges", unfollowed := true, recurses := true, plainKeys := false, apart := false }
def ConnectivityBridgesSaid : Prop := connectivityBridgesRow.holds Try.pinned (OpenSpec.ofChange connectivityBridgesSpec)

/-- ITS FALSE NEIGHBOUR: 'it returns false'. Refute it at one input. -/
def connectivityBridgesWrong : ChangeSpec := { name := "connectivityBridges", fn := fun _ => fun
  | [d1, d2] => { results := [.lit (.bool false)], args := [d1, d2] }
  | _ => none }
def ConnectivityBridgesWrongFalsely : Prop := connectivityBridgesRow.holds Try.pinned (OpenSpec.ofChange connectivityBridgesWrong)

/- THE SECOND FORM. 'bulk': how many values and letters a reading holds, each counted each time it is reached (what is shared counts as often as it is met; a slice's spare places count too). A statement '..UptoSaid' is the law's where the arguments, and the package variables that the reading takes, are together of bulk at most 1048576: NARROWER than '..Said'. Prove '..Said' where nothing that the law and all that it calls make is longer than what came in: it says more and counts as full. Else prove '..UptoSaid'. A law counts once. -/
mutual
def uptoBulk {H : Type} : DataW H → Nat
  | .lit (.string bytes) => bytes.length + 1
  | .lit _ => 1
  | .nil => 1
  | .ptr d => uptoBulk d + 1
  | .slice elems spare => uptoBulkAll elems + uptoBulkAll spare + 1
  | .agg parts => uptoBulkAll parts + 1
  | .iface _ d => uptoBulk d + 1
  | .map entries => uptoBulkEntries entries + 1
  | .held _ => 1
def uptoBulkAll {H : Type} : List (DataW H) → Nat
  | [] => 0
  | d :: r => uptoBulk d + uptoBulkAll r
def uptoBulkEntries {H : Type} : List (Lit × DataW H) → Nat
  | [] => 0
  | x :: r => uptoBulkEntry x + uptoBulkEntries r
def uptoBulkEntry {H : Type} : Lit × DataW H → Nat
  | (.string bytes, d) => bytes.length + uptoBulk d + 1
  | (_, d) => uptoBulk d + 1
 end
def uptoSmall : (H : Type) → List (DataW H) → Bool := fun _ ds => decide (uptoBulkAll ds ≤ 1048576)
def OpenSpec.upto (s : _root_.Go.ChangeSpec) : _root_.Go.OpenSpec := { _root_.Go.OpenSpec.ofChange s with cond := some uptoSmall }

/-- 'heartwoodlaw38.ConnectivitySolves', WHERE WHAT IT READS IS OF BULK AT MOST 1048576: true; the input reads as it did. -/
def connectivitySolvesUptoRow : OpenClaim := { program := "ytihcaemheknjbaa", sum := "189492861d92a72c52d7ad6a14a083bb62f117c2963300464802696de9920af8", func := "heartwood/heartwoodlaw38.ConnectivitySolves", spec := "connectivitySolves", unfollowed := true, recurses := true, plainKeys := false, apart := false, narrowed := true }
def ConnectivitySolvesUptoSaid : Prop := connectivitySolvesUptoRow.holds Try.pinned (OpenSpec.upto connectivitySolvesSpec)

/-- 'heartwoodlaw38.ConnectivityEvents', WHERE WHAT IT READS IS OF BULK AT MOST 1048576: true; the input reads as it did. -/
def connectivityEventsUptoRow : OpenClaim := { program := "ytihcaemheknjbaa", sum := "189492861d92a72c52d7ad6a14a083bb62f117c2963300464802696de9920af8", func := "heartwood/heartwoodlaw38.ConnectivityEvents", spec := "connectivityEvents", unfollowed := true, recurses := true, plainKeys := false, apart := false, narrowed := true }
def ConnectivityEventsUptoSaid : Prop := connectivityEventsUptoRow.holds Try.pinned (OpenSpec.upto connectivityEventsSpec)

/-- 'heartwoodlaw38.ConnectivityReplays', WHERE WHAT IT READS IS OF BULK AT MOST 1048576: true; the input reads as it did. -/
def connectivityReplaysUptoRow : OpenClaim := { program := "ytihcaemheknjbaa", sum := "189492861d92a72c52d7ad6a14a083bb62f117c2963300464802696de9920af8", func := "heartwood/heartwoodlaw38.ConnectivityReplays", spec := "connectivityReplays", unfollowed := true, recurses := true, plainKeys := false, apart := false, narrowed := true }
def ConnectivityReplaysUptoSaid : Prop := connectivityReplaysUptoRow.holds Try.pinned (OpenSpec.upto connectivityReplaysSpec)

/-- 'heartwoodlaw38.ConnectivityPlays', WHERE WHAT IT READS IS OF BULK AT MOST 1048576: true; the input reads as it did. -/
def connectivityPlaysUptoRow : OpenClaim := { program := "ytihcaemheknjbaa", sum := "189492861d92a72c52d7ad6a14a083bb62f117c2963300464802696de9920af8", func := "heartwood/heartwoodlaw38.ConnectivityPlays", spec := "connectivityPlays", unfollowed := true, recurses := true, plainKeys := false, apart := false, narrowed := true }
def ConnectivityPlaysUptoSaid : Prop := connectivityPlaysUptoRow.holds Try.pinned (OpenSpec.upto connectivityPlaysSpec)

/-- 'heartwoodlaw38.ConnectivityUndoes', WHERE WHAT IT READS IS OF BULK AT MOST 1048576: true; the input reads as it did. -/
def connectivityUndoesUptoRow : OpenClaim := { program := "ytihcaemheknjbaa", sum := "189492861d92a72c52d7ad6a14a083bb62f117c2963300464802696de9920af8", func := "heartwood/heartwoodlaw38.ConnectivityUndoes", spec := "connectivityUndoes", unfollowed := true, recurses := true, plainKeys := false, apart := false, narrowed := true }
def ConnectivityUndoesUptoSaid : Prop := connectivityUndoesUptoRow.holds Try.pinned (OpenSpec.upto connectivityUndoesSpec)

/-- 'heartwoodlaw38.ConnectivityBridges', WHERE WHAT IT READS IS OF BULK AT MOST 1048576: true; the input reads as it did. -/
def connectivityBridgesUptoRow : OpenClaim := { program := "ytihcaemheknjbaa", sum := "189492861d92a72c52d7ad6a14a083bb62f117c2963300464802696de9920af8", func := "heartwood/heartwoodlaw38.ConnectivityBridges", spec := "connectivityBridges", unfollowed := true, recurses := true, plainKeys := false, apart := false, narrowed := true }
def ConnectivityBridgesUptoSaid : Prop := connectivityBridgesUptoRow.holds Try.pinned (OpenSpec.upto connectivityBridgesSpec)

end Rows
end Go.Proofs.Ytihcaemheknjbaa
