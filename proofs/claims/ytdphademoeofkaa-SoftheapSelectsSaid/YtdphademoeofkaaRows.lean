/-
  No cell of these rows narrows 'for every input' (looked for: loops, veiled, ifaces, maps, wideKeys, modest, calm, conditions, laid).
  DERIVED. THE GIVEN ROWS OF THIS SEAT. 4 by the template 'for every input the law returns true; each argument reads behind the call as it read before'; 0 by the template 'total and deterministic' (their statements: YtdphademoeofkaaTotals.lean).
  GIVEN WITH THE SEED: the statements are not yours to turn. If you find one false, say at which input.
  Laid BY PROGRAM, IN A SANDBOX (cutbox-rows.mjs): the forced cells as the released guide's own fill.sh prints them over the translation d00f2a0e2bee3bd4… (all of the seat's roots in one cut). By AI agents, Wed Nov 11 2026. No macro, syntax, notation, axiom, sorry.
-/
import Derived.Test.YtdphademoeofkaaChecked
import GoSem.Claim
import GoSem.ClaimJoined
import GoSem.ClaimMapViews
import Derived.JoinedTies
import Derived.KernelRfl
namespace Go.Proofs.Ytdphademoeofkaa
/- THE CELL 'sum', in the pinned program and in every row, IS THE sha256 OF THE DUMP (.gsa) THAT YtdphademoeofkaaProg.lean LOADS. Nothing in Lean hashes anything: it is a label: what it is worth is what the hold of that sum in a sandbox is worth. -/
noncomputable def Try.pinned : Pinned := { name := "ytdphademoeofkaa", sum := "d00f2a0e2bee3bd443a5dca6d7ce0444c49bb60e677b9f02273cbf931b026ca2", checked := Try.checked }
namespace Rows
def none {H : Type} : Left H := { results := [], args := [] }

/-- 'heartwoodlaw33.SoftheapErrors': WHATEVER THE INPUT: true; the input reads as it did. -/
def softheapErrorsSpec : ChangeSpec := { name := "softheapErrors", fn := fun _ => fun
  | [d1, d2, d3] => { results := [.lit (.bool true)], args := [d1, d2, d3] }
  | _ => none }
def softheapErrorsRow : OpenClaim := { program := "ytdphademoeofkaa", sum := "d00f2a0e2bee3bd443a5dca6d7ce0444c49bb60e677b9f02273cbf931b026ca2", func := "heartwood/heartwoodlaw33.SoftheapErrors", spec := "softheapErrors", unfollowed := true, recurses := true, apart := false }
def SoftheapErrorsSaid : Prop := softheapErrorsRow.holds Try.pinned (OpenSpec.ofChange softheapErrorsSpec)

/-- ITS FALSE NEIGHBOUR: 'it returns false'. Refute it at one input. -/
def softheapErrorsWrong : ChangeSpec := { name := "softheapErrors", fn := fun _ => fun
  | [d1, d2, d3] => { results := [.lit (.bool false)], args := [d1, d2, d3] }
  | _ => none }
def SoftheapErrorsWrongFalsely : Prop := softheapErrorsRow.holds Try.pinned (OpenSpec.ofChange softheapErrorsWrong)

/-- 'heartwoodlaw33.SoftheapRuns': WHATEVER THE INPUT: true; the input reads as it did. -/
def softheapRunsSpec : ChangeSpec := { name := "softheapRuns", fn := fun _ => fun
  | [d1, d2] => { results := [.lit (.bool true)], args := [d1, d2] }
  | _ => none }
def softheapRunsRow : OpenClaim := { program := "ytdphademoeofkaa", sum := "d00f2a0e2bee3bd443a5dca6d7ce0444c49bb60e677b9f02273cbf931b026ca2", func := "heartwood/heartwoodlaw33.SoftheapRuns", spec := "softheapRuns", unfollowed := true, recurses := true, apart := false }
def SoftheapRunsSaid : Prop := softheapRunsRow.holds Try.pinned (OpenSpec.ofChange softheapRunsSpec)

/-- ITS FALSE NEIGHBOUR: 'it returns false'. Refute it at one input. -/
def softheapRunsWrong : ChangeSpec := { name := "softheapRuns", fn := fun _ => fun
  | [d1, d2] => { results := [.lit (.bool false)], args := [d1, d2] }
  | _ => none }
def SoftheapRunsWrongFalsely : Prop := softheapRunsRow.holds Try.pinned (OpenSpec.ofChange softheapRunsWrong)

/-- 'heartwoodlaw33.SoftheapHalves': WHATEVER THE INPUT: true; the input reads as it did. -/
def softheapHalvesSpec : ChangeSpec := { name := "softheapHalves", fn := fun _ => fun
  | [d1, d2] => { results := [.lit (.bool true)], args := [d1, d2] }
  | _ => none }
def softheapHalvesRow : OpenClaim := { program := "ytdphademoeofkaa", sum := "d00f2a0e2bee3bd443a5dca6d7ce0444c49bb60e677b9f02273cbf931b026ca2", func := "heartwood/heartwoodlaw33.SoftheapHalves", spec := "softheapHalves", unfollowed := true, recurses := true, apart := false }
def SoftheapHalvesSaid : Prop := softheapHalvesRow.holds Try.pinned (OpenSpec.ofChange softheapHalvesSpec)

/-- ITS FALSE NEIGHBOUR: 'it returns false'. Refute it at one input. -/
def softheapHalvesWrong : ChangeSpec := { name := "softheapHalves", fn := fun _ => fun
  | [d1, d2] => { results := [.lit (.bool false)], args := [d1, d2] }
  | _ => none }
def SoftheapHalvesWrongFalsely : Prop := softheapHalvesRow.holds Try.pinned (OpenSpec.ofChange softheapHalvesWrong)

/-- 'heartwoodlaw33.SoftheapSelects': WHATEVER THE INPUT: true; the input reads as it did. -/
def softheapSelectsSpec : ChangeSpec := { name := "softheapSelects", fn := fun _ => fun
  | [d1, d2] => { results := [.lit (.bool true)], args := [d1, d2] }
  | _ => none }
def softheapSelectsRow : OpenClaim := { program := "ytdphademoeofkaa", sum := "d00f2a0e2bee3bd443a5dca6d7ce0444c49bb60e677b9f02273cbf931b026ca2", func := "heartwood/heartwoodlaw33.SoftheapSelects", spec := "softheapSelects", unfollowed := true, recurses := true, apart := false }
def SoftheapSelectsSaid : Prop := softheapSelectsRow.holds Try.pinned (OpenSpec.ofChange softheapSelectsSpec)

/-- ITS FALSE NEIGHBOUR: 'it returns false'. Refute it at one input. -/
def softheapSelectsWrong : ChangeSpec := { name := "softheapSelects", fn := fun _ => fun
  | [d1, d2] => { results := [.lit (.bool false)], args := [d1, d2] }
  | _ => none }
def SoftheapSelectsWrongFalsely : Prop := softheapSelectsRow.holds Try.pinned (OpenSpec.ofChange softheapSelectsWrong)

/- THE SECOND FORM. 'bulk': how many values and letters a reading holds, each counted each time it is reached (what is shared counts as often as it is met; a slice's spare places count too). A statement '..UptoSaid' is the law's where the arguments, and the package variables that the reading takes, are together of bulk at most 1048576: NARROWER than '..Said'. Prove '..Said' where nothing that the law and all that it calls make is longer than what came in: it says more and counts as full. Else prove '..UptoSaid'. A law counts once. -/
mutual
def uptoBulk {H : Type} : DataW H → Nat
  | .lit (.string bytes) => bytes.length + 1
  | .lit _ => 1
  | .nil => 1
  | .ptr d => uptoBulk d + 1
  | .slice elems spare => uptoBulkAll elems + uptoBulkAll spare + 1
  | .agg parts => uptoBulkAll parts + 1
  | .iface _ d => uptoBulk d + 1
  | .map entries => uptoBulkEntries entries + 1
  | .held _ => 1
def uptoBulkAll {H : Type} : List (DataW H) → Nat
  | [] => 0
  | d :: r => uptoBulk d + uptoBulkAll r
def uptoBulkEntries {H : Type} : List (Lit × DataW H) → Nat
  | [] => 0
  | x :: r => uptoBulkEntry x + uptoBulkEntries r
def uptoBulkEntry {H : Type} : Lit × DataW H → Nat
  | (.string bytes, d) => bytes.length + uptoBulk d + 1
  | (_, d) => uptoBulk d + 1
 end
def uptoSmall : (H : Type) → List (DataW H) → Bool := fun _ ds => decide (uptoBulkAll ds ≤ 1048576)
def OpenSpec.upto (s : _root_.Go.ChangeSpec) : _root_.Go.OpenSpec := { _root_.Go.OpenSpec.ofChange s with cond := some uptoSmall }

/-- 'heartwoodlaw33.SoftheapErrors', WHERE WHAT IT READS IS OF BULK AT MOST 1048576: true; the input reads as it did. -/
def softheapErrorsUptoRow : OpenClaim := { program := "ytdphademoeofkaa", sum := "d00f2a0e2bee3bd443a5dca6d7ce0444c49bb60e677b9f02273cbf931b026ca2", func := "heartwood/heartwoodlaw33.SoftheapErrors", spec := "softheapErrors", unfollowed := true, recurses := true, apart := false, narrowed := true }
def SoftheapErrorsUptoSaid : Prop := softheapErrorsUptoRow.holds Try.pinned (OpenSpec.upto softheapErrorsSpec)

/-- 'heartwoodlaw33.SoftheapRuns', WHERE WHAT IT READS IS OF BULK AT MOST 1048576: true; the input reads as it did. -/
def softheapRunsUptoRow : OpenClaim := { program := "ytdphademoeofkaa", sum := "d00f2a0e2bee3bd443a5dca6d7ce0444c49bb60e677b9f02273cbf931b026ca2", func := "heartwood/heartwoodlaw33.SoftheapRuns", spec := "softheapRuns", unfollowed := true, recurses := true, apart := false, narrowed := true }
def SoftheapRunsUptoSaid : Prop := softheapRunsUptoRow.holds Try.pinned (OpenSpec.upto softheapRunsSpec)

/-- 'heartwoodlaw33.SoftheapHalves', WHERE WHAT IT READS IS OF BULK AT MOST 1048576: true; the input reads as it did. -/
def softheapHalvesUptoRow : OpenClaim := { program := "ytdphademoeofkaa", sum := "d00f2a0e2bee3bd443a5dca6d7ce0444c49bb60e677b9f02273cbf931b026ca2", func := "heartwood/heartwoodlaw33.SoftheapHalves", spec := "softheapHalves", unfollowed := true, recurses := true, apart := false, narrowed := true }
def SoftheapHalvesUptoSaid : Prop := softheapHalvesUptoRow.holds Try.pinned (OpenSpec.upto softheapHalvesSpec)

/-- 'heartwoodlaw33.SoftheapSelects', WHERE WHAT IT READS IS OF BULK AT MOST 1048576: true; the input reads as it did. -/
def softheapSelectsUptoRow : OpenClaim := { program := "ytdphademoeofkaa", sum := "d00f2a0e2bee3bd443a5dca6d7ce0444c49bb60e677b9f02273cbf931b026ca2", func := "heartwood/heartwoodlaw33.SoftheapSelects", spec := "softheapSelects", unfollowed := true, recurses := true, apart := false, narrowed := true }
def SoftheapSelectsUptoSaid : Prop := softheapSelectsUptoRow.holds Try.pinned (OpenSpec.upto softheapSelectsSpec)

end Rows
end Go.Proofs.Ytdphademoeofkaa
