/-
  No cell of these rows narrows 'for every input' (looked for: loops, veiled, ifaces, maps, wideKeys, modest, calm, conditions, laid).
  DERIVED. THE GIVEN ROWS OF THIS SEAT. 6 by the template 'for every input the law returns true; each argument reads behind the call as it read before'; 0 by the template 'total and deterministic' (their statements: YtpmaoaogkjehcaaTotals.lean).
  GIVEN WITH THE SEED: the statements are not yours to turn. If you find one false, say at which input.
  Laid BY PROGRAM, IN A SANDBOX (cutbox-rows.mjs): the forced cells as the released guide's own fill.sh prints them over the translation e89f71b8edb3cbe4… (all of the seat's roots in one cut). By AI agents, Wed Nov 11 2026. No macro, syntax, notation, axiom, sorry.
-/
import Derived.Test.YtpmaoaogkjehcaaChecked
import GoSem.Claim
import GoSem.ClaimJoined
import GoSem.ClaimMapViews
import Derived.JoinedTies
import Derived.KernelRfl
namespace Go.Proofs.Ytpmaoaogkjehcaa
/- THE CELL 'sum', in the pinned program and in every row, IS THE sha256 OF THE DUMP (.gsa) THAT YtpmaoaogkjehcaaProg.lean LOADS. Nothing in Lean hashes anything: it is a label: what it is worth is what the hold of that sum in a sandbox is worth. -/
noncomputable def Try.pinned : Pinned := { name := "ytpmaoaogkjehcaa", sum := "e89f71b8edb3cbe4b3effb59c7b1fb7cdc0f8efa32cf217a9904c50821f72bee", checked := Try.checked }
namespace Rows
def none {H : Type} : Left H := { results := [], args := [] }

/-- 'heartwoodlaw32.VersiontreeForms': WHATEVER THE INPUT: true; the input reads as it did. -/
def versiontreeFormsSpec : ChangeSpec := { name := "versiontreeForms", fn := fun _ => fun
  | [d1, d2] => { results := [.lit (.bool true)], args := [d1, d2] }
  | _ => none }
def versiontreeFormsRow : OpenClaim := { program := "ytpmaoaogkjehcaa", sum := "e89f71b8edb3cbe4b3effb59c7b1fb7cdc0f8efa32cf217a9904c50821f72bee", func := "heartwood/heartwoodlaw32.VersiontreeForms", spec := "versiontreeForms", unfollowed := true, recurses := true, apart := false }
def VersiontreeFormsSaid : Prop := versiontreeFormsRow.holds Try.pinned (OpenSpec.ofChange versiontreeFormsSpec)

/-- ITS FALSE NEIGHBOUR: 'it returns false'. Refute it at one input. -/
def versiontreeFormsWrong : ChangeSpec := { name := "versiontreeForms", fn := fun _ => fun
  | [d1, d2] => { results := [.lit (.bool false)], args := [d1, d2] }
  | _ => none }
def VersiontreeFormsWrongFalsely : Prop := versiontreeFormsRow.holds Try.pinned (OpenSpec.ofChange versiontreeFormsWrong)

/-- 'heartwoodlaw32.VersiontreeOrder': WHATEVER THE INPUT: true; the input reads as it did. -/
def versiontreeOrderSpec : ChangeSpec := { name := "versiontreeOrder", fn := fun _ => fun
  | [d1, d2, d3, d4] => { results := [.lit (.bool true)], args := [d1, d2, d3, d4] }
  | _ => none }
def versiontreeOrderRow : OpenClaim := { program := "ytpmaoaogkjehcaa", sum := "e89f71b8edb3cbe4b3effb59c7b1fb7cdc0f8efa32cf217a9904c50821f72bee", func := "heartwood/heartwoodlaw32.VersiontreeOrder", spec := "versiontreeOrder", unfollowed := true, recurses := true, apart := false }
def VersiontreeOrderSaid : Prop := versiontreeOrderRow.holds Try.pinned (OpenSpec.ofChange versiontreeOrderSpec)

/-- ITS FALSE NEIGHBOUR: 'it returns false'. Refute it at one input. -/
def versiontreeOrderWrong : ChangeSpec := { name := "versiontreeOrder", fn := fun _ => fun
  | [d1, d2, d3, d4] => { results := [.lit (.bool false)], args := [d1, d2, d3, d4] }
  | _ => none }
def VersiontreeOrderWrongFalsely : Prop := versiontreeOrderRow.holds Try.pinned (OpenSpec.ofChange versiontreeOrderWrong)

/-- 'heartwoodlaw32.VersiontreeIndex': WHATEVER THE INPUT: true; the input reads as it did. -/
def versiontreeIndexSpec : ChangeSpec := { name := "versiontreeIndex", fn := fun _ => fun
  | [d1, d2, d3] => { results := [.lit (.bool true)], args := [d1, d2, d3] }
  | _ => none }
def versiontreeIndexRow : OpenClaim := { program := "ytpmaoaogkjehcaa", sum := "e89f71b8edb3cbe4b3effb59c7b1fb7cdc0f8efa32cf217a9904c50821f72bee", func := "heartwood/heartwoodlaw32.VersiontreeIndex", spec := "versiontreeIndex", unfollowed := true, recurses := true, apart := false }
def VersiontreeIndexSaid : Prop := versiontreeIndexRow.holds Try.pinned (OpenSpec.ofChange versiontreeIndexSpec)

/-- ITS FALSE NEIGHBOUR: 'it returns false'. Refute it at one input. -/
def versiontreeIndexWrong : ChangeSpec := { name := "versiontreeIndex", fn := fun _ => fun
  | [d1, d2, d3] => { results := [.lit (.bool false)], args := [d1, d2, d3] }
  | _ => none }
def VersiontreeIndexWrongFalsely : Prop := versiontreeIndexRow.holds Try.pinned (OpenSpec.ofChange versiontreeIndexWrong)

/-- 'heartwoodlaw32.VersiontreeNearest': WHATEVER THE INPUT: true; the input reads as it did. -/
def versiontreeNearestSpec : ChangeSpec := { name := "versiontreeNearest", fn := fun _ => fun
  | [d1, d2, d3] => { results := [.lit (.bool true)], args := [d1, d2, d3] }
  | _ => none }
def versiontreeNearestRow : OpenClaim := { program := "ytpmaoaogkjehcaa", sum := "e89f71b8edb3cbe4b3effb59c7b1fb7cdc0f8efa32cf217a9904c50821f72bee", func := "heartwood/heartwoodlaw32.VersiontreeNearest", spec := "versiontreeNearest", unfollowed := true, recurses := true, apart := false }
def VersiontreeNearestSaid : Prop := versiontreeNearestRow.holds Try.pinned (OpenSpec.ofChange versiontreeNearestSpec)

/-- ITS FALSE NEIGHBOUR: 'it returns false'. Refute it at one input. -/
def versiontreeNearestWrong : ChangeSpec := { name := "versiontreeNearest", fn := fun _ => fun
  | [d1, d2, d3] => { results := [.lit (.bool false)], args := [d1, d2, d3] }
  | _ => none }
def VersiontreeNearestWrongFalsely : Prop := versiontreeNearestRow.holds Try.pinned (OpenSpec.ofChange versiontreeNearestWrong)

/-- 'heartwoodlaw32.VersiontreeEuler': WHATEVER THE INPUT: true; the input reads as it did. -/
def versiontreeEulerSpec : ChangeSpec := { name := "versiontreeEuler", fn := fun _ => fun
  | [d1, d2, d3] => { results := [.lit (.bool true)], args := [d1, d2, d3] }
  | _ => none }
def versiontreeEulerRow : OpenClaim := { program := "ytpmaoaogkjehcaa", sum := "e89f71b8edb3cbe4b3effb59c7b1fb7cdc0f8efa32cf217a9904c50821f72bee", func := "heartwood/heartwoodlaw32.VersiontreeEuler", spec := "versiontreeEuler", unfollowed := true, recurses := true, apart := false }
def VersiontreeEulerSaid : Prop := versiontreeEulerRow.holds Try.pinned (OpenSpec.ofChange versiontreeEulerSpec)

/-- ITS FALSE NEIGHBOUR: 'it returns false'. Refute it at one input. -/
def versiontreeEulerWrong : ChangeSpec := { name := "versiontreeEuler", fn := fun _ => fun
  | [d1, d2, d3] => { results := [.lit (.bool false)], args := [d1, d2, d3] }
  | _ => none }
def VersiontreeEulerWrongFalsely : Prop := versiontreeEulerRow.holds Try.pinned (OpenSpec.ofChange versiontreeEulerWrong)

/-- 'heartwoodlaw32.VersiontreeGrows': WHATEVER THE INPUT: true; the input reads as it did. -/
def versiontreeGrowsSpec : ChangeSpec := { name := "versiontreeGrows", fn := fun _ => fun
  | [d1, d2, d3, d4] => { results := [.lit (.bool true)], args := [d1, d2, d3, d4] }
  | _ => none }
def versiontreeGrowsRow : OpenClaim := { program := "ytpmaoaogkjehcaa", sum := "e89f71b8edb3cbe4b3effb59c7b1fb7cdc0f8efa32cf217a9904c50821f72bee", func := "heartwood/heartwoodlaw32.VersiontreeGrows", spec := "versiontreeGrows", unfollowed := true, recurses := true, apart := false }
def VersiontreeGrowsSaid : Prop := versiontreeGrowsRow.holds Try.pinned (OpenSpec.ofChange versiontreeGrowsSpec)

/-- ITS FALSE NEIGHBOUR: 'it returns false'. Refute it at one input. -/
def versiontreeGrowsWrong : ChangeSpec := { name := "versiontreeGrows", fn := fun _ => fun
  | [d1, d2, d3, d4] => { results := [.lit (.bool false)], args := [d1, d2, d3, d4] }
  | _ => none }
def VersiontreeGrowsWrongFalsely : Prop := versiontreeGrowsRow.holds Try.pinned (OpenSpec.ofChange versiontreeGrowsWrong)

/- THE SECOND FORM. 'bulk': how many values and letters a reading holds, each counted each time it is reached (what is shared counts as often as it is met; a slice's spare places count too). A statement '..UptoSaid' is the law's where the arguments, and the package variables that the reading takes, are together of bulk at most 1048576: NARROWER than '..Said'. Prove '..Said' where nothing that the law and all that it calls make is longer than what came in: it says more and counts as full. Else prove '..UptoSaid'. A law counts once. -/
mutual
def uptoBulk {H : Type} : DataW H → Nat
  | .lit (.string bytes) => bytes.length + 1
  | .lit _ => 1
  | .nil => 1
  | .ptr d => uptoBulk d + 1
  | .slice elems spare => uptoBulkAll elems + uptoBulkAll spare + 1
  | .agg parts => uptoBulkAll parts + 1
  | .iface _ d => uptoBulk d + 1
  | .map entries => uptoBulkEntries entries + 1
  | .held _ => 1
def uptoBulkAll {H : Type} : List (DataW H) → Nat
  | [] => 0
  | d :: r => uptoBulk d + uptoBulkAll r
def uptoBulkEntries {H : Type} : List (Lit × DataW H) → Nat
  | [] => 0
  | x :: r => uptoBulkEntry x + uptoBulkEntries r
def uptoBulkEntry {H : Type} : Lit × DataW H → Nat
  | (.string bytes, d) => bytes.length + uptoBulk d + 1
  | (_, d) => uptoBulk d + 1
 end
def uptoSmall : (H : Type) → List (DataW H) → Bool := fun _ ds => decide (uptoBulkAll ds ≤ 1048576)
def OpenSpec.upto (s : _root_.Go.ChangeSpec) : _root_.Go.OpenSpec := { _root_.Go.OpenSpec.ofChange s with cond := some uptoSmall }

/-- 'heartwoodlaw32.VersiontreeForms', WHERE WHAT IT READS IS OF BULK AT MOST 1048576: true; the input reads as it did. -/
def versiontreeFormsUptoRow : OpenClaim := { program := "ytpmaoaogkjehcaa", sum := "e89f71b8edb3cbe4b3effb59c7b1fb7cdc0f8efa32cf217a9904c50821f72bee", func := "heartwood/heartwoodlaw32.VersiontreeForms", spec := "versiontreeForms", unfollowed := true, recurses := true, apart := false, narrowed := true }
def VersiontreeFormsUptoSaid : Prop := versiontreeFormsUptoRow.holds Try.pinned (OpenSpec.upto versiontreeFormsSpec)

/-- 'heartwoodlaw32.VersiontreeOrder', WHERE WHAT IT READS IS OF BULK AT MOST 1048576: true; the input reads as it did. -/
def versiontreeOrderUptoRow : OpenClaim := { program := "ytpmaoaogkjehcaa", sum := "e89f71b8edb3cbe4b3effb59c7b1fb7cdc0f8efa32cf217a9904c50821f72bee", func := "heartwood/heartwoodlaw32.VersiontreeOrder", spec := "versiontreeOrder", unfollowed := true, recurses := true, apart := false, narrowed := true }
def VersiontreeOrderUptoSaid : Prop := versiontreeOrderUptoRow.holds Try.pinned (OpenSpec.upto versiontreeOrderSpec)

/-- 'heartwoodlaw32.VersiontreeIndex', WHERE WHAT IT READS IS OF BULK AT MOST 1048576: true; the input reads as it did. -/
def versiontreeIndexUptoRow : OpenClaim := { program := "ytpmaoaogkjehcaa", sum := "e89f71b8edb3cbe4b3effb59c7b1fb7cdc0f8efa32cf217a9904c50821f72bee", func := "heartwood/heartwoodlaw32.VersiontreeIndex", spec := "versiontreeIndex", unfollowed := true, recurses := true, apart := false, narrowed := true }
def VersiontreeIndexUptoSaid : Prop := versiontreeIndexUptoRow.holds Try.pinned (OpenSpec.upto versiontreeIndexSpec)

/-- 'heartwoodlaw32.VersiontreeNearest', WHERE WHAT IT READS IS OF BULK AT MOST 1048576: true; the input reads as it did. -/
def versiontreeNearestUptoRow : OpenClaim := { program := "ytpmaoaogkjehcaa", sum := "e89f71b8edb3cbe4b3effb59c7b1fb7cdc0f8efa32cf217a9904c50821f72bee", func := "heartwood/heartwoodlaw32.VersiontreeNearest", spec := "versiontreeNearest", unfollowed := true, recurses := true, apart := false, narrowed := true }
def VersiontreeNearestUptoSaid : Prop := versiontreeNearestUptoRow.holds Try.pinned (OpenSpec.upto versiontreeNearestSpec)

/-- 'heartwoodlaw32.VersiontreeEuler', WHERE WHAT IT READS IS OF BULK AT MOST 1048576: true; the input reads as it did. -/
def versiontreeEulerUptoRow : OpenClaim := { program := "ytpmaoaogkjehcaa", sum := "e89f71b8edb3cbe4b3effb59c7b1fb7cdc0f8efa32cf217a9904c50821f72bee", func := "heartwood/heartwoodlaw32.VersiontreeEuler", spec := "versiontreeEuler", unfollowed := true, recurses := true, apart := false, narrowed := true }
def VersiontreeEulerUptoSaid : Prop := versiontreeEulerUptoRow.holds Try.pinned (OpenSpec.upto versiontreeEulerSpec)

/-- 'heartwoodlaw32.VersiontreeGrows', WHERE WHAT IT READS IS OF BULK AT MOST 1048576: true; the input reads as it did. -/
def versiontreeGrowsUptoRow : OpenClaim := { program := "ytpmaoaogkjehcaa", sum := "e89f71b8edb3cbe4b3effb59c7b1fb7cdc0f8efa32cf217a9904c50821f72bee", func := "heartwood/heartwoodlaw32.VersiontreeGrows", spec := "versiontreeGrows", unfollowed := true, recurses := true, apart := false, narrowed := true }
def VersiontreeGrowsUptoSaid : Prop := versiontreeGrowsUptoRow.holds Try.pinned (OpenSpec.upto versiontreeGrowsSpec)

end Rows
end Go.Proofs.Ytpmaoaogkjehcaa
