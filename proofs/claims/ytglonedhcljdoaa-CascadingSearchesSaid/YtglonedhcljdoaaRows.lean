/-
  No cell of these rows narrows 'for every input' (looked for: loops, veiled, ifaces, maps, wideKeys, modest, calm, conditions, laid).
  DERIVED. THE GIVEN ROWS OF THIS SEAT. 4 by the template 'for every input the law returns true; each argument reads behind the call as it read before'; 0 by the template 'total and deterministic' (their statements: YtglonedhcljdoaaTotals.lean).
  GIVEN WITH THE SEED: the statements are not yours to turn. If you find one false, say at which input.
  Laid BY PROGRAM, IN A SANDBOX (cutbox-rows.mjs): the forced cells as the released guide's own fill.sh prints them over the translation be774043753d6b44… (all of the seat's roots in one cut). By AI agents, Wed Nov 11 2026. No macro, syntax, notation, axiom, sorry.
-/
import Derived.Test.YtglonedhcljdoaaChecked
import GoSem.Claim
import GoSem.ClaimJoined
import GoSem.ClaimMapViews
import Derived.JoinedTies
import Derived.KernelRfl
namespace Go.Proofs.Ytglonedhcljdoaa
/- THE CELL 'sum', in the pinned program and in every row, IS THE sha256 OF THE DUMP (.gsa) THAT YtglonedhcljdoaaProg.lean LOADS. Nothing in Lean hashes anything: it is a label: what it is worth is what the hold of that sum in a sandbox is worth. -/
noncomputable def Try.pinned : Pinned := { name := "ytglonedhcljdoaa", sum := "be774043753d6b44f68ca624895139e321dede7bb943d1f65978c8953ad67a1a", checked := Try.checked }
namespace Rows
def none {H : Type} : Left H := { results := [], args := [] }

/-- 'heartwoodlaw29.CascadingSearches': WHATEVER THE INPUT: true; the input reads as it did. -/
def cascadingSearchesSpec : ChangeSpec := { name := "cascadingSearches", fn := fun _ => fun
  | [d1, d2] => { results := [.lit (.bool true)], args := [d1, d2] }
  | _ => none }
def cascadingSearchesRow : OpenClaim := { program := "ytglonedhcljdoaa", sum := "be774043753d6b44f68ca624895139e321dede7bb943d1f65978c8953ad67a1a", func := "heartwood/heartwoodlaw29.CascadingSearches", spec := "cascadingSearches", unfollowed := true, recurses := true, apart := false }
def CascadingSearchesSaid : Prop := cascadingSearchesRow.holds Try.pinned (OpenSpec.ofChange cascadingSearchesSpec)

/-- ITS FALSE NEIGHBOUR: 'it returns false'. Refute it at one input. -/
def cascadingSearchesWrong : ChangeSpec := { name := "cascadingSearches", fn := fun _ => fun
  | [d1, d2] => { results := [.lit (.bool false)], args := [d1, d2] }
  | _ => none }
def CascadingSearchesWrongFalsely : Prop := cascadingSearchesRow.holds Try.pinned (OpenSpec.ofChange cascadingSearchesWrong)

/-- 'heartwoodlaw29.CascadingBounds': WHATEVER THE INPUT: true; the input reads as it did. -/
def cascadingBoundsSpec : ChangeSpec := { name := "cascadingBounds", fn := fun _ => fun
  | [d1, d2, d3] => { results := [.lit (.bool true)], args := [d1, d2, d3] }
  | _ => none }
def cascadingBoundsRow : OpenClaim := { program := "ytglonedhcljdoaa", sum := "be774043753d6b44f68ca624895139e321dede7bb943d1f65978c8953ad67a1a", func := "heartwood/heartwoodlaw29.CascadingBounds", spec := "cascadingBounds", unfollowed := true, recurses := true, apart := false }
def CascadingBoundsSaid : Prop := cascadingBoundsRow.holds Try.pinned (OpenSpec.ofChange cascadingBoundsSpec)

/-- ITS FALSE NEIGHBOUR: 'it returns false'. Refute it at one input. -/
def cascadingBoundsWrong : ChangeSpec := { name := "cascadingBounds", fn := fun _ => fun
  | [d1, d2, d3] => { results := [.lit (.bool false)], args := [d1, d2, d3] }
  | _ => none }
def CascadingBoundsWrongFalsely : Prop := cascadingBoundsRow.holds Try.pinned (OpenSpec.ofChange cascadingBoundsWrong)

/-- 'heartwoodlaw29.CascadingNil': WHATEVER THE INPUT: true; the input reads as it did. -/
def cascadingNilSpec : ChangeSpec := { name := "cascadingNil", fn := fun _ => fun
  | [d] => { results := [.lit (.bool true)], args := [d] }
  | _ => none }
def cascadingNilRow : OpenClaim := { program := "ytglonedhcljdoaa", sum := "be774043753d6b44f68ca624895139e321dede7bb943d1f65978c8953ad67a1a", func := "heartwood/heartwoodlaw29.CascadingNil", spec := "cascadingNil", unfollowed := true, recurses := true, apart := false }
def CascadingNilSaid : Prop := cascadingNilRow.holds Try.pinned (OpenSpec.ofChange cascadingNilSpec)

/-- ITS FALSE NEIGHBOUR: 'it returns false'. Refute it at one input. -/
def cascadingNilWrong : ChangeSpec := { name := "cascadingNil", fn := fun _ => fun
  | [d] => { results := [.lit (.bool false)], args := [d] }
  | _ => none }
def CascadingNilWrongFalsely : Prop := cascadingNilRow.holds Try.pinned (OpenSpec.ofChange cascadingNilWrong)

/-- 'heartwoodlaw29.CascadingLists': WHATEVER THE INPUT: true; the input reads as it did. -/
def cascadingListsSpec : ChangeSpec := { name := "cascadingLists", fn := fun _ => fun
  | [d] => { results := [.lit (.bool true)], args := [d] }
  | _ => none }
def cascadingListsRow : OpenClaim := { program := "ytglonedhcljdoaa", sum := "be774043753d6b44f68ca624895139e321dede7bb943d1f65978c8953ad67a1a", func := "heartwood/heartwoodlaw29.CascadingLists", spec := "cascadingLists", unfollowed := true, recurses := true, apart := false }
def CascadingListsSaid : Prop := cascadingListsRow.holds Try.pinned (OpenSpec.ofChange cascadingListsSpec)

/-- ITS FALSE NEIGHBOUR: 'it returns false'. Refute it at one input. -/
def cascadingListsWrong : ChangeSpec := { name := "cascadingLists", fn := fun _ => fun
  | [d] => { results := [.lit (.bool false)], args := [d] }
  | _ => none }
def CascadingListsWrongFalsely : Prop := cascadingListsRow.holds Try.pinned (OpenSpec.ofChange cascadingListsWrong)

/- THE SECOND FORM. 'bulk': how many values and letters a reading holds, each counted each time it is reached (what is shared counts as often as it is met; a slice's spare places count too). A statement '..UptoSaid' is the law's where the arguments, and the package variables that the reading takes, are together of bulk at most 1048576: NARROWER than '..Said'. Prove '..Said' where nothing that the law and all that it calls make is longer than what came in: it says more and counts as full. Else prove '..UptoSaid'. A law counts once. -/
mutual
def uptoBulk {H : Type} : DataW H → Nat
  | .lit (.string bytes) => bytes.length + 1
  | .lit _ => 1
  | .nil => 1
  | .ptr d => uptoBulk d + 1
  | .slice elems spare => uptoBulkAll elems + uptoBulkAll spare + 1
  | .agg parts => uptoBulkAll parts + 1
  | .iface _ d => uptoBulk d + 1
  | .map entries => uptoBulkEntries entries + 1
  | .held _ => 1
def uptoBulkAll {H : Type} : List (DataW H) → Nat
  | [] => 0
  | d :: r => uptoBulk d + uptoBulkAll r
def uptoBulkEntries {H : Type} : List (Lit × DataW H) → Nat
  | [] => 0
  | x :: r => uptoBulkEntry x + uptoBulkEntries r
def uptoBulkEntry {H : Type} : Lit × DataW H → Nat
  | (.string bytes, d) => bytes.length + uptoBulk d + 1
  | (_, d) => uptoBulk d + 1
 end
def uptoSmall : (H : Type) → List (DataW H) → Bool := fun _ ds => decide (uptoBulkAll ds ≤ 1048576)
def OpenSpec.upto (s : _root_.Go.ChangeSpec) : _root_.Go.OpenSpec := { _root_.Go.OpenSpec.ofChange s with cond := some uptoSmall }

/-- 'heartwoodlaw29.CascadingSearches', WHERE WHAT IT READS IS OF BULK AT MOST 1048576: true; the input reads as it did. -/
def cascadingSearchesUptoRow : OpenClaim := { program := "ytglonedhcljdoaa", sum := "be774043753d6b44f68ca624895139e321dede7bb943d1f65978c8953ad67a1a", func := "heartwood/heartwoodlaw29.CascadingSearches", spec := "cascadingSearches", unfollowed := true, recurses := true, apart := false, narrowed := true }
def CascadingSearchesUptoSaid : Prop := cascadingSearchesUptoRow.holds Try.pinned (OpenSpec.upto cascadingSearchesSpec)

/-- 'heartwoodlaw29.CascadingBounds', WHERE WHAT IT READS IS OF BULK AT MOST 1048576: true; the input reads as it did. -/
def cascadingBoundsUptoRow : OpenClaim := { program := "ytglonedhcljdoaa", sum := "be774043753d6b44f68ca624895139e321dede7bb943d1f65978c8953ad67a1a", func := "heartwood/heartwoodlaw29.CascadingBounds", spec := "cascadingBounds", unfollowed := true, recurses := true, apart := false, narrowed := true }
def CascadingBoundsUptoSaid : Prop := cascadingBoundsUptoRow.holds Try.pinned (OpenSpec.upto cascadingBoundsSpec)

/-- 'heartwoodlaw29.CascadingNil', WHERE WHAT IT READS IS OF BULK AT MOST 1048576: true; the input reads as it did. -/
def cascadingNilUptoRow : OpenClaim := { program := "ytglonedhcljdoaa", sum := "be774043753d6b44f68ca624895139e321dede7bb943d1f65978c8953ad67a1a", func := "heartwood/heartwoodlaw29.CascadingNil", spec := "cascadingNil", unfollowed := true, recurses := true, apart := false, narrowed := true }
def CascadingNilUptoSaid : Prop := cascadingNilUptoRow.holds Try.pinned (OpenSpec.upto cascadingNilSpec)

/-- 'heartwoodlaw29.CascadingLists', WHERE WHAT IT READS IS OF BULK AT MOST 1048576: true; the input reads as it did. -/
def cascadingListsUptoRow : OpenClaim := { program := "ytglonedhcljdoaa", sum := "be774043753d6b44f68ca624895139e321dede7bb943d1f65978c8953ad67a1a", func := "heartwood/heartwoodlaw29.CascadingLists", spec := "cascadingLists", unfollowed := true, recurses := true, apart := false, narrowed := true }
def CascadingListsUptoSaid : Prop := cascadingListsUptoRow.holds Try.pinned (OpenSpec.upto cascadingListsSpec)

end Rows
end Go.Proofs.Ytglonedhcljdoaa
