/-
  No cell of these rows narrows 'for every input' (looked for: loops, veiled, ifaces, maps, wideKeys, modest, calm, conditions, laid).
  DERIVED. THE GIVEN ROWS OF THIS SEAT. 7 by the template 'for every input the law returns true; each argument reads behind the call as it read before'; 0 by the template 'total and deterministic' (their statements: YtkmnnfflibamnaaTotals.lean).
  GIVEN WITH THE SEED: the statements are not yours to turn. If you find one false, say at which input.
  Laid BY PROGRAM, IN A SANDBOX (cutbox-rows.mjs): the forced cells as the released guide's own fill.sh prints them over the translation c69c0da3ec06e3cf… (all of the seat's roots in one cut). By AI agents, Wed Nov 11 2026. No macro, syntax, notation, axiom, sorry.
-/
import Derived.Test.YtkmnnfflibamnaaChecked
import GoSem.Claim
import GoSem.ClaimJoined
import GoSem.ClaimMapViews
import Derived.JoinedTies
import Derived.KernelRfl
namespace Go.Proofs.Ytkmnnfflibamnaa
/- THE CELL 'sum', in the pinned program and in every row, IS THE sha256 OF THE DUMP (.gsa) THAT YtkmnnfflibamnaaProg.lean LOADS. Nothing in Lean hashes anything: it is a label: what it is worth is what the hold of that sum in a sandbox is worth. -/
noncomputable def Try.pinned : Pinned := { name := "ytkmnnfflibamnaa", sum := "c69c0da3ec06e3cfd834a7f217eef78f3b2b46e004d9faf6367b28d23d5a5f57", checked := Try.checked }
namespace Rows
def none {H : Type} : Left H := { results := [], args := [] }

/-- 'heartwoodlaw44.BuffertreeCheap': WHATEVER THE INPUT: true; the input reads as it did. -/
def buffertreeCheapSpec : ChangeSpec := { name := "buffertreeCheap", fn := fun _ => fun
  | [d1, d2, d3, d4] => { results := [.lit (.bool true)], args := [d1, d2, d3, d4] }
  | _ => none }
def buffertreeCheapRow : OpenClaim := { program := "ytkmnnfflibamnaa", sum := "c69c0da3ec06e3cfd834a7f217eef78f3b2b46e004d9faf6367b28d23d5a5f57", func := "heartwood/heartwoodlaw44.BuffertreeCheap", spec := "buffertreeCheap", inPlace := ["slices.overlaps[heartwood/buffertree.entry]"], unfollowed := true, recurses := true, apart := false }
def BuffertreeCheapSaid : Prop := buffertreeCheapRow.holds Try.pinned (OpenSpec.ofChange buffertreeCheapSpec)

/-- ITS FALSE NEIGHBOUR: 'it returns false'. Refute it at one input. -/
def buffertreeCheapWrong : ChangeSpec := { name := "buffertreeCheap", fn := fun _ => fun
  | [d1, d2, d3, d4] => { results := [.lit (.bool false)], args := [d1, d2, d3, d4] }
  | _ => none }
def BuffertreeCheapWrongFalsely : Prop := buffertreeCheapRow.holds Try.pinned (OpenSpec.ofChange buffertreeCheapWrong)

/-- 'heartwoodlaw44.BuffertreeOrders': WHATEVER THE INPUT: true; the input reads as it did. -/
def buffertreeOrdersSpec : ChangeSpec := { name := "buffertreeOrders", fn := fun _ => fun
  | [d1, d2, d3] => { results := [.lit (.bool true)], args := [d1, d2, d3] }
  | _ => none }
def buffertreeOrdersRow : OpenClaim := { program := "ytkmnnfflibamnaa", sum := "c69c0da3ec06e3cfd834a7f217eef78f3b2b46e004d9faf6367b28d23d5a5f57", func := "heartwood/heartwoodlaw44.BuffertreeOrders", spec := "buffertreeOrders", inPlace := ["slices.overlaps[heartwood/buffertree.entry]"], unfollowed := true, recurses := true, apart := false }
def BuffertreeOrdersSaid : Prop := buffertreeOrdersRow.holds Try.pinned (OpenSpec.ofChange buffertreeOrdersSpec)

/-- ITS FALSE NEIGHBOUR: 'it returns false'. Refute it at one input. -/
def buffertreeOrdersWrong : ChangeSpec := { name := "buffertreeOrders", fn := fun _ => fun
  | [d1, d2, d3] => { results := [.lit (.bool false)], args := [d1, d2, d3] }
  | _ => none }
def BuffertreeOrdersWrongFalsely : Prop := buffertreeOrdersRow.holds Try.pinned (OpenSpec.ofChange buffertreeOrdersWrong)

/-- 'heartwoodlaw44.BuffertreeSorts': WHATEVER THE INPUT: true; the input reads as it did. -/
def buffertreeSortsSpec : ChangeSpec := { name := "buffertreeSorts", fn := fun _ => fun
  | [d1, d2, d3] => { results := [.lit (.bool true)], args := [d1, d2, d3] }
  | _ => none }
def buffertreeSortsRow : OpenClaim := { program := "ytkmnnfflibamnaa", sum := "c69c0da3ec06e3cfd834a7f217eef78f3b2b46e004d9faf6367b28d23d5a5f57", func := "heartwood/heartwoodlaw44.BuffertreeSorts", spec := "buffertreeSorts", inPlace := ["slices.overlaps[heartwood/buffertree.entry]"], unfollowed := true, recurses := true, apart := false }
def BuffertreeSortsSaid : Prop := buffertreeSortsRow.holds Try.pinned (OpenSpec.ofChange buffertreeSortsSpec)

/-- ITS FALSE NEIGHBOUR: 'it returns false'. Refute it at one input. -/
def buffertreeSortsWrong : ChangeSpec := { name := "buffertreeSorts", fn := fun _ => fun
  | [d1, d2, d3] => { results := [.lit (.bool false)], args := [d1, d2, d3] }
  | _ => none }
def BuffertreeSortsWrongFalsely : Prop := buffertreeSortsRow.holds Try.pinned (OpenSpec.ofChange buffertreeSortsWrong)

/-- 'heartwoodlaw44.BuffertreePlays': WHATEVER THE INPUT: true; the input reads as it did. -/
def buffertreePlaysSpec : ChangeSpec := { name := "buffertreePlays", fn := fun _ => fun
  | [d1, d2, d3] => { results := [.lit (.bool true)], args := [d1, d2, d3] }
  | _ => none }
def buffertreePlaysRow : OpenClaim := { program := "ytkmnnfflibamnaa", sum := "c69c0da3ec06e3cfd834a7f217eef78f3b2b46e004d9faf6367b28d23d5a5f57", func := "heartwood/heartwoodlaw44.BuffertreePlays", spec := "buffertreePlays", inPlace := ["slices.overlaps[heartwood/buffertree.entry]"], unfollowed := true, recurses := true, apart := false }
def BuffertreePlaysSaid : Prop := buffertreePlaysRow.holds Try.pinned (OpenSpec.ofChange buffertreePlaysSpec)

/-- ITS FALSE NEIGHBOUR: 'it returns false'. Refute it at one input. -/
def buffertreePlaysWrong : ChangeSpec := { name := "buffertreePlays", fn := fun _ => fun
  | [d1, d2, d3] => { results := [.lit (.bool false)], args := [d1, d2, d3] }
  | _ => none }
def BuffertreePlaysWrongFalsely : Prop := buffertreePlaysRow.holds Try.pinned (OpenSpec.ofChange buffertreePlaysWrong)

/-- 'heartwoodlaw44.BuffertreeLists': WHATEVER THE INPUT: true; the input reads as it did. -/
def buffertreeListsSpec : ChangeSpec := { name := "buffertreeLists", fn := fun _ => fun
  | [d1, d2, d3] => { results := [.lit (.bool true)], args := [d1, d2, d3] }
  | _ => none }
def buffertreeListsRow : OpenClaim := { program := "ytkmnnfflibamnaa", sum := "c69c0da3ec06e3cfd834a7f217eef78f3b2b46e004d9faf6367b28d23d5a5f57", func := "heartwood/heartwoodlaw44.BuffertreeLists", spec := "buffertreeLists", inPlace := ["slices.overlaps[heartwood/buffertree.entry]"], unfollowed := true, recurses := true, apart := false }
def BuffertreeListsSaid : Prop := buffertreeListsRow.holds Try.pinned (OpenSpec.ofChange buffertreeListsSpec)

/-- ITS FALSE NEIGHBOUR: 'it returns false'. Refute it at one input. -/
def buffertreeListsWrong : ChangeSpec := { name := "buffertreeLists", fn := fun _ => fun
  | [d1, d2, d3] => { results := [.lit (.bool false)], args := [d1, d2, d3] }
  | _ => none }
def BuffertreeListsWrongFalsely : Prop := buffertreeListsRow.holds Try.pinned (OpenSpec.ofChange buffertreeListsWrong)

/-- 'heartwoodlaw44.BuffertreeHas': WHATEVER THE INPUT: true; the input reads as it did. -/
def buffertreeHasSpec : ChangeSpec := { name := "buffertreeHas", fn := fun _ => fun
  | [d1, d2, d3, d4] => { results := [.lit (.bool true)], args := [d1, d2, d3, d4] }
  | _ => none }
def buffertreeHasRow : OpenClaim := { program := "ytkmnnfflibamnaa", sum := "c69c0da3ec06e3cfd834a7f217eef78f3b2b46e004d9faf6367b28d23d5a5f57", func := "heartwood/heartwoodlaw44.BuffertreeHas", spec := "buffertreeHas", inPlace := ["slices.overlaps[heartwood/buffertree.entry]"], unfollowed := true, recurses := true, apart := false }
def BuffertreeHasSaid : Prop := buffertreeHasRow.holds Try.pinned (OpenSpec.ofChange buffertreeHasSpec)

/-- ITS FALSE NEIGHBOUR: 'it returns false'. Refute it at one input. -/
def buffertreeHasWrong : ChangeSpec := { name := "buffertreeHas", fn := fun _ => fun
  | [d1, d2, d3, d4] => { results := [.lit (.bool false)], args := [d1, d2, d3, d4] }
  | _ => none }
def BuffertreeHasWrongFalsely : Prop := buffertreeHasRow.holds Try.pinned (OpenSpec.ofChange buffertreeHasWrong)

/-- 'heartwoodlaw44.BuffertreeApart': WHATEVER THE INPUT: true; the input reads as it did. -/
def buffertreeApartSpec : ChangeSpec := { name := "buffertreeApart", fn := fun _ => fun
  | [d1, d2, d3] => { results := [.lit (.bool true)], args := [d1, d2, d3] }
  | _ => none }
def buffertreeApartRow : OpenClaim := { program := "ytkmnnfflibamnaa", sum := "c69c0da3ec06e3cfd834a7f217eef78f3b2b46e004d9faf6367b28d23d5a5f57", func := "heartwood/heartwoodlaw44.BuffertreeApart", spec := "buffertreeApart", inPlace := ["slices.overlaps[heartwood/buffertree.entry]"], unfollowed := true, recurses := true, apart := false }
def BuffertreeApartSaid : Prop := buffertreeApartRow.holds Try.pinned (OpenSpec.ofChange buffertreeApartSpec)

/-- ITS FALSE NEIGHBOUR: 'it returns false'. Refute it at one input. -/
def buffertreeApartWrong : ChangeSpec := { name := "buffertreeApart", fn := fun _ => fun
  | [d1, d2, d3] => { results := [.lit (.bool false)], args := [d1, d2, d3] }
  | _ => none }
def BuffertreeApartWrongFalsely : Prop := buffertreeApartRow.holds Try.pinned (OpenSpec.ofChange buffertreeApartWrong)

/- THE SECOND FORM. 'bulk': how many values and letters a reading holds, each counted each time it is reached (what is shared counts as often as it is met; a slice's spare places count too). A statement '..UptoSaid' is the law's where the arguments, and the package variables that the reading takes, are together of bulk at most 1048576: NARROWER than '..Said'. Prove '..Said' where nothing that the law and all that it calls make is longer than what came in: it says more and counts as full. Else prove '..UptoSaid'. A law counts once. -/
mutual
def uptoBulk {H : Type} : DataW H → Nat
  | .lit (.string bytes) => bytes.length + 1
  | .lit _ => 1
  | .nil => 1
  | .ptr d => uptoBulk d + 1
  | .slice elems spare => uptoBulkAll elems + uptoBulkAll spare + 1
  | .agg parts => uptoBulkAll parts + 1
  | .iface _ d => uptoBulk d + 1
  | .map entries => uptoBulkEntries entries + 1
  | .held _ => 1
def uptoBulkAll {H : Type} : List (DataW H) → Nat
  | [] => 0
  | d :: r => uptoBulk d + uptoBulkAll r
def uptoBulkEntries {H : Type} : List (Lit × DataW H) → Nat
  | [] => 0
  | x :: r => uptoBulkEntry x + uptoBulkEntries r
def uptoBulkEntry {H : Type} : Lit × DataW H → Nat
  | (.string bytes, d) => bytes.length + uptoBulk d + 1
  | (_, d) => uptoBulk d + 1
 end
def uptoSmall : (H : Type) → List (DataW H) → Bool := fun _ ds => decide (uptoBulkAll ds ≤ 1048576)
def OpenSpec.upto (s : _root_.Go.ChangeSpec) : _root_.Go.OpenSpec := { _root_.Go.OpenSpec.ofChange s with cond := some uptoSmall }

/-- 'heartwoodlaw44.BuffertreeCheap', WHERE WHAT IT READS IS OF BULK AT MOST 1048576: true; the input reads as it did. -/
def buffertreeCheapUptoRow : OpenClaim := { program := "ytkmnnfflibamnaa", sum := "c69c0da3ec06e3cfd834a7f217eef78f3b2b46e004d9faf6367b28d23d5a5f57", func := "heartwood/heartwoodlaw44.BuffertreeCheap", spec := "buffertreeCheap", inPlace := ["slices.overlaps[heartwood/buffertree.entry]"], unfollowed := true, recurses := true, apart := false, narrowed := true }
def BuffertreeCheapUptoSaid : Prop := buffertreeCheapUptoRow.holds Try.pinned (OpenSpec.upto buffertreeCheapSpec)

/-- 'heartwoodlaw44.BuffertreeOrders', WHERE WHAT IT READS IS OF BULK AT MOST 1048576: true; the input reads as it did. -/
def buffertreeOrdersUptoRow : OpenClaim := { program := "ytkmnnfflibamnaa", sum := "c69c0da3ec06e3cfd834a7f217eef78f3b2b46e004d9faf6367b28d23d5a5f57", func := "heartwood/heartwoodlaw44.BuffertreeOrders", spec := "buffertreeOrders", inPlace := ["slices.overlaps[heartwood/buffertree.entry]"], unfollowed := true, recurses := true, apart := false, narrowed := true }
def BuffertreeOrdersUptoSaid : Prop := buffertreeOrdersUptoRow.holds Try.pinned (OpenSpec.upto buffertreeOrdersSpec)

/-- 'heartwoodlaw44.BuffertreeSorts', WHERE WHAT IT READS IS OF BULK AT MOST 1048576: true; the input reads as it did. -/
def buffertreeSortsUptoRow : OpenClaim := { program := "ytkmnnfflibamnaa", sum := "c69c0da3ec06e3cfd834a7f217eef78f3b2b46e004d9faf6367b28d23d5a5f57", func := "heartwood/heartwoodlaw44.BuffertreeSorts", spec := "buffertreeSorts", inPlace := ["slices.overlaps[heartwood/buffertree.entry]"], unfollowed := true, recurses := true, apart := false, narrowed := true }
def BuffertreeSortsUptoSaid : Prop := buffertreeSortsUptoRow.holds Try.pinned (OpenSpec.upto buffertreeSortsSpec)

/-- 'heartwoodlaw44.BuffertreePlays', WHERE WHAT IT READS IS OF BULK AT MOST 1048576: true; the input reads as it did. -/
def buffertreePlaysUptoRow : OpenClaim := { program := "ytkmnnfflibamnaa", sum := "c69c0da3ec06e3cfd834a7f217eef78f3b2b46e004d9faf6367b28d23d5a5f57", func := "heartwood/heartwoodlaw44.BuffertreePlays", spec := "buffertreePlays", inPlace := ["slices.overlaps[heartwood/buffertree.entry]"], unfollowed := true, recurses := true, apart := false, narrowed := true }
def BuffertreePlaysUptoSaid : Prop := buffertreePlaysUptoRow.holds Try.pinned (OpenSpec.upto buffertreePlaysSpec)

/-- 'heartwoodlaw44.BuffertreeLists', WHERE WHAT IT READS IS OF BULK AT MOST 1048576: true; the input reads as it did. -/
def buffertreeListsUptoRow : OpenClaim := { program := "ytkmnnfflibamnaa", sum := "c69c0da3ec06e3cfd834a7f217eef78f3b2b46e004d9faf6367b28d23d5a5f57", func := "heartwood/heartwoodlaw44.BuffertreeLists", spec := "buffertreeLists", inPlace := ["slices.overlaps[heartwood/buffertree.entry]"], unfollowed := true, recurses := true, apart := false, narrowed := true }
def BuffertreeListsUptoSaid : Prop := buffertreeListsUptoRow.holds Try.pinned (OpenSpec.upto buffertreeListsSpec)

/-- 'heartwoodlaw44.BuffertreeHas', WHERE WHAT IT READS IS OF BULK AT MOST 1048576: true; the input reads as it did. -/
def buffertreeHasUptoRow : OpenClaim := { program := "ytkmnnfflibamnaa", sum := "c69c0da3ec06e3cfd834a7f217eef78f3b2b46e004d9faf6367b28d23d5a5f57", func := "heartwood/heartwoodlaw44.BuffertreeHas", spec := "buffertreeHas", inPlace := ["slices.overlaps[heartwood/buffertree.entry]"], unfollowed := true, recurses := true, apart := false, narrowed := true }
def BuffertreeHasUptoSaid : Prop := buffertreeHasUptoRow.holds Try.pinned (OpenSpec.upto buffertreeHasSpec)

/-- 'heartwoodlaw44.BuffertreeApart', WHERE WHAT IT READS IS OF BULK AT MOST 1048576: true; the input reads as it did. -/
def buffertreeApartUptoRow : OpenClaim := { program := "ytkmnnfflibamnaa", sum := "c69c0da3ec06e3cfd834a7f217eef78f3b2b46e004d9faf6367b28d23d5a5f57", func := "heartwood/heartwoodlaw44.BuffertreeApart", spec := "buffertreeApart", inPlace := ["slices.overlaps[heartwood/buffertree.entry]"], unfollowed := true, recurses := true, apart := false, narrowed := true }
def BuffertreeApartUptoSaid : Prop := buffertreeApartUptoRow.holds Try.pinned (OpenSpec.upto buffertreeApartSpec)

end Rows
end Go.Proofs.Ytkmnnfflibamnaa
