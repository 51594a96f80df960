/-
  No cell of these rows narrows 'for every input' (looked for: loops, veiled, ifaces, maps, wideKeys, modest, calm, conditions, laid).
  DERIVED. THE GIVEN ROWS OF THIS SEAT. 4 by the template 'for every input the law returns true; each argument reads behind the call as it read before'; 0 by the template 'total and deterministic' (their statements: YtnlgjpcnnnilpaaTotals.lean).
  GIVEN WITH THE SEED: the statements are not yours to turn. If you find one false, say at which input.
  Laid BY PROGRAM, IN A SANDBOX (cutbox-rows.mjs): the forced cells as the released guide's own fill.sh prints them over the translation a5dd2f44960ab128… (all of the seat's roots in one cut). By AI agents, Wed Nov 11 2026. No macro, syntax, notation, axiom, sorry.
-/
import Derived.Test.YtnlgjpcnnnilpaaChecked
import GoSem.Claim
import GoSem.ClaimJoined
import GoSem.ClaimMapViews
import Derived.JoinedTies
import Derived.KernelRfl
namespace Go.Proofs.Ytnlgjpcnnnilpaa
/- THE CELL 'sum', in the pinned program and in every row, IS THE sha256 OF THE DUMP (.gsa) THAT YtnlgjpcnnnilpaaProg.lean LOADS. Nothing in Lean hashes anything: it is a label: what it is worth is what the hold of that sum in a sandbox is worth. -/
noncomputable def Try.pinned : Pinned := { name := "ytnlgjpcnnnilpaa", sum := "a5dd2f44960ab128815cd126c7fd787615265eb2207b16d5bb5deb7a2153cb45", checked := Try.checked }
namespace Rows
def none {H : Type} : Left H := { results := [], args := [] }

/-- 'heartwoodlaw41.CacheMisses': WHATEVER THE INPUT: true; the input reads as it did. -/
def cacheMissesSpec : ChangeSpec := { name := "cacheMisses", fn := fun _ => fun
  | [d1, d2] => { results := [.lit (.bool true)], args := [d1, d2] }
  | _ => none }
def cacheMissesRow : OpenClaim := { program := "ytnlgjpcnnnilpaa", sum := "a5dd2f44960ab128815cd126c7fd787615265eb2207b16d5bb5deb7a2153cb45", func := "heartwood/heartwoodlaw41.CacheMisses", spec := "cacheMisses", unfollowed := true, recurses := true, apart := false }
def CacheMissesSaid : Prop := cacheMissesRow.holds Try.pinned (OpenSpec.ofChange cacheMissesSpec)

/-- ITS FALSE NEIGHBOUR: 'it returns false'. Refute it at one input. -/
def cacheMissesWrong : ChangeSpec := { name := "cacheMisses", fn := fun _ => fun
  | [d1, d2] => { results := [.lit (.bool false)], args := [d1, d2] }
  | _ => none }
def CacheMissesWrongFalsely : Prop := cacheMissesRow.holds Try.pinned (OpenSpec.ofChange cacheMissesWrong)

/-- 'heartwoodlaw41.CacheSteps': WHATEVER THE INPUT: true; the input reads as it did. -/
def cacheStepsSpec : ChangeSpec := { name := "cacheSteps", fn := fun _ => fun
  | [d1, d2] => { results := [.lit (.bool true)], args := [d1, d2] }
  | _ => none }
def cacheStepsRow : OpenClaim := { program := "ytnlgjpcnnnilpaa", sum := "a5dd2f44960ab128815cd126c7fd787615265eb2207b16d5bb5deb7a2153cb45", func := "heartwood/heartwoodlaw41.CacheSteps", spec := "cacheSteps", unfollowed := true, recurses := true, apart := false }
def CacheStepsSaid : Prop := cacheStepsRow.holds Try.pinned (OpenSpec.ofChange cacheStepsSpec)

/-- ITS FALSE NEIGHBOUR: 'it returns false'. Refute it at one input. -/
def cacheStepsWrong : ChangeSpec := { name := "cacheSteps", fn := fun _ => fun
  | [d1, d2] => { results := [.lit (.bool false)], args := [d1, d2] }
  | _ => none }
def CacheStepsWrongFalsely : Prop := cacheStepsRow.holds Try.pinned (OpenSpec.ofChange cacheStepsWrong)

/-- 'heartwoodlaw41.CacheDistances': WHATEVER THE INPUT: true; the input reads as it did. -/
def cacheDistancesSpec : ChangeSpec := { name := "cacheDistances", fn := fun _ => fun
  | [d1, d2] => { results := [.lit (.bool true)], args := [d1, d2] }
  | _ => none }
def cacheDistancesRow : OpenClaim := { program := "ytnlgjpcnnnilpaa", sum := "a5dd2f44960ab128815cd126c7fd787615265eb2207b16d5bb5deb7a2153cb45", func := "heartwood/heartwoodlaw41.CacheDistances", spec := "cacheDistances", unfollowed := true, recurses := true, apart := false }
def CacheDistancesSaid : Prop := cacheDistancesRow.holds Try.pinned (OpenSpec.ofChange cacheDistancesSpec)

/-- ITS FALSE NEIGHBOUR: 'it returns false'. Refute it at one input. -/
def cacheDistancesWrong : ChangeSpec := { name := "cacheDistances", fn := fun _ => fun
  | [d1, d2] => { results := [.lit (.bool false)], args := [d1, d2] }
  | _ => none }
def CacheDistancesWrongFalsely : Prop := cacheDistancesRow.holds Try.pinned (OpenSpec.ofChange cacheDistancesWrong)

/-- 'heartwoodlaw41.CacheCompetes': WHATEVER THE INPUT: true; the input reads as it did. -/
def cacheCompetesSpec : ChangeSpec := { name := "cacheCompetes", fn := fun _ => fun
  | [d1, d2, d3] => { results := [.lit (.bool true)], args := [d1, d2, d3] }
  | _ => none }
def cacheCompetesRow : OpenClaim := { program := "ytnlgjpcnnnilpaa", sum := "a5dd2f44960ab128815cd126c7fd787615265eb2207b16d5bb5deb7a2153cb45", func := "heartwood/heartwoodlaw41.CacheCompetes", spec := "cacheCompetes", unfollowed := true, recurses := true, apart := false }
def CacheCompetesSaid : Prop := cacheCompetesRow.holds Try.pinned (OpenSpec.ofChange cacheCompetesSpec)

/-- ITS FALSE NEIGHBOUR: 'it returns false'. Refute it at one input. -/
def cacheCompetesWrong : ChangeSpec := { name := "cacheCompetes", fn := fun _ => fun
  | [d1, d2, d3] => { results := [.lit (.bool false)], args := [d1, d2, d3] }
  | _ => none }
def CacheCompetesWrongFalsely : Prop := cacheCompetesRow.holds Try.pinned (OpenSpec.ofChange cacheCompetesWrong)

/- THE SECOND FORM. 'bulk': how many values and letters a reading holds, each counted each time it is reached (what is shared counts as often as it is met; a slice's spare places count too). A statement '..UptoSaid' is the law's where the arguments, and the package variables that the reading takes, are together of bulk at most 1048576: NARROWER than '..Said'. Prove '..Said' where nothing that the law and all that it calls make is longer than what came in: it says more and counts as full. Else prove '..UptoSaid'. A law counts once. -/
mutual
def uptoBulk {H : Type} : DataW H → Nat
  | .lit (.string bytes) => bytes.length + 1
  | .lit _ => 1
  | .nil => 1
  | .ptr d => uptoBulk d + 1
  | .slice elems spare => uptoBulkAll elems + uptoBulkAll spare + 1
  | .agg parts => uptoBulkAll parts + 1
  | .iface _ d => uptoBulk d + 1
  | .map entries => uptoBulkEntries entries + 1
  | .held _ => 1
def uptoBulkAll {H : Type} : List (DataW H) → Nat
  | [] => 0
  | d :: r => uptoBulk d + uptoBulkAll r
def uptoBulkEntries {H : Type} : List (Lit × DataW H) → Nat
  | [] => 0
  | x :: r => uptoBulkEntry x + uptoBulkEntries r
def uptoBulkEntry {H : Type} : Lit × DataW H → Nat
  | (.string bytes, d) => bytes.length + uptoBulk d + 1
  | (_, d) => uptoBulk d + 1
 end
def uptoSmall : (H : Type) → List (DataW H) → Bool := fun _ ds => decide (uptoBulkAll ds ≤ 1048576)
def OpenSpec.upto (s : _root_.Go.ChangeSpec) : _root_.Go.OpenSpec := { _root_.Go.OpenSpec.ofChange s with cond := some uptoSmall }

/-- 'heartwoodlaw41.CacheMisses', WHERE WHAT IT READS IS OF BULK AT MOST 1048576: true; the input reads as it did. -/
def cacheMissesUptoRow : OpenClaim := { program := "ytnlgjpcnnnilpaa", sum := "a5dd2f44960ab128815cd126c7fd787615265eb2207b16d5bb5deb7a2153cb45", func := "heartwood/heartwoodlaw41.CacheMisses", spec := "cacheMisses", unfollowed := true, recurses := true, apart := false, narrowed := true }
def CacheMissesUptoSaid : Prop := cacheMissesUptoRow.holds Try.pinned (OpenSpec.upto cacheMissesSpec)

/-- 'heartwoodlaw41.CacheSteps', WHERE WHAT IT READS IS OF BULK AT MOST 1048576: true; the input reads as it did. -/
def cacheStepsUptoRow : OpenClaim := { program := "ytnlgjpcnnnilpaa", sum := "a5dd2f44960ab128815cd126c7fd787615265eb2207b16d5bb5deb7a2153cb45", func := "heartwood/heartwoodlaw41.CacheSteps", spec := "cacheSteps", unfollowed := true, recurses := true, apart := false, narrowed := true }
def CacheStepsUptoSaid : Prop := cacheStepsUptoRow.holds Try.pinned (OpenSpec.upto cacheStepsSpec)

/-- 'heartwoodlaw41.CacheDistances', WHERE WHAT IT READS IS OF BULK AT MOST 1048576: true; the input reads as it did. -/
def cacheDistancesUptoRow : OpenClaim := { program := "ytnlgjpcnnnilpaa", sum := "a5dd2f44960ab128815cd126c7fd787615265eb2207b16d5bb5deb7a2153cb45", func := "heartwood/heartwoodlaw41.CacheDistances", spec := "cacheDistances", unfollowed := true, recurses := true, apart := false, narrowed := true }
def CacheDistancesUptoSaid : Prop := cacheDistancesUptoRow.holds Try.pinned (OpenSpec.upto cacheDistancesSpec)

/-- 'heartwoodlaw41.CacheCompetes', WHERE WHAT IT READS IS OF BULK AT MOST 1048576: true; the input reads as it did. -/
def cacheCompetesUptoRow : OpenClaim := { program := "ytnlgjpcnnnilpaa", sum := "a5dd2f44960ab128815cd126c7fd787615265eb2207b16d5bb5deb7a2153cb45", func := "heartwood/heartwoodlaw41.CacheCompetes", spec := "cacheCompetes", unfollowed := true, recurses := true, apart := false, narrowed := true }
def CacheCompetesUptoSaid : Prop := cacheCompetesUptoRow.holds Try.pinned (OpenSpec.upto cacheCompetesSpec)

end Rows
end Go.Proofs.Ytnlgjpcnnnilpaa
