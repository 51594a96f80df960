/- slices.Values of a slice; slices.Sorted of that. -/
import Derived.Test.YtdphademoeofkaaComSorted
import Derived.Test.YtdphademoeofkaaSortedL
import Derived.Test.YtdphademoeofkaaComSort
import Derived.RangeFuncNested
import Derived.RangeFuncBound
import Derived.RangeFuncCalls
import Derived.Shelf.Abstract
import Derived.Shelf.RegionOpen
import Derived.OwnWalkIn
import Derived.TacticsInMore
import Derived.LoopNIn
import Derived.LoopIn
namespace Go.Proofs.Ytdphademoeofkaa
open Go.RowKit Go.Maps Go.Sort Go.Shelf
attribute [local go_sem] Oper.semAt_some
@[go_sem ↓] theorem callVal_yield (l : Nat) (args : Array Value) : callVal (.func (.yield l) #[] #[]) args = Instr.yield l args := by
  simp [callVal, invoke, Deferred.ofValue]
set_option maxRecDepth 100000 in
set_option maxHeartbeats 2000000 in
theorem val1_in (F : Fence) (n : Nat) (h63 : F.fn 63) (hro : F.round = none) (hn : 1 ≤ n) (Bs b o cap : Nat) (vs : List Int) (hlen : vs.length ≤ 1000000) (w : World) (hBs : w.cell? ⟨Bs, 0, none⟩ = some (.slice (some ⟨b, o, none⟩) vs.length cap)) (hc : ∀ (j : Nat) (v : Int), vs[j]? = some v → w.cell? ⟨b, o + j, none⟩ = some (.int .i64 v)) :
    SeqB F n Try.prog 63 #[.pointer (some ⟨Bs, 0, none⟩)] (fun xs => xs = vs) vs.length w := by
  intro l J W hW hJb hY h0
  have hBl : Bs < w.heap.size := World.block_lt_of_cell? _ _ hBs
  have hBW : W.cell? ⟨Bs, 0, none⟩ = some (.slice (some ⟨b, o, none⟩) vs.length cap) := (hW.cell (p := ⟨Bs, 0, none⟩) hBl).trans hBs
  obtain ⟨len, hle⟩ : ∃ len, len = vs.length := ⟨_, rfl⟩
  rw [← hle] at hlen hBW hY
  have HLe := Lib.hid hle
  clear hle hBs
  refine callsIn_of_wp Try.func63 rfl h63 ?_ hro
  simp only [Try.ntmps63, List.size_toArray, List.length_cons, List.length_nil, Nat.reduceAdd, Nat.reduceSub, Array.replicate_succ, Array.replicate_zero, List.push_toArray, List.append_toArray, List.nil_append, List.cons_append]
  gi_wp2
  gi_loopw [7] (fun i wr => ∃ m : Nat, m ≤ len ∧ i = .int .i64 m ∧ J (vs.take m) wr)
    (fun i _ => len - (intOf i).toNat)
  case atStart => exact ⟨0, Nat.zero_le _, rfl, by simpa using h0⟩
  case round =>
    obtain ⟨m, hm, rfl, hJs⟩ := hrel
    by_cases hlt : m < len
    · obtain ⟨v, hv⟩ : ∃ v, vs[m]? = some v := ⟨vs[m]'(by rw [← HLe.out]; exact hlt), by simp⟩
      have hcx : wr.cell? ⟨b, o + m, none⟩ = some (.int .i64 v) := by
        have h1 := hc m v hv
        exact ((hJb _ _ hJs).cell (p := ⟨b, o + m, none⟩) (World.block_lt_of_cell? _ _ h1)).trans h1
      obtain ⟨fn, tmps, assign, body, hy, hR⟩ := hY _ v wr hJs (by rw [List.length_take]; have := HLe.out; omega)
      have e1 : vs.take (m + 1) = vs.take m ++ [v] := by rw [List.take_add_one, hv]; rfl
      have E1 := Lib.hid e1
      dsimp only [encZ] at hy
      clear hY hc hv e1 hJb
      gi_wp2
      refine hR.mono ?_
      rintro e W3 ⟨rfl, hJ3, hk3⟩
      gi_wp2
      go_roundw
      case rel => exact ⟨m + 1, by omega, by go_num, by rw [E1.out]; exact hJ3⟩
      case measure => simp [intOf]; omega
    · obtain rfl : len = m := by omega
      gi_wp2
      go_end0
      refine ⟨⟨_, rfl⟩, vs, rfl, ?_⟩
      rwa [List.take_of_length_le (by rw [← HLe.out]; exact Nat.le_refl _)] at hJs
set_option maxRecDepth 100000 in
theorem Values_any (w : World) (a : Option Addr) (n c : Nat) :
    Calls Try.prog 46 #[.slice a n c] w fun e w' => e = .returned (.func (.func 63) #[] #[.pointer (some ⟨w.heap.size, 0, none⟩)]) ∧ w' = w.alloc (.cells #[.slice a n c] 22) := by
  go_enter Try.func46, Try.ntmps46
  go_wp2
  go_ret
  exact ⟨rfl, rfl⟩
theorem sorts_wide (m : Nat) : AnyZI.SortsIn Try.prog sortedLay_ren Fence.wide m :=
  ⟨fun blk off cap ss W hH hblk hsz => callsIn_wide.2 (AnyM.slices_Sort_int sortLay blk off cap ss W hH hblk hsz),
   fun p cap W => callsIn_wide.2 (AnyM.slices_Sort_int_none sortLay p cap W)⟩
/-- slices.Sorted of slices.Values of a slice. -/
theorem Sorted_any {w : World} {Bs b o cap : Nat} {vs : List Int} (hlen : vs.length ≤ 1000000) (hBs : w.cell? ⟨Bs, 0, none⟩ = some (.slice (some ⟨b, o, none⟩) vs.length cap)) (hc : ∀ (j : Nat) (v : Int), vs[j]? = some v → w.cell? ⟨b, o + j, none⟩ = some (.int .i64 v)) :
    Calls Try.prog 45 #[.func (.func 63) #[] #[.pointer (some ⟨Bs, 0, none⟩)]] w fun e w' => ∃ (a : Option Addr) (c : Nat) (ys : List Int), e = .returned (.slice a vs.length c) ∧ ys.Perm vs ∧ ys.Pairwise (· ≤ ·) ∧ Go.Proofs.Ytdphademoeofkaa.Own w' w.heap.size 3 a vs.length c (ints ys) ∧ Fr F0 w w' := by
  refine (callsIn_wide (n := 4)).1 ?_
  have cS := sortedB_in sortedLay Fence.wide 4 trivial trivial trivial trivial rfl (by omega) (sorts_wide _) (enters_of Try.func25 (by kernel_rfl) rfl) 63 #[.pointer (some ⟨Bs, 0, none⟩)] trivial (enters_of Try.func63 (by kernel_rfl) rfl) (fun xs => xs = vs) vs.length (fun ss e => by rw [e]; exact hlen) (by unfold maxLen; omega) (by omega) w (val1_in Fence.wide 1 trivial rfl (by omega) Bs b o cap vs hlen w hBs hc)
  change CallsIn _ _ Try.prog 45 _ _ _ at cS
  refine cS.mono ?_
  rintro e w' ⟨v, ss, rfl, rfl, hrow, hnil, hb⟩
  obtain ⟨ys, hys⟩ : ∃ ys, ys = ss.mergeSort (fun x y => decide (x ≤ y)) := ⟨_, rfl⟩
  have hp : ys.Perm ss := by rw [hys]; exact List.mergeSort_perm _ _
  have hw : ys.Pairwise (· ≤ ·) := by
    rw [hys]
    have := List.pairwise_mergeSort (le := fun x y : Int => decide (x ≤ y)) (fun a b c h1 h2 => by simp at *; omega) (fun a b => by simp; omega) ss
    exact this.imp (fun h => by simpa using h)
  rw [← hys] at hrow
  have hF : Fr F0 w w' := Fr.of_below hb
  change w'.ownsRow w.heap.size 3 1 v ss.length (ints ys) at hrow
  rcases hrow.2 with ⟨rfl, hn⟩ | ⟨g, cp, cur, rfl, r⟩
  · have hs0 : ss.length = 0 := hn
    refine ⟨none, 0, ys, by rw [hs0], hp, hw, ?_, hF⟩
    rw [hs0] at hrow ⊢
    exact hrow
  · exact ⟨_, _, ys, rfl, hp, hw, hrow, hF⟩
end Go.Proofs.Ytdphademoeofkaa
