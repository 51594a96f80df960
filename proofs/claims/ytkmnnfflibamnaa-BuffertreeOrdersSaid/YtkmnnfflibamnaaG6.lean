/- slices.Backward of a slice of runs: what it hands back. -/
import Derived.RangeFuncNested
import Derived.RangeFuncBound
import Derived.RangeFuncCalls
import Derived.RangeFuncLeaves
import Derived.Shelf.Abstract
import Derived.Shelf.RegionOpen
import Derived.WalkKit
import Derived.OwnWalkIn
import Derived.TacticsInMore
import Derived.LoopNIn
import Derived.LoopIn
import Derived.Test.YtkmnnfflibamnaaG345
namespace Go.Proofs.Ytkmnnfflibamnaa
open Go.RowKit Go.Shelf
attribute [local go_sem] Oper.semAt_some
@[go_sem ↓] theorem callVal_yield (l : Nat) (args : Array Value) : callVal (.func (.yield l) #[] #[]) args = Instr.yield l args := by
  simp [callVal, invoke, Deferred.ofValue]
/-- Two blocks lie as they lay. -/
def KP (pb Bs : Nat) (A B : World) : Prop := B.heap[pb]? = A.heap[pb]? ∧ B.heap[Bs]? = A.heap[Bs]?
theorem KP.refl (pb Bs : Nat) (A : World) : KP pb Bs A A := ⟨rfl, rfl⟩
theorem KP.trans {pb Bs : Nat} {A B C : World} (h : KP pb Bs A B) (k : KP pb Bs B C) : KP pb Bs A C := ⟨k.1.trans h.1, k.2.trans h.2⟩
theorem cell_heap {A B : World} {k : Nat} (h : B.heap[k]? = A.heap[k]?) (i : Nat) : B.cell? ⟨k, i, none⟩ = A.cell? ⟨k, i, none⟩ := by simp only [World.cell?, h]
/-- What has come when those from m on have. -/
def came {α : Type} (el : Nat → α) (len m : Nat) : List α := (List.range (len - m)).map fun t => el (len - 1 - t)
theorem came_all {α : Type} (el : Nat → α) (len : Nat) : came el len len = [] := by simp [came]
theorem came_succ {α : Type} (el : Nat → α) {len m : Nat} (h : m < len) : came el len m = came el len (m + 1) ++ [el m] := by
  unfold came
  have e : len - m = (len - (m + 1)) + 1 := by omega
  have e2 : len - 1 - (len - (m + 1)) = m := by omega
  rw [e, List.range_succ, List.map_append, List.map_cons, List.map_nil, e2]
theorem came_length {α : Type} (el : Nat → α) (len m : Nat) : (came el len m).length = len - m := by simp [came]
set_option maxRecDepth 100000 in
set_option maxHeartbeats 2000000 in
theorem back1R_in (F : Fence) (n : Nat) (hfn : F.fn 85) (hro : F.round = none) (hn : 1 ≤ n) (l Bs b cap len : Nat) (a : Option Addr) (val : Nat → Value) (hreach : len ≤ 1000000) (ha : 0 < len → a = some ⟨b, 0, none⟩) (J Jx : List Nat → World → Prop)
    (hY : ∀ pre x W, J pre W → pre.length < len → x < len → YieldAt F (n - 1) Try.prog l #[.int .i64 (x : Nat), val x] W fun e W' =>
      (e = .returned (.bool true) ∧ J (pre ++ [x]) W' ∧ KP b Bs W W') ∨ (e = .returned (.bool false) ∧ Jx (pre ++ [x]) W'))
    (W : World) (hBs : W.cell? ⟨Bs, 0, none⟩ = some (.slice a len cap)) (hc : ∀ j, j < len → W.cell? ⟨b, j, none⟩ = some (val j)) (h0 : J [] W) :
    CallsIn F n Try.prog 85 #[.func (.yield l) #[] #[], .pointer (some ⟨Bs, 0, none⟩)] W fun e W' => (∃ v, e = .returned v) ∧
      ((∃ ys, ys = came id len 0 ∧ J ys W') ∨ (∃ pre, (∃ k, pre = came id len k) ∧ Jx pre W')) := by
  refine callsIn_of_wp Try.func85 rfl hfn ?_ hro
  simp only [Try.ntmps85, List.size_toArray, List.length_cons, List.length_nil, Nat.reduceAdd, Nat.reduceSub, Array.replicate_succ, Array.replicate_zero, List.push_toArray, List.append_toArray, List.nil_append, List.cons_append]
  gi_wp2
  gi_loopw [3] (fun i wr => ∃ m : Nat, m ≤ len ∧ i = .int .i64 ((m : Int) - 1) ∧ J (came id len m) wr ∧ KP b Bs W wr)
    (fun i _ => (intOf i + 1).toNat)
  case atStart => exact ⟨len, Nat.le_refl _, rfl, by rw [came_all]; exact h0, KP.refl _ _ _⟩
  case round =>
    obtain ⟨m, hm, rfl, hJs, hnx⟩ := hrel
    cases m with
    | zero =>
      have e0 : (((0 : Nat) : Int) - 1) = -1 := by omega
      rw [e0]
      gi_wp2
      go_end0
      exact ⟨⟨_, rfl⟩, .inl ⟨_, rfl, hJs⟩⟩
    | succ m =>
      have e0 : (((m + 1 : Nat) : Int) - 1) = (m : Nat) := by omega
      rw [e0]
      have hcx := (cell_heap hnx.1 m).trans (hc m (by omega))
      have hbx := (cell_heap hnx.2 0).trans hBs
      obtain ⟨fn, tmps, assign, body, hy, hR⟩ := hY _ m wr hJs (by rw [came_length]; omega) (by omega)
      rw [ha (by omega)] at hbx
      generalize hv : val m = v at *
      have hmi : (m : Int) < (len : Int) := by omega
      clear hY hc ha
      gi_wp2
      refine hR.mono ?_
      rintro e W3 (⟨rfl, hJ3, hk3⟩ | ⟨rfl, hJx3⟩)
      · gi_wp2
        go_roundw
        case rel => exact ⟨m, by omega, rfl, by rw [came_succ id (by omega)]; exact hJ3, hnx.trans hk3⟩
        case measure => simp [intOf]
      · gi_wp2
        refine bodyPost_ret (results_none rfl _ _ _) rfl ?_
        exact ⟨⟨_, rfl⟩, .inr ⟨_, ⟨m, (came_succ id (by omega)).symm⟩, hJx3⟩⟩
set_option maxRecDepth 100000 in
theorem backR_in (w : World) (a : Option Addr) (len cap : Nat) :
    Calls Try.prog 60 #[.slice a len cap] w fun e w' => e = .returned (.func (.func 85) #[] #[.pointer (some ⟨w.heap.size, 0, none⟩)]) ∧ w' = w.alloc (.cells #[.slice a len cap] 104) := by
  go_enter Try.func60, Try.ntmps60
  go_wp2
  go_ret
  exact ⟨rfl, rfl⟩
theorem backR_stops (F : Fence) (n : Nat) (hfn : F.fn 85) (hro : F.round = none) (hn : 1 ≤ n) (Bs b cap len : Nat) (a : Option Addr) (val : Nat → Value) (hreach : len ≤ 1000000) (ha : 0 < len → a = some ⟨b, 0, none⟩) (w : World) (hBl : Bs < w.heap.size) (hb : b < w.heap.size)
    (hBs : w.cell? ⟨Bs, 0, none⟩ = some (.slice a len cap)) (hc : ∀ j, j < len → w.cell? ⟨b, j, none⟩ = some (val j)) :
    SeqStopsK F n Try.prog 85 #[.pointer (some ⟨Bs, 0, none⟩)] (fun x : Nat => #[Value.int .i64 (x : Nat), val x]) (KP b Bs) (fun ys => ys = came id len 0)
      (fun pre => ∃ k, pre = came id len k) len w := fun l J Jx W hW _ _ hY h0 =>
  back1R_in F n hfn hro hn l Bs b cap len a val hreach ha J Jx (fun pre x W' hJ hp _ => hY pre x W' hJ hp) W ((hW.cell (p := ⟨Bs, 0, none⟩) hBl).trans hBs) (fun j hj => (hW.cell (p := ⟨b, j, none⟩) hb).trans (hc j hj)) h0
set_option maxRecDepth 100000 in
set_option maxHeartbeats 2000000 in
theorem back1L_in (F : Fence) (n : Nat) (hfn : F.fn 105) (hro : F.round = none) (hn : 1 ≤ n) (l Bs b cap len : Nat) (a : Option Addr) (val : Nat → Value) (hreach : len ≤ 1000000) (ha : 0 < len → a = some ⟨b, 0, none⟩) (J Jx : List Nat → World → Prop)
    (hY : ∀ pre x W, J pre W → pre.length < len → x < len → YieldAt F (n - 1) Try.prog l #[.int .i64 (x : Nat), val x] W fun e W' =>
      (e = .returned (.bool true) ∧ J (pre ++ [x]) W' ∧ KP b Bs W W') ∨ (e = .returned (.bool false) ∧ Jx (pre ++ [x]) W'))
    (W : World) (hBs : W.cell? ⟨Bs, 0, none⟩ = some (.slice a len cap)) (hc : ∀ j, j < len → W.cell? ⟨b, j, none⟩ = some (val j)) (h0 : J [] W) :
    CallsIn F n Try.prog 105 #[.func (.yield l) #[] #[], .pointer (some ⟨Bs, 0, none⟩)] W fun e W' => (∃ v, e = .returned v) ∧
      ((∃ ys, ys = came id len 0 ∧ J ys W') ∨ (∃ pre, (∃ k, pre = came id len k) ∧ Jx pre W')) := by
  refine callsIn_of_wp Try.func105 rfl hfn ?_ hro
  simp only [Try.ntmps105, List.size_toArray, List.length_cons, List.length_nil, Nat.reduceAdd, Nat.reduceSub, Array.replicate_succ, Array.replicate_zero, List.push_toArray, List.append_toArray, List.nil_append, List.cons_append]
  gi_wp2
  gi_loopw [3] (fun i wr => ∃ m : Nat, m ≤ len ∧ i = .int .i64 ((m : Int) - 1) ∧ J (came id len m) wr ∧ KP b Bs W wr)
    (fun i _ => (intOf i + 1).toNat)
  case atStart => exact ⟨len, Nat.le_refl _, rfl, by rw [came_all]; exact h0, KP.refl _ _ _⟩
  case round =>
    obtain ⟨m, hm, rfl, hJs, hnx⟩ := hrel
    cases m with
    | zero =>
      have e0 : (((0 : Nat) : Int) - 1) = -1 := by omega
      rw [e0]
      gi_wp2
      go_end0
      exact ⟨⟨_, rfl⟩, .inl ⟨_, rfl, hJs⟩⟩
    | succ m =>
      have e0 : (((m + 1 : Nat) : Int) - 1) = (m : Nat) := by omega
      rw [e0]
      have hcx := (cell_heap hnx.1 m).trans (hc m (by omega))
      have hbx := (cell_heap hnx.2 0).trans hBs
      obtain ⟨fn, tmps, assign, body, hy, hR⟩ := hY _ m wr hJs (by rw [came_length]; omega) (by omega)
      rw [ha (by omega)] at hbx
      generalize hv : val m = v at *
      have hmi : (m : Int) < (len : Int) := by omega
      clear hY hc ha
      gi_wp2
      refine hR.mono ?_
      rintro e W3 (⟨rfl, hJ3, hk3⟩ | ⟨rfl, hJx3⟩)
      · gi_wp2
        go_roundw
        case rel => exact ⟨m, by omega, rfl, by rw [came_succ id (by omega)]; exact hJ3, hnx.trans hk3⟩
        case measure => simp [intOf]
      · gi_wp2
        refine bodyPost_ret (results_none rfl _ _ _) rfl ?_
        exact ⟨⟨_, rfl⟩, .inr ⟨_, ⟨m, (came_succ id (by omega)).symm⟩, hJx3⟩⟩
set_option maxRecDepth 100000 in
theorem backL_in (w : World) (a : Option Addr) (len cap : Nat) :
    Calls Try.prog 81 #[.slice a len cap] w fun e w' => e = .returned (.func (.func 105) #[] #[.pointer (some ⟨w.heap.size, 0, none⟩)]) ∧ w' = w.alloc (.cells #[.slice a len cap] 75) := by
  go_enter Try.func81, Try.ntmps81
  go_wp2
  go_ret
  exact ⟨rfl, rfl⟩
theorem backL_stops (F : Fence) (n : Nat) (hfn : F.fn 105) (hro : F.round = none) (hn : 1 ≤ n) (Bs b cap len : Nat) (a : Option Addr) (val : Nat → Value) (hreach : len ≤ 1000000) (ha : 0 < len → a = some ⟨b, 0, none⟩) (w : World) (hBl : Bs < w.heap.size) (hb : b < w.heap.size)
    (hBs : w.cell? ⟨Bs, 0, none⟩ = some (.slice a len cap)) (hc : ∀ j, j < len → w.cell? ⟨b, j, none⟩ = some (val j)) :
    SeqStopsK F n Try.prog 105 #[.pointer (some ⟨Bs, 0, none⟩)] (fun x : Nat => #[Value.int .i64 (x : Nat), val x]) (KP b Bs) (fun ys => ys = came id len 0)
      (fun pre => ∃ k, pre = came id len k) len w := fun l J Jx W hW _ _ hY h0 =>
  back1L_in F n hfn hro hn l Bs b cap len a val hreach ha J Jx (fun pre x W' hJ hp _ => hY pre x W' hJ hp) W ((hW.cell (p := ⟨Bs, 0, none⟩) hBl).trans hBs) (fun j hj => (hW.cell (p := ⟨b, j, none⟩) hb).trans (hc j hj)) h0
end Go.Proofs.Ytkmnnfflibamnaa
