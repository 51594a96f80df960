/- treelayout's touched: how many blocks some positions are in. -/
import Derived.Test.YtdllpiekkbojgaaR4
import Derived.Maps.RangeWalk
import Derived.Maps.OwnSet
namespace Go.Proofs.Ytdllpiekkbojgaa
open Go.RowKit Go.Maps

def blk (s p : Int) : Int := wrap64 (p.tdiv s)
def keys (s : Int) (ps : List Int) : List Lit := ps.map fun p => .int .i64 (blk s p)
/-- How many blocks of a size some positions are in. -/
def blocksN (s : Int) (ps : List Int) : Nat := ((keys s ps).foldl addKey []).length

theorem law3 : Keyed Try.prog 3 := int_keyed Try.underlying3
abbrev tt : DataW Unit := .lit (.bool true)
theorem isKey (s : Int) (ps : List Int) : ∀ x ∈ keys s ps, WideAt.IsKeyLit x := by
  intro x hx
  obtain ⟨p, _, rfl⟩ := List.mem_map.1 hx
  trivial
theorem boolElem : plainElem (H := Unit) Try.prog 4 (.bool true) = some (tt, []) := by simp [plainElem, Try.underlying4]
theorem keyInt_inv (key : Value) (kl : Lit) (h : keyOf Try.prog 3 key = some kl) : ∃ x : Int, key = .int .i64 x := by
  obtain ⟨x, rfl, _⟩ := keyOf_int_inv Try.underlying3 h; exact ⟨x, rfl⟩

set_option maxHeartbeats 1000000 in
set_option maxRecDepth 100000 in
theorem touched_any (a1 : Option Addr) (n c1 : Nat) (ps : List Int) (s : Int) (w : World) (hp : Rd w a1 n (ints ps)) (hs : 1 ≤ s) (hn : n ≤ 1000000) :
    Calls Try.prog 39 #[.slice a1 n c1, .int .i64 s] w fun e w' => e = .returned (.int .i64 (blocksN s ps)) ∧ Fr F0 w w' := by
  have hpl : ps.length = n := by simpa using hp.len
  have Hpl := Lib.hid hpl
  clear hpl
  have hmm := @run_makeMap Try.prog
  have hs0 : (s == 0) = false := by simp; omega
  go_enter Try.func39, Try.ntmps39
  go_wp2_with fail
  go_loopw [13] (fun i wr => ∃ k : Nat, k ≤ n ∧ i = .int .i64 k ∧ wr.ownsMap Try.prog 3 (plainElem Try.prog 4) w.heap.size k (setOf tt (keys s (ps.take k))) ∧ Fr F0 w wr) (fun i _ => n - (intOf i).toNat)
  case atStart => exact ⟨0, Nat.zero_le _, rfl, World.ownsMap_made _ _ _ _, (Fr.refl _ _).alloc _⟩
  case round =>
    obtain ⟨k, hk, rfl, hown, hnx⟩ := hrel
    by_cases hlt : k < n
    · have hpl := Hpl.out
      obtain ⟨x, hx⟩ : ∃ x, ps[k]? = some x := ⟨ps[k], by simp [hpl, hlt]⟩
      obtain ⟨b, o, rfl, hc⟩ := (hp.fr0 hnx).cells (by omega)
      have d := hc k (.int .i64 x) (by simp [hx])
      have Hx : Hid (keys s (ps.take (k + 1)) = keys s (ps.take k) ++ [.int .i64 (blk s x)]) := Lib.hid (by rw [List.take_add_one, hx]; simp [keys])
      have hkey : keyOf Try.prog 3 (.int .i64 (wrap64 (x.tdiv s))) = some (.int .i64 (blk s x)) := keyOf_int_mk Try.underlying3 (wrap64_wf _)
      have Hkey := Lib.hid hkey
      clear hc hx hpl hkey
      go_wp2_with (at_mapUpdate; refine wpList_mapUpdate_own _ rfl _ _ _ 64 rfl 3 4 law3 Try.underlying64 _ w.heap.size k _ rfl hown (by unfold maxLen; omega) _ _ _ rfl rfl Hkey.out _ [] boolElem ?_; intro w1 hown1 hgrow1)
      go_roundw
      case rel =>
        refine ⟨k + 1, by omega, by go_num, ?_, ?_⟩
        · rw [Hx.out, setOf_snoc]; exact hown1
        · exact ⟨hgrow1.os.trans hnx.os, hgrow1.tape.trans hnx.tape, hgrow1.output.trans hnx.output, Nat.le_trans hnx.size hgrow1.size, fun j hj hh => (hgrow1.block j (by have := hnx.size; omega) (by simp; omega)).trans (hnx.block j hj hh)⟩
      case measure => simp [intOf]; omega
    · have hkm : k = n := by omega
      subst hkm
      have hsz : Maps.size (setOf tt (keys s (ps.take k))) = blocksN s ps := by
        rw [size_setOf tt _ (isKey s _), List.take_of_length_le (by have := Hpl.out; omega)]; rfl
      have Hsz := Lib.hid hsz
      clear hsz
      obtain ⟨D, hD⟩ : ∃ D, D = setOf tt (keys s (ps.take k)) := ⟨_, rfl⟩
      rw [← hD] at hown Hsz
      clear hD
      obtain ⟨wo, rfl⟩ : ∃ wo : World, wo = wr := ⟨_, rfl⟩
      go_wp2_with (first
        | (at_len; refine wpList_len_own _ rfl _ 64 rfl 3 4 Try.underlying64 _ w.heap.size k _ rfl hown ?_)
        | (at_range; refine wpList_range_own _ rfl _ 64 rfl 3 4 law3 Try.underlying64 _ w.heap.size k _ rfl hown ?_; intro w0 hrg0 hg0 hs0))
      rw [Hsz.out]
      clear hmm
      have hnx0 : Fr F0 w w0 := hnx.trans0 (Fr.of_grown0 hg0)
      have hsz1 := hnx.size
      go_frame
      go_loopw [9] (fun _ wr => ∃ (D : DataW Unit) (left : Lit → Bool) (cnt : Nat), wr.ranges Try.prog 3 (plainElem Try.prog 4) w.heap.size wo.heap.size k D left cnt ∧ Fr F0 w wr) (fun _ wr => wr.rangeLeft w.heap.size wo.heap.size)
      case atStart => exact ⟨D, _, _, hrg0, hnx0⟩
      case round =>
        obtain ⟨D1, left, cnt, hrg, hgw⟩ := hrel
        go_wp2_with (at_next; refine wpList_next_ranges _ rfl _ rfl 3 law3 (plainElem Try.prog 4) (Value.int .i64) (fun v : Value => v) keyInt_inv (fun v _ _ => ⟨v, rfl⟩) w.heap.size wo.heap.size k _ _ _ rfl hrg ?_ ?_)
        · intro _ hl0
          go_wp2_with fail
          go_ret
          exact ⟨rfl, hgw⟩
        · intro x c kl y y2 w1 cnt1 hkey hlk hv hat hrg1 hlt1 hg1 hs1 hen
          have hgw1 : Fr F0 w w1 := hgw.trans (S' := fun j => j = wo.heap.size) ⟨hg1.os, hg1.tape, hg1.output, hg1.size, fun j hj hh => hg1.block j hj (by simpa using hh)⟩ (fun j hj hh => by omega)
          have Hkey := Lib.hid hkey
          clear hkey
          go_wp2_with (at_delete; refine wpList_delete_ranges _ rfl _ _ 64 3 rfl 4 law3 Try.underlying64 _ w.heap.size wo.heap.size k _ _ _ rfl hrg1 _ _ rfl Hkey.out ?_; intro w2 cnt2 hrg2 hle hturn; go_frame)
          have hgr := hturn.grown
          go_roundw
          case rel => exact ⟨_, _, cnt2, hrg2, ⟨hgr.os.trans hgw1.os, hgr.tape.trans hgw1.tape, hgr.output.trans hgw1.output, Nat.le_trans hgw1.size hgr.size, fun j hj hh => (hgr.block j (by have := hgw1.size; omega) (by simp; omega)).trans (hgw1.block j hj hh)⟩⟩
          case measure => rw [hrg2.left_eq, hrg.left_eq]; omega

end Go.Proofs.Ytdllpiekkbojgaa
