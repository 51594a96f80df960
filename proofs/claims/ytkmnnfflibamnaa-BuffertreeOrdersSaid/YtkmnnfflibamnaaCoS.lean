/- Common texts of this seat, one behind another. -/
import Derived.Test.YtkmnnfflibamnaaShL
import Derived.Test.YtkmnnfflibamnaaComAll
import Derived.Sort.OwnSortedInts
import Derived.Shelf.SlIterI.Sorted
import Derived.Test.YtkmnnfflibamnaaProg
import Derived.Test.YtkmnnfflibamnaaG6
import Derived.RangeFuncNested
import Derived.RangeFuncBound
import Derived.RangeFuncCalls
import Derived.Shelf.Abstract
import Derived.Shelf.RegionOpen
import Derived.OwnWalkIn
import Derived.TacticsInMore
import Derived.LoopNIn
import Derived.LoopIn
/- slices.Sort at ints: a slice that the call owns. -/
namespace Go.Proofs.Ytkmnnfflibamnaa
open Go.RowKit
/-- What slices.Sort does to a slice that the call owns. -/
def SortP (f : FuncId) : Prop := ∀ (B n c : Nat) (a : Option Addr) (zs : List Int) (w : World), Own w B 3 a n c (ints zs) → n ≤ 1000000 →
  Calls Try.prog f #[.slice a n c] w fun e w' => e = .returned (.tuple #[]) ∧ ∃ ys, ys.Perm zs ∧ ys.Pairwise (· ≤ ·) ∧ Own w' B 3 a n c (ints ys) ∧ Fr (onBlk a) w w'
theorem Sort_any : SortP 44 := by
  intro B n c a zs w h hn
  have hl : zs.length = n := by simpa using h.len
  have none0 : ∀ p, n = 0 → Calls Try.prog 44 #[.slice p 0 c] w fun e w' => e = .returned (.tuple #[]) ∧ w' = w := fun p _ => Go.Proofs.AnyM.slices_Sort_int_none sortLay p c w
  by_cases h0 : n = 0
  · have hz : zs = [] := List.length_eq_zero_iff.1 (by omega)
    subst hz
    subst h0
    exact (none0 a rfl).mono fun e w' ⟨h1, h2⟩ => ⟨h1, [], List.Perm.refl _, List.Pairwise.nil, by rw [h2]; exact h, by rw [h2]; exact Fr.refl _ _⟩
  · rcases h.2 with ⟨_, hz⟩ | ⟨g, cap, cur, hv, hb, hh, h1, h2, h3, h4⟩
    · exact absurd hz h0
    · injection hv with ha _ hc
      subst ha
      subst hc
      have hblk : g < w.heap.size := (Array.getElem?_eq_some_iff.1 hh).1
      have h4' : cur.toList.take zs.length = zs.map (Value.int .i64) := by rw [hl]; simpa using h4
      have hs := Go.Proofs.AnyM.slices_Sort_int sortLay g 0 c zs w (holds_of_blockI hh h4') hblk (by omega)
      rw [hl] at hs
      refine hs.mono ?_
      rintro e w' ⟨he, q, os, rfl⟩
      obtain ⟨ys, hys⟩ : ∃ ys, ys = zs.mergeSort (fun x y => decide (x ≤ y)) := ⟨_, rfl⟩
      have hp : ys.Perm zs := by rw [hys]; exact List.mergeSort_perm _ _
      have hw : ys.Pairwise (· ≤ ·) := by
        rw [hys]
        have := List.pairwise_mergeSort (le := fun x y : Int => decide (x ≤ y)) (fun a b c h1 h2 => by simp at *; omega) (fun a b => by simp; omega) zs
        exact this.imp (fun h => by simpa using h)
      rw [← hys]
      have hown := ownsRow_sortedI (n := q) (os := os) (ts := ys) (ss := zs) hp.length_eq hb hh (by omega) h2 h3
      rw [hl] at hown
      exact ⟨he, ys, hp, hw, hown, Fr.of_grown (v := .slice (some ⟨g, 0, none⟩) n c) rfl (grownBy_sortedI _)⟩
end Go.Proofs.Ytkmnnfflibamnaa
/- slices.AppendSeq, Collect, Sorted against an iterator that leans on what lay before the call: the kit's proofs, turned. -/
namespace Go.Proofs.Ytkmnnfflibamnaa
open Go.RowKit Go.Maps Go.Sort Go.Shelf
section
variable {P : Program} {ρ : Ren}
/-- An iterator over ints: it gives what S says, if the rounds leave alone what lay in w. -/
def SeqB (F : Fence) (n : Nat) (P : Program) (g : Nat) (lb : Array Value) (S : List Int → Prop) (N : Nat) (w : World) : Prop :=
  ∀ (l : Nat) (J : List Int → World → Prop) (W : World), Below w.heap.size w W → (∀ s W1, J s W1 → Below w.heap.size w W1) →
    (∀ pre x W1, J pre W1 → pre.length < N → YieldAt F (n - 1) P l #[encZ x] W1 fun e W' => e = .returned (.bool true) ∧ J (pre ++ [x]) W' ∧ KeepsWalks W1 W') →
    J [] W →
    CallsIn F n P g (#[.func (.yield l) #[] #[]] ++ lb) W fun e W' => (∃ v, e = .returned v) ∧ ∃ xs, S xs ∧ J xs W'
set_option maxRecDepth 100000 in
set_option maxHeartbeats 2000000 in
theorem appendSeqB_in (L : SlLaysZI.n11 P ρ) (F : Fence) (n : Nat) (h11 : F.fn (ρ.f 11)) (hro : F.round = none) (hn : 2 ≤ n) (g : Nat) (lb : Array Value) (hFg : F.fn g) (eg : ∀ args w, (callFunc g args).run P w = .ok (.enter g args) w)
    (S : List Int → Prop) (N : Nat) (hN : N ≤ maxLen) (hNb : N * 8 ≤ 140737488355328) (w : World) (hseq : SeqB F (n - 1) P g lb S N w) :
    CallsIn F n P (ρ.f 11) #[.slice none 0 0, .func (.func g) #[] lb] w fun e w' => ∃ (v : Value) (ss : List Int), e = .returned v ∧ S ss ∧ w'.ownsRow w.heap.size (ρ.t 26) 1 v ss.length (ss.map encZ) ∧ (v = .slice none 0 0 ↔ ss = []) ∧ Below w.heap.size w w' := by
  have h1 : 1 ≤ n := by omega
  have mixed := L.mixed; have t0 := L.t0; have a0 := L.a0; have z0 := L.z0; have v0 := L.v0; have t24 := L.t24; have a24 := L.a24; have z24 := L.z24; have v24 := L.v24; have t26 := L.t26; have a26 := L.a26; have z26 := L.z26; have v26 := L.v26; have t28 := L.t28; have a28 := L.a28; have z28 := L.z28; have v28 := L.v28
  have hne : ρ.t 24 ≠ ρ.t 26 := fun e => by have h := L.t24; rw [e, L.t26] at h; cases h
  have u0 := run_underlying L.t0; have u24 := run_underlying L.t24; have u26 := run_underlying L.t26; have u28 := run_underlying L.t28
  obtain ⟨_, _, FG⟩ := L.f11
  refine callsIn_of_wp_marks FG rfl h11 ?_ hro
  simp only [SlBodyZ.n11_ntmps ρ, List.size_toArray, List.length_cons, List.length_nil, Nat.reduceAdd, Nat.reduceSub, Array.replicate_succ, Array.replicate_zero, List.push_toArray, List.append_toArray, List.nil_append, List.cons_append]
  gi_wp2
  refine wpIn_rangeFunc ?_
  intro fn hfn
  rw [hro]
  obtain ⟨W0, hW0⟩ : ∃ W0, w.alloc (.cells #[.slice none 0 0] (ρ.t 24)) = W0 := ⟨_, rfl⟩
  have hs0 : W0.heap.size = w.heap.size + 1 := by rw [← hW0]; simp
  have hv0 : W0.heap[w.heap.size]? = some (.cells #[.slice none 0 0] (ρ.t 24) (0, 0)) := by rw [← hW0]; exact World.alloc_heap_new w _
  have hb0 : Below w.heap.size w W0 := by rw [← hW0]; exact (Below.refl _ w).alloc (Nat.le_refl _) _
  rw [hW0]
  obtain ⟨W1, hW1⟩ : ∃ W1, (W0.alloc (.deferred (some []))).alloc (.loop (AnyZI.apRec ρ fn (.func (.func g) #[] lb) w.heap.size W0.heap.size .ready none)) = W1 := ⟨_, rfl⟩
  have hold : ∀ k, k < W0.heap.size → W1.heap[k]? = W0.heap[k]? := fun k hk => by
    rw [← hW1]; exact (Below.heap_alloc _ _ k (by simp; omega)).trans (Below.heap_alloc _ _ k hk)
  have hb1 : Below w.heap.size w W1 := by rw [← hW1]; exact (hb0.alloc hb0.size _).alloc (by have := hb0.size; simp; omega) _
  have hs1 : W1.heap.size = W0.heap.size + 2 := by rw [← hW1]; simp
  have hM : AnyZI.ApAt ρ w fn (.func (.func g) #[] lb) w.heap.size (W0.heap.size + 1) W0.heap.size [] W1 :=
    ⟨⟨_, (hold w.heap.size (by omega)).trans hv0, ⟨rfl, .inl ⟨rfl, rfl⟩⟩, by simp⟩,
     by rw [← hW1]; have := World.alloc_heap_new (W0.alloc (.deferred (some []))) (.loop (AnyZI.apRec ρ fn (.func (.func g) #[] lb) w.heap.size W0.heap.size .ready none)); rwa [World.size_alloc] at this,
     by rw [← hW1]; exact (Below.heap_alloc _ _ _ (by simp)).trans (World.alloc_heap_new W0 _), hb1⟩
  refine ⟨W0.heap.size + 1, [{ target := .collected W0.heap.size, args := #[] }], W1, { target := .fn (.func g) lb, args := #[.func (.yield (W0.heap.size + 1)) #[] #[]] }, W1, g,
    #[.func (.yield (W0.heap.size + 1)) #[] #[]] ++ lb, W1, ?_, ?_, ?_, ?_, fun _ => h1, ?_⟩
  · rw [← hW1]; exact run_enterLoop_outer _ _ _ _ _
  · simp [resolve, go_sem]
  · intro f' hf'; simp [Target.leads] at hf'; subst hf'; exact hFg
  · simp [invoke, go_sem, eg]
  · refine (hseq (W0.heap.size + 1) (AnyZI.ApAt ρ w fn (.func (.func g) #[] lb) w.heap.size (W0.heap.size + 1) W0.heap.size) W1 hb1 (fun _ _ h => h.below)
      (fun pre x W hJ hl => AnyZI.apYield { L with } F (n - 1 - 1) w fn hfn _ w.heap.size (W0.heap.size + 1) W0.heap.size (by omega) (by omega) (by omega) (Nat.le_refl _) (by omega) N hN hNb pre x W hJ hl) hM).mono ?_
    rintro e W2 ⟨⟨v0, rfl⟩, ss, hS, h2⟩
    obtain ⟨v, hv, hrow, hnil⟩ := h2.box
    have hend := run_endLoop (P := P) h2.L (by simp [AnyZI.apRec])
    obtain ⟨W3, hW3⟩ : ∃ W3, W2.putObj (W0.heap.size + 1) (.loop { AnyZI.apRec ρ fn (.func (.func g) #[] lb) w.heap.size W0.heap.size .ready none with state := .exhausted }) = W3 := ⟨_, rfl⟩
    rw [hW3] at hend
    have hg3 : W2.grownBy W3 (some (W0.heap.size + 1)) := by rw [← hW3]; exact grownBy_putObj_a _ _ _
    have hv3 : W3.heap[w.heap.size]? = some (.cells #[v] (ρ.t 24) (0, 0)) := by rw [← hW3]; exact (World.putObj_heap_other (by omega)).trans hv
    have hK3 : W3.heap[W0.heap.size]? = some (.deferred (some [])) := by rw [← hW3]; exact (World.putObj_heap_other (by omega)).trans h2.K
    have hrow3 := hrow.kept hg3 (ownsRow_ne_a hrow h2.L (fun cur e => by first | cases e | exact hne (Obj.cells.inj e).2.1))
    have hb3 : Below w.heap.size w W3 := h2.below.grown hg3 h2.below.size (fun k e => by cases e; omega)
    obtain ⟨hc3, hf3⟩ := cell_of_box_a hv3
    clear hW3
    refine ⟨none, W3, hend, ?_⟩
    gi_wp2
    rw [← hs0]
    refine ⟨by simp, .inl ⟨_, _, rfl, run_takeDeferred hK3, ?_⟩⟩
    exact ⟨_, results_tmp rfl _ _ _, v, ss, rfl, hS, hrow3.kept (grownBy_putObj_a _ _ _) (ownsRow_ne_a hrow3 hK3 (fun cur e => by first | cases e | exact hne (Obj.cells.inj e).2.1)), hnil, hb3.grown (grownBy_putObj_a _ _ _) hb3.size (fun k e => by cases e; omega)⟩

set_option maxHeartbeats 1000000 in
theorem collectB_in (L : SlLaysZI.n8 P ρ) (F : Fence) (n : Nat) (h8 : F.fn (ρ.f 8)) (h11 : F.fn (ρ.f 11)) (hro : F.round = none) (hn : 3 ≤ n) (g : Nat) (lb : Array Value) (hFg : F.fn g) (eg : ∀ args w, (callFunc g args).run P w = .ok (.enter g args) w)
    (S : List Int → Prop) (N : Nat) (hN : N ≤ maxLen) (hNb : N * 8 ≤ 140737488355328) (w : World) (hseq : SeqB F (n - 1 - 1) P g lb S N w) :
    CallsIn F n P (ρ.f 8) #[.func (.func g) #[] lb] w fun e w' => ∃ (v : Value) (ss : List Int), e = .returned v ∧ S ss ∧ w'.ownsRow w.heap.size (ρ.t 26) 1 v ss.length (ss.map encZ) ∧ (v = .slice none 0 0 ↔ ss = []) ∧ Below w.heap.size w w' := by
  have h1 : 1 ≤ n := by omega
  have e11 : ∀ args w, (callFunc (ρ.f 11) args).run P w = .ok (.enter (ρ.f 11) args) w := L.f11.enters rfl
  have mixed := L.mixed; have t0 := L.t0; have a0 := L.a0; have z0 := L.z0; have v0 := L.v0; have t24 := L.t24; have a24 := L.a24; have z24 := L.z24; have v24 := L.v24; have t26 := L.t26; have a26 := L.a26; have z26 := L.z26; have v26 := L.v26; have t28 := L.t28; have a28 := L.a28; have z28 := L.z28; have v28 := L.v28
  have u0 := run_underlying L.t0; have u24 := run_underlying L.t24; have u26 := run_underlying L.t26; have u28 := run_underlying L.t28
  obtain ⟨_, _, FG⟩ := L.f8
  refine callsIn_of_wp FG rfl h8 ?_ hro
  simp only [SlBodyZ.n8_ntmps ρ, List.size_toArray, List.length_cons, List.length_nil, Nat.reduceAdd, Nat.reduceSub, Array.replicate_succ, Array.replicate_zero, List.push_toArray, List.append_toArray, List.nil_append, List.cons_append]
  gi_wp2_with (gi_at_fn (ρ.f 11); refine (appendSeqB_in { L with } F (n - 1) h11 hro (by omega) g lb hFg eg S N hN hNb _ hseq).mono ?_; rintro e w' ⟨v, ss, rfl, hS, hrow, hnil, hb⟩)
  go_ret
  exact ⟨v, ss, rfl, hS, hrow, hnil, hb⟩

set_option maxRecDepth 100000 in
set_option maxHeartbeats 2000000 in
theorem sortedB_in (L : SlLaysZI.n6 P ρ) (F : Fence) (n : Nat) (h6 : F.fn (ρ.f 6)) (h8 : F.fn (ρ.f 8)) (h9 : F.fn (ρ.f 9)) (h11 : F.fn (ρ.f 11)) (hro : F.round = none) (hn : 4 ≤ n) (hsort : AnyZI.SortsIn P ρ F (n - 1)) (e9 : ∀ args w, (callFunc (ρ.f 9) args).run P w = .ok (.enter (ρ.f 9) args) w) (g : Nat) (lb : Array Value) (hFg : F.fn g) (eg : ∀ args w, (callFunc g args).run P w = .ok (.enter g args) w)
    (S : List Int → Prop) (N : Nat) (hSN : ∀ ss, S ss → ss.length ≤ 1000000) (hN : N ≤ maxLen) (hNb : N * 8 ≤ 140737488355328) (w : World) (hseq : SeqB F (n - 1 - 1 - 1) P g lb S N w) :
    CallsIn F n P (ρ.f 6) #[.func (.func g) #[] lb] w fun e w' => ∃ (v : Value) (ss : List Int), e = .returned v ∧ S ss ∧
      w'.ownsRow w.heap.size (ρ.t 26) 1 v ss.length ((ss.mergeSort (fun x y => decide (x ≤ y))).map encZ) ∧ (v = .slice none 0 0 ↔ ss = []) ∧ Below w.heap.size w w' := by
  have h1 : 1 ≤ n := by omega
  have e8 : ∀ args w, (callFunc (ρ.f 8) args).run P w = .ok (.enter (ρ.f 8) args) w := L.f8.enters rfl
  have mixed := L.mixed; have t0 := L.t0; have a0 := L.a0; have z0 := L.z0; have v0 := L.v0; have t24 := L.t24; have a24 := L.a24; have z24 := L.z24; have v24 := L.v24; have t26 := L.t26; have a26 := L.a26; have z26 := L.z26; have v26 := L.v26; have t28 := L.t28; have a28 := L.a28; have z28 := L.z28; have v28 := L.v28
  have u0 := run_underlying L.t0; have u24 := run_underlying L.t24; have u26 := run_underlying L.t26; have u28 := run_underlying L.t28
  obtain ⟨_, _, FG⟩ := L.f6
  refine callsIn_of_wp FG rfl h6 ?_ hro
  simp only [SlBodyZ.n6_ntmps ρ, List.size_toArray, List.length_cons, List.length_nil, Nat.reduceAdd, Nat.reduceSub, Array.replicate_succ, Array.replicate_zero, List.push_toArray, List.append_toArray, List.nil_append, List.cons_append]
  gi_wp2_with (gi_at_fn (ρ.f 8); refine (collectB_in { L with } F (n - 1) h8 h11 hro (by omega) g lb hFg eg _ N hN hNb _ hseq).mono ?_; rintro e W ⟨v, ss, rfl, hS, hrow, hnil, hb⟩)
  rcases hrow.2 with ⟨rfl, hz⟩ | ⟨gb, cap, cur, rfl, hbase, hgb, r1, r2, r3, r4⟩
  · -- nothing came: the nil slice is sorted and handed back
    have hss : ss = [] := List.eq_nil_of_length_eq_zero hz
    subst hss
    gi_wp2_with (gi_at_fn (ρ.f 9); refine (hsort.2 none 0 W).mono ?_; rintro e w' ⟨rfl, rfl⟩)
    go_ret
    exact ⟨.slice none 0 0, [], rfl, hS, by simpa using hrow, by simp, hb⟩
  · have hH : Holds encZ W gb 0 ss.toArray := holds_of_block_i hgb (by simpa using r4)
    have hgl : gb < W.heap.size := (Array.getElem?_eq_some_iff.1 hgb).1
    have hsz : ss.length < 4611686018427387904 := by have := hSN ss hS; omega
    have cS := hsort.1 gb 0 cap ss W hH hgl hsz
    gi_wp2_with (gi_at_fn (ρ.f 9); refine cS.mono ?_; rintro e w' ⟨rfl, nn, os, rfl⟩)
    go_ret
    exact ⟨_, ss, rfl, hS, ownsRow_sorted_i (by simp) hbase hgb r1 r2 r3, hnil, hb.grown (grownBy_sorted_i _) hb.size (fun j hj => by cases hj; exact hbase)⟩

end
end Go.Proofs.Ytkmnnfflibamnaa
/- slices.Values of a slice; slices.Sorted of that. -/
namespace Go.Proofs.Ytkmnnfflibamnaa
open Go.RowKit Go.Maps Go.Sort Go.Shelf
attribute [local go_sem] Oper.semAt_some
set_option maxRecDepth 100000 in
set_option maxHeartbeats 2000000 in
theorem val1_in (F : Fence) (n : Nat) (h63 : F.fn 68) (hro : F.round = none) (hn : 1 ≤ n) (Bs b o cap : Nat) (vs : List Int) (hlen : vs.length ≤ 1000000) (w : World) (hBs : w.cell? ⟨Bs, 0, none⟩ = some (.slice (some ⟨b, o, none⟩) vs.length cap)) (hc : ∀ (j : Nat) (v : Int), vs[j]? = some v → w.cell? ⟨b, o + j, none⟩ = some (.int .i64 v)) :
    SeqB F n Try.prog 68 #[.pointer (some ⟨Bs, 0, none⟩)] (fun xs => xs = vs) vs.length w := by
  intro l J W hW hJb hY h0
  have hBl : Bs < w.heap.size := World.block_lt_of_cell? _ _ hBs
  have hBW : W.cell? ⟨Bs, 0, none⟩ = some (.slice (some ⟨b, o, none⟩) vs.length cap) := (hW.cell (p := ⟨Bs, 0, none⟩) hBl).trans hBs
  obtain ⟨len, hle⟩ : ∃ len, len = vs.length := ⟨_, rfl⟩
  rw [← hle] at hlen hBW hY
  have HLe := Lib.hid hle
  clear hle hBs
  refine callsIn_of_wp Try.func68 rfl h63 ?_ hro
  simp only [Try.ntmps68, List.size_toArray, List.length_cons, List.length_nil, Nat.reduceAdd, Nat.reduceSub, Array.replicate_succ, Array.replicate_zero, List.push_toArray, List.append_toArray, List.nil_append, List.cons_append]
  gi_wp2
  gi_loopw [7] (fun i wr => ∃ m : Nat, m ≤ len ∧ i = .int .i64 m ∧ J (vs.take m) wr)
    (fun i _ => len - (intOf i).toNat)
  case atStart => exact ⟨0, Nat.zero_le _, rfl, by simpa using h0⟩
  case round =>
    obtain ⟨m, hm, rfl, hJs⟩ := hrel
    by_cases hlt : m < len
    · obtain ⟨v, hv⟩ : ∃ v, vs[m]? = some v := ⟨vs[m]'(by rw [← HLe.out]; exact hlt), by simp⟩
      have hcx : wr.cell? ⟨b, o + m, none⟩ = some (.int .i64 v) := by
        have h1 := hc m v hv
        exact ((hJb _ _ hJs).cell (p := ⟨b, o + m, none⟩) (World.block_lt_of_cell? _ _ h1)).trans h1
      obtain ⟨fn, tmps, assign, body, hy, hR⟩ := hY _ v wr hJs (by rw [List.length_take]; have := HLe.out; omega)
      have e1 : vs.take (m + 1) = vs.take m ++ [v] := by rw [List.take_add_one, hv]; rfl
      have E1 := Lib.hid e1
      dsimp only [encZ] at hy
      clear hY hc hv e1 hJb
      gi_wp2
      refine hR.mono ?_
      rintro e W3 ⟨rfl, hJ3, hk3⟩
      gi_wp2
      go_roundw
      case rel => exact ⟨m + 1, by omega, by go_num, by rw [E1.out]; exact hJ3⟩
      case measure => simp [intOf]; omega
    · obtain rfl : len = m := by omega
      gi_wp2
      go_end0
      refine ⟨⟨_, rfl⟩, vs, rfl, ?_⟩
      rwa [List.take_of_length_le (by rw [← HLe.out]; exact Nat.le_refl _)] at hJs
set_option maxRecDepth 100000 in
theorem Values_any (w : World) (a : Option Addr) (n c : Nat) :
    Calls Try.prog 40 #[.slice a n c] w fun e w' => e = .returned (.func (.func 68) #[] #[.pointer (some ⟨w.heap.size, 0, none⟩)]) ∧ w' = w.alloc (.cells #[.slice a n c] 36) := by
  go_enter Try.func40, Try.ntmps40
  go_wp2
  go_ret
  exact ⟨rfl, rfl⟩
theorem sorts_wide (m : Nat) : AnyZI.SortsIn Try.prog sortedLay_ren Fence.wide m :=
  ⟨fun blk off cap ss W hH hblk hsz => callsIn_wide.2 (AnyM.slices_Sort_int sortLay blk off cap ss W hH hblk hsz),
   fun p cap W => callsIn_wide.2 (AnyM.slices_Sort_int_none sortLay p cap W)⟩
/-- slices.Sorted of slices.Values of a slice. -/
theorem Sorted_any {w : World} {Bs b o cap : Nat} {vs : List Int} (hlen : vs.length ≤ 1000000) (hBs : w.cell? ⟨Bs, 0, none⟩ = some (.slice (some ⟨b, o, none⟩) vs.length cap)) (hc : ∀ (j : Nat) (v : Int), vs[j]? = some v → w.cell? ⟨b, o + j, none⟩ = some (.int .i64 v)) :
    Calls Try.prog 39 #[.func (.func 68) #[] #[.pointer (some ⟨Bs, 0, none⟩)]] w fun e w' => ∃ (a : Option Addr) (c : Nat) (ys : List Int), e = .returned (.slice a vs.length c) ∧ ys.Perm vs ∧ ys.Pairwise (· ≤ ·) ∧ Go.Proofs.Ytkmnnfflibamnaa.Own w' w.heap.size 3 a vs.length c (ints ys) ∧ Fr F0 w w' := by
  refine (callsIn_wide (n := 4)).1 ?_
  have cS := sortedB_in sortedLay Fence.wide 4 trivial trivial trivial trivial rfl (by omega) (sorts_wide _) (enters_of Try.func44 (by kernel_rfl) rfl) 68 #[.pointer (some ⟨Bs, 0, none⟩)] trivial (enters_of Try.func68 (by kernel_rfl) rfl) (fun xs => xs = vs) vs.length (fun ss e => by rw [e]; exact hlen) (by unfold maxLen; omega) (by omega) w (val1_in Fence.wide 1 trivial rfl (by omega) Bs b o cap vs hlen w hBs hc)
  change CallsIn _ _ Try.prog 39 _ _ _ at cS
  refine cS.mono ?_
  rintro e w' ⟨v, ss, rfl, rfl, hrow, hnil, hb⟩
  obtain ⟨ys, hys⟩ : ∃ ys, ys = ss.mergeSort (fun x y => decide (x ≤ y)) := ⟨_, rfl⟩
  have hp : ys.Perm ss := by rw [hys]; exact List.mergeSort_perm _ _
  have hw : ys.Pairwise (· ≤ ·) := by
    rw [hys]
    have := List.pairwise_mergeSort (le := fun x y : Int => decide (x ≤ y)) (fun a b c h1 h2 => by simp at *; omega) (fun a b => by simp; omega) ss
    exact this.imp (fun h => by simpa using h)
  rw [← hys] at hrow
  have hF : Fr F0 w w' := Fr.of_below hb
  change w'.ownsRow w.heap.size 3 1 v ss.length (ints ys) at hrow
  rcases hrow.2 with ⟨rfl, hn⟩ | ⟨g, cp, cur, rfl, r⟩
  · have hs0 : ss.length = 0 := hn
    refine ⟨none, 0, ys, by rw [hs0], hp, hw, ?_, hF⟩
    rw [hs0] at hrow ⊢
    exact hrow
  · exact ⟨_, _, ys, rfl, hp, hw, hrow, hF⟩
end Go.Proofs.Ytkmnnfflibamnaa
