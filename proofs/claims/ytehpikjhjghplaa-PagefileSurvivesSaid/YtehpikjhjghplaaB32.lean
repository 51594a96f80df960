/- Sorted of Values, Compact; the test of an update -/
import Derived.Test.YtehpikjhjghplaaComSorted
import Derived.Test.YtehpikjhjghplaaSortedL
import Derived.Test.YtehpikjhjghplaaComSort
import Derived.Test.YtehpikjhjghplaaComCompact
import Derived.RangeFuncNested
import Derived.RangeFuncBound
import Derived.RangeFuncCalls
import Derived.Shelf.Abstract
import Derived.Shelf.RegionOpen
import Derived.OwnWalkIn
import Derived.TacticsInMore
import Derived.LoopNIn
import Derived.LoopIn
import Derived.Test.YtehpikjhjghplaaB12
import Derived.Test.YtehpikjhjghplaaSlContainsK1
/- slices.Sorted of slices.Values; slices.Compact tells whether numbers are distinct. -/
namespace Go.Proofs.Ytehpikjhjghplaa
open Go.RowKit Go.Maps Go.Sort Go.Shelf
attribute [local go_sem] Oper.semAt_some
@[go_sem ↓] theorem callVal_yield (l : Nat) (args : Array Value) : callVal (.func (.yield l) #[] #[]) args = Instr.yield l args := by
  simp [callVal, invoke, Deferred.ofValue]
set_option maxRecDepth 100000 in
set_option maxHeartbeats 2000000 in
theorem val1_in (F : Fence) (n : Nat) (h65 : F.fn 65) (hro : F.round = none) (hn : 1 ≤ n) (Bs cap : Nat) (a : Option Addr) (vs : List Int) (hlen : vs.length ≤ 1000000) (w : World) (hBs : w.cell? ⟨Bs, 0, none⟩ = some (.slice a vs.length cap)) (hr : Rd w a vs.length (ints vs)) :
    SeqB F n Try.prog 65 #[.pointer (some ⟨Bs, 0, none⟩)] (fun xs => xs = vs) vs.length w := by
  intro l J W hW hJb hY h0
  have hBl : Bs < w.heap.size := World.block_lt_of_cell? _ _ hBs
  have hBW : W.cell? ⟨Bs, 0, none⟩ = some (.slice a vs.length cap) := (hW.cell (p := ⟨Bs, 0, none⟩) hBl).trans hBs
  obtain ⟨len, hle⟩ : ∃ len, len = vs.length := ⟨_, rfl⟩
  rw [← hle] at hlen hBW hY hr
  have HLe := Lib.hid hle
  have HR := Lib.hid hr
  clear hle hBs hr
  refine callsIn_of_wp Try.func65 rfl h65 ?_ hro
  simp only [Try.ntmps65, List.size_toArray, List.length_cons, List.length_nil, Nat.reduceAdd, Nat.reduceSub, Array.replicate_succ, Array.replicate_zero, List.push_toArray, List.append_toArray, List.nil_append, List.cons_append]
  gi_wp2
  gi_loopw [7] (fun i wr => ∃ m : Nat, m ≤ len ∧ i = .int .i64 m ∧ J (vs.take m) wr)
    (fun i _ => len - (intOf i).toNat)
  case atStart => exact ⟨0, Nat.zero_le _, rfl, by simpa using h0⟩
  case round =>
    obtain ⟨m, hm, rfl, hJs⟩ := hrel
    by_cases hlt : m < len
    · obtain ⟨b, o, v, rfl, hv, h1⟩ := HR.out.ix hlt
      have hcx : wr.cell? ⟨b, o + m, none⟩ = some (.int .i64 v) := ((hJb _ _ hJs).cell (p := ⟨b, o + m, none⟩) (World.block_lt_of_cell? _ _ h1)).trans h1
      obtain ⟨fn, tmps, assign, body, hy, hR⟩ := hY _ v wr hJs (by rw [List.length_take]; have := HLe.out; omega)
      have e1 : vs.take (m + 1) = vs.take m ++ [v] := by rw [List.take_add_one, hv]; rfl
      have E1 := Lib.hid e1
      dsimp only [encZ] at hy
      clear hY hv e1 hJb h1
      gi_wp2
      refine hR.mono ?_
      rintro e W3 ⟨rfl, hJ3, hk3⟩
      gi_wp2
      go_roundw
      case rel => exact ⟨m + 1, by omega, by go_num, by rw [E1.out]; exact hJ3⟩
      case measure => simp [intOf]; omega
    · obtain rfl : len = m := by omega
      gi_wp2
      go_end0
      refine ⟨⟨_, rfl⟩, vs, rfl, ?_⟩
      rwa [List.take_of_length_le (by rw [← HLe.out]; exact Nat.le_refl _)] at hJs
set_option maxRecDepth 100000 in
theorem Values_any (w : World) (a : Option Addr) (n c : Nat) :
    Calls Try.prog 39 #[.slice a n c] w fun e w' => e = .returned (.func (.func 65) #[] #[.pointer (some ⟨w.heap.size, 0, none⟩)]) ∧ w' = w.alloc (.cells #[.slice a n c] 25) := by
  go_enter Try.func39, Try.ntmps39
  go_wp2
  go_ret
  exact ⟨rfl, rfl⟩
theorem sorts_wide (m : Nat) : AnyZI.SortsIn Try.prog sortedLay_ren Fence.wide m :=
  ⟨fun blk off cap ss W hH hblk hsz => callsIn_wide.2 (AnyM.slices_Sort_int sortLay blk off cap ss W hH hblk hsz),
   fun p cap W => callsIn_wide.2 (AnyM.slices_Sort_int_none sortLay p cap W)⟩
/-- slices.Sorted of slices.Values of a slice. -/
theorem Sorted_any {w : World} {Bs cap n : Nat} {a0 : Option Addr} {vs : List Int} (hr : Rd w a0 n (ints vs)) (hlen : n ≤ 1000000) (hBs : w.cell? ⟨Bs, 0, none⟩ = some (.slice a0 n cap)) :
    Calls Try.prog 38 #[.func (.func 65) #[] #[.pointer (some ⟨Bs, 0, none⟩)]] w fun e w' => ∃ (a : Option Addr) (c : Nat) (ys : List Int), e = .returned (.slice a n c) ∧ ys.Perm vs ∧ ys.Pairwise (· ≤ ·) ∧ Go.Proofs.Ytehpikjhjghplaa.Own w' w.heap.size 3 a n c (ints ys) ∧ Fr F0 w w' := by
  have hl : vs.length = n := by simpa using hr.len
  subst hl
  refine (callsIn_wide (n := 4)).1 ?_
  have cS := sortedB_in sortedLay Fence.wide 4 trivial trivial trivial trivial rfl (by omega) (sorts_wide _) (enters_of Try.func64 (by kernel_rfl) rfl) 65 #[.pointer (some ⟨Bs, 0, none⟩)] trivial (enters_of Try.func65 (by kernel_rfl) rfl) (fun xs => xs = vs) vs.length (fun ss e => by rw [e]; exact hlen) (by unfold maxLen; omega) (by omega) w (val1_in Fence.wide 1 trivial rfl (by omega) Bs cap a0 vs hlen w hBs hr)
  change CallsIn _ _ Try.prog 38 _ _ _ at cS
  refine cS.mono ?_
  rintro e w' ⟨v, ss, rfl, rfl, hrow, hnil, hb⟩
  obtain ⟨ys, hys⟩ : ∃ ys, ys = ss.mergeSort (fun x y => decide (x ≤ y)) := ⟨_, rfl⟩
  have hp : ys.Perm ss := by rw [hys]; exact List.mergeSort_perm _ _
  have hw : ys.Pairwise (· ≤ ·) := by
    rw [hys]
    have := List.pairwise_mergeSort (le := fun x y : Int => decide (x ≤ y)) (fun a b c h1 h2 => by simp at *; omega) (fun a b => by simp; omega) ss
    exact this.imp (fun h => by simpa using h)
  rw [← hys] at hrow
  have hF : Fr F0 w w' := Fr.of_below hb
  change w'.ownsRow w.heap.size 3 1 v ss.length (ints ys) at hrow
  rcases hrow.2 with ⟨rfl, hn⟩ | ⟨g, cp, cur, rfl, r⟩
  · have hs0 : ss.length = 0 := hn
    refine ⟨none, 0, ys, by rw [hs0], hp, hw, ?_, hF⟩
    rw [hs0] at hrow ⊢
    exact hrow
  · exact ⟨_, _, ys, rfl, hp, hw, hrow, hF⟩
theorem compact_sorted (zs : List Int) (hs : zs.Pairwise (· ≤ ·)) : ∀ m, m ≤ zs.length → (Lib.compactUpTo zs.toArray m).Pairwise (· < ·) ∧ (∀ x ∈ Lib.compactUpTo zs.toArray m, x ∈ zs) ∧ ∀ x ∈ Lib.compactUpTo zs.toArray m, ∀ j, m ≤ j + 1 → (hj : j < zs.length) → x ≤ zs[j]
  | 0, _ => by simp [Lib.compactUpTo]
  | m + 1, hm => by
    obtain ⟨h1, h2, h3⟩ := compact_sorted zs hs m (by omega)
    have hmon : ∀ i j, (hij : i ≤ j) → (hj : j < zs.length) → zs[i]'(by omega) ≤ zs[j] := by
      intro i j hij hj
      rcases Nat.lt_or_ge i j with h | h
      · exact List.pairwise_iff_getElem.1 hs i j (by omega) hj h
      · have : i = j := by omega
        subst this; exact Int.le_refl _
    rw [Lib.compactUpTo_succ]
    have em : zs.toArray[m]! = zs[m]'(by omega) := by simp [show m < zs.length by omega]
    rw [em]
    by_cases hk : Lib.keeps zs.toArray m = true
    · rw [if_pos hk]
      refine ⟨?_, fun x hx => ?_, fun x hx j hj hjl => ?_⟩
      · rw [List.pairwise_append]
        refine ⟨h1, by simp, fun x hx y hy => ?_⟩
        rw [List.mem_singleton] at hy
        subst hy
        rcases Nat.eq_zero_or_pos m with h0 | h0
        · subst h0; simp [Lib.compactUpTo] at hx
        · have h4 := h3 x hx (m - 1) (by omega) (by omega)
          have h5 := hmon (m - 1) m (by omega) (by omega)
          have h6 : zs[m - 1]'(by omega) ≠ zs[m]'(by omega) := by
            intro e
            have : Lib.keeps zs.toArray m = false := Lib.keeps_neg h0 (by rw [em]; simp [show m - 1 < zs.length by omega]; exact e.symm)
            rw [this] at hk; cases hk
          omega
      · rcases List.mem_append.1 hx with hx | hx
        · exact h2 x hx
        · rw [List.mem_singleton] at hx; rw [hx]; exact List.getElem_mem _
      · rcases List.mem_append.1 hx with hx | hx
        · exact h3 x hx j (by omega) hjl
        · rw [List.mem_singleton] at hx; rw [hx]; exact hmon m j (by omega) hjl
    · rw [if_neg hk, List.append_nil]
      exact ⟨h1, h2, fun x hx j hj hjl => h3 x hx j (by omega) hjl⟩
theorem compact_distinct {zs : List Int} (hs : zs.Pairwise (· ≤ ·)) : (Lib.compact zs).Nodup ∧ ∀ x ∈ Lib.compact zs, x ∈ zs := by
  obtain ⟨h1, h2, _⟩ := compact_sorted zs hs zs.length (Nat.le_refl _)
  exact ⟨h1.imp (fun h e => by omega), h2⟩
theorem nodup_perm : ∀ (a b : List Int), a.Nodup → (∀ x ∈ a, x ∈ b) → b.length ≤ a.length → b.Perm a
  | [], b, _, _, h => by
    have : b = [] := List.length_eq_zero_iff.1 (by simpa using h)
    rw [this]
  | x :: a, b, hn, hm, h => by
    obtain ⟨h1, h2⟩ := List.nodup_cons.1 hn
    have hx := hm x (List.mem_cons.2 (.inl rfl))
    have hp := List.perm_cons_erase hx
    have hl := List.length_erase_of_mem hx
    refine hp.trans ((nodup_perm a (b.erase x) h2 (fun y hy => ?_) (by simp at h; omega)).cons x)
    exact (List.mem_erase_of_ne (fun e => h1 (by rw [← e]; exact hy))).2 (hm y (List.mem_cons.2 (.inr hy)))
/-- No number twice. -/
theorem compact_nodup {zs ys : List Int} (hp : ys.Perm zs) (hs : ys.Pairwise (· ≤ ·)) (hl : (Lib.compact ys).length = zs.length) : zs.Nodup := by
  obtain ⟨h1, h2⟩ := compact_distinct hs
  have := nodup_perm _ ys h1 h2 (by rw [hl, hp.length_eq]; exact Nat.le_refl _)
  exact hp.nodup_iff.1 (this.nodup_iff.2 h1)
end Go.Proofs.Ytehpikjhjghplaa
/- The test of an update: slices.ContainsFunc twice, numbers that are distinct. -/
namespace Go.Proofs.Ytehpikjhjghplaa
open Go.RowKit
attribute [local go_sem ↓] Go.wp_at_zero Go.wp_at_succ
def in30 (z : Int) : Bool := decide (z < 0) || decide (30 ≤ z)
theorem in30_any (z : Int) (w : World) : Calls Try.prog 34 #[.int .i64 z] w fun e w' => e = .returned (.bool (in30 z)) ∧ w = w' := by
  by_cases h : z < 0
  · have E : Hid (in30 z = true) := Lib.hid (by unfold in30; simp [h])
    go_enter Try.func34, Try.ntmps34
    go_wp2_with fail
    go_ret
    exact ⟨ret_bool E.out.symm, rfl⟩
  · have E : Hid (in30 z = decide (30 ≤ z)) := Lib.hid (by unfold in30; simp [h])
    go_enter Try.func34, Try.ntmps34
    go_wp2_with fail
    go_ret
    exact ⟨ret_bool E.out.symm, rfl⟩
theorem long36_any (ar : Option Addr) (nn cr : Nat) (pg : Int) (x : Nat) (w : World) (h : w.cell? ⟨x, 0, none⟩ = some (.int .i64 pg)) :
    Calls Try.prog 36 #[.slice ar nn cr, .pointer (some ⟨x, 0, none⟩)] w fun e w' => e = .returned (.bool (decide (¬ (nn : Int) = pg))) ∧ w = w' := by
  by_cases he : (nn : Int) = pg
  · have d : ((nn : Int) != pg) = false := by simpa using he
    have E : Hid (decide (¬ (nn : Int) = pg) = false) := Lib.hid (by simpa using he)
    rw [E.out]
    clear he
    go_enter Try.func36, Try.ntmps36
    go_wp2_with fail
    go_ret
    exact ⟨rfl, rfl⟩
  · have d : ((nn : Int) != pg) = true := by simpa using he
    have E : Hid (decide (¬ (nn : Int) = pg) = true) := Lib.hid (by simpa using he)
    rw [E.out]
    clear he
    go_enter Try.func36, Try.ntmps36
    go_wp2_with fail
    go_ret
    exact ⟨rfl, rfl⟩
set_option maxHeartbeats 1000000 in
theorem IndexFunc_p1 (x : Nat) (f : Nat → Bool) (a : Option Addr) (m c : Nat) (vs : List Value) (ds : List (List UInt8)) (S : Nat → Prop) (w : World) (hp : Rd w a m vs) (hR : RowsM w S vs ds)
    (hf : ∀ ar nn cr, Calls Try.prog 36 #[.slice ar nn cr, .pointer (some ⟨x, 0, none⟩)] w fun e w' => e = .returned (.bool (f nn)) ∧ w = w') :
    Calls Try.prog 62 #[.slice a m c, .func (.func 36) #[] #[.pointer (some ⟨x, 0, none⟩)]] w fun e w' => e = .returned (.int .i64 (idxR f ds)) ∧ w = w' := by
  have hdl : ds.length = m := by rw [← hR.len, hp.len]
  have hmax := hp.max
  have Hf := Lib.hid hf
  have Hp := Lib.hid hp
  have HR := Lib.hid hR
  have Hdl := Lib.hid hdl
  clear hf hdl hp hR
  go_enter Try.func62, Try.ntmps62
  go_wp2_with fail
  go_loop [5, 8] (fun _ i => ∃ k : Nat, k ≤ m ∧ i = .int .i64 k ∧ Hid ((ds.take k).any (fun d => f d.length) = false)) (fun _ i => m - (intOf i).toNat)
  case atStart => exact ⟨0, by omega, rfl, Lib.hid rfl⟩
  case round =>
    obtain ⟨k, hk, rfl, hno⟩ := hrel
    by_cases hlt : k < m
    · obtain ⟨b, o, ar, cr, d, hb, hdk, dc, _⟩ := rows_ix Hp.out HR.out hlt
      subst hb
      obtain ⟨nn, hnn⟩ : ∃ nn, nn = d.length := ⟨_, rfl⟩
      rw [← hnn] at dc
      have Hnn := Lib.hid hnn
      have Hdk := Lib.hid hdk
      have hcall := Hf.out ar nn cr
      clear hnn hdk
      cases hfx : f nn with
      | true =>
        rw [hfx] at hcall
        have E : Hid (idxR f ds = k) := Lib.hid (idxR_hit Hdk.out (by rw [← Hnn.out]; exact hfx) hno.out)
        clear hfx
        go_wp2_with fail
        refine hcall.mono ?_; rintro e w' ⟨rfl, rfl⟩
        go_wp2_with fail
        go_ret
        exact ⟨ret_int E.out.symm, rfl⟩
      | false =>
        rw [hfx] at hcall
        have hno2 : Hid ((ds.take (k + 1)).any (fun d => f d.length) = false) := Lib.hid (by
          rw [List.take_add_one, Hdk.out, List.any_append, hno.out]
          show (false || ([d].any _)) = false
          simp only [List.any_cons, List.any_nil, Bool.or_false, Bool.false_or]
          rw [← Hnn.out]; exact hfx)
        clear hfx
        go_wp2_with fail
        refine hcall.mono ?_; rintro e w' ⟨rfl, rfl⟩
        go_wp2_with fail
        go_round
        case rel => exact ⟨k + 1, by omega, by go_num, hno2⟩
        case measure => simp [intOf]; omega
    · obtain rfl : k = m := by omega
      have E : Hid (idxR f ds = -1) := Lib.hid (by
        have h := hno.out
        rw [List.take_of_length_le (by have := Hdl.out; omega)] at h
        unfold idxR
        rw [h]; rfl)
      go_wp2_with fail
      go_ret
      exact ⟨ret_int E.out.symm, rfl⟩
theorem ContainsFunc_p1 (x : Nat) (f : Nat → Bool) (a : Option Addr) (m c : Nat) (vs : List Value) (ds : List (List UInt8)) (S : Nat → Prop) (w : World) (hp : Rd w a m vs) (hR : RowsM w S vs ds)
    (hf : ∀ ar nn cr, Calls Try.prog 36 #[.slice ar nn cr, .pointer (some ⟨x, 0, none⟩)] w fun e w' => e = .returned (.bool (f nn)) ∧ w = w') :
    Calls Try.prog 35 #[.slice a m c, .func (.func 36) #[] #[.pointer (some ⟨x, 0, none⟩)]] w fun e w' => e = .returned (.bool (ds.any (fun d => f d.length))) ∧ w = w' := by
  have e : decide (0 ≤ idxR f ds) = ds.any (fun d => f d.length) := by
    unfold idxR; cases ds.any (fun d => f d.length) <;> simp
  have E := Lib.hid e
  clear e
  go_enter Try.func35, Try.ntmps35
  go_wp2_with fail
  refine (IndexFunc_p1 x f a m c vs ds S w hp hR hf).mono ?_; rintro e w' ⟨rfl, rfl⟩
  go_wp2_with fail
  go_ret
  exact ⟨ret_bool E.out, rfl⟩
/-- An update that came in. -/
structure Upd where
  ap : Option Addr
  np : Nat
  cp : Nat
  zs : List Int
  ad : Option Addr
  nd : Nat
  cd : Nat
  vs : List Value
  ds : List (List UInt8)
def Upd.agg (x : Upd) : Value := .agg #[.slice x.ap x.np x.cp, .slice x.ad x.nd x.cd]
structure UpM (w : World) (x : Upd) : Prop where
  rp : Rd w x.ap x.np (ints x.zs)
  rr : Rd w x.ad x.nd x.vs
  rows : RowsM w (fun j => j < w.heap.size) x.vs x.ds
theorem UpM.fr0 {w w' : World} {x : Upd} (h : UpM w x) (f : Fr F0 w w') : UpM w' x :=
  ⟨h.rp.fr0 f, h.rr.fr0 f, (h.rows.fr0 f).mono (fun _ hk => Nat.lt_of_lt_of_le hk f.size)⟩
/-- What the law asks of an update. -/
structure OkU (page : Int) (x : Upd) : Prop where
  six : x.np ≤ 6
  len : x.nd = x.np
  small : x.zs.any in30 = false
  row : x.ds.any (fun d => decide (¬ (d.length : Int) = page)) = false
  nodup : x.zs.Nodup
def OkP (page : Int) (x : Upd) (w : World) (e : Ending) (w' : World) : Prop := ∃ r : Bool, e = .returned (.bool r) ∧ (r = true → OkU page x) ∧ Fr F0 w w'
end Go.Proofs.Ytehpikjhjghplaa
