/- Common texts of this seat, one behind another. -/
import Derived.Test.YtkmnnfflibamnaaCoS
import Derived.Test.YtkmnnfflibamnaaG23
import Derived.Lib.MinMax
import Derived.Test.YtkmnnfflibamnaaShL
/- slices.Chunk: what it hands back. -/
namespace Go.Proofs.Ytkmnnfflibamnaa
open Go.RowKit Go.Shelf
attribute [local go_sem] Oper.semAt_some
theorem E82 : Elem1 Try.prog 82 36 (.slice none 0 0) 24 := ⟨by kernel_rfl, by kernel_rfl, rfl⟩
/-- 's[lo:hi:hi]', elements of one cell. -/
theorem run_cut3 {P : Program} {t T : TypeId} {z : Value} {bytes : Nat} (E : Elem1 P t T z bytes) (w : World) (b o : Nat) {n c lo hi : Nat} (h1 : lo < hi) (h2 : hi ≤ c) {x y y' : Int} (hx : x = (lo : Int)) (hy : y = (hi : Int)) (hy' : y' = (hi : Int)) :
    (Instr.sliceAt t (.slice (some ⟨b, o, none⟩) n c) (some (.int .i64 x)) (some (.int .i64 y)) (some (.int .i64 y'))).run P w = .ok (.slice (some ⟨b, o + lo, none⟩) (hi - lo) (hi - lo)) w := by
  obtain ⟨E1, E2, _⟩ := E
  obtain ⟨i0, hi0, _, hz1, _⟩ := info_parts E2
  subst hx hy hy'
  have ht : P.underlying t = some (.slice (P.elem t)) := by simp [Program.elem, E1]
  have hel : P.elem t = T := by simp [Program.elem, E1]
  have hsz : (sizeOf T).run P w = .ok 1 w := by simp [sizeOf, typeInfo, hi0, hz1]
  rw [run_sliceAt_slice _ _ _ _ _ _ ht, run_slice_lhm w t (some ⟨b, o, none⟩) n c ht .i64 .i64 .i64 lo hi hi (by omega) (by omega) (by omega) (by omega), hel, hsz]
  simp [Result.andThen, sliced]
  simp [show hi ≠ lo by omega, Addr.add_lit]
/-- The number of chunks; the j-th of them. -/
def nch (len m : Nat) : Nat := (len + m - 1) / m
def chl (len m j : Nat) : Nat := min m (len - j * m)
def chv (b o len m j : Nat) : Value := .slice (some ⟨b, o + j * m, none⟩) (chl len m j) (chl len m j)
theorem nch_lt {len m j : Nat} (hm : 0 < m) : j < nch len m ↔ j * m < len := by
  unfold nch
  rw [Nat.lt_iff_add_one_le, Nat.le_div_iff_mul_le hm, Nat.succ_mul]
  omega
/-- A chunk's number. -/
abbrev CIx (len m : Nat) : Type := { x : Nat // x < nch len m }
theorem range_succ' (j : Nat) : List.range (j + 1) = List.range j ++ [j] := List.range_succ
theorem chunkI_in (w : World) (a : Option Addr) (len cap m : Nat) (hm : 1 ≤ m) :
    Calls Try.prog 37 #[.slice a len cap, .int .i64 (m : Int)] w fun e w' => e = .returned (.func (.func 66) #[] #[.pointer (some ⟨w.heap.size, 0, none⟩), .pointer (some ⟨w.heap.size + 1, 0, none⟩)]) ∧ w' = (w.alloc (.cells #[.slice a len cap] 36)).alloc (.cells #[.int .i64 (m : Int)] 3) := by
  have hm1 : ¬ (m : Int) < 1 := by omega
  go_enter Try.func37, Try.ntmps37
  go_wp2
  go_ret
  exact ⟨rfl, rfl⟩
set_option maxRecDepth 100000 in
set_option maxHeartbeats 2000000 in
theorem chunkI1_in (F : Fence) (n : Nat) (hfn : F.fn 66) (hro : F.round = none) (hn : 1 ≤ n) (l Bs Bn b o cap len m : Nat) (a : Option Addr) (hlen : len ≤ 100000) (hm : 1 ≤ m ∧ m ≤ 100000) (hcap : len ≤ cap) (ha : 0 < len → a = some ⟨b, o, none⟩) (J Jx : List Nat → World → Prop) (hJd : ∀ pre W, J pre W → J pre W.drew)
    (hY : ∀ pre x W, J pre W → pre.length < nch len m → x < nch len m → YieldAt F (n - 1) Try.prog l #[chv b o len m x] W fun e W' =>
      (e = .returned (.bool true) ∧ J (pre ++ [x]) W' ∧ KP Bs Bn W W') ∨ (e = .returned (.bool false) ∧ Jx (pre ++ [x]) W'))
    (W : World) (hBs : W.cell? ⟨Bs, 0, none⟩ = some (.slice a len cap)) (hBn : W.cell? ⟨Bn, 0, none⟩ = some (.int .i64 (m : Int))) (h0 : J [] W) :
    CallsIn F n Try.prog 66 #[.func (.yield l) #[] #[], .pointer (some ⟨Bs, 0, none⟩), .pointer (some ⟨Bn, 0, none⟩)] W fun e W' => (∃ v, e = .returned v) ∧
      ((∃ ys, ys = List.range (nch len m) ∧ J ys W') ∨ (∃ pre, (∃ k, pre = List.range k) ∧ Jx pre W')) := by
  refine callsIn_of_wp Try.func66 rfl hfn ?_ hro
  simp only [Try.ntmps66, List.size_toArray, List.length_cons, List.length_nil, Nat.reduceAdd, Nat.reduceSub, Array.replicate_succ, Array.replicate_zero, List.push_toArray, List.append_toArray, List.nil_append, List.cons_append]
  gi_wp2
  gi_loopw [4] (fun s4 wr => ∃ j i : Nat, s4 = .int .i64 (i : Int) ∧ i ≤ len + 100000 ∧ Hid (i = j * m ∧ j ≤ nch len m ∧ J (List.range j) wr ∧ KP Bs Bn W wr)) (fun s4 _ => len - (intOf s4).toNat)
  case atStart => exact ⟨0, 0, rfl, Nat.zero_le _, Lib.hid ⟨by rw [Nat.zero_mul], Nat.zero_le _, h0, KP.refl _ _ _⟩⟩
  case round =>
    obtain ⟨j, i, rfl, hi9, H⟩ := hrel
    have hbx := (cell_heap H.out.2.2.2.1 0).trans hBs
    have hbn := (cell_heap H.out.2.2.2.2 0).trans hBn
    by_cases hlt : i < len
    · have hlt' : (i : Int) < (len : Int) := by omega
      have hjn : j < nch len m := (nch_lt (by omega)).2 (by rw [← H.out.1]; exact hlt)
      rw [ha (by omega)] at hbx
      obtain ⟨r, hr⟩ : ∃ r, len = i + r := ⟨len - i, by omega⟩
      obtain ⟨e, he⟩ : ∃ e, e = min m r := ⟨_, rfl⟩
      have he1 : 1 ≤ e ∧ i + e ≤ len ∧ e ≤ 100000 := by omega
      have hmin : min (m : Int) (r : Int) = (e : Int) := by omega
      have hcv : chv b o len m j = .slice (some ⟨b, o + i, none⟩) e e := by
        have e1 : chl len m j = e := by unfold chl; rw [← H.out.1]; omega
        unfold chv
        rw [← H.out.1, e1]
      have hc1 : ∀ w, (Instr.sliceAt 36 (.slice (some ⟨b, o, none⟩) len cap) (some (.int .i64 (i : Int))) none none).run Try.prog w = .ok (.slice (cutA (some ⟨b, o, none⟩) cap i) r (cap - i)) w := fun w => run_cutLo E3 w _ hr rfl
      have hc2 : ∀ w, (Instr.sliceAt 36 (.slice (some ⟨b, o, none⟩) len cap) (some (.int .i64 (i : Int))) (some (.int .i64 ((i : Int) + (e : Int)))) (some (.int .i64 ((i : Int) + (e : Int))))).run Try.prog w = .ok (.slice (some ⟨b, o + i, none⟩) e e) w := fun w => by
        have := run_cut3 E3 w b o (n := len) (c := cap) (lo := i) (hi := i + e) (by omega) (by omega) (x := (i : Int)) (y := (i : Int) + (e : Int)) (y' := (i : Int) + (e : Int)) rfl (by omega) (by omega)
        rwa [Nat.add_sub_cancel_left] at this
      have hY1 := hY _ j wr.drew (hJd _ _ H.out.2.2.1) (by rw [List.length_range]; exact hjn) hjn
      rw [hcv] at hY1
      have HEr := Lib.hid (And.intro hr (And.intro he (And.intro hcv hjn)))
      have HJd := Lib.hid hJd
      obtain ⟨fn, tmps, assign, body, hy, hR⟩ := hY1
      have HR := Lib.hid hR
      clear hY ha hr he hjn hcv hR hJd
      gi_wp2_with fail
      gi_region
      all_goals (
        gi_wp2_with fail
        refine HR.out.mono ?_
        rintro e9 W3 (⟨rfl, hJ3, hk3⟩ | ⟨rfl, hJx3⟩)
        · have H3 := Lib.hid (And.intro hJ3 (H.out.2.2.2.trans (show KP Bs Bn wr W3 from hk3)))
          have z1 := (cell_heap H3.out.2.2 0).trans hBn
          clear hJ3 hk3
          gi_wp2
          go_roundw
          case rel => exact ⟨j + 1, i + m, by go_num, by omega, Lib.hid ⟨by rw [Nat.succ_mul, ← H.out.1], HEr.out.2.2.2, by rw [List.range_succ]; exact H3.out.1, H3.out.2⟩⟩
          case measure => simp [intOf]; omega
        · have H3 := Lib.hid hJx3
          clear hJx3
          gi_wp2
          refine bodyPost_ret (results_none rfl _ _ _) rfl ?_
          refine ⟨⟨_, rfl⟩, .inr ⟨_, ⟨j + 1, (List.range_succ).symm⟩, H3.out⟩⟩)
    · have hge : len ≤ i := by omega
      have hge' : ¬ (i : Int) < (len : Int) := by omega
      gi_wp2_with fail
      go_end0
      have : ¬ j < nch len m := fun h => by have := (nch_lt (by omega)).1 h; rw [← H.out.1] at this; omega
      have hj := H.out.2.1
      refine ⟨⟨_, rfl⟩, .inl ?_⟩
      rw [show nch len m = j by omega]
      first | exact H.out.2.2.1 | exact ⟨_, rfl, H.out.2.2.1⟩
theorem chunkI_stops (F : Fence) (n : Nat) (hfn : F.fn 66) (hro : F.round = none) (hn : 1 ≤ n) (Bs Bn b o cap len m : Nat) (a : Option Addr) (hlen : len ≤ 100000) (hm : 1 ≤ m ∧ m ≤ 100000) (hcap : len ≤ cap) (ha : 0 < len → a = some ⟨b, o, none⟩) (w : World) (h1 : Bs < w.heap.size) (h2 : Bn < w.heap.size)
    (hBs : w.cell? ⟨Bs, 0, none⟩ = some (.slice a len cap)) (hBn : w.cell? ⟨Bn, 0, none⟩ = some (.int .i64 (m : Int))) :
    SeqStopsK F n Try.prog 66 #[.pointer (some ⟨Bs, 0, none⟩), .pointer (some ⟨Bn, 0, none⟩)] (fun x : Nat => #[chv b o len m x]) (KP Bs Bn) (fun ys => ys = List.range (nch len m))
      (fun pre => ∃ k, pre = List.range k) (nch len m) w := fun l J Jx W hW hJ _ hY h0 =>
  chunkI1_in F n hfn hro hn l Bs Bn b o cap len m a hlen hm hcap ha J Jx (fun pre W' h => hJ pre W' W'.drew none h ⟨rfl, rfl, rfl, Nat.le_refl _, fun _ _ _ => rfl⟩ (fun r e => by cases e)) (fun pre x W' hJ hp _ => hY pre x W' hJ hp) W ((hW.cell (p := ⟨Bs, 0, none⟩) h1).trans hBs) ((hW.cell (p := ⟨Bn, 0, none⟩) h2).trans hBn) h0
theorem chunkI_stopsF (F : Fence) (n : Nat) (hfn : F.fn 66) (hro : F.round = none) (hn : 1 ≤ n) (Bs Bn b o cap len m : Nat) (a : Option Addr) (hlen : len ≤ 100000) (hm : 1 ≤ m ∧ m ≤ 100000) (hcap : len ≤ cap) (ha : 0 < len → a = some ⟨b, o, none⟩) (w : World) (h1 : Bs < w.heap.size) (h2 : Bn < w.heap.size)
    (hBs : w.cell? ⟨Bs, 0, none⟩ = some (.slice a len cap)) (hBn : w.cell? ⟨Bn, 0, none⟩ = some (.int .i64 (m : Int))) :
    SeqStopsK F n Try.prog 66 #[.pointer (some ⟨Bs, 0, none⟩), .pointer (some ⟨Bn, 0, none⟩)] (fun x : CIx len m => #[chv b o len m x.1]) (KP Bs Bn) (fun ys => ys.map (·.1) = List.range (nch len m))
      (fun _ => True) (nch len m) w := fun l J Jx W hW hJ hJx hY h0 => by
  refine (chunkI1_in F n hfn hro hn l Bs Bn b o cap len m a hlen hm hcap ha (fun pre W => ∃ pre' : List (CIx len m), pre'.map (·.1) = pre ∧ J pre' W) (fun pre W => ∃ pre' : List (CIx len m), pre'.map (·.1) = pre ∧ Jx pre' W)
    (fun pre W' ⟨pre', e, h⟩ => ⟨pre', e, hJ pre' W' W'.drew none h ⟨rfl, rfl, rfl, Nat.le_refl _, fun _ _ _ => rfl⟩ (fun r e => by cases e)⟩)
    (fun pre x W' ⟨pre', e, h⟩ hp hx => ?_) W ((hW.cell (p := ⟨Bs, 0, none⟩) h1).trans hBs) ((hW.cell (p := ⟨Bn, 0, none⟩) h2).trans hBn) ⟨[], rfl, h0⟩).mono ?_
  · obtain ⟨fn, tmps, assign, body, hy, hR⟩ := hY pre' ⟨x, hx⟩ W' h (by have := congrArg List.length e; rw [List.length_map] at this; omega)
    refine ⟨fn, tmps, assign, body, hy, hR.mono ?_⟩
    rintro e' W2 (⟨h1, h2, h3⟩ | ⟨h1, h2⟩)
    · exact .inl ⟨h1, ⟨_, by rw [List.map_append, e]; rfl, h2⟩, h3⟩
    · exact .inr ⟨h1, _, by rw [List.map_append, e]; rfl, h2⟩
  · rintro e' W2 ⟨h1, (⟨ys, h2, pre', h3, h4⟩ | ⟨pre, _, pre', _, h4⟩)⟩
    · exact ⟨h1, .inl ⟨pre', h3.trans h2, h4⟩⟩
    · exact ⟨h1, .inr ⟨pre', trivial, h4⟩⟩
theorem chunkL_in (w : World) (a : Option Addr) (len cap m : Nat) (hm : 1 ≤ m) :
    Calls Try.prog 41 #[.slice a len cap, .int .i64 (m : Int)] w fun e w' => e = .returned (.func (.func 69) #[] #[.pointer (some ⟨w.heap.size, 0, none⟩), .pointer (some ⟨w.heap.size + 1, 0, none⟩)]) ∧ w' = (w.alloc (.cells #[.slice a len cap] 82)).alloc (.cells #[.int .i64 (m : Int)] 3) := by
  have hm1 : ¬ (m : Int) < 1 := by omega
  go_enter Try.func41, Try.ntmps41
  go_wp2
  go_ret
  exact ⟨rfl, rfl⟩
set_option maxRecDepth 100000 in
set_option maxHeartbeats 2000000 in
theorem chunkL1_in (F : Fence) (n : Nat) (hfn : F.fn 69) (hro : F.round = none) (hn : 1 ≤ n) (l Bs Bn b o cap len m : Nat) (a : Option Addr) (hlen : len ≤ 100000) (hm : 1 ≤ m ∧ m ≤ 100000) (hcap : len ≤ cap) (ha : 0 < len → a = some ⟨b, o, none⟩) (J Jx : List Nat → World → Prop) (hJd : ∀ pre W, J pre W → J pre W.drew)
    (hY : ∀ pre x W, J pre W → pre.length < nch len m → x < nch len m → YieldAt F (n - 1) Try.prog l #[chv b o len m x] W fun e W' =>
      (e = .returned (.bool true) ∧ J (pre ++ [x]) W' ∧ KP Bs Bn W W') ∨ (e = .returned (.bool false) ∧ Jx (pre ++ [x]) W'))
    (W : World) (hBs : W.cell? ⟨Bs, 0, none⟩ = some (.slice a len cap)) (hBn : W.cell? ⟨Bn, 0, none⟩ = some (.int .i64 (m : Int))) (h0 : J [] W) :
    CallsIn F n Try.prog 69 #[.func (.yield l) #[] #[], .pointer (some ⟨Bs, 0, none⟩), .pointer (some ⟨Bn, 0, none⟩)] W fun e W' => (∃ v, e = .returned v) ∧
      ((∃ ys, ys = List.range (nch len m) ∧ J ys W') ∨ (∃ pre, (∃ k, pre = List.range k) ∧ Jx pre W')) := by
  refine callsIn_of_wp Try.func69 rfl hfn ?_ hro
  simp only [Try.ntmps69, List.size_toArray, List.length_cons, List.length_nil, Nat.reduceAdd, Nat.reduceSub, Array.replicate_succ, Array.replicate_zero, List.push_toArray, List.append_toArray, List.nil_append, List.cons_append]
  gi_wp2
  gi_loopw [4] (fun s4 wr => ∃ j i : Nat, s4 = .int .i64 (i : Int) ∧ i ≤ len + 100000 ∧ Hid (i = j * m ∧ j ≤ nch len m ∧ J (List.range j) wr ∧ KP Bs Bn W wr)) (fun s4 _ => len - (intOf s4).toNat)
  case atStart => exact ⟨0, 0, rfl, Nat.zero_le _, Lib.hid ⟨by rw [Nat.zero_mul], Nat.zero_le _, h0, KP.refl _ _ _⟩⟩
  case round =>
    obtain ⟨j, i, rfl, hi9, H⟩ := hrel
    have hbx := (cell_heap H.out.2.2.2.1 0).trans hBs
    have hbn := (cell_heap H.out.2.2.2.2 0).trans hBn
    by_cases hlt : i < len
    · have hlt' : (i : Int) < (len : Int) := by omega
      have hjn : j < nch len m := (nch_lt (by omega)).2 (by rw [← H.out.1]; exact hlt)
      rw [ha (by omega)] at hbx
      obtain ⟨r, hr⟩ : ∃ r, len = i + r := ⟨len - i, by omega⟩
      obtain ⟨e, he⟩ : ∃ e, e = min m r := ⟨_, rfl⟩
      have he1 : 1 ≤ e ∧ i + e ≤ len ∧ e ≤ 100000 := by omega
      have hmin : min (m : Int) (r : Int) = (e : Int) := by omega
      have hcv : chv b o len m j = .slice (some ⟨b, o + i, none⟩) e e := by
        have e1 : chl len m j = e := by unfold chl; rw [← H.out.1]; omega
        unfold chv
        rw [← H.out.1, e1]
      have hc1 : ∀ w, (Instr.sliceAt 82 (.slice (some ⟨b, o, none⟩) len cap) (some (.int .i64 (i : Int))) none none).run Try.prog w = .ok (.slice (cutA (some ⟨b, o, none⟩) cap i) r (cap - i)) w := fun w => run_cutLo E82 w _ hr rfl
      have hc2 : ∀ w, (Instr.sliceAt 82 (.slice (some ⟨b, o, none⟩) len cap) (some (.int .i64 (i : Int))) (some (.int .i64 ((i : Int) + (e : Int)))) (some (.int .i64 ((i : Int) + (e : Int))))).run Try.prog w = .ok (.slice (some ⟨b, o + i, none⟩) e e) w := fun w => by
        have := run_cut3 E82 w b o (n := len) (c := cap) (lo := i) (hi := i + e) (by omega) (by omega) (x := (i : Int)) (y := (i : Int) + (e : Int)) (y' := (i : Int) + (e : Int)) rfl (by omega) (by omega)
        rwa [Nat.add_sub_cancel_left] at this
      have hY1 := hY _ j wr.drew (hJd _ _ H.out.2.2.1) (by rw [List.length_range]; exact hjn) hjn
      rw [hcv] at hY1
      have HEr := Lib.hid (And.intro hr (And.intro he (And.intro hcv hjn)))
      have HJd := Lib.hid hJd
      obtain ⟨fn, tmps, assign, body, hy, hR⟩ := hY1
      have HR := Lib.hid hR
      clear hY ha hr he hjn hcv hR hJd
      gi_wp2_with fail
      gi_region
      all_goals (
        gi_wp2_with fail
        refine HR.out.mono ?_
        rintro e9 W3 (⟨rfl, hJ3, hk3⟩ | ⟨rfl, hJx3⟩)
        · have H3 := Lib.hid (And.intro hJ3 (H.out.2.2.2.trans (show KP Bs Bn wr W3 from hk3)))
          have z1 := (cell_heap H3.out.2.2 0).trans hBn
          clear hJ3 hk3
          gi_wp2
          go_roundw
          case rel => exact ⟨j + 1, i + m, by go_num, by omega, Lib.hid ⟨by rw [Nat.succ_mul, ← H.out.1], HEr.out.2.2.2, by rw [List.range_succ]; exact H3.out.1, H3.out.2⟩⟩
          case measure => simp [intOf]; omega
        · have H3 := Lib.hid hJx3
          clear hJx3
          gi_wp2
          refine bodyPost_ret (results_none rfl _ _ _) rfl ?_
          refine ⟨⟨_, rfl⟩, .inr ⟨_, ⟨j + 1, (List.range_succ).symm⟩, H3.out⟩⟩)
    · have hge : len ≤ i := by omega
      have hge' : ¬ (i : Int) < (len : Int) := by omega
      gi_wp2_with fail
      go_end0
      have : ¬ j < nch len m := fun h => by have := (nch_lt (by omega)).1 h; rw [← H.out.1] at this; omega
      have hj := H.out.2.1
      refine ⟨⟨_, rfl⟩, .inl ?_⟩
      rw [show nch len m = j by omega]
      first | exact H.out.2.2.1 | exact ⟨_, rfl, H.out.2.2.1⟩
theorem chunkL_stops (F : Fence) (n : Nat) (hfn : F.fn 69) (hro : F.round = none) (hn : 1 ≤ n) (Bs Bn b o cap len m : Nat) (a : Option Addr) (hlen : len ≤ 100000) (hm : 1 ≤ m ∧ m ≤ 100000) (hcap : len ≤ cap) (ha : 0 < len → a = some ⟨b, o, none⟩) (w : World) (h1 : Bs < w.heap.size) (h2 : Bn < w.heap.size)
    (hBs : w.cell? ⟨Bs, 0, none⟩ = some (.slice a len cap)) (hBn : w.cell? ⟨Bn, 0, none⟩ = some (.int .i64 (m : Int))) :
    SeqStopsK F n Try.prog 69 #[.pointer (some ⟨Bs, 0, none⟩), .pointer (some ⟨Bn, 0, none⟩)] (fun x : Nat => #[chv b o len m x]) (KP Bs Bn) (fun ys => ys = List.range (nch len m))
      (fun pre => ∃ k, pre = List.range k) (nch len m) w := fun l J Jx W hW hJ _ hY h0 =>
  chunkL1_in F n hfn hro hn l Bs Bn b o cap len m a hlen hm hcap ha J Jx (fun pre W' h => hJ pre W' W'.drew none h ⟨rfl, rfl, rfl, Nat.le_refl _, fun _ _ _ => rfl⟩ (fun r e => by cases e)) (fun pre x W' hJ hp _ => hY pre x W' hJ hp) W ((hW.cell (p := ⟨Bs, 0, none⟩) h1).trans hBs) ((hW.cell (p := ⟨Bn, 0, none⟩) h2).trans hBn) h0
theorem chunkL_stopsF (F : Fence) (n : Nat) (hfn : F.fn 69) (hro : F.round = none) (hn : 1 ≤ n) (Bs Bn b o cap len m : Nat) (a : Option Addr) (hlen : len ≤ 100000) (hm : 1 ≤ m ∧ m ≤ 100000) (hcap : len ≤ cap) (ha : 0 < len → a = some ⟨b, o, none⟩) (w : World) (h1 : Bs < w.heap.size) (h2 : Bn < w.heap.size)
    (hBs : w.cell? ⟨Bs, 0, none⟩ = some (.slice a len cap)) (hBn : w.cell? ⟨Bn, 0, none⟩ = some (.int .i64 (m : Int))) :
    SeqStopsK F n Try.prog 69 #[.pointer (some ⟨Bs, 0, none⟩), .pointer (some ⟨Bn, 0, none⟩)] (fun x : CIx len m => #[chv b o len m x.1]) (KP Bs Bn) (fun ys => ys.map (·.1) = List.range (nch len m))
      (fun _ => True) (nch len m) w := fun l J Jx W hW hJ hJx hY h0 => by
  refine (chunkL1_in F n hfn hro hn l Bs Bn b o cap len m a hlen hm hcap ha (fun pre W => ∃ pre' : List (CIx len m), pre'.map (·.1) = pre ∧ J pre' W) (fun pre W => ∃ pre' : List (CIx len m), pre'.map (·.1) = pre ∧ Jx pre' W)
    (fun pre W' ⟨pre', e, h⟩ => ⟨pre', e, hJ pre' W' W'.drew none h ⟨rfl, rfl, rfl, Nat.le_refl _, fun _ _ _ => rfl⟩ (fun r e => by cases e)⟩)
    (fun pre x W' ⟨pre', e, h⟩ hp hx => ?_) W ((hW.cell (p := ⟨Bs, 0, none⟩) h1).trans hBs) ((hW.cell (p := ⟨Bn, 0, none⟩) h2).trans hBn) ⟨[], rfl, h0⟩).mono ?_
  · obtain ⟨fn, tmps, assign, body, hy, hR⟩ := hY pre' ⟨x, hx⟩ W' h (by have := congrArg List.length e; rw [List.length_map] at this; omega)
    refine ⟨fn, tmps, assign, body, hy, hR.mono ?_⟩
    rintro e' W2 (⟨h1, h2, h3⟩ | ⟨h1, h2⟩)
    · exact .inl ⟨h1, ⟨_, by rw [List.map_append, e]; rfl, h2⟩, h3⟩
    · exact .inr ⟨h1, _, by rw [List.map_append, e]; rfl, h2⟩
  · rintro e' W2 ⟨h1, (⟨ys, h2, pre', h3, h4⟩ | ⟨pre, _, pre', _, h4⟩)⟩
    · exact ⟨h1, .inl ⟨pre', h3.trans h2, h4⟩⟩
    · exact ⟨h1, .inr ⟨pre', trivial, h4⟩⟩
end Go.Proofs.Ytkmnnfflibamnaa
/- slices.Concat of slices of ints. -/
namespace Go.Proofs.Ytkmnnfflibamnaa
open Go.RowKit
attribute [local go_sem ↓] Go.wp_at_zero Go.wp_at_succ
theorem Grow_any (n : Nat) (w : World) (hn : n ≤ 1000000) : Calls Try.prog 70 #[.slice none 0 0, .int .i64 (n : Int)] w fun e w' => ∃ a c, e = .returned (.slice a 0 c) ∧ Own w' w.heap.size 3 a 0 c [] ∧ Fr F0 w w' := by
  by_cases h0 : n = 0
  · subst h0
    refine (Any8.slices_Grow_room growLay none 0 0 0 w (by omega) (by omega) (by omega) (by omega)).mono ?_
    rintro e w' ⟨rfl, rfl⟩
    exact ⟨none, 0, rfl, Own.nil _ _ _, Fr.refl _ _⟩
  · obtain ⟨i0, hi, hz0, hz1, hz2⟩ := info_parts E3.2.1
    have hz3 := E3.2.2
    refine (Any8.slices_Grow_grow growLay i0 _ hi hz0 (by omega) none 0 0 n [] w (by omega) (by omega) (by rw [hz2]; omega) (by omega) (by simp) (fun _ => rfl) (fun a h => by cases h)).mono ?_
    rintro e w' ⟨rfl, rfl⟩
    have hG : n ≤ grownCap w (0 + n) 0 (growLay_ren.t 25) := by have := grownCap_ge w (0 + n) 0 (growLay_ren.t 25); omega
    have hG2 := grownCap_le_maxLen w (0 + n) 0 (growLay_ren.t 25) (by unfold maxLen; omega)
    generalize grownCap w (0 + n) 0 (growLay_ren.t 25) = G at hG hG2 ⊢
    refine ⟨_, _, rfl, ?_, (Fr.refl F0 w).drew.alloc _⟩
    refine ⟨rfl, .inr ⟨w.heap.size, G, _, rfl, Nat.le_refl _, heap_alloc_new _ _, Nat.zero_le _, hG2, ?_, by simp⟩⟩
    rw [Array.size_append, Array.size_append, zeroCells_size, zeroCells_size, hz3]
    simp
    omega
/-- A list of ints in memory. -/
structure IV where
  l : List Int
  a : Option Addr
  c : Nat
def IV.v (r : IV) : Value := .slice r.a r.l.length r.c
abbrev ivs (rv : List IV) : List Value := rv.map IV.v
def isL (rv : List IV) : List (List Int) := rv.map (·.l)
def iflat (rv : List IV) : List Int := rv.flatMap (·.l)
theorem iflat_take {rv : List IV} {i : Nat} {r : IV} (h : rv[i]? = some r) : iflat (rv.take (i + 1)) = iflat (rv.take i) ++ r.l := by
  unfold iflat; rw [List.take_add_one, h, List.flatMap_append]; simp
theorem iflat_le (rv : List IV) (i : Nat) : (iflat (rv.take i)).length ≤ (iflat rv).length := by
  have e : iflat rv = iflat (rv.take i) ++ iflat (rv.drop i) := by unfold iflat; rw [← List.flatMap_append, List.take_append_drop]
  rw [e, List.length_append]; omega
theorem Rd.iv {w : World} {a : Option Addr} {n : Nat} {rv : List IV} (h : Rd w a n (ivs rv)) {i : Nat} {r : IV} (hr : rv[i]? = some r) : ∃ b o, a = some ⟨b, o, none⟩ ∧ w.cell? ⟨b, o + i, none⟩ = some (.slice r.a r.l.length r.c) := by
  have hl := h.len
  rw [List.length_map] at hl
  have hi := (List.getElem?_eq_some_iff.1 hr).1
  obtain ⟨b, o, ha, hc⟩ := h.cells (by omega)
  exact ⟨b, o, ha, hc i _ (by rw [List.getElem?_map, hr]; rfl)⟩
/-- Each can be read. -/
def IsR (w : World) (rv : List IV) : Prop := ∀ r ∈ rv, Rd w r.a r.l.length (ints r.l)
theorem IsR.fr0 {w w' : World} {rv : List IV} (h : IsR w rv) (F : Fr F0 w w') : IsR w' rv := fun r hr => (h r hr).fr0 F
set_option maxRecDepth 100000 in
set_option maxHeartbeats 4000000 in
theorem Concat_any {w : World} {a : Option Addr} {n c : Nat} {rv : List IV} (h : Rd w a n (ivs rv)) (hr : IsR w rv) (hn : n ≤ 100000) (ht : (iflat rv).length ≤ 100000) :
    Calls Try.prog 43 #[.slice a n c] w fun e w' => ∃ a' c', e = .returned (.slice a' (iflat rv).length c') ∧ Own w' w.heap.size 3 a' (iflat rv).length c' (ints (iflat rv)) ∧ Fr F0 w w' := by
  have hll : rv.length = n := by have := h.len; simpa using this
  have HR := Lib.hid h
  have HI := Lib.hid hr
  have Hl := Lib.hid hll
  have Ht := Lib.hid ht
  have HGr := Lib.hid (fun (k : Nat) (hk : k ≤ 1000000) W => Grow_any k W hk)
  clear h hr hll ht
  go_enter Try.func43, Try.ntmps43
  go_wp2_with fail
  go_loop [3, 11] (fun s3 s11 => ∃ i k : Nat, i ≤ n ∧ s11 = .int .i64 (i : Int) ∧ s3 = .int .i64 (k : Int) ∧ k ≤ 100000 ∧ Hid (k = (iflat (rv.take i)).length)) (fun _ s11 => n - (intOf s11).toNat)
  case atStart => exact ⟨0, 0, Nat.zero_le _, rfl, rfl, Nat.zero_le _, Lib.hid rfl⟩
  case round =>
    obtain ⟨i, k, hi, rfl, rfl, hk9, H⟩ := hrel
    by_cases hlt : i < n
    · have hlt' : (i : Int) < (n : Int) := by omega
      obtain ⟨r, hr⟩ : ∃ r, rv[i]? = some r := ⟨_, List.getElem?_eq_getElem (by have := Hl.out; omega)⟩
      obtain ⟨b, o, rfl, d0⟩ := HR.out.iv hr
      have hs := iflat_take hr
      have hle := iflat_le rv (i + 1)
      obtain ⟨q, hq⟩ : ∃ q, q = r.l.length := ⟨_, rfl⟩
      rw [← hq] at d0
      have hk2 : k + q ≤ 100000 := by rw [hs, List.length_append, ← H.out, ← hq] at hle; have := Ht.out; omega
      have HS := Lib.hid (show k + q = (iflat (rv.take (i + 1))).length by rw [hs, List.length_append, ← H.out, ← hq])
      have hnn : ¬ ((k : Int) + (q : Int)) < 0 := by omega
      clear hr hs hle hq
      go_wp2_with fail
      go_round
      case rel => exact ⟨i + 1, k + q, by omega, by go_num, by go_num, hk2, HS⟩
      case measure => simp [intOf]; omega
    · obtain rfl : n = i := by omega
      go_wp2_with (go_at_call 70; refine (HGr.out k (by omega) _).mono ?_; rintro e w1 ⟨a1, c1, rfl, o1, f1⟩; have H1 := Lib.hid (And.intro o1 f1); clear o1 f1)
      go_loopw [6, 27] (fun s6 s27 wr => ∃ (i q : Nat) (a' : Option Addr) (c' : Nat), i ≤ n ∧ s27 = .int .i64 (i : Int) ∧ s6 = .slice a' q c' ∧ q ≤ 100000 ∧ Hid (q = (iflat (rv.take i)).length ∧ Own wr w.heap.size 3 a' q c' (ints (iflat (rv.take i))) ∧ Fr F0 w wr)) (fun _ s27 _ => n - (intOf s27).toNat)
      case atStart => exact ⟨0, 0, a1, c1, Nat.zero_le _, rfl, rfl, Nat.zero_le _, Lib.hid ⟨rfl, H1.out.1, H1.out.2⟩⟩
      case round =>
        clear H
        obtain ⟨i, q, a', c', hi, rfl, rfl, hq9, H⟩ := hrel
        by_cases hlt : i < n
        · have hlt' : (i : Int) < (n : Int) := by omega
          obtain ⟨r, hr⟩ : ∃ r, rv[i]? = some r := ⟨_, List.getElem?_eq_getElem (by have := Hl.out; omega)⟩
          obtain ⟨b, o, rfl, d0⟩ := (HR.out.fr0 H.out.2.2).iv hr
          have hs := iflat_take hr
          have hle := iflat_le rv (i + 1)
          have hrd := (HI.out r (List.mem_of_getElem? hr)).fr0 H.out.2.2
          have HRl := Lib.hid (show iflat (rv.take (i + 1)) = iflat (rv.take i) ++ r.l from hs)
          obtain ⟨p, hp⟩ : ∃ p, p = r.l.length := ⟨_, rfl⟩
          rw [← hp] at d0 hrd
          have hk2 : q + p ≤ 100000 := by rw [hs, List.length_append, ← H.out.1, ← hp] at hle; have := Ht.out; omega
          have Hrd := Lib.hid hrd
          have HP := Lib.hid hp
          clear hr hs hle hp hrd
          go_wp2_with (at_builtin; refine wpAppRd E3 H.out.2.1 Hrd.out (oneCell_ints _) (by omega) (by omega) H.out.2.2.size (q + p) rfl (by rfl) (by rfl) ?_; intro a9 c9 w9 own9 fr9 at9; have H9 := Lib.hid (And.intro own9 (H.out.2.2.trans fr9 (fun k hk hs => by have := (Own.blk H.out.2.1 k hs).1; omega))); clear own9 fr9 at9)
          go_roundw
          case rel => exact ⟨i + 1, q + p, a9, c9, by omega, by go_num, rfl, hk2, Lib.hid ⟨by rw [HRl.out, List.length_append, ← H.out.1, ← HP.out], by rw [HRl.out, ints, List.map_append]; exact H9.out.1, H9.out.2⟩⟩
          case measure => simp [intOf]; omega
        · obtain rfl : n = i := by omega
          go_wp2_with fail
          go_ret
          have h9 := H.out
          rw [List.take_of_length_le (by rw [Hl.out]; exact Nat.le_refl _)] at h9
          obtain ⟨e1, e2, e3⟩ := h9
          subst e1
          exact ⟨a', c', rfl, e2, e3⟩
end Go.Proofs.Ytkmnnfflibamnaa
/- A region that holds no 'defer', within a round: what is shown of it outside serves. -/
namespace Go.Proofs.Ytkmnnfflibamnaa
open Go.RowKit
def noDefer (o : Oper) : Bool := match o.op with | .defer _ => false | _ => true
theorem noDefer_ne {o : Oper} (h : noDefer o = true) : ∀ c, o.op ≠ .defer c := fun c e => by unfold noDefer at h; rw [e] at h; cases h
theorem rows_wide {n l : Nat} {P : Program} {row : String} {args : Array Value} {w : World} {R : Value → World → Prop} (h : Rows P row args w R) : RowsIn (Fence.wide.inRound l) n P row args w R := fun c cs _ => by
  obtain ⟨v, w', hR, hs⟩ := h c cs
  exact ⟨v, w', hR, stepsIn_wide.2 hs⟩
theorem op_round {P : Program} {o : Oper} {a : Act} {w : World} {K : Act → World → Prop} {Q : Exit → Act → World → Prop} {l n : Nat} (hd : noDefer o = true) (h : Oper.wp P o a w K Q) : Oper.wpIn (Fence.wide.inRound l) n P o a w K Q := by
  unfold Oper.wp at h
  unfold Oper.wpIn
  refine ⟨fun f _ => trivial, ?_⟩
  rw [Oper.semAt_eq _ _ _ (noDefer_ne hd)]
  generalize (execOp a.eval o).run P w = r at h ⊢
  cases r with
  | ok x w' =>
    cases x with
    | value v => exact h
    | skip => exact h
    | defer d => exact h
    | enter f args => exact ⟨fun hh => (by cases hh), CallsIn.inRound l (callsIn_wide.2 h)⟩
    | row row args => exact ⟨fun hh => (by cases hh), rows_wide h⟩
    | _ => exact h.elim
  | halt x w' =>
    cases x <;> exact h
theorem any_round {P : Program} {md : Region.Mode} {ops : Array Oper} {Q : Exit → Act → World → Prop} {l m : Nat} (hd : ops.all noDefer = true) (hQ : ¬ LetsOut Q) : ∀ (n : Nat) (li : Array Bool) (a : Act) (w : World), wpAny P md ops Q n li a w → wpAnyIn (Fence.wide.inRound l) m P md ops Q n li a w
  | 0, _, _, _, h => h
  | n + 1, li, a, w, h => by
    refine ⟨h.1, fun j hj => ?_⟩
    have h2 := h.2 j hj
    unfold wpOp at h2
    unfold wpOpIn
    cases ho : ops[j]? with
    | none => rw [ho] at h2; exact any_round hd hQ n _ a w h2
    | some o =>
      rw [ho] at h2
      have hdo : noDefer o = true := by
        rw [Array.all_eq_true] at hd
        obtain ⟨hj', e⟩ := Array.getElem?_eq_some_iff.1 ho
        rw [← e]; exact hd j hj'
      dsimp only at h2 ⊢
      split
      · rename_i hw
        rw [if_pos hw] at h2
        rcases h2 with h2 | ⟨_, h2⟩
        · exact Oper.wpIn_mono (fun a' w' h' => any_round hd hQ n _ a' w' h') (op_round hdo h2)
        · exact absurd h2 hQ
      · rename_i hw
        rw [if_neg hw] at h2
        exact ⟨fun f _ => trivial, any_round hd hQ n _ _ w h2⟩
theorem wpIn_region_last {P : Program} {ops : Array Oper} {R : Act → World → Prop} {l m : Nat} (s : Nat) (S : World → Prop) {id : Nat} {a : Act} {w : World} (hm : P.follows .mixedOrders = true) (hd : ops.all noDefer = true)
    (h : anyP P .any ops (NoPanic (Exit.then R fun _ _ _ => False)) S s ops.size (Array.replicate ops.size false) a w.drew) : (Code.region id ops true).wpIn (Fence.wide.inRound l) m P (Exit.then R fun _ _ _ => False) a w :=
  wpIn_mono (wpIn_region_any hm (any_round hd (fun ⟨_, _, h⟩ => h) _ _ _ _ (anyP_any _ _ _ _ h))) NoPanic.imp
end Go.Proofs.Ytkmnnfflibamnaa
