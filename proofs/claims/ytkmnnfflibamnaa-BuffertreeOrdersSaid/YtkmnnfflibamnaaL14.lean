/- Buffer trees: the law of order. -/
import Derived.Test.YtkmnnfflibamnaaL2
import Derived.Test.YtkmnnfflibamnaaComMapR
import Derived.Deep.CutBlock
namespace Go.Proofs.Ytkmnnfflibamnaa
open Go.RowKit
attribute [local go_sem ↓] Go.wp_at_zero Go.wp_at_succ
theorem cnt_ge {B : Nat} (hB : 1 ≤ B) (n : Nat) : n ≤ cnt B n * B := by
  unfold cnt
  have h1 := Nat.div_add_mod (n + B - 1) B
  have h2 := Nat.mod_lt (n + B - 1) (show 0 < B by omega)
  rw [Nat.mul_comm] at h1
  omega
theorem cnt_least {B n k : Nat} (hB : 1 ≤ B) (h : n ≤ k * B) : cnt B n ≤ k := by
  unfold cnt
  have : n + B - 1 < (k + 1) * B := by rw [Nat.add_mul]; omega
  have := (Nat.div_lt_iff_lt_mul (show 0 < B by omega)).2 this
  omega
theorem cstL_ge {B : Nat} (hB : 1 ≤ B) : ∀ ls : List Nat, cnt B ls.sum ≤ cstL B ls
  | [] => cnt_least hB (by simp)
  | x :: ls => by
    have ih := cstL_ge hB ls
    have h1 := cnt_ge hB x
    have h2 := cnt_ge hB ls.sum
    have e : cstL B (x :: ls) = cnt B x + cstL B ls := by unfold cstL; rw [List.map_cons, List.sum_cons]
    rw [e, List.sum_cons]
    have h3 : cnt B (x + ls.sum) ≤ cnt B x + cnt B ls.sum := cnt_least hB (by rw [Nat.add_mul]; omega)
    omega
theorem sortF_ge (B F : Nat) : ∀ (n : Nat) (ls : List Nat) (c : Nat), c ≤ sortF B F n ls c
  | 0, _, _ => Nat.le_refl _
  | n + 1, ls, c => by
    unfold sortF
    split
    · exact Nat.le_trans (by omega) (sortF_ge B F n _ _)
    · exact Nat.le_refl _
theorem srtN_ge {B F M n : Nat} (hB : 1 ≤ B) (hM : 0 < M) : 2 * cnt B n ≤ srtN B F M n := by
  have h1 := cstL_ge hB (chL n M)
  rw [chL_sum hM] at h1
  exact Nat.le_trans (by omega) (sortF_ge B F _ _ _)
/-- What a map of counts holds. -/
def fC (p q : List Int) : Int → Option Value := fun k => if k ∈ p ∨ k ∈ q then some (.int .i64 ((p.count k : Int) - (q.count k : Int))) else none
theorem fC_get (p q : List Int) (k : Int) : (fC p q k).getD (.int .i64 0) = .int .i64 ((p.count k : Int) - (q.count k : Int)) := by
  unfold fC
  split
  · rfl
  · rename_i h
    have h1 : p.count k = 0 := List.count_eq_zero.2 (fun h2 => h (.inl h2))
    have h2 : q.count k = 0 := List.count_eq_zero.2 (fun h2 => h (.inr h2))
    rw [h1, h2]; rfl
theorem fC_a (p q : List Int) (a : Int) : setV (fC p q) a (some (.int .i64 ((p.count a : Int) - (q.count a : Int) + 1))) = fC (p ++ [a]) q := by
  funext k
  unfold setV fC
  by_cases e : k = a
  · subst e
    rw [if_pos rfl, if_pos (.inl (List.mem_append_right _ (List.mem_cons_self ..))), List.count_append]
    have : List.count k [k] = 1 := by simp
    rw [this]
    congr 2; omega
  · rw [if_neg e, List.count_append]
    have : List.count k [a] = 0 := List.count_eq_zero.2 (by simp [e])
    rw [this, Nat.add_zero]
    simp [e]
theorem fC_b (p q : List Int) (b : Int) : setV (fC p q) b (some (.int .i64 ((p.count b : Int) - (q.count b : Int) - 1))) = fC p (q ++ [b]) := by
  funext k
  unfold setV fC
  by_cases e : k = b
  · subst e
    rw [if_pos rfl, if_pos (.inr (List.mem_append_right _ (List.mem_cons_self ..))), List.count_append]
    have : List.count k [k] = 1 := by simp
    rw [this]
    congr 2; omega
  · rw [if_neg e, List.count_append]
    have : List.count k [b] = 0 := List.count_eq_zero.2 (by simp [e])
    rw [this, Nat.add_zero]
    simp [e]
theorem fC_zero {p q : List Int} (h : q.Perm p) {k c : Int} (hf : fC p q k = some (.int .i64 c)) : c = 0 := by
  unfold fC at hf
  split at hf
  · injection hf with hf
    injection hf with _ hf
    rw [h.count_eq] at hf
    omega
  · cases hf
set_option maxRecDepth 100000 in
theorem und40 : Try.prog.underlying 40 = some (.map 3 3) := by kernel_rfl
set_option maxRecDepth 100000 in
set_option maxHeartbeats 8000000 in
theorem Orders_law (a : Option Addr) (n c : Nat) (xs : List Int) (b m : Int) (w : World) (A : ArgSl w a n c xs) :
    Calls Try.prog 4 #[.slice a n c, .int .i64 b, .int .i64 m] w fun e w' => e = .returned (.bool true) ∧ Fr F0 w w' := by
  have HA := Lib.hid (awake_any w)
  have HAr := Lib.hid A
  have HSz := Lib.hid (fun W => Sizes_any b m W)
  clear A
  by_cases hn : 200 < n
  · have hd : 200 < (n : Int) := by omega
    clear hn
    go_enter Try.func4, Try.ntmps4
    go_wp2_with (first | (go_at_call 10; refine HA.out.mono ?_; rintro e w1 ⟨rfl, F1⟩; have X1 := Lib.hid F1; clear F1) | (go_at_call 11; refine (HSz.out _).mono ?_; rintro e w2 ⟨rfl, rfl⟩))
    go_ret
    exact ⟨rfl, X1.out⟩
  have hd : ¬ 200 < (n : Int) := by omega
  have hn200 : n ≤ 200 := by omega
  clear hn
  cases hs : szB b m with
  | false =>
    rw [hs] at HSz
    clear hs
    go_enter Try.func4, Try.ntmps4
    go_wp2_with (first | (go_at_call 10; refine HA.out.mono ?_; rintro e w1 ⟨rfl, F1⟩; have X1 := Lib.hid F1; clear F1) | (go_at_call 11; refine (HSz.out _).mono ?_; rintro e w2 ⟨rfl, rfl⟩))
    go_ret
    exact ⟨rfl, X1.out⟩
  | true =>
    rw [hs] at HSz
    have h1 := szB_iff.1 hs
    obtain ⟨B, rfl⟩ : ∃ B : Nat, b = (B : Int) := ⟨b.toNat, by omega⟩
    obtain ⟨M, rfl⟩ : ∃ M : Nat, m = (M : Int) := ⟨m.toNat, by omega⟩
    have hBM : (1 ≤ B ∧ B ≤ 64) ∧ (2 * B ≤ M ∧ M ≤ 1000) := by omega
    have HBM := Lib.hid hBM
    obtain ⟨S, hS⟩ : ∃ S, S = srtN B (fanN B M) M n := ⟨_, rfl⟩
    have HS1 : Hid (∀ W a c l, Rd W a n (ints l) → n ≤ c → Calls Try.prog 17 #[.slice a n c, .int .i64 (B : Int), .int .i64 (M : Int)] W fun e w' => ∃ a' c' ys, e = .returned (.tuple #[.slice a' n c', .int .i64 (S : Int), .int .i64 0]) ∧ ys.Perm l ∧ ys.Pairwise (· ≤ ·) ∧ Rd w' a' n (ints ys) ∧ Fr F0 W w') := Lib.hid (fun W a c l hr hc => by
      rw [hS]
      exact BSort_any hr hc (by omega) hBM.1 hBM.2)
    have hSg : 2 * cnt B n ≤ S := by rw [hS]; exact srtN_ge hBM.1.1 (by omega)
    have HCo := Lib.hid (fun W => Count_any B n W hBM.1 (by omega))
    have mkN : ∀ W : World, (Instr.makeSlice 36 (.int .i64 (n : Int)) (.int .i64 (n : Int))).run Try.prog W = .ok (.slice (some ⟨W.heap.size, 0, none⟩) n n) (W.alloc (.cells (Array.replicate n (.int .i64 0)) 3)) := fun W => run_mk E3 rfl n (by omega) (by omega) W
    have mkZ : Hid (∀ W : World, Rd (W.alloc (.cells (Array.replicate n (.int .i64 0)) 3)) (some ⟨W.heap.size, 0, none⟩) n (ints (List.replicate n 0))) := Lib.hid (fun W => by
      have h1 := (Own.made (w := W) (B := 0) (T := 3) (z := .int .i64 0) n (Nat.zero_le _) (by omega)).rd
      rw [← List.map_replicate] at h1
      exact h1)
    clear hs h1 hBM hS
    go_enter Try.func4, Try.ntmps4
    go_upto_region 7 with (first | (go_at_call 10; refine HA.out.mono ?_; rintro e w1 ⟨rfl, F1⟩; have X1 := Lib.hid F1; clear F1) | (go_at_call 11; refine (HSz.out _).mono ?_; rintro e w2 ⟨rfl, rfl⟩) | (go_at_call 17; with_reducible (refine (HS1.out _ _ _ _ (HAr.out.rd.fr0 X1.out) HAr.out.cap).mono ?_); rintro e w3 ⟨a3, c3, ys, rfl, p1, p2, p3, p4⟩; have X3 := Lib.hid (And.intro p1 (And.intro p2 (And.intro p3 (X1.out.trans0 p4)))); clear p1 p2 p3 p4) | (go_at_call 17; with_reducible (refine (HS1.out _ _ _ _ (mkZ.out _) (Nat.le_refl _)).mono ?_); rintro e w4 ⟨a4, c4, zs, rfl, _, _, _, p4⟩; have X4 := Lib.hid (And.intro X3.out.1 (And.intro X3.out.2.1 (And.intro (X3.out.2.2.1.fr0 (((Fr.refl F0 w3).alloc _).trans0 p4)) (X3.out.2.2.2.trans0 (((Fr.refl F0 w3).alloc _).trans0 p4))))); clear p4))
    have HSo := Lib.hid (IsSorted_any a3 n c3 ys w4 X4.out.2.2.1 X4.out.2.1 (by omega))
    have hmm := @run_makeMap Try.prog
    have HP := Lib.hid X3.out.1
    clear HS1 HSz HA X1 X3 mkN mkZ
    go_upto_block 0 with (go_at_call 18; refine HSo.out.mono ?_; rintro e w5 ⟨rfl, q5, rfl⟩)
    have HM0 : Hid (MapR ((w4.drewN q5).alloc (.map #[] 0)) (plainElem Try.prog 3) w4.heap.size 0 (fC (xs.take 0) (ys.take 0)) ∧ Fr F0 w4 ((w4.drewN q5).alloc (.map #[] 0))) := Lib.hid ⟨by
      have h1 := MapR.made (w4.drewN q5) (plainElem Try.prog 3)
      have e0 : fC (xs.take 0) (ys.take 0) = fun _ => none := by funext k; simp [fC]
      rw [e0]
      exact h1, ((Fr.refl F0 w4).drewN q5).alloc _⟩
    obtain ⟨mb, hmb⟩ : ∃ mb, mb = w4.heap.size := ⟨_, rfl⟩
    have hsz : (w4.drewN q5).heap.size = mb := by rw [hmb]; rfl
    try rw [hsz]
    rw [← hmb] at HM0 ⊢
    have Hmb : Hid (w4.heap.size ≤ mb) := Lib.hid (by omega)
    generalize (w4.drewN q5).alloc (.map #[] 0) = W at *
    clear hmm HSo hsz hmb
    have hxl : xs.length = n := by have := HAr.out.rd.len; simpa using this
    have hyl : ys.length = n := by rw [HP.out.length_eq]; exact hxl
    have Hl := Lib.hid (And.intro hxl hyl)
    clear hxl hyl
    go_wp2_with fail
    go_loopw [79] (fun s79 wr => ∃ (i nn : Nat), i ≤ n ∧ nn ≤ 2 * i ∧ s79 = .int .i64 (i : Int) ∧ Hid (MapR wr (plainElem Try.prog 3) mb nn (fC (xs.take i) (ys.take i)) ∧ Fr F0 w4 wr)) (fun s79 _ => n - (intOf s79).toNat)
    case atStart => exact ⟨0, 0, Nat.zero_le _, Nat.le_refl _, rfl, HM0⟩
    case round =>
      obtain ⟨i, nn, hi, hnn, rfl, H⟩ := hrel
      clear HM0
      by_cases hlt : i < n
      · as_aux_lemma =>
        have hlt' : (i : Int) < (n : Int) := by omega
        obtain ⟨bx, ox, x, ea, hx, dx⟩ := (HAr.out.rd.fr0 (X4.out.2.2.2.trans0 H.out.2)).ix hlt
        obtain ⟨gy, oy, y, eb, hy, dy⟩ := X4.out.2.2.1.ix hlt
        subst ea eb
        have HDy := Lib.hid dy
        have hwx : wfI x := wfI_of (HAr.out.wf x (List.mem_of_getElem? hx)).1 (HAr.out.wf x (List.mem_of_getElem? hx)).2
        have hwy : wfI y := wfI_of (HAr.out.wf y (HP.out.mem_iff.1 (List.mem_of_getElem? hy))).1 (HAr.out.wf y (HP.out.mem_iff.1 (List.mem_of_getElem? hy))).2
        obtain ⟨z1, hz1⟩ : ∃ z, z = ((xs.take i).count x : Int) - ((ys.take i).count x : Int) := ⟨_, rfl⟩
        obtain ⟨z2, hz2⟩ : ∃ z, z = ((xs.take i ++ [x]).count y : Int) - ((ys.take i).count y : Int) := ⟨_, rfl⟩
        have q1 : (xs.take i).count x ≤ (xs.take i).length := List.count_le_length
        have q2 : (ys.take i).count x ≤ (ys.take i).length := List.count_le_length
        have q3 : (xs.take i ++ [x]).count y ≤ (xs.take i ++ [x]).length := List.count_le_length
        have q4 : (ys.take i).count y ≤ (ys.take i).length := List.count_le_length
        rw [List.length_take] at q1 q2 q4
        rw [List.length_append, List.length_take] at q3
        have hb1 : -200 ≤ z1 ∧ z1 ≤ 200 := by omega
        have hb2 : -200 ≤ z2 ∧ z2 ≤ 201 := by
          have : [x].length = 1 := rfl
          omega
        have hw1 : IntKind.i64.wrap (z1 + 1) = z1 + 1 := wI (by omega) (by omega)
        have hw2 : IntKind.i64.wrap (z2 - 1) = z2 - 1 := wI (by omega) (by omega)
        have hl1 : (Instr.lookup 40 (.map (some mb)) (.int .i64 x) false).run Try.prog wr = .ok (.int .i64 z1) wr := by
          have h1 := H.out.1.look und40 plainRI hwx
          rw [fC_get, ← hz1] at h1
          exact h1
        have HS1 : Hid (setV (fC (xs.take i) (ys.take i)) x (some (.int .i64 (z1 + 1))) = fC (xs.take i ++ [x]) (ys.take i)) := Lib.hid (by rw [hz1]; exact fC_a _ _ _)
        have HS2 : Hid (setV (fC (xs.take i ++ [x]) (ys.take i)) y (some (.int .i64 (z2 - 1))) = fC (xs.take (i + 1)) (ys.take (i + 1))) := Lib.hid (by
          rw [hz2, fC_b, List.take_add_one, List.take_add_one, hx, hy]; rfl)
        have HG2 : Hid ((fC (xs.take i ++ [x]) (ys.take i) y).getD (.int .i64 0) = .int .i64 z2) := Lib.hid (by rw [fC_get, hz2])
        have Hw := Lib.hid (And.intro hwx hwy)
        have Hv1 : Hid (∃ d, plainElem (H := Unit) Try.prog 3 (.int .i64 (z1 + 1)) = some (d, [])) := Lib.hid ⟨_, plainElem_int (by kernel_rfl) (wfI_of (by omega) (by omega))⟩
        have Hv2 : Hid (∃ d, plainElem (H := Unit) Try.prog 3 (.int .i64 (z2 - 1)) = some (d, [])) := Lib.hid ⟨_, plainElem_int (by kernel_rfl) (wfI_of (by omega) (by omega))⟩
        clear dy hx hy hwx hwy hz1 hz2 q1 q2 q3 q4 hb1 hb2
        go_upto_region 14 with (at_mapUpdate; refine wpMapRStore H.out.1 und40 (by omega) Hw.out.1 (v := .int .i64 (z1 + 1)) Hv1.out rfl rfl rfl ?_; intro w5 m5 F5; rw [HS1.out] at m5; obtain ⟨n5, hn5, m5⟩ : ∃ n5, n5 ≤ nn + 1 ∧ MapR w5 (plainElem Try.prog 3) mb n5 (fC (xs.take i ++ [x]) (ys.take i)) := ⟨_, (by split <;> omega), m5⟩; have H5 := Lib.hid (And.intro m5 (H.out.2.trans F5 (fun k hk e => by have := Hmb.out; have e : k = mb := e; omega))); clear m5 F5)
        have dy5 := H5.out.2.cell HDy.out id
        have hl2 : (Instr.lookup 40 (.map (some mb)) (.int .i64 y) false).run Try.prog w5 = .ok (.int .i64 z2) w5 := by
          have h1 := H5.out.1.look und40 plainRI Hw.out.2
          rw [HG2.out] at h1
          exact h1
        clear hl1 dx
        go_wp2_with (at_mapUpdate; refine wpMapRStore H5.out.1 und40 (by omega) Hw.out.2 (v := .int .i64 (z2 - 1)) Hv2.out rfl rfl rfl ?_; intro w6 m6 F6; rw [HS2.out] at m6; obtain ⟨n6, hn6, m6⟩ : ∃ n6, n6 ≤ n5 + 1 ∧ MapR w6 (plainElem Try.prog 3) mb n6 (fC (xs.take (i + 1)) (ys.take (i + 1))) := ⟨_, (by split <;> omega), m6⟩; have H6 := Lib.hid (And.intro m6 (H5.out.2.trans F6 (fun k hk e => by have := Hmb.out; have e : k = mb := e; omega))); clear m6 F6)
        go_roundw
        case rel => exact ⟨i + 1, n6, by omega, by omega, by go_num, Lib.hid H6.out⟩
        case measure => simp [intOf]; omega
      · obtain rfl : i = n := by omega
        have H0 : Hid (MapR wr (plainElem Try.prog 3) mb nn (fC xs ys) ∧ Fr F0 w wr) := Lib.hid (by
          have h1 := H.out.1
          rw [List.take_of_length_le (by rw [Hl.out.1]; exact Nat.le_refl _), List.take_of_length_le (by rw [Hl.out.2]; exact Nat.le_refl _)] at h1
          exact ⟨h1, X4.out.2.2.2.trans0 H.out.2⟩)
        have Hmw : Hid (w.heap.size ≤ wr.heap.size) := Lib.hid H0.out.2.size
        clear H X4 HAr
        go_upto_region 16 with fail
        go_wp2_with (at_range; refine wpRangeR H0.out.1 und40 rfl ?_; intro w7 hrg0 F7; have HR := Lib.hid (And.intro hrg0 (H0.out.2.trans0 F7)); clear hrg0 F7)
        go_frame
        obtain ⟨rI, hrI⟩ : ∃ r, r = wr.heap.size := ⟨_, rfl⟩
        rw [← hrI] at HR ⊢
        have hrI2 : Hid (w.heap.size ≤ rI) := Lib.hid (by rw [hrI]; exact Hmw.out)
        clear hrI H0
        go_loopw [16] (fun _ wr => ∃ (todo : Int → Bool) (cnt : Nat), Hid (RgR wr (plainElem Try.prog 3) mb rI nn (fC xs ys) todo cnt ∧ Fr F0 w wr)) (fun _ wr => wr.rangeLeft mb rI)
        case atStart => exact ⟨_, _, HR⟩
        case round =>
          obtain ⟨todo, cnt9, H⟩ := hrel
          go_wp2_with (at_next; refine wpNextR H.out.1 plainRI (Value.int .i64) (fun v y hv => (plainElem_int_inv (e := 3) (q := .i64) (by kernel_rfl) hv).elim fun c hc => ⟨c, hc.1⟩) rfl ?_ ?_)
          · intro _
            have hw2 : IntKind.i64.wrap (2 * (cntN B i : Int)) = ((2 * cnt B i : Nat) : Int) := by
              rw [show cntN B i = cnt B i from rfl]
              have : (2 * (cnt B i : Int)) = ((2 * cnt B i : Nat) : Int) := by omega
              rw [this]
              have h3 := cnt_le HBM.out.1.1 i
              exact wI (by omega) (by omega)
            have hge : ((S : Nat) : Int) ≥ ((2 * cnt B i : Nat) : Int) := by omega
            have hge2 : ((2 * cnt B i : Nat) : Int) ≤ (S : Int) := hge
            obtain ⟨Z, hZ⟩ : ∃ Z, Z = 2 * cnt B i := ⟨_, rfl⟩
            rw [← hZ] at hw2 hge hge2
            clear hSg hZ
            go_wp2_with (go_at_call 19; refine (HCo.out _).mono ?_; rintro e w' ⟨rfl, rfl⟩)
            go_ret
            exact ⟨by first | rfl | simp, H.out.2⟩
          · intro k c5 w8 cnt5 hwf hto hf hrg5 hlt5 F5 hen
            obtain rfl : c5 = 0 := fC_zero HP.out hf
            have H5 := Lib.hid (And.intro hrg5 (H.out.2.trans F5 (fun z hz e => by have := hrI2.out; have e : z = rI := e; omega)))
            have Hme : Hid (w8.rangeLeft mb rI < wr.rangeLeft mb rI) := Lib.hid (by rw [hrg5.left_eq, H.out.1.left_eq]; exact hlt5)
            clear hrg5 hlt5 F5 hwf hto hf
            go_wp2_with fail
            go_roundw
            case rel => exact ⟨_, _, H5⟩
            case measure => exact Hme.out
end Go.Proofs.Ytkmnnfflibamnaa
