/- CascadingBounds: the walk. -/
import Derived.Test.YtglonedhcljdoaaN3
import Derived.Test.YtglonedhcljdoaaSlIndex
namespace Go.Proofs.Ytglonedhcljdoaa
open Go.RowKit
attribute [local go_sem ↓] Go.wp_at_zero Go.wp_at_succ

theorem rk_mono (xs : List Int) {a b : Int} (h : a ≤ b) : rk xs a ≤ rk xs b := by
  unfold rk
  exact List.countP_mono_left fun x _ hx => by simp at hx ⊢; omega
theorem rk_idx {xs : List Int} (hA : Asc xs) {i : Nat} (hi : i < xs.length) : idxI xs (xs.getD i 0) = rk xs (xs.getD i 0) := by
  obtain ⟨x, hx⟩ : ∃ x, x = xs.getD i 0 := ⟨_, rfl⟩
  rw [← hx]
  have hmem : x ∈ xs := by rw [hx, List.getD_eq_getElem?_getD, List.getElem?_eq_getElem hi]; simp
  clear hx hi
  have hany : xs.any (· == x) = true := List.any_eq_true.2 ⟨x, hmem, by simp⟩
  unfold idxI
  rw [if_pos hany]
  congr 1
  induction xs with
  | nil => cases hmem
  | cons y ys ih =>
    have hy := List.pairwise_cons.1 hA
    rw [List.findIdx_cons]
    by_cases e : y = x
    · subst e
      have : rk (y :: ys) y = 0 := by
        unfold rk
        rw [List.countP_eq_zero]
        intro z hz
        rcases List.mem_cons.1 hz with rfl | hz
        · simp
        · have := hy.1 z hz; simp; omega
      simp [this]
    · have hm : x ∈ ys := by
        rcases List.mem_cons.1 hmem with h | h
        · exact absurd h.symm e
        · exact h
      have hlt : y < x := by have := hy.1 x hm; omega
      have h1 := ih hy.2 hm (List.any_eq_true.2 ⟨x, hm, by simp⟩)
      have h2 : rk (y :: ys) x = rk ys x + 1 := by unfold rk; rw [List.countP_cons]; simp [hlt]
      have h3 : (y == x) = false := by simpa using e
      rw [h2, h3]
      simp only [cond_false]
      omega

set_option maxRecDepth 100000 in
set_option maxHeartbeats 8000000 in
theorem Bounds_lt (a : Option Addr) (n c : Nat) (R : List RowV) (key other : Int) (w : World) (hr : ArgRows w a n c R) (hko : other < key) (hs : smallB (catL R) = true) (hz : checkC (catL R) = 0) : Calls Try.prog 4 #[.slice a n c, .int .i64 key, .int .i64 other] w fun e w' => e = .returned (.bool true) ∧ Fr F0 w w' := by
  obtain ⟨L, hL⟩ : ∃ L, L = catL R := ⟨_, rfl⟩
  have hcl : L.length = n := by rw [hL]; simpa [catL] using hr.len
  have hsm := fun w1 (f : Fr F0 w w1) => small_any a n c R w1 (hr.fr0 f)
  have hmk := fun w1 (f : Fr F0 w w1) => Make_any a n c R w1 (hr.fr0 f)
  rw [← hL] at hsm hmk hs hz
  rw [hs] at hsm
  have Hsm := Lib.hid hsm
  have Hmk := Lib.hid hmk
  have Hr := Lib.hid hr
  have HL := Lib.hid hL
  have Hcl := Lib.hid hcl
  clear hsm hmk hr hL hcl
  obtain ⟨h32, hn0, hlen, hasc⟩ := check_ok hz
  rw [Hcl.out] at h32 hn0
  have Hz := Lib.hid hz
  have Hlen := Lib.hid hlen
  have Hasc := Lib.hid hasc
  clear hz hlen hasc hs
  go_enter Try.func4, Try.ntmps4
  go_wp2_with fail
  refine (awake_any _).mono ?_; rintro e w1 ⟨rfl, F1⟩
  go_wp2_with (refine (Hsm.out _ F1).mono ?_; rintro e w2 ⟨rfl, rfl⟩)
  refine (Make_ok (Hmk.out _ F1) Hz.out).mono ?_; rintro e w2 ⟨x, g, hs, rfl, hI, F2⟩
  have hxw : Hid (w.heap.size ≤ x) := Lib.hid (Nat.le_trans F1.size hI.bx)
  replace F1 := F1.trans0 F2
  replace hI := Lib.hid hI
  clear F2
  go_wp2_with (refine (Compares_any hI.out).mono ?_; rintro e w4 ⟨rfl, rfl⟩)
  refine (Search_any hI.out (by rw [Hcl.out]; exact h32) (by rw [Hcl.out]; exact hn0) Hlen.out Hasc.out other).mono ?_
  rintro e w3 ⟨a1, c1, m1, rfl, hR1, hI1, hm1, hM1, hB1, F3⟩
  rw [Hcl.out] at hR1 ⊢
  replace F1 := F1.trans F3 (fun k hk h => by have e : k = x := h; have := hxw.out; omega)
  have hb1 : Hid (∀ k, onBlk a1 k → k ≠ x) := Lib.hid (fun k hk => by have := hB1 k hk; have := lt_of_block hI.out.kx; omega)
  replace hR1 := Lib.hid hR1
  replace hI1 := Lib.hid hI1
  replace hM1 := Lib.hid hM1
  clear F3 hB1 hI
  go_wp2_with (refine (Compares_any hI1.out).mono ?_; rintro e w4 ⟨rfl, rfl⟩)
  refine (Search_any hI1.out (by rw [Hcl.out]; exact h32) (by rw [Hcl.out]; exact hn0) Hlen.out Hasc.out key).mono ?_
  rintro e w4 ⟨a2, c2, m2, rfl, hR2, hI2, hm2, hM2, hB2, F4⟩
  rw [Hcl.out] at hR2 ⊢
  replace F1 := F1.trans F4 (fun k hk h => by have e : k = x := h; have := hxw.out; omega)
  have hb2 : Hid (∀ k, onBlk a2 k → k ≠ x) := Lib.hid (fun k hk => by have := hB2 k hk; have := lt_of_block hI1.out.kx; omega)
  replace hR1 := Lib.hid (hR1.out.fr F4 (fun k hk h => hb1.out k hk h))
  replace hR2 := Lib.hid hR2
  replace hI2 := Lib.hid hI2
  replace hM2 := Lib.hid hM2
  clear F4 hB2 hI1
  go_wp2_with (refine (Compares_any hI2.out).mono ?_; rintro e w5 ⟨rfl, rfl⟩)
  refine (refBound_any a n c R _ (Hr.out.fr0 F1) (by omega) hn0 (by rw [← HL.out]; exact Hlen.out)).mono ?_
  rintro e w5 ⟨K, rfl, hK1, hK2, F5⟩
  rw [← HL.out] at hK1
  have q1 := hM1.out K hK1
  have q2 := hM2.out K hK1
  rw [Hcl.out] at q1 q2
  replace F1 := F1.trans0 F5
  replace hR1 := Lib.hid (hR1.out.fr0 F5)
  replace hR2 := Lib.hid (hR2.out.fr0 F5)
  replace hI2 := Lib.hid (hI2.out.fr F5)
  clear F5 hK1
  go_wp2_with fail
  have hnm := Hr.out.rd.max
  go_loopw [16, 17, 18, 19, 99] (fun _ _ _ _ i wr => ∃ (k : Nat) (m : Int), k ≤ n ∧ i = .int .i64 k ∧ Fr F0 w wr ∧ Hid (IxR w1.heap.size wr x L m g hs) ∧ Hid (Rd wr a1 n (ints (L.map (rk · other)))) ∧ Hid (Rd wr a2 n (ints (L.map (rk · key))))) (fun _ _ _ _ i _ => n - (intOf i).toNat)
  case atStart => exact ⟨0, m2, by omega, rfl, F1, hI2, hR1, hR2⟩
  case round =>
    clear F1 hI2 hR1 hR2 q1 q2
    obtain ⟨k, m, hk, rfl, hF, hIk, hRa, hRb⟩ := hrel
    by_cases hlt : k < n
    · obtain ⟨b, o, r, hb, hrk, d⟩ := (Hr.out.fr0 hF).ix hlt
      have hrr := Lib.hid ((Hr.out.fr0 hF).row k r hrk)
      have hrw := Lib.hid (Hr.out.row k r hrk)
      have hx : L[k]? = some r.xs := by rw [HL.out]; simp [catL, hrk]
      obtain ⟨b1, o1, hb1', hc1⟩ := hRa.out.cells (by omega)
      obtain ⟨b2, o2, hb2', hc2⟩ := hRb.out.cells (by omega)
      have d1 := hc1 k (.int .i64 (rk r.xs other)) (by simp [hx])
      have d2 := hc2 k (.int .i64 (rk r.xs key)) (by simp [hx])
      obtain ⟨ra, rn, rc, rxs⟩ := r
      simp only [RowV.val] at *
      have hrl : rxs.length = rn := by simpa using hrr.out.len
      obtain ⟨z1, hz1⟩ : ∃ z : Nat, z = rk rxs other := ⟨_, rfl⟩
      obtain ⟨z2, hz2⟩ : ∃ z : Nat, z = rk rxs key := ⟨_, rfl⟩
      rw [← hz1] at d1
      rw [← hz2] at d2
      have hz12 : z1 ≤ z2 := by rw [hz1, hz2]; exact rk_mono rxs (by omega)
      have hz2n : z2 ≤ rn := by rw [hz2, ← hrl]; exact rk_le _ _
      have e1 : decide (z2 < z1) = false := by simp; omega
      have e2 : decide ((z2 : Int) < (z1 : Int)) = false := by simp; omega
      have e3 : decide ((z1 : Int) < 0) = false := by simp
      have e4 : decide ((rn : Int) < (z2 : Int)) = false := by simp; omega
      have e5 : decide (rn < z2) = false := by simp; omega
      have hAsc : Hid (Asc rxs) := Lib.hid (Hasc.out rxs (List.mem_of_getElem? hx))
      have Hx := Lib.hid hx
      have Hrl := Lib.hid hrl
      have hrm := hrr.out.max
      subst hb
      subst hb1'
      subst hb2'
      have i0 : (0 : Int) ≤ (k : Int) := by omega
      have i1 : (k : Int) < (n : Int) := by omega
      clear hx hrk hc1 hc2 hz1 hz2 hrl
      by_cases hrn : 0 < rn
      · obtain ⟨rb, ro, hra, hrc⟩ := hrr.out.cells hrn
        obtain ⟨y, hy⟩ : ∃ y, y = rxs.getD (rn / 2) 0 := ⟨_, rfl⟩
        have hyy : rxs[rn / 2]? = some y := by rw [hy, List.getD_eq_getElem?_getD, List.getElem?_eq_getElem (by have := Hrl.out; omega)]; simp
        have d3 := hrc (rn / 2) (.int .i64 y) (by simp [hyy])
        have hidx : Hid (idxI rxs y = rk rxs y) := Lib.hid (by rw [hy]; exact rk_idx hAsc.out (by have := Hrl.out; omega))
        have hrx : Hid (rb ≠ x) := Lib.hid (by
          have h1 := hrw.out.lt hrn rb (by rw [hra]; exact (onBlk_some _ _ _ _).2 rfl)
          have h2 := hxw.out
          omega)
        have Hhn := Lib.hid hrn
        subst hra
        clear hrc hy hyy
        go_wp2_with fail
        go_quiet (fail)
        go_wp2_with fail
        refine (Search_any (hIk.out.fr ((Fr.refl _ _).drewN nq)) (by rw [Hcl.out]; exact h32) (by rw [Hcl.out]; exact hn0) Hlen.out Hasc.out y).mono ?_
        rintro e w6 ⟨a3, c3, m3, rfl, hR3, hI3, hm3, hM3, hB3, F6⟩
        rw [Hcl.out] at hR3 ⊢
        obtain ⟨b3, o3, hb3, hc3⟩ := hR3.cells (by omega)
        have d4 := hc3 k (.int .i64 (rk rxs y)) (by simp [Hx.out])
        obtain ⟨z3, hz3⟩ : ∃ z : Nat, z = rk rxs y := ⟨_, rfl⟩
        rw [← hz3] at d4
        have d5 := F6.cell (p := ⟨rb, ro + rn / 2, none⟩) d3 (fun h => hrx.out h)
        have hcall : ∀ q, Calls Try.prog 16 #[.slice (some ⟨rb, ro, none⟩) rn rc, .int .i64 y] (w6.drewN q) fun e w' => e = .returned (.int .i64 z3) ∧ ∃ m, w' = w6.drewN m := by
          intro q
          rw [hz3, ← hidx.out]
          exact (Index_any _ _ _ rxs y _ (((hrr.out.fr0 ((Fr.refl _ _).drewN nq)).fr F6 (fun k hk h => hrx.out (((onBlk_some _ _ _ _).1 hk).symm.trans h))).fr0 ((Fr.refl _ _).drewN q))).mono fun _ _ h => ⟨h.1, q, h.2.symm⟩
        have Hcall := Lib.hid hcall
        have hF6 : Fr F0 w w6 := (hF.drewN nq).trans F6 (fun k hk h => by have e : k = x := h; have := hxw.out; omega)
        have hRa6 := Lib.hid ((hRa.out.fr0 ((Fr.refl _ _).drewN nq)).fr F6 (fun k hk h => hb1.out k hk h))
        have hRb6 := Lib.hid ((hRb.out.fr0 ((Fr.refl _ _).drewN nq)).fr F6 (fun k hk h => hb2.out k hk h))
        have hI6 := Lib.hid hI3
        subst hb3
        clear hR3 hI3 hm3 hM3 hB3 F6 hc3 hz3 hcall
        go_wp2_with fail
        go_quiet ((go_at_call 16; exact Hcall.out _))
        go_wp2_with fail
        exact ⟨⟨k + 1, m3, by omega, by go_num, hF6.drewN _, Lib.hid (hI6.out.fr ((Fr.refl _ _).drewN _)), Lib.hid (hRa6.out.fr0 ((Fr.refl _ _).drewN _)), Lib.hid (hRb6.out.fr0 ((Fr.refl _ _).drewN _))⟩, by simp [intOf]; omega⟩
      · have f0 : rn = 0 := by omega
        go_wp2_with fail
        go_quiet (fail)
        go_wp2_with fail
        exact ⟨⟨k + 1, m, by omega, by go_num, hF.drewN _, Lib.hid (hIk.out.fr ((Fr.refl _ _).drewN _)), Lib.hid (hRa.out.fr0 ((Fr.refl _ _).drewN _)), Lib.hid (hRb.out.fr0 ((Fr.refl _ _).drewN _))⟩, by simp [intOf]; omega⟩
    · go_wp2_with fail
      go_ret
      exact ⟨rfl, hF⟩

set_option maxRecDepth 100000 in
set_option maxHeartbeats 8000000 in
theorem Bounds_gt (a : Option Addr) (n c : Nat) (R : List RowV) (key other : Int) (w : World) (hr : ArgRows w a n c R) (hko : key < other) (hs : smallB (catL R) = true) (hz : checkC (catL R) = 0) : Calls Try.prog 4 #[.slice a n c, .int .i64 key, .int .i64 other] w fun e w' => e = .returned (.bool true) ∧ Fr F0 w w' := by
  obtain ⟨L, hL⟩ : ∃ L, L = catL R := ⟨_, rfl⟩
  have hcl : L.length = n := by rw [hL]; simpa [catL] using hr.len
  have hsm := fun w1 (f : Fr F0 w w1) => small_any a n c R w1 (hr.fr0 f)
  have hmk := fun w1 (f : Fr F0 w w1) => Make_any a n c R w1 (hr.fr0 f)
  rw [← hL] at hsm hmk hs hz
  rw [hs] at hsm
  have Hsm := Lib.hid hsm
  have Hmk := Lib.hid hmk
  have Hr := Lib.hid hr
  have HL := Lib.hid hL
  have Hcl := Lib.hid hcl
  clear hsm hmk hr hL hcl
  obtain ⟨h32, hn0, hlen, hasc⟩ := check_ok hz
  rw [Hcl.out] at h32 hn0
  have Hz := Lib.hid hz
  have Hlen := Lib.hid hlen
  have Hasc := Lib.hid hasc
  clear hz hlen hasc hs
  go_enter Try.func4, Try.ntmps4
  go_wp2_with fail
  refine (awake_any _).mono ?_; rintro e w1 ⟨rfl, F1⟩
  go_wp2_with (refine (Hsm.out _ F1).mono ?_; rintro e w2 ⟨rfl, rfl⟩)
  refine (Make_ok (Hmk.out _ F1) Hz.out).mono ?_; rintro e w2 ⟨x, g, hs, rfl, hI, F2⟩
  have hxw : Hid (w.heap.size ≤ x) := Lib.hid (Nat.le_trans F1.size hI.bx)
  replace F1 := F1.trans0 F2
  replace hI := Lib.hid hI
  clear F2
  go_wp2_with (refine (Compares_any hI.out).mono ?_; rintro e w4 ⟨rfl, rfl⟩)
  refine (Search_any hI.out (by rw [Hcl.out]; exact h32) (by rw [Hcl.out]; exact hn0) Hlen.out Hasc.out key).mono ?_
  rintro e w3 ⟨a1, c1, m1, rfl, hR1, hI1, hm1, hM1, hB1, F3⟩
  rw [Hcl.out] at hR1 ⊢
  replace F1 := F1.trans F3 (fun k hk h => by have e : k = x := h; have := hxw.out; omega)
  have hb1 : Hid (∀ k, onBlk a1 k → k ≠ x) := Lib.hid (fun k hk => by have := hB1 k hk; have := lt_of_block hI.out.kx; omega)
  replace hR1 := Lib.hid hR1
  replace hI1 := Lib.hid hI1
  replace hM1 := Lib.hid hM1
  clear F3 hB1 hI
  go_wp2_with (refine (Compares_any hI1.out).mono ?_; rintro e w4 ⟨rfl, rfl⟩)
  refine (Search_any hI1.out (by rw [Hcl.out]; exact h32) (by rw [Hcl.out]; exact hn0) Hlen.out Hasc.out other).mono ?_
  rintro e w4 ⟨a2, c2, m2, rfl, hR2, hI2, hm2, hM2, hB2, F4⟩
  rw [Hcl.out] at hR2 ⊢
  replace F1 := F1.trans F4 (fun k hk h => by have e : k = x := h; have := hxw.out; omega)
  have hb2 : Hid (∀ k, onBlk a2 k → k ≠ x) := Lib.hid (fun k hk => by have := hB2 k hk; have := lt_of_block hI1.out.kx; omega)
  replace hR1 := Lib.hid (hR1.out.fr F4 (fun k hk h => hb1.out k hk h))
  replace hR2 := Lib.hid hR2
  replace hI2 := Lib.hid hI2
  replace hM2 := Lib.hid hM2
  clear F4 hB2 hI1
  go_wp2_with (refine (Compares_any hI2.out).mono ?_; rintro e w5 ⟨rfl, rfl⟩)
  refine (refBound_any a n c R _ (Hr.out.fr0 F1) (by omega) hn0 (by rw [← HL.out]; exact Hlen.out)).mono ?_
  rintro e w5 ⟨K, rfl, hK1, hK2, F5⟩
  rw [← HL.out] at hK1
  have q1 := hM1.out K hK1
  have q2 := hM2.out K hK1
  rw [Hcl.out] at q1 q2
  replace F1 := F1.trans0 F5
  replace hR1 := Lib.hid (hR1.out.fr0 F5)
  replace hR2 := Lib.hid (hR2.out.fr0 F5)
  replace hI2 := Lib.hid (hI2.out.fr F5)
  clear F5 hK1
  go_wp2_with fail
  have hnm := Hr.out.rd.max
  go_loopw [16, 17, 18, 19, 99] (fun _ _ _ _ i wr => ∃ (k : Nat) (m : Int), k ≤ n ∧ i = .int .i64 k ∧ Fr F0 w wr ∧ Hid (IxR w1.heap.size wr x L m g hs) ∧ Hid (Rd wr a1 n (ints (L.map (rk · key)))) ∧ Hid (Rd wr a2 n (ints (L.map (rk · other))))) (fun _ _ _ _ i _ => n - (intOf i).toNat)
  case atStart => exact ⟨0, m2, by omega, rfl, F1, hI2, hR1, hR2⟩
  case round =>
    clear F1 hI2 hR1 hR2 q1 q2
    obtain ⟨k, m, hk, rfl, hF, hIk, hRa, hRb⟩ := hrel
    by_cases hlt : k < n
    · obtain ⟨b, o, r, hb, hrk, d⟩ := (Hr.out.fr0 hF).ix hlt
      have hrr := Lib.hid ((Hr.out.fr0 hF).row k r hrk)
      have hrw := Lib.hid (Hr.out.row k r hrk)
      have hx : L[k]? = some r.xs := by rw [HL.out]; simp [catL, hrk]
      obtain ⟨b1, o1, hb1', hc1⟩ := hRa.out.cells (by omega)
      obtain ⟨b2, o2, hb2', hc2⟩ := hRb.out.cells (by omega)
      have d1 := hc1 k (.int .i64 (rk r.xs key)) (by simp [hx])
      have d2 := hc2 k (.int .i64 (rk r.xs other)) (by simp [hx])
      obtain ⟨ra, rn, rc, rxs⟩ := r
      simp only [RowV.val] at *
      have hrl : rxs.length = rn := by simpa using hrr.out.len
      obtain ⟨z1, hz1⟩ : ∃ z : Nat, z = rk rxs key := ⟨_, rfl⟩
      obtain ⟨z2, hz2⟩ : ∃ z : Nat, z = rk rxs other := ⟨_, rfl⟩
      rw [← hz1] at d1
      rw [← hz2] at d2
      have hz12 : z1 ≤ z2 := by rw [hz1, hz2]; exact rk_mono rxs (by omega)
      have hz2n : z2 ≤ rn := by rw [hz2, ← hrl]; exact rk_le _ _
      have e1 : decide (z2 < z1) = false := by simp; omega
      have e2 : decide ((z2 : Int) < (z1 : Int)) = false := by simp; omega
      have e3 : decide ((z1 : Int) < 0) = false := by simp
      have e4 : decide ((rn : Int) < (z2 : Int)) = false := by simp; omega
      have e5 : decide (rn < z2) = false := by simp; omega
      have hAsc : Hid (Asc rxs) := Lib.hid (Hasc.out rxs (List.mem_of_getElem? hx))
      have Hx := Lib.hid hx
      have Hrl := Lib.hid hrl
      have hrm := hrr.out.max
      subst hb
      subst hb1'
      subst hb2'
      have i0 : (0 : Int) ≤ (k : Int) := by omega
      have i1 : (k : Int) < (n : Int) := by omega
      clear hx hrk hc1 hc2 hz1 hz2 hrl
      by_cases hrn : 0 < rn
      · obtain ⟨rb, ro, hra, hrc⟩ := hrr.out.cells hrn
        obtain ⟨y, hy⟩ : ∃ y, y = rxs.getD (rn / 2) 0 := ⟨_, rfl⟩
        have hyy : rxs[rn / 2]? = some y := by rw [hy, List.getD_eq_getElem?_getD, List.getElem?_eq_getElem (by have := Hrl.out; omega)]; simp
        have d3 := hrc (rn / 2) (.int .i64 y) (by simp [hyy])
        have hidx : Hid (idxI rxs y = rk rxs y) := Lib.hid (by rw [hy]; exact rk_idx hAsc.out (by have := Hrl.out; omega))
        have hrx : Hid (rb ≠ x) := Lib.hid (by
          have h1 := hrw.out.lt hrn rb (by rw [hra]; exact (onBlk_some _ _ _ _).2 rfl)
          have h2 := hxw.out
          omega)
        have Hhn := Lib.hid hrn
        subst hra
        clear hrc hy hyy
        go_wp2_with fail
        go_quiet (fail)
        go_wp2_with fail
        refine (Search_any (hIk.out.fr ((Fr.refl _ _).drewN nq)) (by rw [Hcl.out]; exact h32) (by rw [Hcl.out]; exact hn0) Hlen.out Hasc.out y).mono ?_
        rintro e w6 ⟨a3, c3, m3, rfl, hR3, hI3, hm3, hM3, hB3, F6⟩
        rw [Hcl.out] at hR3 ⊢
        obtain ⟨b3, o3, hb3, hc3⟩ := hR3.cells (by omega)
        have d4 := hc3 k (.int .i64 (rk rxs y)) (by simp [Hx.out])
        obtain ⟨z3, hz3⟩ : ∃ z : Nat, z = rk rxs y := ⟨_, rfl⟩
        rw [← hz3] at d4
        have d5 := F6.cell (p := ⟨rb, ro + rn / 2, none⟩) d3 (fun h => hrx.out h)
        have hcall : ∀ q, Calls Try.prog 16 #[.slice (some ⟨rb, ro, none⟩) rn rc, .int .i64 y] (w6.drewN q) fun e w' => e = .returned (.int .i64 z3) ∧ ∃ m, w' = w6.drewN m := by
          intro q
          rw [hz3, ← hidx.out]
          exact (Index_any _ _ _ rxs y _ (((hrr.out.fr0 ((Fr.refl _ _).drewN nq)).fr F6 (fun k hk h => hrx.out (((onBlk_some _ _ _ _).1 hk).symm.trans h))).fr0 ((Fr.refl _ _).drewN q))).mono fun _ _ h => ⟨h.1, q, h.2.symm⟩
        have Hcall := Lib.hid hcall
        have hF6 : Fr F0 w w6 := (hF.drewN nq).trans F6 (fun k hk h => by have e : k = x := h; have := hxw.out; omega)
        have hRa6 := Lib.hid ((hRa.out.fr0 ((Fr.refl _ _).drewN nq)).fr F6 (fun k hk h => hb1.out k hk h))
        have hRb6 := Lib.hid ((hRb.out.fr0 ((Fr.refl _ _).drewN nq)).fr F6 (fun k hk h => hb2.out k hk h))
        have hI6 := Lib.hid hI3
        subst hb3
        clear hR3 hI3 hm3 hM3 hB3 F6 hc3 hz3 hcall
        go_wp2_with fail
        go_quiet ((go_at_call 16; exact Hcall.out _))
        go_wp2_with fail
        exact ⟨⟨k + 1, m3, by omega, by go_num, hF6.drewN _, Lib.hid (hI6.out.fr ((Fr.refl _ _).drewN _)), Lib.hid (hRa6.out.fr0 ((Fr.refl _ _).drewN _)), Lib.hid (hRb6.out.fr0 ((Fr.refl _ _).drewN _))⟩, by simp [intOf]; omega⟩
      · have f0 : rn = 0 := by omega
        go_wp2_with fail
        go_quiet (fail)
        go_wp2_with fail
        exact ⟨⟨k + 1, m, by omega, by go_num, hF.drewN _, Lib.hid (hIk.out.fr ((Fr.refl _ _).drewN _)), Lib.hid (hRa.out.fr0 ((Fr.refl _ _).drewN _)), Lib.hid (hRb.out.fr0 ((Fr.refl _ _).drewN _))⟩, by simp [intOf]; omega⟩
    · go_wp2_with fail
      go_ret
      exact ⟨rfl, hF⟩

set_option maxRecDepth 100000 in
set_option maxHeartbeats 8000000 in
theorem Bounds_eq (a : Option Addr) (n c : Nat) (R : List RowV) (key other : Int) (w : World) (hr : ArgRows w a n c R) (hko : key = other) (hs : smallB (catL R) = true) (hz : checkC (catL R) = 0) : Calls Try.prog 4 #[.slice a n c, .int .i64 key, .int .i64 other] w fun e w' => e = .returned (.bool true) ∧ Fr F0 w w' := by
  subst hko
  obtain ⟨L, hL⟩ : ∃ L, L = catL R := ⟨_, rfl⟩
  have hcl : L.length = n := by rw [hL]; simpa [catL] using hr.len
  have hsm := fun w1 (f : Fr F0 w w1) => small_any a n c R w1 (hr.fr0 f)
  have hmk := fun w1 (f : Fr F0 w w1) => Make_any a n c R w1 (hr.fr0 f)
  rw [← hL] at hsm hmk hs hz
  rw [hs] at hsm
  have Hsm := Lib.hid hsm
  have Hmk := Lib.hid hmk
  have Hr := Lib.hid hr
  have HL := Lib.hid hL
  have Hcl := Lib.hid hcl
  clear hsm hmk hr hL hcl
  obtain ⟨h32, hn0, hlen, hasc⟩ := check_ok hz
  rw [Hcl.out] at h32 hn0
  have Hz := Lib.hid hz
  have Hlen := Lib.hid hlen
  have Hasc := Lib.hid hasc
  clear hz hlen hasc hs
  go_enter Try.func4, Try.ntmps4
  go_wp2_with fail
  refine (awake_any _).mono ?_; rintro e w1 ⟨rfl, F1⟩
  go_wp2_with (refine (Hsm.out _ F1).mono ?_; rintro e w2 ⟨rfl, rfl⟩)
  refine (Make_ok (Hmk.out _ F1) Hz.out).mono ?_; rintro e w2 ⟨x, g, hs, rfl, hI, F2⟩
  have hxw : Hid (w.heap.size ≤ x) := Lib.hid (Nat.le_trans F1.size hI.bx)
  replace F1 := F1.trans0 F2
  replace hI := Lib.hid hI
  clear F2
  go_wp2_with (refine (Compares_any hI.out).mono ?_; rintro e w4 ⟨rfl, rfl⟩)
  refine (Search_any hI.out (by rw [Hcl.out]; exact h32) (by rw [Hcl.out]; exact hn0) Hlen.out Hasc.out key).mono ?_
  rintro e w3 ⟨a1, c1, m1, rfl, hR1, hI1, hm1, hM1, hB1, F3⟩
  rw [Hcl.out] at hR1 ⊢
  replace F1 := F1.trans F3 (fun k hk h => by have e : k = x := h; have := hxw.out; omega)
  have hb1 : Hid (∀ k, onBlk a1 k → k ≠ x) := Lib.hid (fun k hk => by have := hB1 k hk; have := lt_of_block hI.out.kx; omega)
  replace hR1 := Lib.hid hR1
  replace hI1 := Lib.hid hI1
  replace hM1 := Lib.hid hM1
  clear F3 hB1 hI
  go_wp2_with (refine (Compares_any hI1.out).mono ?_; rintro e w4 ⟨rfl, rfl⟩)
  refine (Search_any hI1.out (by rw [Hcl.out]; exact h32) (by rw [Hcl.out]; exact hn0) Hlen.out Hasc.out key).mono ?_
  rintro e w4 ⟨a2, c2, m2, rfl, hR2, hI2, hm2, hM2, hB2, F4⟩
  rw [Hcl.out] at hR2 ⊢
  replace F1 := F1.trans F4 (fun k hk h => by have e : k = x := h; have := hxw.out; omega)
  have hb2 : Hid (∀ k, onBlk a2 k → k ≠ x) := Lib.hid (fun k hk => by have := hB2 k hk; have := lt_of_block hI1.out.kx; omega)
  replace hR1 := Lib.hid (hR1.out.fr F4 (fun k hk h => hb1.out k hk h))
  replace hR2 := Lib.hid hR2
  replace hI2 := Lib.hid hI2
  replace hM2 := Lib.hid hM2
  clear F4 hB2 hI1
  go_wp2_with (refine (Compares_any hI2.out).mono ?_; rintro e w5 ⟨rfl, rfl⟩)
  refine (refBound_any a n c R _ (Hr.out.fr0 F1) (by omega) hn0 (by rw [← HL.out]; exact Hlen.out)).mono ?_
  rintro e w5 ⟨K, rfl, hK1, hK2, F5⟩
  rw [← HL.out] at hK1
  have q1 := hM1.out K hK1
  have q2 := hM2.out K hK1
  rw [Hcl.out] at q1 q2
  replace F1 := F1.trans0 F5
  replace hR1 := Lib.hid (hR1.out.fr0 F5)
  replace hR2 := Lib.hid (hR2.out.fr0 F5)
  replace hI2 := Lib.hid (hI2.out.fr F5)
  clear F5 hK1
  go_wp2_with fail
  have hnm := Hr.out.rd.max
  go_loopw [16, 17, 18, 19, 99] (fun _ _ _ _ i wr => ∃ (k : Nat) (m : Int), k ≤ n ∧ i = .int .i64 k ∧ Fr F0 w wr ∧ Hid (IxR w1.heap.size wr x L m g hs) ∧ Hid (Rd wr a1 n (ints (L.map (rk · key)))) ∧ Hid (Rd wr a2 n (ints (L.map (rk · key))))) (fun _ _ _ _ i _ => n - (intOf i).toNat)
  case atStart => exact ⟨0, m2, by omega, rfl, F1, hI2, hR1, hR2⟩
  case round =>
    clear F1 hI2 hR1 hR2 q1 q2
    obtain ⟨k, m, hk, rfl, hF, hIk, hRa, hRb⟩ := hrel
    by_cases hlt : k < n
    · obtain ⟨b, o, r, hb, hrk, d⟩ := (Hr.out.fr0 hF).ix hlt
      have hrr := Lib.hid ((Hr.out.fr0 hF).row k r hrk)
      have hrw := Lib.hid (Hr.out.row k r hrk)
      have hx : L[k]? = some r.xs := by rw [HL.out]; simp [catL, hrk]
      obtain ⟨b1, o1, hb1', hc1⟩ := hRa.out.cells (by omega)
      obtain ⟨b2, o2, hb2', hc2⟩ := hRb.out.cells (by omega)
      have d1 := hc1 k (.int .i64 (rk r.xs key)) (by simp [hx])
      have d2 := hc2 k (.int .i64 (rk r.xs key)) (by simp [hx])
      obtain ⟨ra, rn, rc, rxs⟩ := r
      simp only [RowV.val] at *
      have hrl : rxs.length = rn := by simpa using hrr.out.len
      obtain ⟨z1, hz1⟩ : ∃ z : Nat, z = rk rxs key := ⟨_, rfl⟩
      obtain ⟨z2, hz2⟩ : ∃ z : Nat, z = rk rxs key := ⟨_, rfl⟩
      rw [← hz1] at d1
      rw [← hz2] at d2
      have hz12 : z1 ≤ z2 := by rw [hz1, hz2]; exact rk_mono rxs (by omega)
      have hz2n : z2 ≤ rn := by rw [hz2, ← hrl]; exact rk_le _ _
      have e1 : decide (z2 < z1) = false := by simp; omega
      have e2 : decide ((z2 : Int) < (z1 : Int)) = false := by simp; omega
      have e3 : decide ((z1 : Int) < 0) = false := by simp
      have e4 : decide ((rn : Int) < (z2 : Int)) = false := by simp; omega
      have e5 : decide (rn < z2) = false := by simp; omega
      have hAsc : Hid (Asc rxs) := Lib.hid (Hasc.out rxs (List.mem_of_getElem? hx))
      have Hx := Lib.hid hx
      have Hrl := Lib.hid hrl
      have hrm := hrr.out.max
      subst hb
      subst hb1'
      subst hb2'
      have i0 : (0 : Int) ≤ (k : Int) := by omega
      have i1 : (k : Int) < (n : Int) := by omega
      clear hx hrk hc1 hc2 hz1 hz2 hrl
      by_cases hrn : 0 < rn
      · obtain ⟨rb, ro, hra, hrc⟩ := hrr.out.cells hrn
        obtain ⟨y, hy⟩ : ∃ y, y = rxs.getD (rn / 2) 0 := ⟨_, rfl⟩
        have hyy : rxs[rn / 2]? = some y := by rw [hy, List.getD_eq_getElem?_getD, List.getElem?_eq_getElem (by have := Hrl.out; omega)]; simp
        have d3 := hrc (rn / 2) (.int .i64 y) (by simp [hyy])
        have hidx : Hid (idxI rxs y = rk rxs y) := Lib.hid (by rw [hy]; exact rk_idx hAsc.out (by have := Hrl.out; omega))
        have hrx : Hid (rb ≠ x) := Lib.hid (by
          have h1 := hrw.out.lt hrn rb (by rw [hra]; exact (onBlk_some _ _ _ _).2 rfl)
          have h2 := hxw.out
          omega)
        have Hhn := Lib.hid hrn
        subst hra
        clear hrc hy hyy
        go_wp2_with fail
        go_quiet (fail)
        go_wp2_with fail
        refine (Search_any (hIk.out.fr ((Fr.refl _ _).drewN nq)) (by rw [Hcl.out]; exact h32) (by rw [Hcl.out]; exact hn0) Hlen.out Hasc.out y).mono ?_
        rintro e w6 ⟨a3, c3, m3, rfl, hR3, hI3, hm3, hM3, hB3, F6⟩
        rw [Hcl.out] at hR3 ⊢
        obtain ⟨b3, o3, hb3, hc3⟩ := hR3.cells (by omega)
        have d4 := hc3 k (.int .i64 (rk rxs y)) (by simp [Hx.out])
        obtain ⟨z3, hz3⟩ : ∃ z : Nat, z = rk rxs y := ⟨_, rfl⟩
        rw [← hz3] at d4
        have d5 := F6.cell (p := ⟨rb, ro + rn / 2, none⟩) d3 (fun h => hrx.out h)
        have hcall : ∀ q, Calls Try.prog 16 #[.slice (some ⟨rb, ro, none⟩) rn rc, .int .i64 y] (w6.drewN q) fun e w' => e = .returned (.int .i64 z3) ∧ ∃ m, w' = w6.drewN m := by
          intro q
          rw [hz3, ← hidx.out]
          exact (Index_any _ _ _ rxs y _ (((hrr.out.fr0 ((Fr.refl _ _).drewN nq)).fr F6 (fun k hk h => hrx.out (((onBlk_some _ _ _ _).1 hk).symm.trans h))).fr0 ((Fr.refl _ _).drewN q))).mono fun _ _ h => ⟨h.1, q, h.2.symm⟩
        have Hcall := Lib.hid hcall
        have hF6 : Fr F0 w w6 := (hF.drewN nq).trans F6 (fun k hk h => by have e : k = x := h; have := hxw.out; omega)
        have hRa6 := Lib.hid ((hRa.out.fr0 ((Fr.refl _ _).drewN nq)).fr F6 (fun k hk h => hb1.out k hk h))
        have hRb6 := Lib.hid ((hRb.out.fr0 ((Fr.refl _ _).drewN nq)).fr F6 (fun k hk h => hb2.out k hk h))
        have hI6 := Lib.hid hI3
        subst hb3
        clear hR3 hI3 hm3 hM3 hB3 F6 hc3 hz3 hcall
        go_wp2_with fail
        go_quiet ((go_at_call 16; exact Hcall.out _))
        go_wp2_with fail
        exact ⟨⟨k + 1, m3, by omega, by go_num, hF6.drewN _, Lib.hid (hI6.out.fr ((Fr.refl _ _).drewN _)), Lib.hid (hRa6.out.fr0 ((Fr.refl _ _).drewN _)), Lib.hid (hRb6.out.fr0 ((Fr.refl _ _).drewN _))⟩, by simp [intOf]; omega⟩
      · have f0 : rn = 0 := by omega
        go_wp2_with fail
        go_quiet (fail)
        go_wp2_with fail
        exact ⟨⟨k + 1, m, by omega, by go_num, hF.drewN _, Lib.hid (hIk.out.fr ((Fr.refl _ _).drewN _)), Lib.hid (hRa.out.fr0 ((Fr.refl _ _).drewN _)), Lib.hid (hRb.out.fr0 ((Fr.refl _ _).drewN _))⟩, by simp [intOf]; omega⟩
    · go_wp2_with fail
      go_ret
      exact ⟨rfl, hF⟩
set_option maxRecDepth 100000 in
set_option maxHeartbeats 8000000 in
theorem Bounds_walk (a : Option Addr) (n c : Nat) (R : List RowV) (key other : Int) (w : World) (hr : ArgRows w a n c R) : Calls Try.prog 4 #[.slice a n c, .int .i64 key, .int .i64 other] w fun e w' => e = .returned (.bool true) ∧ Fr F0 w w' := by
  obtain ⟨L, hL⟩ : ∃ L, L = catL R := ⟨_, rfl⟩
  have hcl : L.length = n := by rw [hL]; simpa [catL] using hr.len
  have hsm := fun w1 (f : Fr F0 w w1) => small_any a n c R w1 (hr.fr0 f)
  have hmk := fun w1 (f : Fr F0 w w1) => Make_any a n c R w1 (hr.fr0 f)
  rw [← hL] at hsm hmk
  have Hsm := Lib.hid hsm
  have Hmk := Lib.hid hmk
  have Hr := Lib.hid hr
  have HL := Lib.hid hL
  have Hcl := Lib.hid hcl
  clear hsm hmk hr hL hcl
  cases hs : smallB L with
  | false =>
    rw [hs] at Hsm
    clear hs
    go_enter Try.func4, Try.ntmps4
    go_wp2_with fail
    refine (awake_any _).mono ?_; rintro e w1 ⟨rfl, F1⟩
    go_wp2_with fail
    refine (Hsm.out _ F1).mono ?_; rintro e w2 ⟨rfl, rfl⟩
    go_wp2_with fail
    go_ret
    exact ⟨rfl, F1⟩
  | true =>
    by_cases hz : checkC L = 0
    · rw [HL.out] at hs hz
      by_cases hko : other < key
      · exact Bounds_lt a n c R key other w Hr.out hko hs hz
      · by_cases hko2 : key < other
        · exact Bounds_gt a n c R key other w Hr.out hko2 hs hz
        · exact Bounds_eq a n c R key other w Hr.out (by omega) hs hz
    · obtain ⟨z, hzz⟩ : ∃ z, z = checkC L := ⟨_, rfl⟩
      have e0 : (z != 0) = true := by rw [hzz]; simpa using hz
      have Hz := Lib.hid hz
      have Hzz := Lib.hid hzz
      rw [hs] at Hsm
      clear hz hzz hs
      go_enter Try.func4, Try.ntmps4
      go_wp2_with fail
      refine (awake_any _).mono ?_; rintro e w1 ⟨rfl, F1⟩
      go_wp2_with (refine (Hsm.out _ F1).mono ?_; rintro e w2 ⟨rfl, rfl⟩)
      refine (Make_bad (Hmk.out _ F1) Hz.out).mono ?_; rintro e w2 ⟨rfl, F2⟩
      rw [← Hzz.out]
      replace F1 := F1.trans0 F2
      clear F2
      go_wp2_with fail
      go_ret
      exact ⟨rfl, F1⟩
end Go.Proofs.Ytglonedhcljdoaa
