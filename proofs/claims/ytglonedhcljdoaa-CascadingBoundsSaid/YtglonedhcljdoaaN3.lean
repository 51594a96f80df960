/- CascadingLists: the walk. -/
import Derived.Test.YtglonedhcljdoaaN2
namespace Go.Proofs.Ytglonedhcljdoaa
open Go.RowKit
attribute [local go_sem ↓] Go.wp_at_zero Go.wp_at_succ

/-- The sizes of the augmented lists. -/
theorem tot_aug (L : List (List Int)) : tot ((augK L).map keyL) + (keyL ((augK L).headD [])).length ≤ 2 * tot L ∧ (0 < tot L → tot ((augK L).map keyL) < 2 * tot L) := by
  induction L with
  | nil => simp [augK, tot]
  | cons l r ih =>
    obtain ⟨h1, h2⟩ := ih
    have e0 : tot (l :: r) = l.length + tot r := by simp [tot]
    have e1 : tot ((augK (l :: r)).map keyL) = (l.length + (keyL ((augK r).headD [])).length / 2) + tot ((augK r).map keyL) := by
      rw [augK]
      simp [tot, keyL, mergeB_len, oddL_len]
    have e2 : (keyL ((augK (l :: r)).headD [])).length = l.length + (keyL ((augK r).headD [])).length / 2 := by
      rw [augK]
      simp [keyL, mergeB_len, oddL_len]
    rw [e0, e1, e2]
    refine ⟨by omega, fun h => ?_⟩
    by_cases h3 : 0 < tot r
    · have := h2 h3; omega
    · omega

theorem Make_ok {a : Option Addr} {n c : Nat} {L : List (List Int)} {w : World} (h : Calls Try.prog 9 #[.slice a n c] w (MkPost L w)) (hz : checkC L = 0) :
    Calls Try.prog 9 #[.slice a n c] w fun e w' => ∃ x g hs, e = .returned (.tuple #[.pointer (some ⟨x, 0, none⟩), .int .i64 0]) ∧ IxR w.heap.size w' x L 0 g hs ∧ Fr F0 w w' :=
  h.mono fun e w' hp => by
    obtain ⟨F, hp⟩ := hp
    rcases hp with ⟨hne, _⟩ | ⟨_, x, g, hs, rfl, hI⟩
    · exact absurd hz hne
    · exact ⟨x, g, hs, rfl, hI, F⟩
theorem Make_bad {a : Option Addr} {n c : Nat} {L : List (List Int)} {w : World} (h : Calls Try.prog 9 #[.slice a n c] w (MkPost L w)) (hz : ¬ checkC L = 0) :
    Calls Try.prog 9 #[.slice a n c] w fun e w' => e = .returned (.tuple #[.pointer none, .int .i64 (checkC L)]) ∧ Fr F0 w w' :=
  h.mono fun e w' hp => by
    obtain ⟨F, hp⟩ := hp
    rcases hp with ⟨_, he⟩ | ⟨hne, _⟩
    · exact ⟨he, F⟩
    · exact absurd hne hz
set_option maxHeartbeats 4000000 in
theorem Lists_walk (a : Option Addr) (n c : Nat) (R : List RowV) (w : World) (hr : ArgRows w a n c R) : Calls Try.prog 6 #[.slice a n c] w fun e w' => e = .returned (.bool true) ∧ Fr F0 w w' := by
  obtain ⟨L, hL⟩ : ∃ L, L = catL R := ⟨_, rfl⟩
  have hcl : L.length = n := by rw [hL]; simpa [catL] using hr.len
  have hsm := fun w1 (f : Fr F0 w w1) => small_any a n c R w1 (hr.fr0 f)
  have hmk := fun w1 (f : Fr F0 w w1) => Make_any a n c R w1 (hr.fr0 f)
  have hck := fun w1 (f : Fr F0 w w1) => refCheck_any a n c R w1 (hr.fr0 f)
  rw [← hL] at hsm hmk hck
  have Hsm := Lib.hid hsm
  have Hmk := Lib.hid hmk
  have Hck := Lib.hid hck
  have Hr := Lib.hid hr
  have HL := Lib.hid hL
  have Hcl := Lib.hid hcl
  clear hsm hmk hck hr hL hcl
  cases hs : smallB L with
  | false =>
    rw [hs] at Hsm
    clear hs
    go_enter Try.func6, Try.ntmps6
    go_wp2_with fail
    refine (awake_any _).mono ?_; rintro e w1 ⟨rfl, F1⟩
    go_wp2_with fail
    refine (Hsm.out _ F1).mono ?_; rintro e w2 ⟨rfl, rfl⟩
    go_wp2_with fail
    go_ret
    exact ⟨rfl, F1⟩
  | true =>
    rw [hs] at Hsm
    clear hs
    by_cases hz : checkC L = 0
    · obtain ⟨h32, hn0, hlen, hasc⟩ := check_ok hz
      rw [Hcl.out] at h32 hn0
      have Hz := Lib.hid hz
      have Hlen := Lib.hid hlen
      obtain ⟨t, ht⟩ : ∃ t, t = tot L := ⟨_, rfl⟩
      obtain ⟨s, hs⟩ : ∃ s, s = tot ((augK L).map keyL) := ⟨_, rfl⟩
      have ht1 : t ≤ 40000 := by
        have := tot_le hlen
        rw [Hcl.out] at this
        have := Nat.mul_le_mul_right 1000 h32
        omega
      have htt := tot_aug L
      rw [← ht, ← hs] at htt
      have hst : s ≤ 80000 := by omega
      have Ht := Lib.hid ht
      have Hs := Lib.hid hs
      have Htt := Lib.hid htt
      clear hz hlen hasc ht hs htt
      go_enter Try.func6, Try.ntmps6
      go_wp2_with fail
      refine (awake_any _).mono ?_; rintro e w1 ⟨rfl, F1⟩
      go_wp2_with (first | (refine (Hsm.out _ F1).mono ?_; rintro e w2 ⟨rfl, rfl⟩) | (refine (Hck.out _ F1).mono ?_; rintro e w3 ⟨rfl, F3⟩; rw [Hz.out]; replace F1 := F1.trans0 F3; clear F3))
      refine (Make_ok (Hmk.out _ F1) Hz.out).mono ?_; rintro e w2 ⟨x, g, hs, rfl, hI, F2⟩
      replace F1 := F1.trans0 F2
      replace hI := Lib.hid hI
      clear F2
      go_wp2_with fail
      refine (refLists_any a n c R _ (Hr.out.fr0 F1) (by omega) (by rw [← HL.out]; exact Hlen.out)).mono ?_; rintro e w3 ⟨a3, c3, R3, rfl, hR3, hE3, F3⟩
      replace F1 := F1.trans0 F3
      replace hI := Lib.hid (hI.out.fr F3)
      rw [← HL.out] at hE3
      replace hR3 := Lib.hid hR3
      replace hE3 := Lib.hid hE3
      clear F3
      go_wp2_with fail
      refine (Total_any a n c R _ (Hr.out.fr0 F1).rows (by omega) (by rw [← HL.out]; exact fun l hl => by have := Hlen.out l hl; omega)).mono ?_; rintro e w4 ⟨rfl, rfl⟩
      rw [← HL.out, ← Ht.out]
      have hsz : ∀ w5, Fr F0 w3 w5 → Calls Try.prog 17 #[.pointer (some ⟨x, 0, none⟩)] w5 fun e w' => e = .returned (.int .i64 s) ∧ Fr F0 w5 w' := fun w5 f => by
        have := Size_any (hI.out.fr f) (by rw [Hcl.out]; exact h32) Hlen.out
        rw [← Hs.out] at this
        exact this
      have htot : ∀ w5, Fr F0 w3 w5 → Calls Try.prog 20 #[.slice a3 n c3] w5 fun e w' => e = .returned (.int .i64 s) ∧ w5 = w' := fun w5 f => by
        have := Total_any a3 n c3 R3 w5 (hR3.out.fr0 f) (by omega) (by
          rw [hE3.out, ← kx_all]
          intro l hl
          obtain ⟨q, _, rfl⟩ := List.mem_map.1 hl
          exact kx_len Hlen.out q)
        rw [hE3.out, ← Hs.out] at this
        exact this
      have Hsz := Lib.hid hsz
      have Htot := Lib.hid htot
      clear hsz htot
      by_cases h0 : 0 < t
      · have d0 : ((t : Int) == 0) = false := by simp; omega
        have d1 : (t == 0) = false := by simp; omega
        have d2 : s < 2 * t := Htt.out.2 h0
        go_wp2_with fail
        refine (Lists_any hI.out (by rw [Hcl.out]; exact h32) Hlen.out).mono ?_; rintro e w5 ⟨a5, c5, R5, rfl, hR5, hE5, F5⟩
        rw [Hcl.out] at hR5 ⊢
        have hEq := EqualFunc_any a5 a3 n c5 c3 R5 R3 w5 hR5 (hR3.out.fr0 F5) (by rw [hE5, hE3.out])
        clear hE5 hR5
        go_wp2_with (first | (refine hEq.mono ?_; rintro e w6 ⟨rfl, F6⟩; replace F1 := F1.trans0 (F5.trans0 F6); replace F5 := F5.trans0 F6; clear F6 hEq) | (refine (Hsz.out _ F5).mono ?_; rintro e w6 ⟨rfl, F6⟩; replace F1 := F1.trans0 F6; replace F5 := F5.trans0 F6; clear F6) | (refine (Htot.out _ F5).mono ?_; rintro e w6 ⟨rfl, rfl⟩))
        go_ret
        exact ⟨ret_bool (decide_eq_true (by omega)), F1⟩
      · have d3 : t = 0 := by omega
        have d4 : s = 0 := by have := Htt.out.1; omega
        subst d3
        subst d4
        go_wp2_with fail
        refine (Lists_any hI.out (by rw [Hcl.out]; exact h32) Hlen.out).mono ?_; rintro e w5 ⟨a5, c5, R5, rfl, hR5, hE5, F5⟩
        rw [Hcl.out] at hR5 ⊢
        have hEq := EqualFunc_any a5 a3 n c5 c3 R5 R3 w5 hR5 (hR3.out.fr0 F5) (by rw [hE5, hE3.out])
        clear hE5 hR5
        go_wp2_with (first | (refine hEq.mono ?_; rintro e w6 ⟨rfl, F6⟩; replace F1 := F1.trans0 (F5.trans0 F6); replace F5 := F5.trans0 F6; clear F6 hEq) | (refine (Hsz.out _ F5).mono ?_; rintro e w6 ⟨rfl, F6⟩; replace F1 := F1.trans0 F6; replace F5 := F5.trans0 F6; clear F6) | (refine (Htot.out _ F5).mono ?_; rintro e w6 ⟨rfl, rfl⟩))
        go_ret
        exact ⟨rfl, F1⟩
    · obtain ⟨z, hzz⟩ : ∃ z, z = checkC L := ⟨_, rfl⟩
      have e0 : (z != 0) = true := by rw [hzz]; simpa using hz
      have Hz := Lib.hid hz
      have Hzz := Lib.hid hzz
      clear hz hzz
      go_enter Try.func6, Try.ntmps6
      go_wp2_with fail
      refine (awake_any _).mono ?_; rintro e w1 ⟨rfl, F1⟩
      go_wp2_with (first | (refine (Hsm.out _ F1).mono ?_; rintro e w2 ⟨rfl, rfl⟩) | (refine (Hck.out _ F1).mono ?_; rintro e w3 ⟨rfl, F3⟩; rw [← Hzz.out]; replace F1 := F1.trans0 F3; clear F3))
      go_ret
      exact ⟨rfl, F1⟩
end Go.Proofs.Ytglonedhcljdoaa
