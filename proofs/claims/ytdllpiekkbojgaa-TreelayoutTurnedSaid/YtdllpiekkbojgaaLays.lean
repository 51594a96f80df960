/- The walk of TreelayoutLays. -/
import Derived.Test.YtdllpiekkbojgaaR4
namespace Go.Proofs.Ytdllpiekkbojgaa
open Go.RowKit

/-- What Path returns. -/
def pathOk (h l : Int) : Prop := 1 ≤ h ∧ h ≤ 16 ∧ 0 ≤ l ∧ l < ((2 ^ (h.toNat - 1) : Nat) : Int)
def PathPost (w : World) (h l : Int) (e : Ending) (w' : World) : Prop :=
  ∃ a n c xs er, e = .returned (.tuple #[.slice a n c, .int .i64 er]) ∧ Rd w' a n (ints xs) ∧ Fr F0 w w' ∧ ((pathOk h l ∧ er = 0 ∧ xs = pathL h.toNat l.toNat) ∨ (¬ pathOk h l ∧ er = 2 ∧ n = 0))
theorem Path_all (h l : Int) (w : World) : Calls Try.prog 13 #[.int .i64 h, .int .i64 l] w (PathPost w h l) := by
  by_cases hp : pathOk h l
  · refine (Path_any h.toNat l.toNat h l w ?_ ?_ ?_ ?_ ?_).mono ?_
    · have := hp.1; omega
    · have := hp.2.2.1; omega
    · have := hp.1; omega
    · have := hp.2.1; omega
    · have h1 := hp.2.2.2; have h2 := hp.2.2.1; omega
    · rintro e w' ⟨a, n, c, rfl, hO, hF⟩
      exact ⟨a, n, c, _, 0, rfl, hO.rd, hF, .inl ⟨hp, rfl, rfl⟩⟩
  · refine (Path_bad h l w ?_).mono ?_
    · unfold pathOk at hp; omega
    · rintro e w' ⟨rfl, rfl⟩
      exact ⟨none, 0, 0, [], 2, rfl, Rd.nil _ _, Fr.refl _ _, .inr ⟨hp, rfl, rfl⟩⟩
def LayoutPost (w : World) (k h : Int) (e : Ending) (w' : World) : Prop :=
  ∃ a n c xs er, e = .returned (.tuple #[.slice a n c, .int .i64 er]) ∧ Own w' w.heap.size 3 a n c (ints xs) ∧ Fr F0 w w' ∧ ((outB k h = false ∧ er = 0 ∧ xs = layS k h.toNat ∧ n = cnt h.toNat) ∨ (outB k h = true ∧ er = 2 ∧ n = 0))
theorem Layout_all (k h : Int) (w : World) : Calls Try.prog 12 #[.int .i64 k, .int .i64 h] w (LayoutPost w k h) := by
  by_cases hp : outB k h = true
  · refine (Layout_bad k h w ?_).mono ?_
    · simp [outB] at hp; simp [givenB]; omega
    · rintro e w' ⟨rfl, rfl⟩
      exact ⟨none, 0, 0, [], 2, rfl, Own.nil _ _ _, Fr.refl _ _, .inr ⟨hp, rfl, rfl⟩⟩
  · have hp' : outB k h = false := by simpa using hp
    have h1 : 1 ≤ k ∧ k ≤ 4 ∧ 1 ≤ h ∧ h ≤ 16 := by simp [outB] at hp'; omega
    refine (Layout_any k h.toNat h w (by omega) (by omega) (by omega) (by omega) (by omega)).mono ?_
    rintro e w' ⟨a, c, rfl, hO, hF⟩
    exact ⟨a, _, c, _, 0, rfl, hO, hF, .inl ⟨hp', rfl, rfl, rfl⟩⟩


/-- The ways on which Path returns an error, and the one on which it doesn't. -/
theorem path_ways (h l : Int) : h < 1 ∨ (1 ≤ h ∧ 16 < h) ∨ (1 ≤ h ∧ h ≤ 16 ∧ l < 0) ∨ (1 ≤ h ∧ h ≤ 16 ∧ 0 ≤ l ∧ (cnt (h.toNat - 1) : Int) < l) ∨ (1 ≤ h ∧ h ≤ 16 ∧ 0 ≤ l ∧ l ≤ (cnt (h.toNat - 1) : Int)) := by omega
theorem pathOk_iff (h l : Int) : pathOk h l ↔ (1 ≤ h ∧ h ≤ 16 ∧ 0 ≤ l ∧ l ≤ (cnt (h.toNat - 1) : Int)) := by
  have : (1 : Nat) ≤ 2 ^ (h.toNat - 1) := Nat.one_le_two_pow
  unfold pathOk cnt; omega


theorem Lays_none (k h l : Int) (w : World) (h1 : rightB k h = false) (h2 : outB k h = false) : Calls Try.prog 3 #[.int .i64 k, .int .i64 h, .int .i64 l] w fun e w' => e = .returned (.bool true) ∧ Fr F0 w w' := by
  go_enter Try.func3, Try.ntmps3
  go_wp2_with fail
  refine (awake_any w).mono ?_; rintro e w1 ⟨rfl, F1⟩
  go_wp2_with fail
  refine (right_any _ _ _).mono ?_; rintro e w' ⟨rfl, rfl⟩
  rw [h1]
  go_wp2_with fail
  refine (out_any _ _ _).mono ?_; rintro e w' ⟨rfl, rfl⟩
  rw [h2]
  go_wp2_with fail
  go_ret
  exact ⟨rfl, F1⟩

set_option maxHeartbeats 2000000 in
theorem Lays_out (k h l : Int) (w : World) (h1 : rightB k h = false) (h2 : outB k h = true) : Calls Try.prog 3 #[.int .i64 k, .int .i64 h, .int .i64 l] w fun e w' => e = .returned (.bool true) ∧ Fr F0 w w' := by
  have hg : givenB k h 1 = false := by simp [outB] at h2; simp [givenB]; omega
  rcases path_ways h l with pw | ⟨pw1, pw⟩ | ⟨pw1, pw2, pw⟩ | ⟨pw1, pw2, pw3, pw⟩ | ⟨pw1, pw2, pw3, pw⟩
  all_goals
    go_enter Try.func3, Try.ntmps3
    go_wp2_with fail
    refine (awake_any w).mono ?_; rintro e w1 ⟨rfl, F1⟩
    go_wp2_with fail
    refine (right_any _ _ _).mono ?_; rintro e w' ⟨rfl, rfl⟩
    rw [h1]
    go_wp2_with fail
    refine (out_any _ _ _).mono ?_; rintro e w' ⟨rfl, rfl⟩
    rw [h2]
    go_wp2_with fail
    refine (Layout_bad k h _ hg).mono ?_; rintro e w2 ⟨rfl, rfl⟩
    have F := Lib.hid F1
    go_wp2_with fail
  rotate_left 4
  · refine (Path_any h.toNat l.toNat h l _ (by omega) (by omega) (by omega) (by omega) (by have := ((pathOk_iff h l).2 ⟨pw1, pw2, pw3, pw⟩).2.2.2; omega)).mono ?_; rintro e w3 ⟨a2, n2, c2, rfl, O2, F3⟩
    replace F := Lib.hid (F.out.trans0 F3)
    have R2 := O2.rd
    obtain ⟨m, hm⟩ : ∃ m, m = cnt (h.toNat - 1) := ⟨_, rfl⟩
    have Hc : ∀ w, Calls Try.prog 14 #[.int .i64 (h - 1)] w fun e w' => e = .returned (.int .i64 m) ∧ w = w' := fun w => by
      rw [hm]; exact Count_any (h.toNat - 1) (h - 1) w (by omega) (by omega)
    rw [← hm] at pw
    have Hm := Lib.hid hm
    replace Hc := Lib.hid Hc
    clear hm O2 F3
    go_wp2_with fail
    refine (Hc.out _).mono ?_; rintro e w' ⟨rfl, rfl⟩
    go_wp2_with fail
    refine (refPath_any h.toNat l.toNat h l _ (by omega) (by omega) (by omega) (by omega) (by have := ((pathOk_iff h l).2 ⟨pw1, pw2, pw3, by rw [← Hm.out]; exact pw⟩).2.2.2; omega)).mono ?_; rintro e w4 ⟨a3, n3, c3, rfl, O3, F4⟩
    replace R2 := R2.fr0 F4
    go_wp2_with fail
    refine (Equal_any _ _ _ _ _ _ _ _ _ R2 O3.rd).mono ?_; rintro e w5 ⟨rfl, q, rfl⟩
    rw [show decide (pathL h.toNat l.toNat = pathL h.toNat l.toNat) = true by simp]
    replace F := Lib.hid ((F.out.trans0 F4).drewN q)
    clear F4
    go_wp2_with fail
    refine (out_any _ _ _).mono ?_; rintro e w' ⟨rfl, rfl⟩
    rw [h2]
    go_wp2_with fail
    go_ret
    exact ⟨rfl, F.out⟩
  rotate_left 3
  · refine (Path_bad h l _ (by have := pathOk_iff h l; unfold pathOk at this; omega)).mono ?_; rintro e w3 ⟨rfl, rfl⟩
    obtain ⟨m, hm⟩ : ∃ m, m = cnt (h.toNat - 1) := ⟨_, rfl⟩
    have Hc : ∀ w, Calls Try.prog 14 #[.int .i64 (h - 1)] w fun e w' => e = .returned (.int .i64 m) ∧ w = w' := fun w => by
      rw [hm]; exact Count_any (h.toNat - 1) (h - 1) w (by omega) (by omega)
    rw [← hm] at pw
    replace Hc := Lib.hid Hc
    clear hm
    go_wp2_with fail
    refine (Hc.out _).mono ?_; rintro e w' ⟨rfl, rfl⟩
    go_wp2_with fail
    refine (out_any _ _ _).mono ?_; rintro e w' ⟨rfl, rfl⟩
    rw [h2]
    go_wp2_with fail
    go_ret
    exact ⟨rfl, F.out⟩
  all_goals
    refine (Path_bad h l _ (by omega)).mono ?_; rintro e w3 ⟨rfl, rfl⟩
    go_wp2_with fail
    refine (out_any _ _ _).mono ?_; rintro e w' ⟨rfl, rfl⟩
    rw [h2]
    go_wp2_with fail
    go_ret
    exact ⟨rfl, F.out⟩

set_option maxHeartbeats 2000000 in
theorem Lays_in (k h l : Int) (w : World) (h1 : rightB k h = true) (h2 : outB k h = false) : Calls Try.prog 3 #[.int .i64 k, .int .i64 h, .int .i64 l] w fun e w' => e = .returned (.bool true) ∧ Fr F0 w w' := by
  have hg : 1 ≤ k ∧ k ≤ 4 ∧ 1 ≤ h ∧ h ≤ 10 := by simp [rightB] at h1; omega
  obtain ⟨g1, g2, g3, g4⟩ := hg
  rcases path_ways h l with pw | ⟨pw1, pw⟩ | ⟨pw1, pw2, pw⟩ | ⟨pw1, pw2, pw3, pw⟩ | ⟨pw1, pw2, pw3, pw⟩
  · omega
  · omega
  all_goals
    go_enter Try.func3, Try.ntmps3
    go_wp2_with fail
    refine (awake_any w).mono ?_; rintro e w1 ⟨rfl, F1⟩
    go_wp2_with fail
    refine (right_any _ _ _).mono ?_; rintro e w' ⟨rfl, rfl⟩
    rw [h1]
    go_wp2_with fail
    refine (Layout_any k h.toNat h _ (by omega) (by omega) (by omega) (by omega) (by omega)).mono ?_; rintro e w2 ⟨a1, c1, rfl, O1, F2⟩
    have F := Lib.hid (F1.trans0 F2)
    have R1 := O1.rd
    clear O1 F2
    go_wp2_with fail
  rotate_left 2
  · refine (Path_any h.toNat l.toNat h l _ (by omega) (by omega) (by omega) (by omega) (by have := ((pathOk_iff h l).2 ⟨pw1, pw2, pw3, pw⟩).2.2.2; omega)).mono ?_; rintro e w3 ⟨a2, n2, c2, rfl, O2, F3⟩
    replace F := Lib.hid (F.out.trans0 F3)
    replace R1 := R1.fr0 F3
    have R2 := O2.rd
    obtain ⟨m, hm⟩ : ∃ m, m = cnt (h.toNat - 1) := ⟨_, rfl⟩
    have Hc : ∀ w, Calls Try.prog 14 #[.int .i64 (h - 1)] w fun e w' => e = .returned (.int .i64 m) ∧ w = w' := fun w => by
      rw [hm]; exact Count_any (h.toNat - 1) (h - 1) w (by omega) (by omega)
    rw [← hm] at pw
    have Hm := Lib.hid hm
    replace Hc := Lib.hid Hc
    clear hm O2 F3
    go_wp2_with fail
    refine (Hc.out _).mono ?_; rintro e w' ⟨rfl, rfl⟩
    go_wp2_with fail
    refine (refPath_any h.toNat l.toNat h l _ (by omega) (by omega) (by omega) (by omega) (by have := ((pathOk_iff h l).2 ⟨pw1, pw2, pw3, by rw [← Hm.out]; exact pw⟩).2.2.2; omega)).mono ?_; rintro e w4 ⟨a3, n3, c3, rfl, O3, F4⟩
    replace R2 := R2.fr0 F4
    replace R1 := R1.fr0 F4
    go_wp2_with fail
    refine (Equal_any _ _ _ _ _ _ _ _ _ R2 O3.rd).mono ?_; rintro e w5 ⟨rfl, q, rfl⟩
    rw [show decide (pathL h.toNat l.toNat = pathL h.toNat l.toNat) = true by simp]
    replace F := Lib.hid ((F.out.trans0 F4).drewN q)
    replace R1 := R1.fr0 ((Fr.refl _ _).drewN q)
    clear F4
    go_wp2_with fail
    refine (out_any _ _ _).mono ?_; rintro e w' ⟨rfl, rfl⟩
    rw [h2]
    go_wp2_with fail
    refine (refLayout_any k h.toNat h _ (by omega) (by omega) (by omega) (by omega) (by omega)).mono ?_; rintro e w8 ⟨a8, c8, rfl, O8, F8⟩
    have R8 := R1.fr0 F8
    go_wp2_with fail
    refine (Equal_any _ _ _ _ _ _ _ _ _ R8 O8.rd).mono ?_; rintro e w9 ⟨rfl, q9, rfl⟩
    rw [show decide (layS k h.toNat = layS k h.toNat) = true by simp]
    go_wp2_with fail
    go_ret
    exact ⟨rfl, (F.out.trans0 F8).drewN q9⟩
  rotate_left 1
  · refine (Path_bad h l _ (by have := pathOk_iff h l; unfold pathOk at this; omega)).mono ?_; rintro e w3 ⟨rfl, rfl⟩
    obtain ⟨m, hm⟩ : ∃ m, m = cnt (h.toNat - 1) := ⟨_, rfl⟩
    have Hc : ∀ w, Calls Try.prog 14 #[.int .i64 (h - 1)] w fun e w' => e = .returned (.int .i64 m) ∧ w = w' := fun w => by
      rw [hm]; exact Count_any (h.toNat - 1) (h - 1) w (by omega) (by omega)
    rw [← hm] at pw
    replace Hc := Lib.hid Hc
    clear hm
    go_wp2_with fail
    refine (Hc.out _).mono ?_; rintro e w' ⟨rfl, rfl⟩
    go_wp2_with fail
    refine (out_any _ _ _).mono ?_; rintro e w' ⟨rfl, rfl⟩
    rw [h2]
    go_wp2_with fail
    refine (refLayout_any k h.toNat h _ (by omega) (by omega) (by omega) (by omega) (by omega)).mono ?_; rintro e w8 ⟨a8, c8, rfl, O8, F8⟩
    have R8 := R1.fr0 F8
    go_wp2_with fail
    refine (Equal_any _ _ _ _ _ _ _ _ _ R8 O8.rd).mono ?_; rintro e w9 ⟨rfl, q9, rfl⟩
    rw [show decide (layS k h.toNat = layS k h.toNat) = true by simp]
    go_wp2_with fail
    go_ret
    exact ⟨rfl, (F.out.trans0 F8).drewN q9⟩
  all_goals
    refine (Path_bad h l _ (by omega)).mono ?_; rintro e w3 ⟨rfl, rfl⟩
    go_wp2_with fail
    refine (out_any _ _ _).mono ?_; rintro e w' ⟨rfl, rfl⟩
    rw [h2]
    go_wp2_with fail
    refine (refLayout_any k h.toNat h _ (by omega) (by omega) (by omega) (by omega) (by omega)).mono ?_; rintro e w8 ⟨a8, c8, rfl, O8, F8⟩
    have R8 := R1.fr0 F8
    go_wp2_with fail
    refine (Equal_any _ _ _ _ _ _ _ _ _ R8 O8.rd).mono ?_; rintro e w9 ⟨rfl, q9, rfl⟩
    rw [show decide (layS k h.toNat = layS k h.toNat) = true by simp]
    go_wp2_with fail
    go_ret
    exact ⟨rfl, (F.out.trans0 F8).drewN q9⟩


theorem Lays_any (k h l : Int) (w : World) : Calls Try.prog 3 #[.int .i64 k, .int .i64 h, .int .i64 l] w fun e w' => e = .returned (.bool true) ∧ Fr F0 w w' := by
  by_cases h1 : rightB k h = true
  · exact Lays_in k h l w h1 (by simp [rightB] at h1; simp [outB]; omega)
  · have h1' : rightB k h = false := by simpa using h1
    by_cases h2 : outB k h = true
    · exact Lays_out k h l w h1' h2
    · exact Lays_none k h l w h1' (by simpa using h2)

end Go.Proofs.Ytdllpiekkbojgaa
