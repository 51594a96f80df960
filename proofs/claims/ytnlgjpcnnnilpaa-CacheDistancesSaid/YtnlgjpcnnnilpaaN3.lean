/- CacheDistances: the walk. -/
import Derived.Test.YtnlgjpcnnnilpaaN1
import Derived.Test.YtnlgjpcnnnilpaaD5
namespace Go.Proofs.Ytnlgjpcnnnilpaa
open Go.RowKit
attribute [local go_sem ↓] Go.wp_at_zero Go.wp_at_succ
theorem chk_1 {l : List Int} {m : Int} (h : chk l m = 0) : chk l 1 = 0 := by
  obtain ⟨h1, _, _, h4⟩ := chk_ok h
  unfold chk
  have : l.any noB = false := by rw [List.any_eq_false]; intro b hb; rw [noB_false.2 (h1 b hb)]; decide
  rw [this, if_neg (by decide), if_neg (by omega), if_neg (by omega)]
set_option maxHeartbeats 4000000 in
theorem Distances_walk (a : Option Addr) (n c : Nat) (l : List Int) (m : Int) (w : World) (hs : ArgSl w a n c l) :
    Calls Try.prog 5 #[.slice a n c, .int .i64 m] w fun e w' => e = .returned (.bool true) ∧ Fr F0 w w' := by
  have Hr := Lib.hid hs.rd
  clear hs
  by_cases h1 : chk l 1 = 0
  · obtain ⟨_, _, _, hn⟩ := chk_ok h1
    have hll : l.length = n := by simpa using Hr.out.len
    have Hn : Hid (n ≤ 65536) := Lib.hid (by omega)
    have H1 := Lib.hid h1
    clear h1 hn hll
    go_enter Try.func5, Try.ntmps5
    go_wp2_with fail
    refine (awake_any _).mono ?_; rintro e w1 ⟨rfl, F1⟩
    go_wp2_with fail
    refine (small_any a n c _ _).mono ?_; rintro e w2 ⟨r, rfl, hs, rfl⟩
    cases r with
    | false =>
      go_wp2_with fail
      go_ret
      exact ⟨rfl, F1⟩
    | true =>
      have hn2 : Hid (n ≤ 200) := Lib.hid (by have := hs rfl; have := Hn.out; omega)
      clear hs
      go_wp2_with fail
      refine (Distances_any a n c l _ (Hr.out.fr0 F1) H1.out hn2.out).mono ?_; rintro e w2 ⟨aD, cD, rfl, OD, F2⟩
      replace F2 := F1.trans0 F2
      have hzz : ∃ z, z = chk l m := ⟨_, rfl⟩
      obtain ⟨z, hzz⟩ := hzz
      have Hzz := Lib.hid hzz
      by_cases hz : chk l m = 0
      · obtain ⟨_, hm, hm2, _⟩ := chk_ok hz
        obtain ⟨m', rfl⟩ := Int.eq_ofNat_of_zero_le (show 0 ≤ m by omega)
        have Hm : Hid (1 ≤ m' ∧ m' ≤ 1000) := Lib.hid (by omega)
        have Hz := Lib.hid hz
        clear hm hm2 hz hzz
        go_wp2_with fail
        refine (Curve_any a n c m' l _ (Hr.out.fr0 F2) Hz.out hn2.out).mono ?_; rintro e w3 ⟨aC, cC, rfl, OC, F3⟩
        replace OD := OD.fr0 F3
        replace F3 := F2.trans0 F3
        go_wp2_with fail
        refine (refCheck_any a n c l 1 _ (Hr.out.fr0 F3)).mono ?_; rintro e w4 ⟨rfl, rfl⟩
        rw [H1.out]
        go_wp2_with fail
        refine (refDistances_any a n c l _ (Hr.out.fr0 F3) (by have := hn2.out; omega)).mono ?_; rintro e w4 ⟨aE, cE, rfl, OE, F4⟩
        have hr4 := Hr.out.fr0 (F3.trans0 F4)
        replace OD := OD.fr0 F4
        replace OC := OC.fr0 F4
        replace F4 := F3.trans0 F4
        go_wp2_with fail
        refine (Equal_any aD aE n n cD cE (distL l) (distL l) _ OD.rd OE.rd).mono ?_; rintro e w5 ⟨rfl, q, rfl⟩
        rw [show decide (distL l = distL l) = true by simp]
        go_wp2_with fail
        refine (refCheck_any a n c l m' _ (hr4.fr0 ((Fr.refl _ _).drewN q))).mono ?_; rintro e w5 ⟨rfl, rfl⟩
        rw [Hz.out]
        have F5 : Fr F0 w (w4.drewN q) := F4.drewN q
        replace OC := OC.fr0 ((Fr.refl _ _).drewN q)
        obtain ⟨w5, hw5⟩ : ∃ w5, w5 = w4.drewN q := ⟨_, rfl⟩
        rw [← hw5] at F5 OC
        rw [← hw5]
        clear hw5
        go_wp2_with fail
        refine (refCurve_any a n c m' l _ (Hr.out.fr0 F5) Hm.out.1 Hm.out.2 (by have := hn2.out; omega)).mono ?_; rintro e w6 ⟨aG, cG, rfl, OG, F6⟩
        replace OC := OC.fr0 F6
        replace F6 := F5.trans0 F6
        go_wp2_with fail
        refine (Equal_any aC aG m' m' cC cG _ _ _ OC.rd OG.rd).mono ?_; rintro e w7 ⟨rfl, q2, rfl⟩
        rw [show decide (curveL (distL l) m' = curveL (distL l) m') = true by simp]
        go_wp2_with fail
        go_ret
        exact ⟨rfl, F6.drewN _⟩
      · have e0 : (z != 0) = true := by rw [hzz]; simpa using hz
        have Hz := Lib.hid hz
        clear hz hzz
        go_wp2_with fail
        refine (Curve_bad a n c l m _ (Hr.out.fr0 F2) Hz.out).mono ?_; rintro e w3 ⟨rfl, rfl⟩
        rw [← Hzz.out]
        go_wp2_with fail
        refine (refCheck_any a n c l 1 _ (Hr.out.fr0 F2)).mono ?_; rintro e w4 ⟨rfl, rfl⟩
        rw [H1.out]
        go_wp2_with fail
        refine (refDistances_any a n c l _ (Hr.out.fr0 F2) (by have := hn2.out; omega)).mono ?_; rintro e w4 ⟨aE, cE, rfl, OE, F4⟩
        have hr4 := Hr.out.fr0 (F2.trans0 F4)
        replace OD := OD.fr0 F4
        replace F4 := F2.trans0 F4
        go_wp2_with fail
        refine (Equal_any aD aE n n cD cE (distL l) (distL l) _ OD.rd OE.rd).mono ?_; rintro e w5 ⟨rfl, q, rfl⟩
        rw [show decide (distL l = distL l) = true by simp]
        go_wp2_with fail
        refine (refCheck_any a n c l m _ (hr4.fr0 ((Fr.refl _ _).drewN q))).mono ?_; rintro e w5 ⟨rfl, rfl⟩
        rw [← Hzz.out]
        go_wp2_with fail
        go_ret
        exact ⟨rfl, F4.drewN _⟩
  · obtain ⟨z, hzz⟩ : ∃ z, z = chk l m := ⟨_, rfl⟩
    obtain ⟨z1, hz1⟩ : ∃ z, z = chk l 1 := ⟨_, rfl⟩
    have hz : ¬ chk l m = 0 := fun h => h1 (chk_1 h)
    have e0 : (z != 0) = true := by rw [hzz]; simpa using hz
    have e1 : (z1 != 0) = true := by rw [hz1]; simpa using h1
    have Hz := Lib.hid hz
    have H1 := Lib.hid h1
    have Hzz := Lib.hid hzz
    have Hz1 := Lib.hid hz1
    clear hz hzz hz1 h1
    go_enter Try.func5, Try.ntmps5
    go_wp2_with fail
    refine (awake_any _).mono ?_; rintro e w1 ⟨rfl, F1⟩
    go_wp2_with fail
    refine (small_any a n c _ _).mono ?_; rintro e w2 ⟨r, rfl, _, rfl⟩
    cases r with
    | false =>
      go_wp2_with fail
      go_ret
      exact ⟨rfl, F1⟩
    | true =>
      go_wp2_with fail
      refine (Distances_bad a n c l _ (Hr.out.fr0 F1) H1.out).mono ?_; rintro e w2 ⟨rfl, rfl⟩
      rw [← Hz1.out]
      go_wp2_with fail
      refine (Curve_bad a n c l m _ (Hr.out.fr0 F1) Hz.out).mono ?_; rintro e w3 ⟨rfl, rfl⟩
      rw [← Hzz.out]
      go_wp2_with fail
      refine (refCheck_any a n c l 1 _ (Hr.out.fr0 F1)).mono ?_; rintro e w5 ⟨rfl, rfl⟩
      rw [← Hz1.out]
      go_wp2_with fail
      refine (refCheck_any a n c l m _ (Hr.out.fr0 F1)).mono ?_; rintro e w5 ⟨rfl, rfl⟩
      rw [← Hzz.out]
      go_wp2_with fail
      go_ret
      exact ⟨rfl, F1⟩
end Go.Proofs.Ytnlgjpcnnnilpaa
