/- FingertreeAsks: the walk. -/
import Derived.Test.YtdihajeccjdhkaaA15
import Derived.Test.YtdihajeccjdhkaaN1
namespace Go.Proofs.Ytdihajeccjdhkaa
open Go.RowKit
attribute [local go_sem ↓] Go.wp_at_zero Go.wp_at_succ
theorem search_ref (xs : List Int) (s : Int) : (searchS xs s = (0, 12) ∧ refS xs s = -1) ∨ ∃ k : Nat, k ≤ xs.length ∧ searchS xs s = ((k : Int), 0) ∧ refS xs s = (k : Int) := by
  unfold searchS refS
  by_cases h : s ≤ 0
  · right
    rw [fg_le _ h]
    exact ⟨0, by omega, by rw [if_pos h]; rfl, rfl⟩
  · rw [if_neg h]
    cases hk : fg xs s with
    | none => exact .inl ⟨rfl, rfl⟩
    | some k => exact .inr ⟨k, fg_lt hk, rfl, rfl⟩
theorem run_cutLH22 (w : World) (a : Option Addr) {n c k h : Nat} (hk : k ≤ h) (hc : h ≤ c) :
    (Instr.sliceAt 22 (.slice a n c) (some (.int .i64 (k : Int))) (some (.int .i64 (h : Int))) none).run Try.prog w = .ok (.slice (cutA a c k) (h - k) (c - k)) w := by
  obtain ⟨E1, E2, _⟩ := E3
  obtain ⟨i0, hi, _, hz1, _⟩ := info_parts E2
  have ht : Try.prog.underlying 22 = some (.slice (Try.prog.elem 22)) := by simp [Program.elem, E1]
  have hel : Try.prog.elem 22 = 3 := by simp [Program.elem, E1]
  have hsz : (sizeOf 3).run Try.prog w = .ok 1 w := by simp [sizeOf, typeInfo, hi, hz1]
  rw [run_sliceAt_slice _ _ _ _ _ _ ht, run_slice_lh w 22 a n c ht .i64 .i64 k h (by omega) (by omega) (by omega), hel, hsz]
  simp [Result.andThen, sliced, cutA]
set_option maxRecDepth 100000 in
set_option maxHeartbeats 16000000 in
theorem Asks_main {a : Option Addr} {m c : Nat} {xs : List Int} {i f g s : Int} {w : World} (hr : Rd w a m (ints xs)) (hc : m ≤ c) (hm : m ≤ 150) (hz : madeI xs = 0) :
    Calls Try.prog 4 #[.slice a m c, .int .i64 i, .int .i64 f, .int .i64 g, .int .i64 s] w fun e w' => e = .returned (.bool true) ∧ Fr F0 w w' := by
  have hxl : xs.length = m := by simpa using hr.len
  obtain ⟨hs, _⟩ := madeI_ok hz
  have Hr := Lib.hid hr
  have Hc := Lib.hid hc
  have Hs := Lib.hid hs
  have Hm := Lib.hid hm
  have Hxl := Lib.hid hxl
  have hmade := Lib.hid (fun (W : World) (f : Fr F0 w W) => Made_any (Hr.out.fr0 f) (c := c))
  rw [hz] at hmade
  have d1 : decide ((150 : Int) < (m : Int)) = false := by simp; omega
  clear hr hc hs hm hxl hz
  go_enter Try.func4, Try.ntmps4
  go_wp2_with fail
  refine (awake_any _).mono ?_
  rintro e w1 ⟨rfl, F1⟩
  replace F1 := Lib.hid F1
  go_wp2_with fail
  refine (hmade.out _ F1.out).mono ?_; rintro e w2 ⟨rfl, rfl⟩
  go_wp2_with fail
  clear d1
  refine (Make_ok (Hr.out.fr0 F1.out) Hc.out Hs.out (by have := Hm.out; omega)).mono ?_
  rintro e w2 ⟨t, p, hl, ha, rfl, T, F2⟩
  have F3 := Lib.hid (F1.out.trans0 F2)
  have hf : Fit t := ⟨by rw [hl]; exact Hs.out, by unfold Tr.len; rw [hl, Hxl.out]; have := Hm.out; omega⟩
  have hA := At_any T hf i
  rw [hl] at hA
  obtain ⟨RA, hRA⟩ : ∃ R, R = atS xs i := ⟨_, rfl⟩
  rw [← hRA] at hA
  unfold atS at hRA
  rw [Hxl.out] at hRA
  have HA := Lib.hid hA
  have HRA := Lib.hid hRA
  have HT := Lib.hid T
  have Hf := Lib.hid hf
  have Hl := Lib.hid hl
  have Ha := Lib.hid ha
  obtain ⟨bt, rfl⟩ := T.nn
  clear F1 F2 T hf hl ha hA hRA hmade
  go_wp2_with fail
  refine HA.out.mono ?_; rintro e w3 ⟨rfl, rfl⟩
  clear HA
  have hi3 : i < 0 ∨ (0 ≤ i ∧ (m : Int) ≤ i) ∨ ∃ n : Nat, i = n ∧ n < m := by
    by_cases h1 : i < 0
    · exact .inl h1
    · by_cases h2 : (m : Int) ≤ i
      · exact .inr (.inl ⟨by omega, h2⟩)
      · exact .inr (.inr ⟨i.toNat, by omega, by omega⟩)
  have hS := Lib.hid (Sum_any HT.out Hf.out f g)
  rw [Hl.out] at hS
  obtain ⟨RS, hRS⟩ : ∃ R, R = sumS xs f g := ⟨_, rfl⟩
  rw [← hRS] at hS
  unfold sumS at hRS
  rw [Hxl.out] at hRS
  have HRS := Lib.hid hRS
  clear hRS
  rcases hi3 with hi1 | ⟨hi0, hi2⟩ | ⟨n, rfl, hn⟩
  · have e := HRA.out
    rw [if_pos (.inl hi1)] at e
    clear HRA
    subst e
    go_wp2_with fail
    refine hS.out.mono ?_
    rintro e w4 ⟨rfl, q4, hq4⟩
    have G4 : Fr F0 w2 w4 := by rw [hq4]; exact (Fr.refl _ _).drewN _
    have F4 := Lib.hid (F3.out.trans0 G4)
    have HT4 := Lib.hid (HT.out.fr0 G4)
    clear hS G4 hq4 hi1
    have hf3 : (f < 0 ∨ g < f ∨ (m : Int) < g) ∨ ∃ u v : Nat, f = u ∧ g = v ∧ u ≤ v ∧ v ≤ m := by
      by_cases h : f < 0 ∨ g < f ∨ (m : Int) < g
      · exact .inl h
      · exact .inr ⟨f.toNat, g.toNat, by omega, by omega, by omega, by omega⟩
    have hQ := Lib.hid (Search_any HT4.out Hf.out s)
    rw [Hl.out] at hQ
    have hRQ := Lib.hid (fun (W : World) (F : Fr F0 w W) => RefSearch_any (c := c) (s := s) (Hr.out.fr0 F) Hs.out (by have := Hm.out; omega))
    have hsr := Lib.hid (search_ref xs s)
    obtain ⟨QS, hQS⟩ : ∃ R, R = searchS xs s := ⟨_, rfl⟩
    obtain ⟨QR, hQR⟩ : ∃ R, R = refS xs s := ⟨_, rfl⟩
    rw [← hQS] at hQ hsr
    rw [← hQR] at hRQ hsr
    clear hQS hQR
    have hcases : (f < 0 ∧ Hid (RS = (0, 2))) ∨ (¬ f < 0 ∧ g < f ∧ Hid (RS = (0, 2))) ∨ (¬ f < 0 ∧ ¬ g < f ∧ (m : Int) < g ∧ Hid (RS = (0, 2))) ∨ ∃ u v : Nat, f = u ∧ g = v ∧ u ≤ v ∧ v ≤ m ∧ Hid (RS = (preS xs v - preS xs u, 0)) := by
      rcases hf3 with h | ⟨u, v, h1, h2, h3, h4⟩
      · have e := HRS.out
        rw [if_pos h] at e
        by_cases g1 : f < 0
        · exact .inl ⟨g1, Lib.hid e⟩
        · by_cases g2 : g < f
          · exact .inr (.inl ⟨g1, g2, Lib.hid e⟩)
          · exact .inr (.inr (.inl ⟨g1, g2, by omega, Lib.hid e⟩))
      · refine .inr (.inr (.inr ⟨u, v, h1, h2, h3, h4, Lib.hid ?_⟩))
        rw [HRS.out, if_neg (by omega), h1, h2, Int.toNat_natCast, Int.toNat_natCast]
    clear hf3 HRS
    rcases hcases with ⟨g1, eR⟩ | ⟨g1, g2, eR⟩ | ⟨g1, g2, g3, eR⟩ | ⟨u, v, rfl, rfl, g1, g2, eR⟩
    · have e := eR.out
      clear eR
      subst e
      go_wp2_with fail
      refine hQ.out.mono ?_
      rintro e w5 ⟨rfl, q5, hq5⟩
      have G5 : Fr F0 w4 w5 := by rw [hq5]; exact (Fr.refl _ _).drewN _
      have F5 := Lib.hid (F4.out.trans0 G5)
      have HT5 := Lib.hid (HT4.out.fr0 G5)
      have hI := Lib.hid (is_any HT5.out Ha.out Hl.out (by have := Hm.out; omega) (Hr.out.fr0 F5.out) (c := c))
      clear hQ G5 hq5
      go_wp2_with fail
      refine (hRQ.out _ F5.out).mono ?_; rintro e w6 ⟨rfl, rfl⟩
      rcases hsr.out with ⟨e1, e2⟩ | ⟨k, hk, e1, e2⟩
      · clear hsr hRQ
        subst e1
        subst e2
        go_wp2_with fail
        go_ret
        exact ⟨rfl, F5.out⟩
      · clear hsr hRQ hk
        subst e1
        subst e2
        go_wp2_with fail
        refine hI.out.mono ?_
        rintro e w7 ⟨rfl, F6⟩
        have F7 := Lib.hid (F5.out.trans0 F6)
        clear F6
        go_wp2_with fail
        go_ret
        exact ⟨rfl, F7.out⟩
    · have e := eR.out
      clear eR
      subst e
      go_wp2_with fail
      refine hQ.out.mono ?_
      rintro e w5 ⟨rfl, q5, hq5⟩
      have G5 : Fr F0 w4 w5 := by rw [hq5]; exact (Fr.refl _ _).drewN _
      have F5 := Lib.hid (F4.out.trans0 G5)
      have HT5 := Lib.hid (HT4.out.fr0 G5)
      have hI := Lib.hid (is_any HT5.out Ha.out Hl.out (by have := Hm.out; omega) (Hr.out.fr0 F5.out) (c := c))
      clear hQ G5 hq5
      go_wp2_with fail
      refine (hRQ.out _ F5.out).mono ?_; rintro e w6 ⟨rfl, rfl⟩
      rcases hsr.out with ⟨e1, e2⟩ | ⟨k, hk, e1, e2⟩
      · clear hsr hRQ
        subst e1
        subst e2
        go_wp2_with fail
        go_ret
        exact ⟨rfl, F5.out⟩
      · clear hsr hRQ hk
        subst e1
        subst e2
        go_wp2_with fail
        refine hI.out.mono ?_
        rintro e w7 ⟨rfl, F6⟩
        have F7 := Lib.hid (F5.out.trans0 F6)
        clear F6
        go_wp2_with fail
        go_ret
        exact ⟨rfl, F7.out⟩
    · have e := eR.out
      clear eR
      subst e
      go_wp2_with fail
      refine hQ.out.mono ?_
      rintro e w5 ⟨rfl, q5, hq5⟩
      have G5 : Fr F0 w4 w5 := by rw [hq5]; exact (Fr.refl _ _).drewN _
      have F5 := Lib.hid (F4.out.trans0 G5)
      have HT5 := Lib.hid (HT4.out.fr0 G5)
      have hI := Lib.hid (is_any HT5.out Ha.out Hl.out (by have := Hm.out; omega) (Hr.out.fr0 F5.out) (c := c))
      clear hQ G5 hq5
      go_wp2_with fail
      refine (hRQ.out _ F5.out).mono ?_; rintro e w6 ⟨rfl, rfl⟩
      rcases hsr.out with ⟨e1, e2⟩ | ⟨k, hk, e1, e2⟩
      · clear hsr hRQ
        subst e1
        subst e2
        go_wp2_with fail
        go_ret
        exact ⟨rfl, F5.out⟩
      · clear hsr hRQ hk
        subst e1
        subst e2
        go_wp2_with fail
        refine hI.out.mono ?_
        rintro e w7 ⟨rfl, F6⟩
        have F7 := Lib.hid (F5.out.trans0 F6)
        clear F6
        go_wp2_with fail
        go_ret
        exact ⟨rfl, F7.out⟩
    · have e := eR.out
      clear eR
      subst e
      have hcut : ∀ W, (Instr.sliceAt 22 (.slice a m c) (some (.int .i64 (u : Int))) (some (.int .i64 (v : Int))) none).run Try.prog W = .ok (.slice (cutA a c u) (v - u) (c - u)) W := fun W => run_cutLH22 W _ g1 (by have := Hc.out; omega)
      have hR2 : Rd w (cutA a c u) (v - u) (ints ((xs.drop u).take (v - u))) := by
        have h := (Hr.out.cut Hc.out (k := u) (r := m - u) (by omega)).take (k := v - u) (by omega)
        rwa [ints_drop, ints_take] at h
      have hsm : Tr.Small ((xs.drop u).take (v - u)) := fun x hx => Hs.out x (List.mem_of_mem_drop (List.mem_of_mem_take hx))
      have hRf := Lib.hid (fun (W : World) (F : Fr F0 w W) => RefSum_any (c := c - u) (hR2.fr0 F) hsm (by have := Hm.out; omega))
      rw [part_sum g1] at hRf
      generalize preS xs v - preS xs u = z at *
      have g1' : (u : Int) ≤ (v : Int) := by omega
      have g2' : (v : Int) ≤ (m : Int) := by omega
      clear hR2 hsm
      go_wp2_with fail
      refine (hRf.out _ F4.out).mono ?_; rintro e w9 ⟨rfl, rfl⟩
      clear hRf hcut
      go_wp2_with fail
      refine hQ.out.mono ?_
      rintro e w5 ⟨rfl, q5, hq5⟩
      have G5 : Fr F0 w4 w5 := by rw [hq5]; exact (Fr.refl _ _).drewN _
      have F5 := Lib.hid (F4.out.trans0 G5)
      have HT5 := Lib.hid (HT4.out.fr0 G5)
      have hI := Lib.hid (is_any HT5.out Ha.out Hl.out (by have := Hm.out; omega) (Hr.out.fr0 F5.out) (c := c))
      clear hQ G5 hq5
      go_wp2_with fail
      refine (hRQ.out _ F5.out).mono ?_; rintro e w6 ⟨rfl, rfl⟩
      rcases hsr.out with ⟨e1, e2⟩ | ⟨k, hk, e1, e2⟩
      · clear hsr hRQ
        subst e1
        subst e2
        go_wp2_with fail
        go_ret
        exact ⟨rfl, F5.out⟩
      · clear hsr hRQ hk
        subst e1
        subst e2
        go_wp2_with fail
        refine hI.out.mono ?_
        rintro e w7 ⟨rfl, F6⟩
        have F7 := Lib.hid (F5.out.trans0 F6)
        clear F6
        go_wp2_with fail
        go_ret
        exact ⟨rfl, F7.out⟩
  · have e := HRA.out
    rw [if_pos (.inr hi2)] at e
    clear HRA
    subst e
    go_wp2_with fail
    refine hS.out.mono ?_
    rintro e w4 ⟨rfl, q4, hq4⟩
    have G4 : Fr F0 w2 w4 := by rw [hq4]; exact (Fr.refl _ _).drewN _
    have F4 := Lib.hid (F3.out.trans0 G4)
    have HT4 := Lib.hid (HT.out.fr0 G4)
    clear hS G4 hq4 hi0 hi2
    have hf3 : (f < 0 ∨ g < f ∨ (m : Int) < g) ∨ ∃ u v : Nat, f = u ∧ g = v ∧ u ≤ v ∧ v ≤ m := by
      by_cases h : f < 0 ∨ g < f ∨ (m : Int) < g
      · exact .inl h
      · exact .inr ⟨f.toNat, g.toNat, by omega, by omega, by omega, by omega⟩
    have hQ := Lib.hid (Search_any HT4.out Hf.out s)
    rw [Hl.out] at hQ
    have hRQ := Lib.hid (fun (W : World) (F : Fr F0 w W) => RefSearch_any (c := c) (s := s) (Hr.out.fr0 F) Hs.out (by have := Hm.out; omega))
    have hsr := Lib.hid (search_ref xs s)
    obtain ⟨QS, hQS⟩ : ∃ R, R = searchS xs s := ⟨_, rfl⟩
    obtain ⟨QR, hQR⟩ : ∃ R, R = refS xs s := ⟨_, rfl⟩
    rw [← hQS] at hQ hsr
    rw [← hQR] at hRQ hsr
    clear hQS hQR
    have hcases : (f < 0 ∧ Hid (RS = (0, 2))) ∨ (¬ f < 0 ∧ g < f ∧ Hid (RS = (0, 2))) ∨ (¬ f < 0 ∧ ¬ g < f ∧ (m : Int) < g ∧ Hid (RS = (0, 2))) ∨ ∃ u v : Nat, f = u ∧ g = v ∧ u ≤ v ∧ v ≤ m ∧ Hid (RS = (preS xs v - preS xs u, 0)) := by
      rcases hf3 with h | ⟨u, v, h1, h2, h3, h4⟩
      · have e := HRS.out
        rw [if_pos h] at e
        by_cases g1 : f < 0
        · exact .inl ⟨g1, Lib.hid e⟩
        · by_cases g2 : g < f
          · exact .inr (.inl ⟨g1, g2, Lib.hid e⟩)
          · exact .inr (.inr (.inl ⟨g1, g2, by omega, Lib.hid e⟩))
      · refine .inr (.inr (.inr ⟨u, v, h1, h2, h3, h4, Lib.hid ?_⟩))
        rw [HRS.out, if_neg (by omega), h1, h2, Int.toNat_natCast, Int.toNat_natCast]
    clear hf3 HRS
    rcases hcases with ⟨g1, eR⟩ | ⟨g1, g2, eR⟩ | ⟨g1, g2, g3, eR⟩ | ⟨u, v, rfl, rfl, g1, g2, eR⟩
    · have e := eR.out
      clear eR
      subst e
      go_wp2_with fail
      refine hQ.out.mono ?_
      rintro e w5 ⟨rfl, q5, hq5⟩
      have G5 : Fr F0 w4 w5 := by rw [hq5]; exact (Fr.refl _ _).drewN _
      have F5 := Lib.hid (F4.out.trans0 G5)
      have HT5 := Lib.hid (HT4.out.fr0 G5)
      have hI := Lib.hid (is_any HT5.out Ha.out Hl.out (by have := Hm.out; omega) (Hr.out.fr0 F5.out) (c := c))
      clear hQ G5 hq5
      go_wp2_with fail
      refine (hRQ.out _ F5.out).mono ?_; rintro e w6 ⟨rfl, rfl⟩
      rcases hsr.out with ⟨e1, e2⟩ | ⟨k, hk, e1, e2⟩
      · clear hsr hRQ
        subst e1
        subst e2
        go_wp2_with fail
        go_ret
        exact ⟨rfl, F5.out⟩
      · clear hsr hRQ hk
        subst e1
        subst e2
        go_wp2_with fail
        refine hI.out.mono ?_
        rintro e w7 ⟨rfl, F6⟩
        have F7 := Lib.hid (F5.out.trans0 F6)
        clear F6
        go_wp2_with fail
        go_ret
        exact ⟨rfl, F7.out⟩
    · have e := eR.out
      clear eR
      subst e
      go_wp2_with fail
      refine hQ.out.mono ?_
      rintro e w5 ⟨rfl, q5, hq5⟩
      have G5 : Fr F0 w4 w5 := by rw [hq5]; exact (Fr.refl _ _).drewN _
      have F5 := Lib.hid (F4.out.trans0 G5)
      have HT5 := Lib.hid (HT4.out.fr0 G5)
      have hI := Lib.hid (is_any HT5.out Ha.out Hl.out (by have := Hm.out; omega) (Hr.out.fr0 F5.out) (c := c))
      clear hQ G5 hq5
      go_wp2_with fail
      refine (hRQ.out _ F5.out).mono ?_; rintro e w6 ⟨rfl, rfl⟩
      rcases hsr.out with ⟨e1, e2⟩ | ⟨k, hk, e1, e2⟩
      · clear hsr hRQ
        subst e1
        subst e2
        go_wp2_with fail
        go_ret
        exact ⟨rfl, F5.out⟩
      · clear hsr hRQ hk
        subst e1
        subst e2
        go_wp2_with fail
        refine hI.out.mono ?_
        rintro e w7 ⟨rfl, F6⟩
        have F7 := Lib.hid (F5.out.trans0 F6)
        clear F6
        go_wp2_with fail
        go_ret
        exact ⟨rfl, F7.out⟩
    · have e := eR.out
      clear eR
      subst e
      go_wp2_with fail
      refine hQ.out.mono ?_
      rintro e w5 ⟨rfl, q5, hq5⟩
      have G5 : Fr F0 w4 w5 := by rw [hq5]; exact (Fr.refl _ _).drewN _
      have F5 := Lib.hid (F4.out.trans0 G5)
      have HT5 := Lib.hid (HT4.out.fr0 G5)
      have hI := Lib.hid (is_any HT5.out Ha.out Hl.out (by have := Hm.out; omega) (Hr.out.fr0 F5.out) (c := c))
      clear hQ G5 hq5
      go_wp2_with fail
      refine (hRQ.out _ F5.out).mono ?_; rintro e w6 ⟨rfl, rfl⟩
      rcases hsr.out with ⟨e1, e2⟩ | ⟨k, hk, e1, e2⟩
      · clear hsr hRQ
        subst e1
        subst e2
        go_wp2_with fail
        go_ret
        exact ⟨rfl, F5.out⟩
      · clear hsr hRQ hk
        subst e1
        subst e2
        go_wp2_with fail
        refine hI.out.mono ?_
        rintro e w7 ⟨rfl, F6⟩
        have F7 := Lib.hid (F5.out.trans0 F6)
        clear F6
        go_wp2_with fail
        go_ret
        exact ⟨rfl, F7.out⟩
    · have e := eR.out
      clear eR
      subst e
      have hcut : ∀ W, (Instr.sliceAt 22 (.slice a m c) (some (.int .i64 (u : Int))) (some (.int .i64 (v : Int))) none).run Try.prog W = .ok (.slice (cutA a c u) (v - u) (c - u)) W := fun W => run_cutLH22 W _ g1 (by have := Hc.out; omega)
      have hR2 : Rd w (cutA a c u) (v - u) (ints ((xs.drop u).take (v - u))) := by
        have h := (Hr.out.cut Hc.out (k := u) (r := m - u) (by omega)).take (k := v - u) (by omega)
        rwa [ints_drop, ints_take] at h
      have hsm : Tr.Small ((xs.drop u).take (v - u)) := fun x hx => Hs.out x (List.mem_of_mem_drop (List.mem_of_mem_take hx))
      have hRf := Lib.hid (fun (W : World) (F : Fr F0 w W) => RefSum_any (c := c - u) (hR2.fr0 F) hsm (by have := Hm.out; omega))
      rw [part_sum g1] at hRf
      generalize preS xs v - preS xs u = z at *
      have g1' : (u : Int) ≤ (v : Int) := by omega
      have g2' : (v : Int) ≤ (m : Int) := by omega
      clear hR2 hsm
      go_wp2_with fail
      refine (hRf.out _ F4.out).mono ?_; rintro e w9 ⟨rfl, rfl⟩
      clear hRf hcut
      go_wp2_with fail
      refine hQ.out.mono ?_
      rintro e w5 ⟨rfl, q5, hq5⟩
      have G5 : Fr F0 w4 w5 := by rw [hq5]; exact (Fr.refl _ _).drewN _
      have F5 := Lib.hid (F4.out.trans0 G5)
      have HT5 := Lib.hid (HT4.out.fr0 G5)
      have hI := Lib.hid (is_any HT5.out Ha.out Hl.out (by have := Hm.out; omega) (Hr.out.fr0 F5.out) (c := c))
      clear hQ G5 hq5
      go_wp2_with fail
      refine (hRQ.out _ F5.out).mono ?_; rintro e w6 ⟨rfl, rfl⟩
      rcases hsr.out with ⟨e1, e2⟩ | ⟨k, hk, e1, e2⟩
      · clear hsr hRQ
        subst e1
        subst e2
        go_wp2_with fail
        go_ret
        exact ⟨rfl, F5.out⟩
      · clear hsr hRQ hk
        subst e1
        subst e2
        go_wp2_with fail
        refine hI.out.mono ?_
        rintro e w7 ⟨rfl, F6⟩
        have F7 := Lib.hid (F5.out.trans0 F6)
        clear F6
        go_wp2_with fail
        go_ret
        exact ⟨rfl, F7.out⟩
  · obtain ⟨b, o, x, hb', hx, d⟩ := (Hr.out.fr0 F3.out).ix hn
    have e := HRA.out
    rw [if_neg (by omega), Int.toNat_natCast, hx] at e
    clear HRA
    have e : RA = (x, 0) := e
    subst e
    have i0 : (0 : Int) ≤ (n : Int) := by omega
    have i1 : (n : Int) < (m : Int) := by omega
    subst hb'
    clear hx
    go_wp2_with fail
    refine hS.out.mono ?_
    rintro e w4 ⟨rfl, q4, hq4⟩
    have G4 : Fr F0 w2 w4 := by rw [hq4]; exact (Fr.refl _ _).drewN _
    have F4 := Lib.hid (F3.out.trans0 G4)
    have HT4 := Lib.hid (HT.out.fr0 G4)
    clear hS G4 hq4 i0 i1 d hn
    have hf3 : (f < 0 ∨ g < f ∨ (m : Int) < g) ∨ ∃ u v : Nat, f = u ∧ g = v ∧ u ≤ v ∧ v ≤ m := by
      by_cases h : f < 0 ∨ g < f ∨ (m : Int) < g
      · exact .inl h
      · exact .inr ⟨f.toNat, g.toNat, by omega, by omega, by omega, by omega⟩
    have hQ := Lib.hid (Search_any HT4.out Hf.out s)
    rw [Hl.out] at hQ
    have hRQ := Lib.hid (fun (W : World) (F : Fr F0 w W) => RefSearch_any (c := c) (s := s) (Hr.out.fr0 F) Hs.out (by have := Hm.out; omega))
    have hsr := Lib.hid (search_ref xs s)
    obtain ⟨QS, hQS⟩ : ∃ R, R = searchS xs s := ⟨_, rfl⟩
    obtain ⟨QR, hQR⟩ : ∃ R, R = refS xs s := ⟨_, rfl⟩
    rw [← hQS] at hQ hsr
    rw [← hQR] at hRQ hsr
    clear hQS hQR
    have hcases : (f < 0 ∧ Hid (RS = (0, 2))) ∨ (¬ f < 0 ∧ g < f ∧ Hid (RS = (0, 2))) ∨ (¬ f < 0 ∧ ¬ g < f ∧ (m : Int) < g ∧ Hid (RS = (0, 2))) ∨ ∃ u v : Nat, f = u ∧ g = v ∧ u ≤ v ∧ v ≤ m ∧ Hid (RS = (preS xs v - preS xs u, 0)) := by
      rcases hf3 with h | ⟨u, v, h1, h2, h3, h4⟩
      · have e := HRS.out
        rw [if_pos h] at e
        by_cases g1 : f < 0
        · exact .inl ⟨g1, Lib.hid e⟩
        · by_cases g2 : g < f
          · exact .inr (.inl ⟨g1, g2, Lib.hid e⟩)
          · exact .inr (.inr (.inl ⟨g1, g2, by omega, Lib.hid e⟩))
      · refine .inr (.inr (.inr ⟨u, v, h1, h2, h3, h4, Lib.hid ?_⟩))
        rw [HRS.out, if_neg (by omega), h1, h2, Int.toNat_natCast, Int.toNat_natCast]
    clear hf3 HRS
    rcases hcases with ⟨g1, eR⟩ | ⟨g1, g2, eR⟩ | ⟨g1, g2, g3, eR⟩ | ⟨u, v, rfl, rfl, g1, g2, eR⟩
    · have e := eR.out
      clear eR
      subst e
      go_wp2_with fail
      refine hQ.out.mono ?_
      rintro e w5 ⟨rfl, q5, hq5⟩
      have G5 : Fr F0 w4 w5 := by rw [hq5]; exact (Fr.refl _ _).drewN _
      have F5 := Lib.hid (F4.out.trans0 G5)
      have HT5 := Lib.hid (HT4.out.fr0 G5)
      have hI := Lib.hid (is_any HT5.out Ha.out Hl.out (by have := Hm.out; omega) (Hr.out.fr0 F5.out) (c := c))
      clear hQ G5 hq5
      go_wp2_with fail
      refine (hRQ.out _ F5.out).mono ?_; rintro e w6 ⟨rfl, rfl⟩
      rcases hsr.out with ⟨e1, e2⟩ | ⟨k, hk, e1, e2⟩
      · clear hsr hRQ
        subst e1
        subst e2
        go_wp2_with fail
        go_ret
        exact ⟨rfl, F5.out⟩
      · clear hsr hRQ hk
        subst e1
        subst e2
        go_wp2_with fail
        refine hI.out.mono ?_
        rintro e w7 ⟨rfl, F6⟩
        have F7 := Lib.hid (F5.out.trans0 F6)
        clear F6
        go_wp2_with fail
        go_ret
        exact ⟨rfl, F7.out⟩
    · have e := eR.out
      clear eR
      subst e
      go_wp2_with fail
      refine hQ.out.mono ?_
      rintro e w5 ⟨rfl, q5, hq5⟩
      have G5 : Fr F0 w4 w5 := by rw [hq5]; exact (Fr.refl _ _).drewN _
      have F5 := Lib.hid (F4.out.trans0 G5)
      have HT5 := Lib.hid (HT4.out.fr0 G5)
      have hI := Lib.hid (is_any HT5.out Ha.out Hl.out (by have := Hm.out; omega) (Hr.out.fr0 F5.out) (c := c))
      clear hQ G5 hq5
      go_wp2_with fail
      refine (hRQ.out _ F5.out).mono ?_; rintro e w6 ⟨rfl, rfl⟩
      rcases hsr.out with ⟨e1, e2⟩ | ⟨k, hk, e1, e2⟩
      · clear hsr hRQ
        subst e1
        subst e2
        go_wp2_with fail
        go_ret
        exact ⟨rfl, F5.out⟩
      · clear hsr hRQ hk
        subst e1
        subst e2
        go_wp2_with fail
        refine hI.out.mono ?_
        rintro e w7 ⟨rfl, F6⟩
        have F7 := Lib.hid (F5.out.trans0 F6)
        clear F6
        go_wp2_with fail
        go_ret
        exact ⟨rfl, F7.out⟩
    · have e := eR.out
      clear eR
      subst e
      go_wp2_with fail
      refine hQ.out.mono ?_
      rintro e w5 ⟨rfl, q5, hq5⟩
      have G5 : Fr F0 w4 w5 := by rw [hq5]; exact (Fr.refl _ _).drewN _
      have F5 := Lib.hid (F4.out.trans0 G5)
      have HT5 := Lib.hid (HT4.out.fr0 G5)
      have hI := Lib.hid (is_any HT5.out Ha.out Hl.out (by have := Hm.out; omega) (Hr.out.fr0 F5.out) (c := c))
      clear hQ G5 hq5
      go_wp2_with fail
      refine (hRQ.out _ F5.out).mono ?_; rintro e w6 ⟨rfl, rfl⟩
      rcases hsr.out with ⟨e1, e2⟩ | ⟨k, hk, e1, e2⟩
      · clear hsr hRQ
        subst e1
        subst e2
        go_wp2_with fail
        go_ret
        exact ⟨rfl, F5.out⟩
      · clear hsr hRQ hk
        subst e1
        subst e2
        go_wp2_with fail
        refine hI.out.mono ?_
        rintro e w7 ⟨rfl, F6⟩
        have F7 := Lib.hid (F5.out.trans0 F6)
        clear F6
        go_wp2_with fail
        go_ret
        exact ⟨rfl, F7.out⟩
    · have e := eR.out
      clear eR
      subst e
      have hcut : ∀ W, (Instr.sliceAt 22 (.slice (some ⟨b, o, none⟩) m c) (some (.int .i64 (u : Int))) (some (.int .i64 (v : Int))) none).run Try.prog W = .ok (.slice (cutA (some ⟨b, o, none⟩) c u) (v - u) (c - u)) W := fun W => run_cutLH22 W _ g1 (by have := Hc.out; omega)
      have hR2 : Rd w (cutA (some ⟨b, o, none⟩) c u) (v - u) (ints ((xs.drop u).take (v - u))) := by
        have h := (Hr.out.cut Hc.out (k := u) (r := m - u) (by omega)).take (k := v - u) (by omega)
        rwa [ints_drop, ints_take] at h
      have hsm : Tr.Small ((xs.drop u).take (v - u)) := fun x hx => Hs.out x (List.mem_of_mem_drop (List.mem_of_mem_take hx))
      have hRf := Lib.hid (fun (W : World) (F : Fr F0 w W) => RefSum_any (c := c - u) (hR2.fr0 F) hsm (by have := Hm.out; omega))
      rw [part_sum g1] at hRf
      generalize preS xs v - preS xs u = z at *
      have g1' : (u : Int) ≤ (v : Int) := by omega
      have g2' : (v : Int) ≤ (m : Int) := by omega
      clear hR2 hsm
      go_wp2_with fail
      refine (hRf.out _ F4.out).mono ?_; rintro e w9 ⟨rfl, rfl⟩
      clear hRf hcut
      go_wp2_with fail
      refine hQ.out.mono ?_
      rintro e w5 ⟨rfl, q5, hq5⟩
      have G5 : Fr F0 w4 w5 := by rw [hq5]; exact (Fr.refl _ _).drewN _
      have F5 := Lib.hid (F4.out.trans0 G5)
      have HT5 := Lib.hid (HT4.out.fr0 G5)
      have hI := Lib.hid (is_any HT5.out Ha.out Hl.out (by have := Hm.out; omega) (Hr.out.fr0 F5.out) (c := c))
      clear hQ G5 hq5
      go_wp2_with fail
      refine (hRQ.out _ F5.out).mono ?_; rintro e w6 ⟨rfl, rfl⟩
      rcases hsr.out with ⟨e1, e2⟩ | ⟨k, hk, e1, e2⟩
      · clear hsr hRQ
        subst e1
        subst e2
        go_wp2_with fail
        go_ret
        exact ⟨rfl, F5.out⟩
      · clear hsr hRQ hk
        subst e1
        subst e2
        go_wp2_with fail
        refine hI.out.mono ?_
        rintro e w7 ⟨rfl, F6⟩
        have F7 := Lib.hid (F5.out.trans0 F6)
        clear F6
        go_wp2_with fail
        go_ret
        exact ⟨rfl, F7.out⟩
set_option maxRecDepth 100000 in
theorem Asks_skip {a : Option Addr} {m c : Nat} {xs : List Int} {i f g s : Int} {w : World} (hr : Rd w a m (ints xs)) (hcase : 150 < m ∨ madeI xs ≠ 0) :
    Calls Try.prog 4 #[.slice a m c, .int .i64 i, .int .i64 f, .int .i64 g, .int .i64 s] w fun e w' => e = .returned (.bool true) ∧ Fr F0 w w' := by
  by_cases hbig : 150 < m
  · have d1 : decide ((150 : Int) < (m : Int)) = true := by simp; omega
    clear hbig hcase hr
    go_enter Try.func4, Try.ntmps4
    go_wp2_with fail
    refine (awake_any _).mono ?_
    rintro e w1 ⟨rfl, F1⟩
    replace F1 := Lib.hid F1
    go_wp2_with fail
    refine (awake_any _).mono ?_
    rintro e w2 ⟨rfl, F2⟩
    replace F2 := Lib.hid (F1.out.trans0 F2)
    go_wp2_with fail
    go_ret
    exact ⟨rfl, F2.out⟩
  · have d1 : decide ((150 : Int) < (m : Int)) = false := by simp; omega
    have hz : madeI xs ≠ 0 := by rcases hcase with h | h; exact absurd h hbig; exact h
    have hmade := Lib.hid (fun (W : World) (f : Fr F0 w W) => Made_any (hr.fr0 f) (c := c))
    generalize madeI xs = E at *
    have hz' : (E == 0) = false := by simpa using hz
    clear hbig hcase hr
    go_enter Try.func4, Try.ntmps4
    go_wp2_with fail
    refine (awake_any _).mono ?_
    rintro e w1 ⟨rfl, F1⟩
    replace F1 := Lib.hid F1
    go_wp2_with fail
    refine (hmade.out _ F1.out).mono ?_; rintro e w2 ⟨rfl, rfl⟩
    go_wp2_with fail
    refine (awake_any _).mono ?_
    rintro e w2 ⟨rfl, F2⟩
    replace F2 := Lib.hid (F1.out.trans0 F2)
    go_wp2_with fail
    go_ret
    exact ⟨rfl, F2.out⟩
theorem Asks_law (a : Option Addr) (m c : Nat) (xs : List Int) (i f g s : Int) (w : World) (h : ArgSl w a m c xs) :
    Calls Try.prog 4 #[.slice a m c, .int .i64 i, .int .i64 f, .int .i64 g, .int .i64 s] w fun e w' => e = .returned (.bool true) ∧ Fr F0 w w' := by
  by_cases h1 : 150 < m ∨ madeI xs ≠ 0
  · exact Asks_skip h.rd h1
  · have h2 : madeI xs = 0 := by
      by_cases hz : madeI xs = 0
      · exact hz
      · exact absurd (.inr hz) h1
    exact Asks_main h.rd h.cap (by omega) h2
end Go.Proofs.Ytdihajeccjdhkaa
