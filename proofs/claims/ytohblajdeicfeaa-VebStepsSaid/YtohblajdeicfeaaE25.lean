/- VebSteps: the law. -/
import Derived.Test.YtohblajdeicfeaaE24
namespace Go.Proofs.Ytohblajdeicfeaa
open Go.RowKit
attribute [local go_sem ↓] Go.wp_at_zero Go.wp_at_succ
theorem steps_ok {k h : Nat} {st : Int} (h1 : 1 ≤ h) (h4 : 4 < k → 4 ≤ h) (h5 : 8 < k → 5 ≤ h) (g : st ≤ 2 + 7 * (dk k : Int)) : st ≤ 6 * (h : Int) := by
  unfold dk at g
  split at g
  · omega
  · split at g <;> omega
set_option maxRecDepth 100000 in
set_option maxHeartbeats 4000000 in
theorem Steps_many (k0 : Int) (a1 : Option Addr) (n1 c1 : Nat) (a2 : Option Addr) (n2 c2 : Nat) (w : World) (h : 60 < n1 ∨ 60 < n2) :
    Calls Try.prog 3 #[.int .i64 k0, .slice a1 n1 c1, .slice a2 n2 c2] w fun e w' => e = .returned (.bool true) ∧ Fr F0 w w' := by
  have HA := Lib.hid (awake_any w)
  by_cases h1 : 60 < n1
  · clear h
    go_enter Try.func3, Try.ntmps3
    go_wp2_with fail
    refine (HA.out).mono ?_
    rintro e w1 ⟨rfl, F1⟩
    go_wp2_with fail
    go_ret
    exact ⟨rfl, F1⟩
  · have h2 : 60 < n2 := h.elim (fun e => absurd e h1) id
    clear h
    go_enter Try.func3, Try.ntmps3
    go_wp2_with fail
    refine (HA.out).mono ?_
    rintro e w1 ⟨rfl, F1⟩
    go_wp2_with fail
    go_ret
    exact ⟨rfl, F1⟩
set_option maxRecDepth 100000 in
set_option maxHeartbeats 4000000 in
theorem Steps_bad (k0 : Int) (a1 : Option Addr) (n1 c1 : Nat) (a2 : Option Addr) (n2 c2 : Nat) (w : World) (h1 : n1 ≤ 60) (h2 : n2 ≤ 60) (h : k0 < 1 ∨ 20 < k0) :
    Calls Try.prog 3 #[.int .i64 k0, .slice a1 n1 c1, .slice a2 n2 c2] w fun e w' => e = .returned (.bool true) ∧ Fr F0 w w' := by
  have HA := Lib.hid (awake_any w)
  have HM := Lib.hid (fun w => made_bad w h)
  clear h
  have g1 : ¬ 60 < n1 := by omega
  have g2 : ¬ 60 < n2 := by omega
  go_enter Try.func3, Try.ntmps3
  go_wp2_with fail
  refine (HA.out).mono ?_
  rintro e w1 ⟨rfl, F1⟩
  have HF1 := Lib.hid F1
  clear F1
  go_wp2_with (go_at_call 8; refine (HM.out _).mono ?_; rintro e w2 ⟨rfl, rfl⟩)
  go_ret
  exact ⟨rfl, HF1.out⟩
set_option maxRecDepth 100000 in
set_option maxHeartbeats 8000000 in
theorem Steps_in (k : Nat) (a1 : Option Addr) (n1 c1 : Nat) (us : List Int) (a2 : Option Addr) (n2 c2 : Nat) (xs : List Int) (w : World) (A1 : ArgU8 w a1 n1 c1 us) (A2 : Rd w a2 n2 (ints xs)) (h1 : n1 ≤ 60) (h2 : n2 ≤ 60) (hk1 : 1 ≤ k) (hk2 : k ≤ 20) :
    Calls Try.prog 3 #[.int .i64 k, .slice a1 n1 c1, .slice a2 n2 c2] w fun e w' => e = .returned (.bool true) ∧ Fr F0 w w' := by
  have HA := Lib.hid (awake_any w)
  have HM := Lib.hid (fun w => made_ok w hk1 hk2)
  have H1 := Lib.hid A1
  have H2 := Lib.hid A2
  have g1 : ¬ 60 < n1 := by omega
  have g2 : ¬ 60 < n2 := by omega
  obtain ⟨mm, hmm, hm1, hm2⟩ : ∃ mm : Nat, min (n1 : Int) (n2 : Int) = (mm : Int) ∧ mm ≤ n1 ∧ mm ≤ n2 := ⟨min n1 n2, by omega, by omega, by omega⟩
  clear A1 A2
  go_enter Try.func3, Try.ntmps3
  go_wp2_with fail
  refine (HA.out).mono ?_
  rintro e w1 ⟨rfl, F1⟩
  have HF1 := Lib.hid F1
  clear F1
  go_wp2_with fail
  refine (HM.out w1).mono ?_
  rintro e w2 ⟨s, rb, N, rfl, R2, F2, q1, q2⟩
  have hsz1 := HF1.out.size
  have HR2 := Lib.hid R2
  have HF2 := Lib.hid (HF1.out.trans F2 (fun _ _ h => h))
  have HN2 := Lib.hid (show ∀ q, N q ∨ q = s → w.heap.size ≤ q from fun q hq => hq.elim (fun e => by have := q2 q e; omega) (fun e => by omega))
  clear R2 F2 q2 HF1
  go_wp2_with fail
  go_loopw [39] (fun s39 wr => ∃ (i : Nat) (st : Int) (zs : List Int) (N : Nat → Prop), i ≤ mm ∧ s39 = .int .i64 i ∧ Hid (SR wr s k rb st zs N) ∧ Hid (zs.length ≤ i) ∧ Hid (Fr F0 w wr) ∧ Hid (∀ q, N q ∨ q = s → w.heap.size ≤ q)) (fun s39 _ => mm - (intOf s39).toNat)
  case atStart => exact ⟨0, 0, [], N, by omega, rfl, HR2, Lib.hid (by simp), HF2, HN2⟩
  case round =>
    obtain ⟨i, st, zs, N, hi, rfl, HR, HZ, HF, HN⟩ := hrel
    clear HR2 HF2 HN2
    by_cases hlt : i < mm
    · obtain ⟨b1, o1, u, ea1, hu, hc1⟩ := (H1.out.rd.fr0 HF.out).ixu (show i < n1 by omega)
      obtain ⟨b2, o2, x, ea2, hx, hc2⟩ := (H2.out.fr0 HF.out).ix (show i < n2 by omega)
      have hub := H1.out.wf u (List.mem_of_getElem? hu)
      subst ea1
      subst ea2
      clear hu hx
      have hi1 : i < n1 := by omega
      have hi2 : i < n2 := by omega
      have hzl : zs.length ≤ 100000 := by have := HZ.out; omega
      have HI := Lib.hid (fun x => Insert_step HR.out x hzl)
      have HD := Lib.hid (fun x => Delete_step HR.out x hzl)
      have HC := Lib.hid (fun x => Contains_step HR.out x)
      have HX := Lib.hid (fun x => Next_step HR.out x)
      have HP := Lib.hid (fun x => Prev_step HR.out x)
      have hu5 : (u % 5 = 0 ∨ u % 5 = 1 ∨ u % 5 = 2 ∨ u % 5 = 3 ∨ u % 5 = 4) := by omega
      obtain ⟨hu0, hu1⟩ := hub
      have ht5 : Int.tmod u 5 = u % 5 := Int.tmod_eq_emod_of_nonneg hu0
      have HT5 := Lib.hid ht5
      clear ht5
      rcases hu5 with h5 | h5 | h5 | h5 | h5
      · have ht5 : Int.tmod u 5 = 0 := HT5.out.trans h5
        clear h5
        go_wp2_with fail
        refine (HI.out x).mono ?_
        rintro e w3 ⟨v, err, st3, zs3, N3, rfl, R3, hl3, hE, F3, hN3⟩
        have HR3 := Lib.hid R3
        have HZ3 := Lib.hid (show zs3.length ≤ i + 1 by have := HZ.out; omega)
        have HF3 := Lib.hid (HF.out.trans F3 (fun q hq e => by have := HN.out q e; omega))
        have hszr := HF.out.size
        have HN3 := Lib.hid (show ∀ q, N3 q ∨ q = s → w.heap.size ≤ q from fun q hq => hq.elim (fun e => (hN3 q e).elim (fun e => HN.out q (.inl e)) (fun e => by omega)) (fun e => HN.out q (.inr e)))
        clear R3 hl3 F3 hN3 HI HD HC HX HP HZ HF HN HR
        have HHt := Lib.hid (Height_any w3 hk2)
        rcases hE with rfl | ⟨rfl, hs1, hs2⟩ | ⟨rfl, hs1, hs2⟩
        · go_wp2_with (go_at_call 14; refine (Steps_any HR3.out).mono ?_; rintro e w4 ⟨rfl, rfl⟩)
          go_roundw
          case rel => exact ⟨i + 1, st3, zs3, N3, by omega, by go_num, HR3, HZ3, HF3, HN3⟩
          case measure => simp [intOf]; omega
        · go_wp2_with (first
            | (go_at_call 14; refine (Steps_any HR3.out).mono ?_; rintro e w4 ⟨rfl, rfl⟩)
            | (go_at_call 15; refine (HHt.out).mono ?_; rintro e w4 ⟨h, rfl, q1, q2, q3, q4, rfl⟩; have hso : st3 ≤ 6 * (h : Int) := steps_ok q1 q3 q4 hs2; clear q3 q4))
          go_roundw
          case rel => exact ⟨i + 1, st3, zs3, N3, by omega, by go_num, HR3, HZ3, HF3, HN3⟩
          case measure => simp [intOf]; omega
        · go_wp2_with (first
            | (go_at_call 14; refine (Steps_any HR3.out).mono ?_; rintro e w4 ⟨rfl, rfl⟩)
            | (go_at_call 15; refine (HHt.out).mono ?_; rintro e w4 ⟨h, rfl, q1, q2, q3, q4, rfl⟩; have hso : st3 ≤ 6 * (h : Int) := steps_ok q1 q3 q4 hs2; clear q3 q4))
          go_roundw
          case rel => exact ⟨i + 1, st3, zs3, N3, by omega, by go_num, HR3, HZ3, HF3, HN3⟩
          case measure => simp [intOf]; omega
      · have ht5 : Int.tmod u 5 = 1 := HT5.out.trans h5
        clear h5
        go_wp2_with fail
        refine (HD.out x).mono ?_
        rintro e w3 ⟨v, err, st3, zs3, N3, rfl, R3, hl3, hE, F3, hN3⟩
        have HR3 := Lib.hid R3
        have HZ3 := Lib.hid (show zs3.length ≤ i + 1 by have := HZ.out; omega)
        have HF3 := Lib.hid (HF.out.trans F3 (fun q hq e => by have := HN.out q e; omega))
        have hszr := HF.out.size
        have HN3 := Lib.hid (show ∀ q, N3 q ∨ q = s → w.heap.size ≤ q from fun q hq => hq.elim (fun e => (hN3 q e).elim (fun e => HN.out q (.inl e)) (fun e => by omega)) (fun e => HN.out q (.inr e)))
        clear R3 hl3 F3 hN3 HI HD HC HX HP HZ HF HN HR
        have HHt := Lib.hid (Height_any w3 hk2)
        rcases hE with rfl | ⟨rfl, hs1, hs2⟩ | ⟨rfl, hs1, hs2⟩
        · go_wp2_with (go_at_call 14; refine (Steps_any HR3.out).mono ?_; rintro e w4 ⟨rfl, rfl⟩)
          go_roundw
          case rel => exact ⟨i + 1, st3, zs3, N3, by omega, by go_num, HR3, HZ3, HF3, HN3⟩
          case measure => simp [intOf]; omega
        · go_wp2_with (first
            | (go_at_call 14; refine (Steps_any HR3.out).mono ?_; rintro e w4 ⟨rfl, rfl⟩)
            | (go_at_call 15; refine (HHt.out).mono ?_; rintro e w4 ⟨h, rfl, q1, q2, q3, q4, rfl⟩; have hso : st3 ≤ 6 * (h : Int) := steps_ok q1 q3 q4 hs2; clear q3 q4))
          go_roundw
          case rel => exact ⟨i + 1, st3, zs3, N3, by omega, by go_num, HR3, HZ3, HF3, HN3⟩
          case measure => simp [intOf]; omega
        · go_wp2_with (first
            | (go_at_call 14; refine (Steps_any HR3.out).mono ?_; rintro e w4 ⟨rfl, rfl⟩)
            | (go_at_call 15; refine (HHt.out).mono ?_; rintro e w4 ⟨h, rfl, q1, q2, q3, q4, rfl⟩; have hso : st3 ≤ 6 * (h : Int) := steps_ok q1 q3 q4 hs2; clear q3 q4))
          go_roundw
          case rel => exact ⟨i + 1, st3, zs3, N3, by omega, by go_num, HR3, HZ3, HF3, HN3⟩
          case measure => simp [intOf]; omega
      · have ht5 : Int.tmod u 5 = 2 := HT5.out.trans h5
        clear h5
        go_wp2_with fail
        refine (HC.out x).mono ?_
        rintro e w3 ⟨v, err, st3, zs3, N3, rfl, R3, hl3, hE, F3, hN3⟩
        have HR3 := Lib.hid R3
        have HZ3 := Lib.hid (show zs3.length ≤ i + 1 by have := HZ.out; omega)
        have HF3 := Lib.hid (HF.out.trans F3 (fun q hq e => by have := HN.out q e; omega))
        have hszr := HF.out.size
        have HN3 := Lib.hid (show ∀ q, N3 q ∨ q = s → w.heap.size ≤ q from fun q hq => hq.elim (fun e => (hN3 q e).elim (fun e => HN.out q (.inl e)) (fun e => by omega)) (fun e => HN.out q (.inr e)))
        clear R3 hl3 F3 hN3 HI HD HC HX HP HZ HF HN HR
        have HHt := Lib.hid (Height_any w3 hk2)
        rcases hE with rfl | ⟨rfl, hs1, hs2⟩ | ⟨rfl, hs1, hs2⟩
        · go_wp2_with (go_at_call 14; refine (Steps_any HR3.out).mono ?_; rintro e w4 ⟨rfl, rfl⟩)
          go_roundw
          case rel => exact ⟨i + 1, st3, zs3, N3, by omega, by go_num, HR3, HZ3, HF3, HN3⟩
          case measure => simp [intOf]; omega
        · go_wp2_with (first
            | (go_at_call 14; refine (Steps_any HR3.out).mono ?_; rintro e w4 ⟨rfl, rfl⟩)
            | (go_at_call 15; refine (HHt.out).mono ?_; rintro e w4 ⟨h, rfl, q1, q2, q3, q4, rfl⟩; have hso : st3 ≤ 6 * (h : Int) := steps_ok q1 q3 q4 hs2; clear q3 q4))
          go_roundw
          case rel => exact ⟨i + 1, st3, zs3, N3, by omega, by go_num, HR3, HZ3, HF3, HN3⟩
          case measure => simp [intOf]; omega
        · go_wp2_with (first
            | (go_at_call 14; refine (Steps_any HR3.out).mono ?_; rintro e w4 ⟨rfl, rfl⟩)
            | (go_at_call 15; refine (HHt.out).mono ?_; rintro e w4 ⟨h, rfl, q1, q2, q3, q4, rfl⟩; have hso : st3 ≤ 6 * (h : Int) := steps_ok q1 q3 q4 hs2; clear q3 q4))
          go_roundw
          case rel => exact ⟨i + 1, st3, zs3, N3, by omega, by go_num, HR3, HZ3, HF3, HN3⟩
          case measure => simp [intOf]; omega
      · have ht5 : Int.tmod u 5 = 3 := HT5.out.trans h5
        clear h5
        go_wp2_with fail
        refine (HX.out x).mono ?_
        rintro e w3 ⟨v, err, st3, zs3, N3, rfl, R3, hl3, hE, F3, hN3⟩
        have HR3 := Lib.hid R3
        have HZ3 := Lib.hid (show zs3.length ≤ i + 1 by have := HZ.out; omega)
        have HF3 := Lib.hid (HF.out.trans F3 (fun q hq e => by have := HN.out q e; omega))
        have hszr := HF.out.size
        have HN3 := Lib.hid (show ∀ q, N3 q ∨ q = s → w.heap.size ≤ q from fun q hq => hq.elim (fun e => (hN3 q e).elim (fun e => HN.out q (.inl e)) (fun e => by omega)) (fun e => HN.out q (.inr e)))
        clear R3 hl3 F3 hN3 HI HD HC HX HP HZ HF HN HR
        have HHt := Lib.hid (Height_any w3 hk2)
        rcases hE with rfl | ⟨rfl, hs1, hs2⟩ | ⟨rfl, hs1, hs2⟩
        · go_wp2_with (go_at_call 14; refine (Steps_any HR3.out).mono ?_; rintro e w4 ⟨rfl, rfl⟩)
          go_roundw
          case rel => exact ⟨i + 1, st3, zs3, N3, by omega, by go_num, HR3, HZ3, HF3, HN3⟩
          case measure => simp [intOf]; omega
        · go_wp2_with (first
            | (go_at_call 14; refine (Steps_any HR3.out).mono ?_; rintro e w4 ⟨rfl, rfl⟩)
            | (go_at_call 15; refine (HHt.out).mono ?_; rintro e w4 ⟨h, rfl, q1, q2, q3, q4, rfl⟩; have hso : st3 ≤ 6 * (h : Int) := steps_ok q1 q3 q4 hs2; clear q3 q4))
          go_roundw
          case rel => exact ⟨i + 1, st3, zs3, N3, by omega, by go_num, HR3, HZ3, HF3, HN3⟩
          case measure => simp [intOf]; omega
        · go_wp2_with (first
            | (go_at_call 14; refine (Steps_any HR3.out).mono ?_; rintro e w4 ⟨rfl, rfl⟩)
            | (go_at_call 15; refine (HHt.out).mono ?_; rintro e w4 ⟨h, rfl, q1, q2, q3, q4, rfl⟩; have hso : st3 ≤ 6 * (h : Int) := steps_ok q1 q3 q4 hs2; clear q3 q4))
          go_roundw
          case rel => exact ⟨i + 1, st3, zs3, N3, by omega, by go_num, HR3, HZ3, HF3, HN3⟩
          case measure => simp [intOf]; omega
      · have ht5 : Int.tmod u 5 = 4 := HT5.out.trans h5
        clear h5
        go_wp2_with fail
        refine (HP.out x).mono ?_
        rintro e w3 ⟨v, err, st3, zs3, N3, rfl, R3, hl3, hE, F3, hN3⟩
        have HR3 := Lib.hid R3
        have HZ3 := Lib.hid (show zs3.length ≤ i + 1 by have := HZ.out; omega)
        have HF3 := Lib.hid (HF.out.trans F3 (fun q hq e => by have := HN.out q e; omega))
        have hszr := HF.out.size
        have HN3 := Lib.hid (show ∀ q, N3 q ∨ q = s → w.heap.size ≤ q from fun q hq => hq.elim (fun e => (hN3 q e).elim (fun e => HN.out q (.inl e)) (fun e => by omega)) (fun e => HN.out q (.inr e)))
        clear R3 hl3 F3 hN3 HI HD HC HX HP HZ HF HN HR
        have HHt := Lib.hid (Height_any w3 hk2)
        rcases hE with rfl | ⟨rfl, hs1, hs2⟩ | ⟨rfl, hs1, hs2⟩
        · go_wp2_with (go_at_call 14; refine (Steps_any HR3.out).mono ?_; rintro e w4 ⟨rfl, rfl⟩)
          go_roundw
          case rel => exact ⟨i + 1, st3, zs3, N3, by omega, by go_num, HR3, HZ3, HF3, HN3⟩
          case measure => simp [intOf]; omega
        · go_wp2_with (first
            | (go_at_call 14; refine (Steps_any HR3.out).mono ?_; rintro e w4 ⟨rfl, rfl⟩)
            | (go_at_call 15; refine (HHt.out).mono ?_; rintro e w4 ⟨h, rfl, q1, q2, q3, q4, rfl⟩; have hso : st3 ≤ 6 * (h : Int) := steps_ok q1 q3 q4 hs2; clear q3 q4))
          go_roundw
          case rel => exact ⟨i + 1, st3, zs3, N3, by omega, by go_num, HR3, HZ3, HF3, HN3⟩
          case measure => simp [intOf]; omega
        · go_wp2_with (first
            | (go_at_call 14; refine (Steps_any HR3.out).mono ?_; rintro e w4 ⟨rfl, rfl⟩)
            | (go_at_call 15; refine (HHt.out).mono ?_; rintro e w4 ⟨h, rfl, q1, q2, q3, q4, rfl⟩; have hso : st3 ≤ 6 * (h : Int) := steps_ok q1 q3 q4 hs2; clear q3 q4))
          go_roundw
          case rel => exact ⟨i + 1, st3, zs3, N3, by omega, by go_num, HR3, HZ3, HF3, HN3⟩
          case measure => simp [intOf]; omega
    · obtain rfl : i = mm := by omega
      go_wp2_with fail
      go_ret
      exact ⟨rfl, HF.out⟩
theorem Steps_law (k0 : Int) (a1 : Option Addr) (n1 c1 : Nat) (us : List Int) (a2 : Option Addr) (n2 c2 : Nat) (xs : List Int) (w : World) (A1 : ArgU8 w a1 n1 c1 us) (A2 : ArgSl w a2 n2 c2 xs) :
    Calls Try.prog 3 #[.int .i64 k0, .slice a1 n1 c1, .slice a2 n2 c2] w fun e w' => e = .returned (.bool true) ∧ Fr F0 w w' := by
  by_cases h : 60 < n1 ∨ 60 < n2
  · exact Steps_many k0 a1 n1 c1 a2 n2 c2 w h
  · by_cases hk : k0 < 1 ∨ 20 < k0
    · exact Steps_bad k0 a1 n1 c1 a2 n2 c2 w (by omega) (by omega) hk
    · obtain ⟨k, rfl⟩ : ∃ k : Nat, k0 = k := ⟨k0.toNat, by omega⟩
      exact Steps_in k a1 n1 c1 us a2 n2 c2 xs w A1 A2.rd (by omega) (by omega) (by omega) (by omega)
end Go.Proofs.Ytohblajdeicfeaa
