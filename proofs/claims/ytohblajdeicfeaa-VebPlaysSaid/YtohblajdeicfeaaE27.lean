/- VebPlays: the law. -/
import Derived.Test.YtohblajdeicfeaaE26
import Derived.Test.YtohblajdeicfeaaSlEqual
namespace Go.Proofs.Ytohblajdeicfeaa
open Go.RowKit
attribute [local go_sem ↓] Go.wp_at_zero Go.wp_at_succ
theorem in_out {k : Nat} {x : Int} (h : x < 0 ∨ ((2 ^ k : Nat) : Int) ≤ x) : decide (0 ≤ x ∧ x < ((2 ^ k : Nat) : Int)) = false := decide_eq_false (by omega)
theorem in_in {k x : Nat} (h : x < 2 ^ k) : decide (0 ≤ (x : Int) ∧ (x : Int) < ((2 ^ k : Nat) : Int)) = true := decide_eq_true (by omega)
set_option maxRecDepth 100000 in
set_option maxHeartbeats 4000000 in
theorem Plays_many (k0 : Int) (a1 : Option Addr) (n1 c1 : Nat) (a2 : Option Addr) (n2 c2 : Nat) (w : World) (h : 60 < n1 ∨ 60 < n2) :
    Calls Try.prog 4 #[.int .i64 k0, .slice a1 n1 c1, .slice a2 n2 c2] w fun e w' => e = .returned (.bool true) ∧ Fr F0 w w' := by
  have HA := Lib.hid (awake_any w)
  by_cases h1 : 60 < n1
  · clear h
    go_enter Try.func4, Try.ntmps4
    go_wp2_with fail
    refine (HA.out).mono ?_
    rintro e w1 ⟨rfl, F1⟩
    go_wp2_with fail
    go_ret
    exact ⟨rfl, F1⟩
  · have h2 : 60 < n2 := h.elim (fun e => absurd e h1) id
    clear h
    go_enter Try.func4, Try.ntmps4
    go_wp2_with fail
    refine (HA.out).mono ?_
    rintro e w1 ⟨rfl, F1⟩
    go_wp2_with fail
    go_ret
    exact ⟨rfl, F1⟩
set_option maxRecDepth 100000 in
set_option maxHeartbeats 4000000 in
theorem Plays_bad (k0 : Int) (a1 : Option Addr) (n1 c1 : Nat) (a2 : Option Addr) (n2 c2 : Nat) (w : World) (h1 : n1 ≤ 60) (h2 : n2 ≤ 60) (h : k0 < 1 ∨ 20 < k0) :
    Calls Try.prog 4 #[.int .i64 k0, .slice a1 n1 c1, .slice a2 n2 c2] w fun e w' => e = .returned (.bool true) ∧ Fr F0 w w' := by
  have HA := Lib.hid (awake_any w)
  have HM := Lib.hid (fun w => made_bad w h)
  clear h
  have g1 : ¬ 60 < n1 := by omega
  have g2 : ¬ 60 < n2 := by omega
  go_enter Try.func4, Try.ntmps4
  go_wp2_with fail
  refine (HA.out).mono ?_
  rintro e w1 ⟨rfl, F1⟩
  have HF1 := Lib.hid F1
  clear F1
  go_wp2_with (go_at_call 8; refine (HM.out _).mono ?_; rintro e w2 ⟨rfl, rfl⟩)
  go_ret
  exact ⟨rfl, HF1.out⟩
set_option maxRecDepth 100000 in
set_option maxHeartbeats 40000000 in
theorem Plays_in (k : Nat) (a1 : Option Addr) (n1 c1 : Nat) (us : List Int) (a2 : Option Addr) (n2 c2 : Nat) (args : List Int) (w : World) (A1 : ArgU8 w a1 n1 c1 us) (A2 : Rd w a2 n2 (ints args)) (h1 : n1 ≤ 60) (h2 : n2 ≤ 60) (hk1 : 1 ≤ k) (hk2 : k ≤ 20) :
    Calls Try.prog 4 #[.int .i64 k, .slice a1 n1 c1, .slice a2 n2 c2] w fun e w' => e = .returned (.bool true) ∧ Fr F0 w w' := by
  have HA := Lib.hid (awake_any w)
  have HM := Lib.hid (fun w => made_ok w hk1 hk2)
  have H1 := Lib.hid A1
  have H2 := Lib.hid A2
  have g1 : ¬ 60 < n1 := by omega
  have g2 : ¬ 60 < n2 := by omega
  obtain ⟨mm, hmm, hm1, hm2⟩ : ∃ mm : Nat, min (n1 : Int) (n2 : Int) = (mm : Int) ∧ mm ≤ n1 ∧ mm ≤ n2 := ⟨min n1 n2, by omega, by omega, by omega⟩
  clear A1 A2
  go_enter Try.func4, Try.ntmps4
  go_wp2_with fail
  refine (HA.out).mono ?_
  rintro e w1 ⟨rfl, F1⟩
  have HF1 := Lib.hid F1
  clear F1
  go_wp2_with fail
  refine (HM.out w1).mono ?_
  rintro e w2 ⟨s, rb, N, rfl, R2, F2, q1, q2⟩
  have hsz1 := HF1.out.size
  have HM2 : Hid (Mt w w2 s k rb [] N [] none 0 0) := Lib.hid ⟨⟨_, R2⟩, HF1.out.trans F2 (fun _ _ h => h), fun q hq => hq.elim (fun e => by have := q2 q e; omega) (fun e => by omega), Rd.nil _ _, Nat.le_refl _, fun q hq => absurd hq (onBlk_none _)⟩
  clear R2 F2 q2 HF1
  go_wp2_with fail
  go_loopw [9, 60] (fun s9 s60 wr => ∃ (i : Nat) (xs : List Int) (N : Nat → Prop) (a : Option Addr) (n c : Nat), i ≤ mm ∧ s9 = .slice a n c ∧ s60 = .int .i64 i ∧ Hid (Mt w wr s k rb xs N xs a n c) ∧ Hid (xs.length ≤ i)) (fun _ s60 _ => mm - (intOf s60).toNat)
  case atStart => exact ⟨0, [], N, none, 0, 0, by omega, rfl, rfl, HM2, Lib.hid (by simp)⟩
  case round =>
    obtain ⟨i, xs, N, a, n, c, hi, rfl, rfl, HMt, HZ⟩ := hrel
    clear HM2
    by_cases hlt : i < mm
    · obtain ⟨b1, o1, u, ea1, hu, hc1⟩ := (H1.out.rd.fr0 HMt.out.F).ixu (show i < n1 by omega)
      obtain ⟨b2, o2, x, ea2, hx, hc2⟩ := (H2.out.fr0 HMt.out.F).ix (show i < n2 by omega)
      have hub := H1.out.wf u (List.mem_of_getElem? hu)
      subst ea1
      subst ea2
      clear hu hx
      have hi1 : i < n1 := by omega
      have hi2 : i < n2 := by omega
      have HL := Lib.hid (show xs.length ≤ 100000 ∧ n ≤ 100000 from ⟨by have := HZ.out; omega, by have := HZ.out; have := HMt.out.len; omega⟩)
      have hu5 : (u % 5 = 0 ∨ u % 5 = 1 ∨ u % 5 = 2 ∨ u % 5 = 3 ∨ u % 5 = 4) := by omega
      obtain ⟨hu0, hu1⟩ := hub
      have HT5 := Lib.hid (Int.tmod_eq_emod_of_nonneg (a := u) (b := 5) hu0)
      have HHas := Lib.hid (fun w' (e : Fr F0 wr w') => Has_any a n c xs x w' (HMt.out.rd.fr0 e) (by have := HL.out; omega))
      have HIn := Lib.hid (fun w' => In_any w' hk2 x)
      by_cases hx : x < 0 ∨ ((2 ^ k : Nat) : Int) ≤ x
      · have hHas : decide (x ∈ xs) = false := decide_eq_false (HMt.out.out hx)
        rw [hHas] at HHas
        rw [in_out hx] at HIn
        have HX := Lib.hid hx
        clear hHas hx
        rcases hu5 with h5 | h5 | h5 | h5 | h5
        · as_aux_lemma =>
            have ht5 : Int.tmod u 5 = 0 := HT5.out.trans h5
            clear h5
            go_wp2_with (first
              | (go_at_call 16; refine (HIn.out _).mono ?_; rintro e w3 ⟨rfl, rfl⟩)
              | (go_at_call 17; refine (HHas.out _ (Fr.refl _ _)).mono ?_; rintro e w3 ⟨rfl, rfl⟩))
            obtain ⟨st3, R3⟩ := HMt.out.R
            refine (Insert_out R3 HX.out).mono ?_
            rintro e w3 ⟨rfl, rfl⟩
            clear R3 HHas
            have HM4 := HMt
            have HZ4 := Lib.hid (show xs.length ≤ i + 1 by have := HZ.out; omega)
            go_wp2_with fail
            obtain ⟨st4, R4⟩ := HM4.out.R
            refine (Contains_out R4 HX.out).mono ?_
            rintro e w5 ⟨rfl, rfl⟩
            have HM5 := HM4
            have HH5 := Has_any a n c xs x wr HM4.out.rd (by have := HZ4.out; have := HM4.out.len; omega)
            rw [decide_eq_false (HM4.out.out HX.out)] at HH5
            have HH5 := Lib.hid HH5
            clear R4 HM4
            generalize wr = w5 at *
            generalize N = N5 at *
            obtain ⟨st5, R5⟩ := HM5.out.R
            have HR5 := Lib.hid R5
            have HLn := Len_any R5
            rw [HM5.out.len] at HLn
            have HLn := Lib.hid HLn
            clear R5
            rcases Nat.eq_zero_or_pos n with rfl | hpos
            · obtain rfl : xs = [] := List.length_eq_zero_iff.1 HM5.out.len
              go_wp2_with (first
                | (go_at_call 17; refine (HH5.out).mono ?_; rintro e w6 ⟨rfl, rfl⟩)
                | (go_at_call 22; refine (HLn.out).mono ?_; rintro e w6 ⟨rfl, rfl⟩)
                | (go_at_call 23; refine (Min_none HR5.out).mono ?_; rintro e w6 ⟨rfl, rfl⟩)
                | (go_at_call 24; refine (Max_none HR5.out).mono ?_; rintro e w6 ⟨rfl, rfl⟩))
              go_roundw
              case rel => exact ⟨i + 1, [], N5, a, 0, c, by omega, rfl, by go_num, HM5, HZ4⟩
              case measure => simp [intOf]; omega
            · obtain ⟨p, rfl⟩ : ∃ p, n = p + 1 := ⟨n - 1, by omega⟩
              obtain ⟨b, o, v0, ea, hv0, hc0⟩ := HM5.out.rd.ix (i := 0) (by omega)
              obtain ⟨b', o', v1, ea', hv1, hc3⟩ := HM5.out.rd.ix (i := p) (by omega)
              rw [ea] at ea'
              injection ea' with ea'
              injection ea' with e1 e2 _
              subst e1
              subst e2
              subst ea
              rw [Nat.add_zero] at hc0
              have hmax : p ≤ 1000000 := by have := HZ4.out; have := HM5.out.len; omega
              have HMn := Lib.hid (Min_any HR5.out hv0)
              have HMx := Lib.hid (Max_any HR5.out (m := v1) (by rw [HM5.out.len]; exact hv1))
              clear hv0 hv1
              go_wp2_with (first
                | (go_at_call 17; refine (HH5.out).mono ?_; rintro e w6 ⟨rfl, rfl⟩)
                | (go_at_call 22; refine (HLn.out).mono ?_; rintro e w6 ⟨rfl, rfl⟩)
                | (go_at_call 23; refine (HMn.out).mono ?_; rintro e w6 ⟨rfl, rfl⟩)
                | (go_at_call 24; refine (HMx.out).mono ?_; rintro e w6 ⟨rfl, rfl⟩))
              go_roundw
              case rel => exact ⟨i + 1, xs, N5, _, p + 1, c, by omega, rfl, by go_num, HM5, HZ4⟩
              case measure => simp [intOf]; omega
        · as_aux_lemma =>
            have ht5 : Int.tmod u 5 = 1 := HT5.out.trans h5
            clear h5
            go_wp2_with (first
              | (go_at_call 16; refine (HIn.out _).mono ?_; rintro e w3 ⟨rfl, rfl⟩)
              | (go_at_call 17; refine (HHas.out _ (Fr.refl _ _)).mono ?_; rintro e w3 ⟨rfl, rfl⟩))
            obtain ⟨st3, R3⟩ := HMt.out.R
            refine (Insert_out R3 HX.out).mono ?_
            rintro e w3 ⟨rfl, rfl⟩
            clear R3 HHas
            have HM4 := HMt
            have HZ4 := Lib.hid (show xs.length ≤ i + 1 by have := HZ.out; omega)
            go_wp2_with fail
            obtain ⟨st4, R4⟩ := HM4.out.R
            refine (Contains_out R4 HX.out).mono ?_
            rintro e w5 ⟨rfl, rfl⟩
            have HM5 := HM4
            have HH5 := Has_any a n c xs x wr HM4.out.rd (by have := HZ4.out; have := HM4.out.len; omega)
            rw [decide_eq_false (HM4.out.out HX.out)] at HH5
            have HH5 := Lib.hid HH5
            clear R4 HM4
            generalize wr = w5 at *
            generalize N = N5 at *
            obtain ⟨st5, R5⟩ := HM5.out.R
            have HR5 := Lib.hid R5
            have HLn := Len_any R5
            rw [HM5.out.len] at HLn
            have HLn := Lib.hid HLn
            clear R5
            rcases Nat.eq_zero_or_pos n with rfl | hpos
            · obtain rfl : xs = [] := List.length_eq_zero_iff.1 HM5.out.len
              go_wp2_with (first
                | (go_at_call 17; refine (HH5.out).mono ?_; rintro e w6 ⟨rfl, rfl⟩)
                | (go_at_call 22; refine (HLn.out).mono ?_; rintro e w6 ⟨rfl, rfl⟩)
                | (go_at_call 23; refine (Min_none HR5.out).mono ?_; rintro e w6 ⟨rfl, rfl⟩)
                | (go_at_call 24; refine (Max_none HR5.out).mono ?_; rintro e w6 ⟨rfl, rfl⟩))
              go_roundw
              case rel => exact ⟨i + 1, [], N5, a, 0, c, by omega, rfl, by go_num, HM5, HZ4⟩
              case measure => simp [intOf]; omega
            · obtain ⟨p, rfl⟩ : ∃ p, n = p + 1 := ⟨n - 1, by omega⟩
              obtain ⟨b, o, v0, ea, hv0, hc0⟩ := HM5.out.rd.ix (i := 0) (by omega)
              obtain ⟨b', o', v1, ea', hv1, hc3⟩ := HM5.out.rd.ix (i := p) (by omega)
              rw [ea] at ea'
              injection ea' with ea'
              injection ea' with e1 e2 _
              subst e1
              subst e2
              subst ea
              rw [Nat.add_zero] at hc0
              have hmax : p ≤ 1000000 := by have := HZ4.out; have := HM5.out.len; omega
              have HMn := Lib.hid (Min_any HR5.out hv0)
              have HMx := Lib.hid (Max_any HR5.out (m := v1) (by rw [HM5.out.len]; exact hv1))
              clear hv0 hv1
              go_wp2_with (first
                | (go_at_call 17; refine (HH5.out).mono ?_; rintro e w6 ⟨rfl, rfl⟩)
                | (go_at_call 22; refine (HLn.out).mono ?_; rintro e w6 ⟨rfl, rfl⟩)
                | (go_at_call 23; refine (HMn.out).mono ?_; rintro e w6 ⟨rfl, rfl⟩)
                | (go_at_call 24; refine (HMx.out).mono ?_; rintro e w6 ⟨rfl, rfl⟩))
              go_roundw
              case rel => exact ⟨i + 1, xs, N5, _, p + 1, c, by omega, rfl, by go_num, HM5, HZ4⟩
              case measure => simp [intOf]; omega
        · as_aux_lemma =>
            have ht5 : Int.tmod u 5 = 2 := HT5.out.trans h5
            clear h5
            go_wp2_with (first
              | (go_at_call 16; refine (HIn.out _).mono ?_; rintro e w3 ⟨rfl, rfl⟩)
              | (go_at_call 17; refine (HHas.out _ (Fr.refl _ _)).mono ?_; rintro e w3 ⟨rfl, rfl⟩))
            obtain ⟨st3, R3⟩ := HMt.out.R
            refine (Delete_out R3 HX.out).mono ?_
            rintro e w3 ⟨rfl, rfl⟩
            clear R3 HHas
            go_wp2_with fail
            refine (HMt.out.rdelete x HL.out.2).mono ?_
            rintro e w4 ⟨a4, n4, c4, rfl, M4⟩
            rw [delI_no (HMt.out.out HX.out)] at M4
            have HM4 := Lib.hid M4
            have HZ4 := Lib.hid (show xs.length ≤ i + 1 by have := HZ.out; omega)
            clear M4
            go_wp2_with fail
            obtain ⟨st4, R4⟩ := HM4.out.R
            refine (Contains_out R4 HX.out).mono ?_
            rintro e w5 ⟨rfl, rfl⟩
            have HM5 := HM4
            have HH5 := Has_any a4 n4 c4 xs x w4 HM4.out.rd (by have := HZ4.out; have := HM4.out.len; omega)
            rw [decide_eq_false (HM4.out.out HX.out)] at HH5
            have HH5 := Lib.hid HH5
            clear R4 HM4
            generalize w4 = w5 at *
            generalize N = N5 at *
            obtain ⟨st5, R5⟩ := HM5.out.R
            have HR5 := Lib.hid R5
            have HLn := Len_any R5
            rw [HM5.out.len] at HLn
            have HLn := Lib.hid HLn
            clear R5
            rcases Nat.eq_zero_or_pos n4 with rfl | hpos
            · obtain rfl : xs = [] := List.length_eq_zero_iff.1 HM5.out.len
              go_wp2_with (first
                | (go_at_call 17; refine (HH5.out).mono ?_; rintro e w6 ⟨rfl, rfl⟩)
                | (go_at_call 22; refine (HLn.out).mono ?_; rintro e w6 ⟨rfl, rfl⟩)
                | (go_at_call 23; refine (Min_none HR5.out).mono ?_; rintro e w6 ⟨rfl, rfl⟩)
                | (go_at_call 24; refine (Max_none HR5.out).mono ?_; rintro e w6 ⟨rfl, rfl⟩))
              go_roundw
              case rel => exact ⟨i + 1, [], N5, a4, 0, c4, by omega, rfl, by go_num, HM5, HZ4⟩
              case measure => simp [intOf]; omega
            · obtain ⟨p, rfl⟩ : ∃ p, n4 = p + 1 := ⟨n4 - 1, by omega⟩
              obtain ⟨b, o, v0, ea, hv0, hc0⟩ := HM5.out.rd.ix (i := 0) (by omega)
              obtain ⟨b', o', v1, ea', hv1, hc3⟩ := HM5.out.rd.ix (i := p) (by omega)
              rw [ea] at ea'
              injection ea' with ea'
              injection ea' with e1 e2 _
              subst e1
              subst e2
              subst ea
              rw [Nat.add_zero] at hc0
              have hmax : p ≤ 1000000 := by have := HZ4.out; have := HM5.out.len; omega
              have HMn := Lib.hid (Min_any HR5.out hv0)
              have HMx := Lib.hid (Max_any HR5.out (m := v1) (by rw [HM5.out.len]; exact hv1))
              clear hv0 hv1
              go_wp2_with (first
                | (go_at_call 17; refine (HH5.out).mono ?_; rintro e w6 ⟨rfl, rfl⟩)
                | (go_at_call 22; refine (HLn.out).mono ?_; rintro e w6 ⟨rfl, rfl⟩)
                | (go_at_call 23; refine (HMn.out).mono ?_; rintro e w6 ⟨rfl, rfl⟩)
                | (go_at_call 24; refine (HMx.out).mono ?_; rintro e w6 ⟨rfl, rfl⟩))
              go_roundw
              case rel => exact ⟨i + 1, xs, N5, _, p + 1, c4, by omega, rfl, by go_num, HM5, HZ4⟩
              case measure => simp [intOf]; omega
        · as_aux_lemma =>
            have ht5 : Int.tmod u 5 = 3 := HT5.out.trans h5
            clear h5
            go_wp2_with (first
              | (go_at_call 16; refine (HIn.out _).mono ?_; rintro e w3 ⟨rfl, rfl⟩)
              | (go_at_call 17; refine (HHas.out _ (Fr.refl _ _)).mono ?_; rintro e w3 ⟨rfl, rfl⟩))
            refine (HMt.out.next x).mono ?_
            rintro e w3 ⟨rfl, N3, M3⟩
            have HM3 := Lib.hid M3
            clear M3 HHas
            have HRx := Lib.hid (HM3.out.rnext x (by have := HL.out; omega))
            generalize vO (nextI xs x) = vv at *
            generalize eO (nextI xs x) = ev at *
            go_wp2_with (go_at_call 20; refine (HRx.out).mono ?_; rintro e w6 ⟨rfl, rfl⟩)
            have HM4 := HM3
            have HZ4 := Lib.hid (show xs.length ≤ i + 1 by have := HZ.out; omega)
            clear HRx
            obtain ⟨st4, R4⟩ := HM4.out.R
            refine (Contains_out R4 HX.out).mono ?_
            rintro e w5 ⟨rfl, rfl⟩
            have HM5 := HM4
            have HH5 := Has_any a n c xs x w3 HM4.out.rd (by have := HZ4.out; have := HM4.out.len; omega)
            rw [decide_eq_false (HM4.out.out HX.out)] at HH5
            have HH5 := Lib.hid HH5
            clear R4 HM4
            generalize w3 = w5 at *
            generalize N3 = N5 at *
            obtain ⟨st5, R5⟩ := HM5.out.R
            have HR5 := Lib.hid R5
            have HLn := Len_any R5
            rw [HM5.out.len] at HLn
            have HLn := Lib.hid HLn
            clear R5
            rcases Nat.eq_zero_or_pos n with rfl | hpos
            · obtain rfl : xs = [] := List.length_eq_zero_iff.1 HM5.out.len
              go_wp2_with (first
                | (go_at_call 17; refine (HH5.out).mono ?_; rintro e w6 ⟨rfl, rfl⟩)
                | (go_at_call 22; refine (HLn.out).mono ?_; rintro e w6 ⟨rfl, rfl⟩)
                | (go_at_call 23; refine (Min_none HR5.out).mono ?_; rintro e w6 ⟨rfl, rfl⟩)
                | (go_at_call 24; refine (Max_none HR5.out).mono ?_; rintro e w6 ⟨rfl, rfl⟩))
              go_roundw
              case rel => exact ⟨i + 1, [], N5, a, 0, c, by omega, rfl, by go_num, HM5, HZ4⟩
              case measure => simp [intOf]; omega
            · obtain ⟨p, rfl⟩ : ∃ p, n = p + 1 := ⟨n - 1, by omega⟩
              obtain ⟨b, o, v0, ea, hv0, hc0⟩ := HM5.out.rd.ix (i := 0) (by omega)
              obtain ⟨b', o', v1, ea', hv1, hc3⟩ := HM5.out.rd.ix (i := p) (by omega)
              rw [ea] at ea'
              injection ea' with ea'
              injection ea' with e1 e2 _
              subst e1
              subst e2
              subst ea
              rw [Nat.add_zero] at hc0
              have hmax : p ≤ 1000000 := by have := HZ4.out; have := HM5.out.len; omega
              have HMn := Lib.hid (Min_any HR5.out hv0)
              have HMx := Lib.hid (Max_any HR5.out (m := v1) (by rw [HM5.out.len]; exact hv1))
              clear hv0 hv1
              go_wp2_with (first
                | (go_at_call 17; refine (HH5.out).mono ?_; rintro e w6 ⟨rfl, rfl⟩)
                | (go_at_call 22; refine (HLn.out).mono ?_; rintro e w6 ⟨rfl, rfl⟩)
                | (go_at_call 23; refine (HMn.out).mono ?_; rintro e w6 ⟨rfl, rfl⟩)
                | (go_at_call 24; refine (HMx.out).mono ?_; rintro e w6 ⟨rfl, rfl⟩))
              go_roundw
              case rel => exact ⟨i + 1, xs, N5, _, p + 1, c, by omega, rfl, by go_num, HM5, HZ4⟩
              case measure => simp [intOf]; omega
        · as_aux_lemma =>
            have ht5 : Int.tmod u 5 = 4 := HT5.out.trans h5
            clear h5
            go_wp2_with (first
              | (go_at_call 16; refine (HIn.out _).mono ?_; rintro e w3 ⟨rfl, rfl⟩)
              | (go_at_call 17; refine (HHas.out _ (Fr.refl _ _)).mono ?_; rintro e w3 ⟨rfl, rfl⟩))
            refine (HMt.out.prev x).mono ?_
            rintro e w3 ⟨rfl, N3, M3⟩
            have HM3 := Lib.hid M3
            clear M3 HHas
            have HRx := Lib.hid (HM3.out.rprev x (by have := HL.out; omega))
            generalize vO (prevI xs x) = vv at *
            generalize eO (prevI xs x) = ev at *
            go_wp2_with (go_at_call 21; refine (HRx.out).mono ?_; rintro e w6 ⟨rfl, rfl⟩)
            have HM4 := HM3
            have HZ4 := Lib.hid (show xs.length ≤ i + 1 by have := HZ.out; omega)
            clear HRx
            obtain ⟨st4, R4⟩ := HM4.out.R
            refine (Contains_out R4 HX.out).mono ?_
            rintro e w5 ⟨rfl, rfl⟩
            have HM5 := HM4
            have HH5 := Has_any a n c xs x w3 HM4.out.rd (by have := HZ4.out; have := HM4.out.len; omega)
            rw [decide_eq_false (HM4.out.out HX.out)] at HH5
            have HH5 := Lib.hid HH5
            clear R4 HM4
            generalize w3 = w5 at *
            generalize N3 = N5 at *
            obtain ⟨st5, R5⟩ := HM5.out.R
            have HR5 := Lib.hid R5
            have HLn := Len_any R5
            rw [HM5.out.len] at HLn
            have HLn := Lib.hid HLn
            clear R5
            rcases Nat.eq_zero_or_pos n with rfl | hpos
            · obtain rfl : xs = [] := List.length_eq_zero_iff.1 HM5.out.len
              go_wp2_with (first
                | (go_at_call 17; refine (HH5.out).mono ?_; rintro e w6 ⟨rfl, rfl⟩)
                | (go_at_call 22; refine (HLn.out).mono ?_; rintro e w6 ⟨rfl, rfl⟩)
                | (go_at_call 23; refine (Min_none HR5.out).mono ?_; rintro e w6 ⟨rfl, rfl⟩)
                | (go_at_call 24; refine (Max_none HR5.out).mono ?_; rintro e w6 ⟨rfl, rfl⟩))
              go_roundw
              case rel => exact ⟨i + 1, [], N5, a, 0, c, by omega, rfl, by go_num, HM5, HZ4⟩
              case measure => simp [intOf]; omega
            · obtain ⟨p, rfl⟩ : ∃ p, n = p + 1 := ⟨n - 1, by omega⟩
              obtain ⟨b, o, v0, ea, hv0, hc0⟩ := HM5.out.rd.ix (i := 0) (by omega)
              obtain ⟨b', o', v1, ea', hv1, hc3⟩ := HM5.out.rd.ix (i := p) (by omega)
              rw [ea] at ea'
              injection ea' with ea'
              injection ea' with e1 e2 _
              subst e1
              subst e2
              subst ea
              rw [Nat.add_zero] at hc0
              have hmax : p ≤ 1000000 := by have := HZ4.out; have := HM5.out.len; omega
              have HMn := Lib.hid (Min_any HR5.out hv0)
              have HMx := Lib.hid (Max_any HR5.out (m := v1) (by rw [HM5.out.len]; exact hv1))
              clear hv0 hv1
              go_wp2_with (first
                | (go_at_call 17; refine (HH5.out).mono ?_; rintro e w6 ⟨rfl, rfl⟩)
                | (go_at_call 22; refine (HLn.out).mono ?_; rintro e w6 ⟨rfl, rfl⟩)
                | (go_at_call 23; refine (HMn.out).mono ?_; rintro e w6 ⟨rfl, rfl⟩)
                | (go_at_call 24; refine (HMx.out).mono ?_; rintro e w6 ⟨rfl, rfl⟩))
              go_roundw
              case rel => exact ⟨i + 1, xs, N5, _, p + 1, c, by omega, rfl, by go_num, HM5, HZ4⟩
              case measure => simp [intOf]; omega
      · obtain ⟨x, rfl, hxk⟩ := nat_of hx
        have HX := Lib.hid hxk
        rw [in_in hxk] at HIn
        clear hx hxk
        obtain ⟨had, HHad⟩ : ∃ had, Hid (decide ((x : Int) ∈ xs) = had ∧ decide ((x : Int) ∉ xs) = !had) := ⟨_, Lib.hid ⟨rfl, by simp⟩⟩
        rw [HHad.out.1] at HHas
        rcases hu5 with h5 | h5 | h5 | h5 | h5
        · as_aux_lemma =>
            have ht5 : Int.tmod u 5 = 0 := HT5.out.trans h5
            clear h5
            go_wp2_with (first
              | (go_at_call 16; refine (HIn.out _).mono ?_; rintro e w3 ⟨rfl, rfl⟩)
              | (go_at_call 17; refine (HHas.out _ (Fr.refl _ _)).mono ?_; rintro e w3 ⟨rfl, rfl⟩))
            refine (HMt.out.insert x HX.out HL.out.1).mono ?_
            rintro e w3 ⟨rfl, N3, M3⟩
            rw [HHad.out.2]
            have HM3 := Lib.hid M3
            clear M3 HHas
            go_wp2_with fail
            refine (HM3.out.rinsert x HL.out.2 HMt.out.so).mono ?_
            rintro e w4 ⟨a4, n4, c4, rfl, M4⟩
            obtain ⟨zs, hzs⟩ : ∃ zs, zs = insI xs x := ⟨_, rfl⟩
            rw [← hzs] at M4
            have HM4 := Lib.hid M4
            have HZ4 := Lib.hid (show zs.length ≤ i + 1 by rw [hzs]; have := insI_le xs x HMt.out.so; have := HZ.out; omega)
            clear M4 HM3 hzs
            generalize N3 = N4 at *
            go_wp2_with fail
            refine (HM4.out.contains x HX.out).mono ?_
            rintro e w5 ⟨rfl, N5, M5⟩
            have HM5 := Lib.hid M5
            have HH5 := Lib.hid (Has_any a4 n4 c4 zs x w5 M5.rd (by have := HZ4.out; have := M5.len; omega))
            obtain ⟨bz, hbz⟩ : ∃ bz, decide ((x : Int) ∈ zs) = bz := ⟨_, rfl⟩
            rw [hbz] at HH5
            rw [hbz]
            clear hbz M5 HM4
            obtain ⟨st5, R5⟩ := HM5.out.R
            have HR5 := Lib.hid R5
            have HLn := Len_any R5
            rw [HM5.out.len] at HLn
            have HLn := Lib.hid HLn
            clear R5
            rcases Nat.eq_zero_or_pos n4 with rfl | hpos
            · obtain rfl : zs = [] := List.length_eq_zero_iff.1 HM5.out.len
              go_wp2_with (first
                | (go_at_call 17; refine (HH5.out).mono ?_; rintro e w6 ⟨rfl, rfl⟩)
                | (go_at_call 22; refine (HLn.out).mono ?_; rintro e w6 ⟨rfl, rfl⟩)
                | (go_at_call 23; refine (Min_none HR5.out).mono ?_; rintro e w6 ⟨rfl, rfl⟩)
                | (go_at_call 24; refine (Max_none HR5.out).mono ?_; rintro e w6 ⟨rfl, rfl⟩))
              go_roundw
              case rel => exact ⟨i + 1, [], N5, a4, 0, c4, by omega, rfl, by go_num, HM5, HZ4⟩
              case measure => simp [intOf]; omega
            · obtain ⟨p, rfl⟩ : ∃ p, n4 = p + 1 := ⟨n4 - 1, by omega⟩
              obtain ⟨b, o, v0, ea, hv0, hc0⟩ := HM5.out.rd.ix (i := 0) (by omega)
              obtain ⟨b', o', v1, ea', hv1, hc3⟩ := HM5.out.rd.ix (i := p) (by omega)
              rw [ea] at ea'
              injection ea' with ea'
              injection ea' with e1 e2 _
              subst e1
              subst e2
              subst ea
              rw [Nat.add_zero] at hc0
              have hmax : p ≤ 1000000 := by have := HZ4.out; have := HM5.out.len; omega
              have HMn := Lib.hid (Min_any HR5.out hv0)
              have HMx := Lib.hid (Max_any HR5.out (m := v1) (by rw [HM5.out.len]; exact hv1))
              clear hv0 hv1
              go_wp2_with (first
                | (go_at_call 17; refine (HH5.out).mono ?_; rintro e w6 ⟨rfl, rfl⟩)
                | (go_at_call 22; refine (HLn.out).mono ?_; rintro e w6 ⟨rfl, rfl⟩)
                | (go_at_call 23; refine (HMn.out).mono ?_; rintro e w6 ⟨rfl, rfl⟩)
                | (go_at_call 24; refine (HMx.out).mono ?_; rintro e w6 ⟨rfl, rfl⟩))
              go_roundw
              case rel => exact ⟨i + 1, zs, N5, _, p + 1, c4, by omega, rfl, by go_num, HM5, HZ4⟩
              case measure => simp [intOf]; omega
        · as_aux_lemma =>
            have ht5 : Int.tmod u 5 = 1 := HT5.out.trans h5
            clear h5
            go_wp2_with (first
              | (go_at_call 16; refine (HIn.out _).mono ?_; rintro e w3 ⟨rfl, rfl⟩)
              | (go_at_call 17; refine (HHas.out _ (Fr.refl _ _)).mono ?_; rintro e w3 ⟨rfl, rfl⟩))
            refine (HMt.out.insert x HX.out HL.out.1).mono ?_
            rintro e w3 ⟨rfl, N3, M3⟩
            rw [HHad.out.2]
            have HM3 := Lib.hid M3
            clear M3 HHas
            go_wp2_with fail
            refine (HM3.out.rinsert x HL.out.2 HMt.out.so).mono ?_
            rintro e w4 ⟨a4, n4, c4, rfl, M4⟩
            obtain ⟨zs, hzs⟩ : ∃ zs, zs = insI xs x := ⟨_, rfl⟩
            rw [← hzs] at M4
            have HM4 := Lib.hid M4
            have HZ4 := Lib.hid (show zs.length ≤ i + 1 by rw [hzs]; have := insI_le xs x HMt.out.so; have := HZ.out; omega)
            clear M4 HM3 hzs
            generalize N3 = N4 at *
            go_wp2_with fail
            refine (HM4.out.contains x HX.out).mono ?_
            rintro e w5 ⟨rfl, N5, M5⟩
            have HM5 := Lib.hid M5
            have HH5 := Lib.hid (Has_any a4 n4 c4 zs x w5 M5.rd (by have := HZ4.out; have := M5.len; omega))
            obtain ⟨bz, hbz⟩ : ∃ bz, decide ((x : Int) ∈ zs) = bz := ⟨_, rfl⟩
            rw [hbz] at HH5
            rw [hbz]
            clear hbz M5 HM4
            obtain ⟨st5, R5⟩ := HM5.out.R
            have HR5 := Lib.hid R5
            have HLn := Len_any R5
            rw [HM5.out.len] at HLn
            have HLn := Lib.hid HLn
            clear R5
            rcases Nat.eq_zero_or_pos n4 with rfl | hpos
            · obtain rfl : zs = [] := List.length_eq_zero_iff.1 HM5.out.len
              go_wp2_with (first
                | (go_at_call 17; refine (HH5.out).mono ?_; rintro e w6 ⟨rfl, rfl⟩)
                | (go_at_call 22; refine (HLn.out).mono ?_; rintro e w6 ⟨rfl, rfl⟩)
                | (go_at_call 23; refine (Min_none HR5.out).mono ?_; rintro e w6 ⟨rfl, rfl⟩)
                | (go_at_call 24; refine (Max_none HR5.out).mono ?_; rintro e w6 ⟨rfl, rfl⟩))
              go_roundw
              case rel => exact ⟨i + 1, [], N5, a4, 0, c4, by omega, rfl, by go_num, HM5, HZ4⟩
              case measure => simp [intOf]; omega
            · obtain ⟨p, rfl⟩ : ∃ p, n4 = p + 1 := ⟨n4 - 1, by omega⟩
              obtain ⟨b, o, v0, ea, hv0, hc0⟩ := HM5.out.rd.ix (i := 0) (by omega)
              obtain ⟨b', o', v1, ea', hv1, hc3⟩ := HM5.out.rd.ix (i := p) (by omega)
              rw [ea] at ea'
              injection ea' with ea'
              injection ea' with e1 e2 _
              subst e1
              subst e2
              subst ea
              rw [Nat.add_zero] at hc0
              have hmax : p ≤ 1000000 := by have := HZ4.out; have := HM5.out.len; omega
              have HMn := Lib.hid (Min_any HR5.out hv0)
              have HMx := Lib.hid (Max_any HR5.out (m := v1) (by rw [HM5.out.len]; exact hv1))
              clear hv0 hv1
              go_wp2_with (first
                | (go_at_call 17; refine (HH5.out).mono ?_; rintro e w6 ⟨rfl, rfl⟩)
                | (go_at_call 22; refine (HLn.out).mono ?_; rintro e w6 ⟨rfl, rfl⟩)
                | (go_at_call 23; refine (HMn.out).mono ?_; rintro e w6 ⟨rfl, rfl⟩)
                | (go_at_call 24; refine (HMx.out).mono ?_; rintro e w6 ⟨rfl, rfl⟩))
              go_roundw
              case rel => exact ⟨i + 1, zs, N5, _, p + 1, c4, by omega, rfl, by go_num, HM5, HZ4⟩
              case measure => simp [intOf]; omega
        · as_aux_lemma =>
            have ht5 : Int.tmod u 5 = 2 := HT5.out.trans h5
            clear h5
            go_wp2_with (first
              | (go_at_call 16; refine (HIn.out _).mono ?_; rintro e w3 ⟨rfl, rfl⟩)
              | (go_at_call 17; refine (HHas.out _ (Fr.refl _ _)).mono ?_; rintro e w3 ⟨rfl, rfl⟩))
            refine (HMt.out.delete x HX.out HL.out.1).mono ?_
            rintro e w3 ⟨rfl, N3, M3⟩
            rw [HHad.out.1]
            have HM3 := Lib.hid M3
            clear M3 HHas
            go_wp2_with fail
            refine (HM3.out.rdelete x HL.out.2).mono ?_
            rintro e w4 ⟨a4, n4, c4, rfl, M4⟩
            obtain ⟨zs, hzs⟩ : ∃ zs, zs = delI xs x := ⟨_, rfl⟩
            rw [← hzs] at M4
            have HM4 := Lib.hid M4
            have HZ4 := Lib.hid (show zs.length ≤ i + 1 by rw [hzs]; have := List.length_filter_le (fun y => y != (x : Int)) xs; have := HZ.out; unfold delI; omega)
            clear M4 HM3 hzs
            generalize N3 = N4 at *
            go_wp2_with fail
            refine (HM4.out.contains x HX.out).mono ?_
            rintro e w5 ⟨rfl, N5, M5⟩
            have HM5 := Lib.hid M5
            have HH5 := Lib.hid (Has_any a4 n4 c4 zs x w5 M5.rd (by have := HZ4.out; have := M5.len; omega))
            obtain ⟨bz, hbz⟩ : ∃ bz, decide ((x : Int) ∈ zs) = bz := ⟨_, rfl⟩
            rw [hbz] at HH5
            rw [hbz]
            clear hbz M5 HM4
            obtain ⟨st5, R5⟩ := HM5.out.R
            have HR5 := Lib.hid R5
            have HLn := Len_any R5
            rw [HM5.out.len] at HLn
            have HLn := Lib.hid HLn
            clear R5
            rcases Nat.eq_zero_or_pos n4 with rfl | hpos
            · obtain rfl : zs = [] := List.length_eq_zero_iff.1 HM5.out.len
              go_wp2_with (first
                | (go_at_call 17; refine (HH5.out).mono ?_; rintro e w6 ⟨rfl, rfl⟩)
                | (go_at_call 22; refine (HLn.out).mono ?_; rintro e w6 ⟨rfl, rfl⟩)
                | (go_at_call 23; refine (Min_none HR5.out).mono ?_; rintro e w6 ⟨rfl, rfl⟩)
                | (go_at_call 24; refine (Max_none HR5.out).mono ?_; rintro e w6 ⟨rfl, rfl⟩))
              go_roundw
              case rel => exact ⟨i + 1, [], N5, a4, 0, c4, by omega, rfl, by go_num, HM5, HZ4⟩
              case measure => simp [intOf]; omega
            · obtain ⟨p, rfl⟩ : ∃ p, n4 = p + 1 := ⟨n4 - 1, by omega⟩
              obtain ⟨b, o, v0, ea, hv0, hc0⟩ := HM5.out.rd.ix (i := 0) (by omega)
              obtain ⟨b', o', v1, ea', hv1, hc3⟩ := HM5.out.rd.ix (i := p) (by omega)
              rw [ea] at ea'
              injection ea' with ea'
              injection ea' with e1 e2 _
              subst e1
              subst e2
              subst ea
              rw [Nat.add_zero] at hc0
              have hmax : p ≤ 1000000 := by have := HZ4.out; have := HM5.out.len; omega
              have HMn := Lib.hid (Min_any HR5.out hv0)
              have HMx := Lib.hid (Max_any HR5.out (m := v1) (by rw [HM5.out.len]; exact hv1))
              clear hv0 hv1
              go_wp2_with (first
                | (go_at_call 17; refine (HH5.out).mono ?_; rintro e w6 ⟨rfl, rfl⟩)
                | (go_at_call 22; refine (HLn.out).mono ?_; rintro e w6 ⟨rfl, rfl⟩)
                | (go_at_call 23; refine (HMn.out).mono ?_; rintro e w6 ⟨rfl, rfl⟩)
                | (go_at_call 24; refine (HMx.out).mono ?_; rintro e w6 ⟨rfl, rfl⟩))
              go_roundw
              case rel => exact ⟨i + 1, zs, N5, _, p + 1, c4, by omega, rfl, by go_num, HM5, HZ4⟩
              case measure => simp [intOf]; omega
        · as_aux_lemma =>
            have ht5 : Int.tmod u 5 = 3 := HT5.out.trans h5
            clear h5
            go_wp2_with (first
              | (go_at_call 16; refine (HIn.out _).mono ?_; rintro e w3 ⟨rfl, rfl⟩)
              | (go_at_call 17; refine (HHas.out _ (Fr.refl _ _)).mono ?_; rintro e w3 ⟨rfl, rfl⟩))
            refine (HMt.out.next x).mono ?_
            rintro e w3 ⟨rfl, N3, M3⟩
            have HM3 := Lib.hid M3
            clear M3 HHas
            have HRx := Lib.hid (HM3.out.rnext x (by have := HL.out; omega))
            generalize vO (nextI xs x) = vv at *
            generalize eO (nextI xs x) = ev at *
            go_wp2_with (go_at_call 20; refine (HRx.out).mono ?_; rintro e w6 ⟨rfl, rfl⟩)
            have HM4 := HM3
            have HZ4 := Lib.hid (show xs.length ≤ i + 1 by have := HZ.out; omega)
            clear HRx
            refine (HM4.out.contains x HX.out).mono ?_
            rintro e w5 ⟨rfl, N5, M5⟩
            have HM5 := Lib.hid M5
            have HH5 := Lib.hid (Has_any a n c xs x w5 M5.rd (by have := HZ4.out; have := M5.len; omega))
            obtain ⟨bz, hbz⟩ : ∃ bz, decide ((x : Int) ∈ xs) = bz := ⟨_, rfl⟩
            rw [hbz] at HH5
            rw [hbz]
            clear hbz M5 HM4
            obtain ⟨st5, R5⟩ := HM5.out.R
            have HR5 := Lib.hid R5
            have HLn := Len_any R5
            rw [HM5.out.len] at HLn
            have HLn := Lib.hid HLn
            clear R5
            rcases Nat.eq_zero_or_pos n with rfl | hpos
            · obtain rfl : xs = [] := List.length_eq_zero_iff.1 HM5.out.len
              go_wp2_with (first
                | (go_at_call 17; refine (HH5.out).mono ?_; rintro e w6 ⟨rfl, rfl⟩)
                | (go_at_call 22; refine (HLn.out).mono ?_; rintro e w6 ⟨rfl, rfl⟩)
                | (go_at_call 23; refine (Min_none HR5.out).mono ?_; rintro e w6 ⟨rfl, rfl⟩)
                | (go_at_call 24; refine (Max_none HR5.out).mono ?_; rintro e w6 ⟨rfl, rfl⟩))
              go_roundw
              case rel => exact ⟨i + 1, [], N5, a, 0, c, by omega, rfl, by go_num, HM5, HZ4⟩
              case measure => simp [intOf]; omega
            · obtain ⟨p, rfl⟩ : ∃ p, n = p + 1 := ⟨n - 1, by omega⟩
              obtain ⟨b, o, v0, ea, hv0, hc0⟩ := HM5.out.rd.ix (i := 0) (by omega)
              obtain ⟨b', o', v1, ea', hv1, hc3⟩ := HM5.out.rd.ix (i := p) (by omega)
              rw [ea] at ea'
              injection ea' with ea'
              injection ea' with e1 e2 _
              subst e1
              subst e2
              subst ea
              rw [Nat.add_zero] at hc0
              have hmax : p ≤ 1000000 := by have := HZ4.out; have := HM5.out.len; omega
              have HMn := Lib.hid (Min_any HR5.out hv0)
              have HMx := Lib.hid (Max_any HR5.out (m := v1) (by rw [HM5.out.len]; exact hv1))
              clear hv0 hv1
              go_wp2_with (first
                | (go_at_call 17; refine (HH5.out).mono ?_; rintro e w6 ⟨rfl, rfl⟩)
                | (go_at_call 22; refine (HLn.out).mono ?_; rintro e w6 ⟨rfl, rfl⟩)
                | (go_at_call 23; refine (HMn.out).mono ?_; rintro e w6 ⟨rfl, rfl⟩)
                | (go_at_call 24; refine (HMx.out).mono ?_; rintro e w6 ⟨rfl, rfl⟩))
              go_roundw
              case rel => exact ⟨i + 1, xs, N5, _, p + 1, c, by omega, rfl, by go_num, HM5, HZ4⟩
              case measure => simp [intOf]; omega
        · as_aux_lemma =>
            have ht5 : Int.tmod u 5 = 4 := HT5.out.trans h5
            clear h5
            go_wp2_with (first
              | (go_at_call 16; refine (HIn.out _).mono ?_; rintro e w3 ⟨rfl, rfl⟩)
              | (go_at_call 17; refine (HHas.out _ (Fr.refl _ _)).mono ?_; rintro e w3 ⟨rfl, rfl⟩))
            refine (HMt.out.prev x).mono ?_
            rintro e w3 ⟨rfl, N3, M3⟩
            have HM3 := Lib.hid M3
            clear M3 HHas
            have HRx := Lib.hid (HM3.out.rprev x (by have := HL.out; omega))
            generalize vO (prevI xs x) = vv at *
            generalize eO (prevI xs x) = ev at *
            go_wp2_with (go_at_call 21; refine (HRx.out).mono ?_; rintro e w6 ⟨rfl, rfl⟩)
            have HM4 := HM3
            have HZ4 := Lib.hid (show xs.length ≤ i + 1 by have := HZ.out; omega)
            clear HRx
            refine (HM4.out.contains x HX.out).mono ?_
            rintro e w5 ⟨rfl, N5, M5⟩
            have HM5 := Lib.hid M5
            have HH5 := Lib.hid (Has_any a n c xs x w5 M5.rd (by have := HZ4.out; have := M5.len; omega))
            obtain ⟨bz, hbz⟩ : ∃ bz, decide ((x : Int) ∈ xs) = bz := ⟨_, rfl⟩
            rw [hbz] at HH5
            rw [hbz]
            clear hbz M5 HM4
            obtain ⟨st5, R5⟩ := HM5.out.R
            have HR5 := Lib.hid R5
            have HLn := Len_any R5
            rw [HM5.out.len] at HLn
            have HLn := Lib.hid HLn
            clear R5
            rcases Nat.eq_zero_or_pos n with rfl | hpos
            · obtain rfl : xs = [] := List.length_eq_zero_iff.1 HM5.out.len
              go_wp2_with (first
                | (go_at_call 17; refine (HH5.out).mono ?_; rintro e w6 ⟨rfl, rfl⟩)
                | (go_at_call 22; refine (HLn.out).mono ?_; rintro e w6 ⟨rfl, rfl⟩)
                | (go_at_call 23; refine (Min_none HR5.out).mono ?_; rintro e w6 ⟨rfl, rfl⟩)
                | (go_at_call 24; refine (Max_none HR5.out).mono ?_; rintro e w6 ⟨rfl, rfl⟩))
              go_roundw
              case rel => exact ⟨i + 1, [], N5, a, 0, c, by omega, rfl, by go_num, HM5, HZ4⟩
              case measure => simp [intOf]; omega
            · obtain ⟨p, rfl⟩ : ∃ p, n = p + 1 := ⟨n - 1, by omega⟩
              obtain ⟨b, o, v0, ea, hv0, hc0⟩ := HM5.out.rd.ix (i := 0) (by omega)
              obtain ⟨b', o', v1, ea', hv1, hc3⟩ := HM5.out.rd.ix (i := p) (by omega)
              rw [ea] at ea'
              injection ea' with ea'
              injection ea' with e1 e2 _
              subst e1
              subst e2
              subst ea
              rw [Nat.add_zero] at hc0
              have hmax : p ≤ 1000000 := by have := HZ4.out; have := HM5.out.len; omega
              have HMn := Lib.hid (Min_any HR5.out hv0)
              have HMx := Lib.hid (Max_any HR5.out (m := v1) (by rw [HM5.out.len]; exact hv1))
              clear hv0 hv1
              go_wp2_with (first
                | (go_at_call 17; refine (HH5.out).mono ?_; rintro e w6 ⟨rfl, rfl⟩)
                | (go_at_call 22; refine (HLn.out).mono ?_; rintro e w6 ⟨rfl, rfl⟩)
                | (go_at_call 23; refine (HMn.out).mono ?_; rintro e w6 ⟨rfl, rfl⟩)
                | (go_at_call 24; refine (HMx.out).mono ?_; rintro e w6 ⟨rfl, rfl⟩))
              go_roundw
              case rel => exact ⟨i + 1, xs, N5, _, p + 1, c, by omega, rfl, by go_num, HM5, HZ4⟩
              case measure => simp [intOf]; omega
    · obtain rfl : i = mm := by omega
      obtain ⟨st3, R3⟩ := HMt.out.R
      have HR3 := Lib.hid R3
      clear R3
      go_wp2_with fail
      refine (List_any HR3.out (by have := HZ.out; omega)).mono ?_
      rintro e w5 ⟨a5, c5, rfl, O5, R5, F5⟩
      have HEq := Equal_any a5 a xs.length n c5 c xs xs w5 O5.rd (HMt.out.rd.fr F5 (fun q hq (e : q = s) => (HMt.out.ap q hq).2 (.inr e)))
      rw [decide_eq_true rfl] at HEq
      have HEq := Lib.hid HEq
      have HF5 := Lib.hid (HMt.out.F.trans F5 (fun q hq (e : q = s) => by have := HMt.out.nw q (.inr e); omega))
      clear O5 R5 F5
      go_wp2_with (go_at_call 25; refine (HEq.out).mono ?_; rintro e w6 ⟨rfl, q6, rfl⟩)
      go_ret
      exact ⟨rfl, HF5.out.drewN q6⟩
theorem Plays_law (k0 : Int) (a1 : Option Addr) (n1 c1 : Nat) (us : List Int) (a2 : Option Addr) (n2 c2 : Nat) (xs : List Int) (w : World) (A1 : ArgU8 w a1 n1 c1 us) (A2 : ArgSl w a2 n2 c2 xs) :
    Calls Try.prog 4 #[.int .i64 k0, .slice a1 n1 c1, .slice a2 n2 c2] w fun e w' => e = .returned (.bool true) ∧ Fr F0 w w' := by
  by_cases h : 60 < n1 ∨ 60 < n2
  · exact Plays_many k0 a1 n1 c1 a2 n2 c2 w h
  · by_cases hk : k0 < 1 ∨ 20 < k0
    · exact Plays_bad k0 a1 n1 c1 a2 n2 c2 w (by omega) (by omega) hk
    · obtain ⟨k, rfl⟩ : ∃ k : Nat, k0 = k := ⟨k0.toNat, by omega⟩
      exact Plays_in k a1 n1 c1 us a2 n2 c2 xs w A1 A2.rd (by omega) (by omega) (by omega) (by omega)
end Go.Proofs.Ytohblajdeicfeaa
