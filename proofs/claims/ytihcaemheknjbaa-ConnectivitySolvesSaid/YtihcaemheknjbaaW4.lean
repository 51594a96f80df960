/- The laws Events and Solves: the walks. -/
import Derived.Test.YtihcaemheknjbaaF37
import Derived.Test.YtihcaemheknjbaaF38
import Derived.Test.YtihcaemheknjbaaF21
namespace Go.Proofs.Ytihcaemheknjbaa
open Go.RowKit
attribute [local go_sem ↓] Go.wp_at_zero Go.wp_at_succ
set_option maxRecDepth 100000 in
set_option maxHeartbeats 16000000 in
theorem law4 {w : World} {n : Int} {a : Option Addr} {N c : Nat} {l : List Ev} (h : ArgE w a N c l) :
    Calls Try.prog 4 #[.int .i64 n, .slice a N c] w fun e w' => e = .returned (.bool true) ∧ Fr F0 w w' := by
  have HW := Lib.hid awake_any
  have HL := Lib.hid (fun w => large_any n (N : Int) w)
  have HA := Lib.hid h
  have hml := h.len
  have hcap := h.cap
  have hmax := h.max
  clear h
  cases hlg : lg n (N : Int) with
  | true =>
    rw [hlg] at HL
    clear hlg
    go_enter Try.func4, Try.ntmps4
    go_wp2_with fail
    refine (HW.out w).mono ?_; rintro e w1 ⟨rfl, F1⟩; have HF1 := Lib.hid F1; clear F1
    go_wp2_with fail
    refine (HL.out w1).mono ?_; rintro e w2 ⟨rfl, rfl⟩
    go_wp2_with fail
    go_ret
    exact ⟨rfl, HF1.out⟩
  | false =>
    rw [hlg] at HL
    clear hlg
    have hV := valid_eq n l
    have H12 : Hid (∀ w1, Fr F0 w w1 → Calls Try.prog 12 #[.int .i64 n, .slice a N c] w1 fun e w' => e = .returned (.bool (readS n l).isSome) ∧ Fr F0 w1 w') := Lib.hid (fun w1 F => by rw [hV]; exact refValid_any (HA.out.fr0 F))
    have H18 : Hid (∀ w1, Fr F0 w w1 → Calls Try.prog 18 #[.int .i64 n, .slice a N c] w1 fun e w' => e = .returned (.bool (readS n l).isSome) ∧ Fr F0 w1 w') := Lib.hid (fun w1 F => Valid_any (HA.out.fr0 F))
    have H16 : Hid (∀ w1, Fr F0 w w1 → Calls Try.prog 16 #[.int .i64 n, .slice a N c] w1 (IvR w1 (readS n l))) := Lib.hid (fun w1 F => Intervals_any (HA.out.fr0 F))
    have H17 := Lib.hid (fun w1 (F : Fr F0 w w1) => Unions_any (n := n) (HA.out.fr0 F))
    cases ho : readS n l with
    | none =>
      rw [ho] at H12 H18 H16 H17
      clear ho hV
      change Hid (∀ w1, Fr F0 w w1 → Calls Try.prog 12 #[.int .i64 n, .slice a N c] w1 fun e w' => e = .returned (.bool false) ∧ Fr F0 w1 w') at H12
      change Hid (∀ w1, Fr F0 w w1 → Calls Try.prog 18 #[.int .i64 n, .slice a N c] w1 fun e w' => e = .returned (.bool false) ∧ Fr F0 w1 w') at H18
      change Hid (∀ w1, Fr F0 w w1 → Calls Try.prog 16 #[.int .i64 n, .slice a N c] w1 fun e w' => e = .returned (.tuple #[.slice none 0 0, .int .i64 1]) ∧ Fr F0 w1 w') at H16
      change Hid (∀ w1, Fr F0 w w1 → Calls Try.prog 17 #[.int .i64 n, .slice a N c] w1 fun e w' => e = .returned (.tuple #[.int .i64 0, .int .i64 1]) ∧ Fr F0 w1 w') at H17
      go_enter Try.func4, Try.ntmps4
      go_wp2_with fail
      refine (HW.out w).mono ?_; rintro e w1 ⟨rfl, F1⟩; have HF1 := Lib.hid F1; clear F1
      go_wp2_with fail
      refine (HL.out w1).mono ?_; rintro e w2 ⟨rfl, rfl⟩
      go_wp2_with fail
      refine (H12.out w1 HF1.out).mono ?_; rintro e w2 ⟨rfl, F2⟩; have HF2 := Lib.hid (HF1.out.trans0 F2); clear F2 HF1
      go_wp2_with fail
      refine (H16.out w2 HF2.out).mono ?_; rintro e w3 ⟨rfl, F3⟩; have HF3 := Lib.hid (HF2.out.trans0 F3); clear F3 HF2
      go_wp2_with fail
      refine (H17.out w3 HF3.out).mono ?_; rintro e w4 ⟨rfl, F4⟩; have HF4 := Lib.hid (HF3.out.trans0 F4); clear F4 HF3
      go_wp2_with fail
      refine (H18.out w4 HF4.out).mono ?_; rintro e w5 ⟨rfl, F5⟩; have HF5 := Lib.hid (HF4.out.trans0 F5); clear F5 HF4
      go_wp2_with fail
      go_ret
      exact ⟨rfl, HF5.out⟩
    | some out =>
      obtain ⟨hok, hn1, hn2, hN⟩ := readS_ok ho
      have hI := readS_refI ho
      rw [ho] at H12 H18 H16 H17
      have H20 : Hid (∀ w1, Fr F0 w w1 → Calls Try.prog 20 #[.slice a N c] w1 fun e w' => ∃ a' c', e = .returned (.slice a' out.length c') ∧ RdZ w' 4 a' out.length (ivs out) ∧ Fr F0 w1 w') := Lib.hid (fun w1 F => by
        refine (refIntervals_any (HA.out.fr0 F) (by omega) hok).mono ?_
        rintro e w' ⟨a', c', he, ho', hF⟩
        rw [← hI] at he ho'
        exact ⟨a', c', he, ho'.rd, hF⟩)
      have H21 : Hid (∀ w1, Fr F0 w w1 → Calls Try.prog 21 #[.slice a N c] w1 fun e w' => e = .returned (.int .i64 (unS N out : Int)) ∧ Fr F0 w1 w') := Lib.hid (fun w1 F => by
        rw [hI]; exact refUnions_any (HA.out.fr0 F) (by omega) hok)
      clear ho hV hok hI hN hn1 hn2
      change Hid (∀ w1, Fr F0 w w1 → Calls Try.prog 12 #[.int .i64 n, .slice a N c] w1 fun e w' => e = .returned (.bool true) ∧ Fr F0 w1 w') at H12
      change Hid (∀ w1, Fr F0 w w1 → Calls Try.prog 18 #[.int .i64 n, .slice a N c] w1 fun e w' => e = .returned (.bool true) ∧ Fr F0 w1 w') at H18
      change Hid (∀ w1, Fr F0 w w1 → Calls Try.prog 16 #[.int .i64 n, .slice a N c] w1 fun e w' => ∃ a c, e = .returned (.tuple #[.slice a out.length c, .int .i64 0]) ∧ OwnZ w' w1.heap.size 41 4 a out.length c (ivs out) ∧ Fr F0 w1 w') at H16
      change Hid (∀ w1, Fr F0 w w1 → Calls Try.prog 17 #[.int .i64 n, .slice a N c] w1 fun e w' => e = .returned (.tuple #[.int .i64 (unS N out : Int), .int .i64 0]) ∧ Fr F0 w1 w') at H17
      obtain ⟨un, hun⟩ : ∃ u, u = unS N out := ⟨_, rfl⟩
      rw [← hun] at H17 H21
      clear hun
      go_enter Try.func4, Try.ntmps4
      go_wp2_with fail
      refine (HW.out w).mono ?_; rintro e w1 ⟨rfl, F1⟩; have HF1 := Lib.hid F1; clear F1
      go_wp2_with fail
      refine (HL.out w1).mono ?_; rintro e w2 ⟨rfl, rfl⟩
      go_wp2_with fail
      refine (H12.out w1 HF1.out).mono ?_; rintro e w2 ⟨rfl, F2⟩; have HF2 := Lib.hid (HF1.out.trans0 F2); clear F2 HF1
      go_wp2_with fail
      refine (H16.out w2 HF2.out).mono ?_; rintro e w3 ⟨aI, cI, rfl, oI, F3⟩; have HF3 := Lib.hid (HF2.out.trans0 F3); have RI3 := Lib.hid (OwnZ.rd oI); clear F3 HF2 oI
      go_wp2_with fail
      refine (H17.out w3 HF3.out).mono ?_; rintro e w4 ⟨rfl, F4⟩; have HF4 := Lib.hid (HF3.out.trans0 F4); have RI4 := Lib.hid (RI3.out.fr0 F4); clear F4 HF3 RI3
      go_wp2_with fail
      refine (H18.out w4 HF4.out).mono ?_; rintro e w5 ⟨rfl, F5⟩; have HF5 := Lib.hid (HF4.out.trans0 F5); have RI5 := Lib.hid (RI4.out.fr0 F5); clear F5 HF4 RI4
      go_wp2_with fail
      refine (H20.out w5 HF5.out).mono ?_; rintro e w6 ⟨aR, cR, rfl, rR, F6⟩; have HF6 := Lib.hid (HF5.out.trans0 F6); have RI6 := Lib.hid (RI5.out.fr0 F6); have RR6 := Lib.hid rR; clear F6 HF5 RI5 rR
      go_wp2_with fail
      have hEq := EqualV_any aI aR out.length out.length cI cR out out w6 RI6.out RR6.out
      rw [decide_eq_true rfl] at hEq
      refine hEq.mono ?_
      rintro e w7 ⟨rfl, hq⟩
      have F7 : Fr F0 w6 w7 := by obtain ⟨q, rfl⟩ := hq; exact (Fr.refl F0 _).drewN q
      have HF7 := Lib.hid (HF6.out.trans0 F7)
      clear hq F7 hEq HF6 RI6 RR6
      go_wp2_with fail
      refine (H21.out w7 HF7.out).mono ?_; rintro e w8 ⟨rfl, F8⟩; have HF8 := Lib.hid (HF7.out.trans0 F8); clear F8 HF7
      go_wp2_with fail
      go_ret
      exact ⟨rfl, HF8.out⟩
set_option maxRecDepth 100000 in
set_option maxHeartbeats 16000000 in
theorem law3 {w : World} {n : Int} {a : Option Addr} {N c : Nat} {l : List Ev} (h : ArgE w a N c l) :
    Calls Try.prog 3 #[.int .i64 n, .slice a N c] w fun e w' => e = .returned (.bool true) ∧ Fr F0 w w' := by
  have HW := Lib.hid awake_any
  have HL := Lib.hid (fun w => large_any n (N : Int) w)
  have HA := Lib.hid h
  have hml := h.len
  have hcap := h.cap
  have hmax := h.max
  clear h
  cases hlg : lg n (N : Int) with
  | true =>
    rw [hlg] at HL
    clear hlg
    go_enter Try.func3, Try.ntmps3
    go_wp2_with fail
    refine (HW.out w).mono ?_; rintro e w1 ⟨rfl, F1⟩; have HF1 := Lib.hid F1; clear F1
    go_wp2_with fail
    refine (HL.out w1).mono ?_; rintro e w2 ⟨rfl, rfl⟩
    go_wp2_with fail
    go_ret
    exact ⟨rfl, HF1.out⟩
  | false =>
    rw [hlg] at HL
    clear hlg
    have hV := valid_eq n l
    have H12 : Hid (∀ w1, Fr F0 w w1 → Calls Try.prog 12 #[.int .i64 n, .slice a N c] w1 fun e w' => e = .returned (.bool (readS n l).isSome) ∧ Fr F0 w1 w') := Lib.hid (fun w1 F => by rw [hV]; exact refValid_any (HA.out.fr0 F))
    have H11 : Hid (∀ w1, Fr F0 w w1 → Calls Try.prog 11 #[.int .i64 n, .slice a N c] w1 (SoR w1 n.toNat N l (readS n l))) := Lib.hid (fun w1 F => Solve_ref (HA.out.fr0 F))
    cases ho : readS n l with
    | none =>
      rw [ho] at H12 H11
      clear ho hV
      change Hid (∀ w1, Fr F0 w w1 → Calls Try.prog 12 #[.int .i64 n, .slice a N c] w1 fun e w' => e = .returned (.bool false) ∧ Fr F0 w1 w') at H12
      change Hid (∀ w1, Fr F0 w w1 → Calls Try.prog 11 #[.int .i64 n, .slice a N c] w1 fun e w' => e = .returned (.tuple #[.slice none 0 0, .slice none 0 0, .int .i64 1]) ∧ Fr F0 w1 w') at H11
      go_enter Try.func3, Try.ntmps3
      go_wp2_with fail
      refine (HW.out w).mono ?_; rintro e w1 ⟨rfl, F1⟩; have HF1 := Lib.hid F1; clear F1
      go_wp2_with fail
      refine (HL.out w1).mono ?_; rintro e w2 ⟨rfl, rfl⟩
      go_wp2_with fail
      refine (H11.out w1 HF1.out).mono ?_; rintro e w2 ⟨rfl, F2⟩; have HF2 := Lib.hid (HF1.out.trans0 F2); clear F2 HF1
      go_wp2_with fail
      refine (H12.out w2 HF2.out).mono ?_; rintro e w3 ⟨rfl, F3⟩; have HF3 := Lib.hid (HF2.out.trans0 F3); clear F3 HF2
      go_wp2_with fail
      go_ret
      exact ⟨rfl, HF3.out⟩
    | some out =>
      obtain ⟨hok, hn1, hn2, hN⟩ := readS_ok ho
      rw [ho] at H12 H11
      obtain ⟨nn, rfl⟩ := Int.eq_ofNat_of_zero_le (show 0 ≤ n by omega)
      change Hid (∀ w1, Fr F0 w w1 → Calls Try.prog 12 #[.int .i64 (nn : Int), .slice a N c] w1 fun e w' => e = .returned (.bool true) ∧ Fr F0 w1 w') at H12
      change Hid (∀ w1, Fr F0 w w1 → Calls Try.prog 11 #[.int .i64 (nn : Int), .slice a N c] w1 fun e w' => ∃ (aA : Option Addr) (cA : Nat) (aC : Option Addr) (cC : Nat), e = .returned (.tuple #[.slice aA (refA nn l N).length cA, .slice aC N cC, .int .i64 0]) ∧ Rd w' aA (refA nn l N).length (bls (refA nn l N)) ∧ Rd w' aC N (nv (refC nn l N)) ∧ Fr F0 w1 w') at H11
      have H13 : Hid (∀ w1, Fr F0 w w1 → Calls Try.prog 13 #[.int .i64 (nn : Int), .slice a N c] w1 fun e w' => ∃ (aA : Option Addr) (cA : Nat) (aC : Option Addr) (cC : Nat), e = .returned (.tuple #[.slice aA (refA nn l N).length cA, .slice aC N cC]) ∧ Rd w' aA (refA nn l N).length (bls (refA nn l N)) ∧ Rd w' aC N (nv (refC nn l N)) ∧ Fr F0 w1 w') := Lib.hid (fun w1 F => by
        have hr : (refS nn l).isSome = true := by
          have hV' := hV
          rw [ho] at hV'
          unfold refV at hV'
          cases hb : bigB (nn : Int) l with
          | false => rw [hb] at hV'; cases hV'
          | true => rw [hb, Bool.true_and] at hV'; exact hV'.symm
        refine (refSolve_any (HA.out.fr0 F) (by omega) (by omega) hr hok).mono ?_
        rintro e w' ⟨aA, cA, aC, cC, he, h1, h2, hF⟩
        exact ⟨aA, cA, aC, cC, he, h1.rd, h2.rd, hF⟩)
      obtain ⟨A, hA⟩ : ∃ A, A = refA nn l N := ⟨_, rfl⟩
      obtain ⟨C, hC⟩ : ∃ C, C = refC nn l N := ⟨_, rfl⟩
      rw [← hA, ← hC] at H11 H13
      clear hA hC ho hV hok hN hn1 hn2
      go_enter Try.func3, Try.ntmps3
      go_wp2_with fail
      refine (HW.out w).mono ?_; rintro e w1 ⟨rfl, F1⟩; have HF1 := Lib.hid F1; clear F1
      go_wp2_with fail
      refine (HL.out w1).mono ?_; rintro e w2 ⟨rfl, rfl⟩
      go_wp2_with fail
      refine (H11.out w1 HF1.out).mono ?_; rintro e w2 ⟨aA, cA, aC, cC, rfl, rA, rC, F2⟩; have HF2 := Lib.hid (HF1.out.trans0 F2); have R2 := Lib.hid (And.intro rA rC); clear F2 HF1 rA rC
      go_wp2_with fail
      refine (H12.out w2 HF2.out).mono ?_; rintro e w3 ⟨rfl, F3⟩; have HF3 := Lib.hid (HF2.out.trans0 F3); have R3 := Lib.hid (And.intro (R2.out.1.fr F3 (fun _ _ h => h)) (R2.out.2.fr F3 (fun _ _ h => h))); clear F3 HF2 R2
      go_wp2_with fail
      refine (H13.out w3 HF3.out).mono ?_; rintro e w4 ⟨aB, cB, aD, cD, rfl, rB, rD, F4⟩; have HF4 := Lib.hid (HF3.out.trans0 F4); have R4 := Lib.hid (And.intro (R3.out.1.fr F4 (fun _ _ h => h)) (R3.out.2.fr F4 (fun _ _ h => h))); have S4 := Lib.hid (And.intro rB rD); clear F4 HF3 R3 rB rD
      go_wp2_with fail
      have hEq := EqualB_any aA aB A.length A.length cA cB A A w4 R4.out.1 S4.out.1
      rw [decide_eq_true rfl] at hEq
      refine hEq.mono ?_
      rintro e w7 ⟨rfl, hq⟩
      have F7 : Fr F0 w4 w7 := by obtain ⟨q, rfl⟩ := hq; exact (Fr.refl F0 _).drewN q
      have HF7 := Lib.hid (HF4.out.trans0 F7)
      have R7 := Lib.hid (And.intro (R4.out.2.fr F7 (fun _ _ h => h)) (S4.out.2.fr F7 (fun _ _ h => h)))
      clear hq F7 hEq HF4 R4 S4
      go_wp2_with fail
      have hEq := Equal_any aC aD N N cC cD _ _ w7 (by rw [← nv_ints]; exact R7.out.1) (by rw [← nv_ints]; exact R7.out.2)
      rw [decide_eq_true rfl] at hEq
      refine hEq.mono ?_
      rintro e w8 ⟨rfl, hq⟩
      have F8 : Fr F0 w7 w8 := by obtain ⟨q, rfl⟩ := hq; exact (Fr.refl F0 _).drewN q
      have HF8 := Lib.hid (HF7.out.trans0 F8)
      clear hq F8 hEq HF7 R7
      go_wp2_with fail
      go_ret
      exact ⟨rfl, HF8.out⟩
theorem walkEvents (n : Int) (a : Option Addr) (m c : Nat) (R : Nat → Nat → Int) (W : World) (h : ArgSt W a m c [.i64, .i64, .i64] R) : Calls Try.prog 4 #[.int .i64 n, .slice a m c] W fun e w' => e = .returned (.bool true) ∧ Fr F0 W w' := law4 (argE_of h)
theorem walkSolves (n : Int) (a : Option Addr) (m c : Nat) (R : Nat → Nat → Int) (W : World) (h : ArgSt W a m c [.i64, .i64, .i64] R) : Calls Try.prog 3 #[.int .i64 n, .slice a m c] W fun e w' => e = .returned (.bool true) ∧ Fr F0 W w' := law3 (argE_of h)
end Go.Proofs.Ytihcaemheknjbaa
