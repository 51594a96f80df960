/- Buffer trees: the law of sorting. -/
import Derived.Test.YtkmnnfflibamnaaL2
import Derived.Test.YtkmnnfflibamnaaR78
import Derived.Test.YtkmnnfflibamnaaSls
namespace Go.Proofs.Ytkmnnfflibamnaa
open Go.RowKit
attribute [local go_sem ↓] Go.wp_at_zero Go.wp_at_succ
/-- What both sorts answer. -/
def SoR (S : List Int → Prop) (n' : Nat) (N E : Int) (w : World) (e : Ending) (w' : World) : Prop :=
  ∃ a' c' ys, e = .returned (.tuple #[.slice a' n' c', .int .i64 N, .int .i64 E]) ∧ S ys ∧ Rd w' a' n' (ints ys) ∧ Fr F0 w w'
theorem sorts_both {w : World} {a : Option Addr} {n c : Nat} {xs : List Int} (b m : Int) (h : Rd w a n (ints xs)) (hc : n ≤ c) :
    ∃ (S : List Int → Prop) (n' : Nat) (N E : Int), (∀ y y', S y → S y' → y = y') ∧ (∀ W, Fr F0 w W → Calls Try.prog 17 #[.slice a n c, .int .i64 b, .int .i64 m] W (SoR S n' N E W)) ∧ (∀ W, Fr F0 w W → Calls Try.prog 21 #[.slice a n c, .int .i64 b, .int .i64 m] W (SoR S n' N E W)) := by
  cases hs : szB b m with
  | false =>
    refine ⟨fun y => y = [], 0, 0, 2, fun y y' h h' => h.trans h'.symm, fun W F => (Sort_bad b m hs).mono ?_, fun W F => (rsort_bad a n c b m W hs).mono ?_⟩
    · rintro e w' ⟨rfl, F'⟩; exact ⟨none, 0, [], rfl, rfl, Rd.nil _ _, F'⟩
    · rintro e w' ⟨rfl, F'⟩; exact ⟨none, 0, [], rfl, rfl, Rd.nil _ _, F'⟩
  | true =>
    by_cases hn : 4096 < n
    · refine ⟨fun y => y = [], 0, 0, 4, fun y y' h h' => h.trans h'.symm, fun W F => (Sort_many b m hs hn).mono ?_, fun W F => (rsort_many a n c b m W hs hn).mono ?_⟩
      · rintro e w' ⟨rfl, F'⟩; exact ⟨none, 0, [], rfl, rfl, Rd.nil _ _, F'⟩
      · rintro e w' ⟨rfl, F'⟩; exact ⟨none, 0, [], rfl, rfl, Rd.nil _ _, F'⟩
    · have h1 := szB_iff.1 hs
      obtain ⟨B, rfl⟩ : ∃ B : Nat, b = (B : Int) := ⟨b.toNat, by omega⟩
      obtain ⟨M, rfl⟩ : ∃ M : Nat, m = (M : Int) := ⟨m.toNat, by omega⟩
      refine ⟨fun y => y.Perm xs ∧ y.Pairwise (· ≤ ·), n, (srtN B (fanN B M) M n : Nat), 0, fun y y' h h' => sorted_unique h.2 h'.2 (h.1.trans h'.1.symm), fun W F => (BSort_any (h.fr0 F) hc (by omega) (by omega) (by omega)).mono ?_, fun W F => (rsort_any (h.fr0 F) (by omega) (by omega) (by omega)).mono ?_⟩
      · rintro e w' ⟨a', c', ys, rfl, p1, p2, p3, p4⟩; exact ⟨a', c', ys, rfl, ⟨p1, p2⟩, p3, p4⟩
      · rintro e w' ⟨a', c', ys, rfl, p1, p2, p3, p4⟩; exact ⟨a', c', ys, rfl, ⟨p1, p2⟩, p3, p4⟩
theorem eqE {W : World} {a1 a2 : Option Addr} {n : Nat} {xs ys : List Int} (e : xs = ys) (h1 : Rd W a1 n (ints xs)) (h2 : Rd W a2 n (ints ys)) (c1 c2 : Nat) : Calls Try.prog 22 #[.slice a1 n c1, .slice a2 n c2] W fun e w' => e = .returned (.bool true) ∧ ∃ q, w' = W.drewN q := by
  subst e
  have h := Equal_any a1 a2 n n c1 c2 xs xs W h1 h2
  rw [decide_eq_true rfl] at h
  exact h
set_option maxRecDepth 100000 in
set_option maxHeartbeats 4000000 in
theorem Sorts_law (a : Option Addr) (n c : Nat) (xs : List Int) (b m : Int) (w : World) (A : ArgSl w a n c xs) :
    Calls Try.prog 5 #[.slice a n c, .int .i64 b, .int .i64 m] w fun e w' => e = .returned (.bool true) ∧ Fr F0 w w' := by
  have HA := Lib.hid (awake_any w)
  have HAr := Lib.hid A
  obtain ⟨S, n', N, E, u0, u1, u2⟩ := sorts_both b m A.rd A.cap
  have HU := Lib.hid u0
  have H1 := Lib.hid u1
  have H2 := Lib.hid u2
  clear u0 u1 u2 A
  by_cases hskip : (200 < n ∧ n ≤ 4096) ∨ 5000 < n
  · by_cases h1 : 200 < n ∧ n ≤ 4096
    · have d1 : 200 < (n : Int) := by omega
      have d2 : (n : Int) ≤ 4096 := by omega
      clear hskip h1
      go_enter Try.func5, Try.ntmps5
      go_wp2_with (go_at_call 10; refine HA.out.mono ?_; rintro e w1 ⟨rfl, F1⟩; have X1 := Lib.hid F1; clear F1)
      go_ret
      exact ⟨rfl, X1.out⟩
    · have d1 : 200 < (n : Int) := by omega
      have d2 : ¬ (n : Int) ≤ 4096 := by omega
      have d3 : 5000 < (n : Int) := by omega
      clear hskip h1
      go_enter Try.func5, Try.ntmps5
      go_wp2_with (go_at_call 10; refine HA.out.mono ?_; rintro e w1 ⟨rfl, F1⟩; have X1 := Lib.hid F1; clear F1)
      go_ret
      exact ⟨rfl, X1.out⟩
  · have hn5 : ¬ 5000 < (n : Int) := by omega
    have hd : (¬ 200 < (n : Int)) ∨ (200 < (n : Int) ∧ ¬ (n : Int) ≤ 4096) := by omega
    have hnn : n ≤ 1000000 := by omega
    clear hskip
    have key : ∀ (hd : (¬ 200 < (n : Int)) ∨ (200 < (n : Int) ∧ ¬ (n : Int) ≤ 4096)), True := fun _ => trivial
    clear key
    rcases hd with hd | ⟨hd, hd2⟩
    all_goals (
      go_enter Try.func5, Try.ntmps5
      go_wp2_with (first | (go_at_call 10; refine HA.out.mono ?_; rintro e w1 ⟨rfl, F1⟩; have X1 := Lib.hid F1; clear F1) | (go_at_call 20; refine (Clone_all (HAr.out.rd.fr0 X1.out) hnn).mono ?_; rintro e w2 ⟨a2, c2, rfl, o2, F2⟩; have X2 := Lib.hid (And.intro o2.rd (X1.out.trans0 F2)); clear o2 F2) | (go_at_call 17; refine (H1.out _ X2.out.2).mono ?_; rintro e w3 ⟨a3, c3, ys, rfl, s3, r3, F3⟩; have X3 := Lib.hid (And.intro s3 (And.intro r3 (And.intro (X2.out.1.fr0 F3) (X2.out.2.trans0 F3)))); clear s3 r3 F3) | (go_at_call 21; refine (H2.out _ X3.out.2.2.2).mono ?_; rintro e w4 ⟨a4, c4, zs, rfl, s4, r4, F4⟩; have X4 := Lib.hid (And.intro (eqE (HU.out _ _ X3.out.1 s4) (X3.out.2.1.fr0 F4) r4 c3 c4) (And.intro (fun q => eqE (rfl : xs = xs) ((HAr.out.rd.fr0 (X3.out.2.2.2.trans0 F4)).fr0 ((Fr.refl F0 w4).drewN q)) ((X3.out.2.2.1.fr0 F4).fr0 ((Fr.refl F0 w4).drewN q)) c c2) (X3.out.2.2.2.trans0 F4))); clear s4 r4 F4) | (go_at_call 22; with_reducible (refine X4.out.1.mono ?_); rintro e w5 ⟨rfl, q5, rfl⟩) | (go_at_call 22; with_reducible (refine (X4.out.2.1 _).mono ?_); rintro e w6 ⟨rfl, q6, rfl⟩))
      go_ret
      exact ⟨by first | rfl | simp, by first | exact (X4.out.2.2.drewN _).drewN _ | exact X4.out.2.2.drewN _⟩)
end Go.Proofs.Ytkmnnfflibamnaa
