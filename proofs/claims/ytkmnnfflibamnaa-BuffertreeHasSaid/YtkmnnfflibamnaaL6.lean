/- Buffer trees: the law of scripts. -/
import Derived.Test.YtkmnnfflibamnaaL5
namespace Go.Proofs.Ytkmnnfflibamnaa
open Go.RowKit
attribute [local go_sem ↓] Go.wp_at_zero Go.wp_at_succ
abbrev stK : List IntKind := [.i64, .i64, .i64]
theorem many_any (a : Option Addr) (n c : Nat) (w : World) : Calls Try.prog 23 #[.slice a n c] w fun e w' => e = .returned (.bool (decide (120 < (n : Int)))) ∧ w = w' := by
  go_enter Try.func23, Try.ntmps23
  go_wp2_with fail
  go_ret
  exact ⟨by first | rfl | simp, rfl⟩
/-- What a played script leaves, its value written out. -/
def PlayS (w : World) (b m : Int) (R : Nat → Nat → Int) (n : Nat) (e : Ending) (w' : World) : Prop :=
  (szB b m = false ∧ e = .returned (.tuple #[.pointer none, .agg #[.int .i64 b, .int .i64 m, .int .i64 0, .slice none 0 0, .slice none 0 0], .bool true]) ∧ Fr F0 w w') ∨
  (∃ (B M t s g c : Nat) (col : Nat → Nat) (T : TV) (r : RT) (vb vc : List Value) (ba : Option Addr) (bc : Nat) (ra : Option Addr) (rn rc : Nat), szB (B : Int) (M : Int) = true ∧ b = (B : Int) ∧ m = (M : Int) ∧ e = .returned (.tuple #[.pointer (some ⟨t, 0, none⟩), .agg #[.int .i64 (B : Int), .int .i64 (M : Int), .int .i64 (T.mv : Int), .slice ba T.buf.length bc, .slice ra rn rc], .bool true]) ∧ PM w w' s g c t B M col T r T.buf vb vc (tcs B M T.mv ba T.buf.length bc ra rn rc) ∧ UQ n T.tt r T.buf ∧ Says (upsR R n) T.tt.lv T.buf)
theorem play_law (b m : Int) {a : Option Addr} {n c : Nat} {R : Nat → Nat → Int} (w : World) (hA : ArgSt w a n c stK R) (hn : n ≤ 120) : Calls Try.prog 24 #[.int .i64 b, .int .i64 m, .slice a n c] w (PlayS w b m R n) := by
  cases hs : szB b m with
  | false =>
    refine (play_bad (R := R) w hs).mono ?_
    rintro e w' (⟨h1, h2, h3⟩ | ⟨h1, _⟩)
    · exact .inl ⟨hs, h2, h3⟩
    · rw [hs] at h1; cases h1
  | true =>
    have h1 := szB_iff.1 hs
    obtain ⟨B, rfl⟩ : ∃ B : Nat, b = (B : Int) := ⟨b.toNat, by omega⟩
    obtain ⟨M, rfl⟩ : ∃ M : Nat, m = (M : Int) := ⟨m.toNat, by omega⟩
    refine (play_any w hs hA hn).mono ?_
    rintro e w' (⟨h1, _⟩ | ⟨_, B', M', t, s, g, c, col, T, r, vb, vc, vr, e1, e2, rfl, hM, hU, hS⟩)
    · rw [hs] at h1; cases h1
    · have e1 : B = B' := by omega
      have e2 : M = M' := by omega
      subst e1 e2
      obtain ⟨ba, bc, ra, rn, rc, rfl⟩ := hM.form
      have hmv : r.bl = T.mv := by obtain ⟨a9, _, _, _, _, p5⟩ := hU; exact p5.mv.symm
      rw [hmv] at hM ⊢
      exact .inr ⟨B, M, t, s, g, c, col, T, r, vb, vc, ba, bc, ra, rn, rc, hs, rfl, rfl, rfl, hM, hU, hS⟩
set_option maxRecDepth 100000 in
theorem Plays_law (b m : Int) (a : Option Addr) (n c : Nat) (R : Nat → Nat → Int) (w : World) (h : ArgSt w a n c stK R) :
    Calls Try.prog 6 #[.int .i64 b, .int .i64 m, .slice a n c] w fun e w' => e = .returned (.bool true) ∧ Fr F0 w w' := by
  have HA := Lib.hid (awake_any w)
  have HM := Lib.hid (fun W => many_any a n c W)
  have HP : Hid (∀ W, Fr F0 w W → n ≤ 120 → Calls Try.prog 24 #[.int .i64 b, .int .i64 m, .slice a n c] W (PlayS W b m R n)) := Lib.hid (fun W F hn => play_law b m W (h.fr0 F) hn)
  clear h
  by_cases hn : 120 < n
  · have hd : decide (120 < (n : Int)) = true := by simp; omega
    rw [hd] at HM
    go_enter Try.func6, Try.ntmps6
    go_wp2_with (first | (go_at_call 10; refine HA.out.mono ?_; rintro e w1 ⟨rfl, F1⟩; have X1 := Lib.hid F1; clear F1) | (go_at_call 23; refine (HM.out _).mono ?_; rintro e w2 ⟨rfl, rfl⟩))
    go_ret
    exact ⟨rfl, X1.out⟩
  · have hd : decide (120 < (n : Int)) = false := by simp; omega
    rw [hd] at HM
    have hn2 : n ≤ 120 := by omega
    clear hd hn
    go_enter Try.func6, Try.ntmps6
    go_upto_region 5 with (first | (go_at_call 10; refine HA.out.mono ?_; rintro e w1 ⟨rfl, F1⟩; have X1 := Lib.hid F1; clear F1) | (go_at_call 23; refine (HM.out _).mono ?_; rintro e w2 ⟨rfl, rfl⟩))
    go_wp2_with fail
    refine (HP.out _ X1.out hn2).mono ?_
    rintro e w3 (⟨_, rfl, F3⟩ | ⟨B, M, t, s, g, c9, col, T, r, vb, vc, ba, bc, ra, rn, rc, _, rfl, rfl, rfl, hM, _⟩)
    · have X3 := Lib.hid (X1.out.trans0 F3)
      clear F3
      go_wp2_with fail
      go_ret
      exact ⟨rfl, X3.out.alloc _⟩
    · have X3 := Lib.hid (X1.out.trans0 hM.fr)
      clear hM
      go_wp2_with fail
      go_ret
      exact ⟨rfl, X3.out.alloc _⟩
end Go.Proofs.Ytkmnnfflibamnaa
