/- access, evert, root. -/
import Derived.Test.YtfeokafjehpgnaaW18
namespace Go.Proofs.Ytfeokafjehpgnaa
open Go.RowKit
attribute [local go_sem ↓] Go.wp_at_zero Go.wp_at_succ
theorem sprun_gv {n : Nat} {V W : K.Vs} {x k : Nat} (h : K.SpRun (GV n) V x k W) : GV n V → GV n W := by
  induction h with
  | done _ => exact id
  | zig _ _ G1 _ ih => exact fun _ => ih G1
  | zigzig _ _ _ _ _ G2 _ ih => exact fun _ => ih G2
  | zigzag _ _ _ _ _ G2 _ ih => exact fun _ => ih G2
theorem splay_gv {n N : Nat} {V W : K.Vs} {x k : Nat} (h : K.Splay (GV n) N V x k W) (g : GV n V) : GV n W := by
  obtain ⟨l, _, _, _, h⟩ := h
  exact sprun_gv h (g.pushes _)
theorem acrun_gv {n N : Nat} {V W : K.Vs} {last y l m : Nat} (h : K.AcRun (GV n) N V last y W l m) : GV n V → GV n W := by
  induction h with
  | done => exact id
  | step _ _ G1 _ ih => exact fun _ => ih G1
theorem access_gv {n N : Nat} {V W : K.Vs} {x l m : Nat} (h : K.Access (GV n) N V x W l m) (g : GV n V) : GV n W := by
  obtain ⟨V1, m1, k, h1, h2, _⟩ := h
  exact splay_gv h2 (acrun_gv h1 g)
/-- The loop of access. -/
noncomputable abbrev AB : Code := .seq (.seq (rg41 4) (.cond (.tmp 16) .skip (.exit 0))) (.seq (.block 1 (.seq (rg41 6) (.seq (rg41 7) (.seq (rg41 8) (rg41 9))))) (rg41 5))
theorem ac_rounds {w : World} {f b n N : Nat} {c1 c4 : Value} {Q : Exit → Act → World → Prop} (hN : N ≤ 900) {V Vf : K.Vs} {last y l m : Nat} (h : K.AcRun (GV n) N V last y Vf l m) :
    ∀ (s : Int), GV n V → y ≤ n → last ≤ n → -4611686018427387904 ≤ s → s + m ≤ 4611686018427387904 →
    (∀ a W, AcO w f b n (s + m) Vf c1 c4 (.int .i64 (l : Nat)) (.int .i64 (0 : Nat)) 0 undef a W → Q (.exit 0) a W) →
    ∃ r, ∀ a W, AcO w f b n s V c1 c4 (.int .i64 (last : Nat)) (.int .i64 (y : Nat)) 0 undef a W → Code.rounds Try.prog AB Q r a W := by
  induction h with
  | @done V last =>
    intro s g hy hl h1 h2 hQ
    refine ⟨1, fun a W S => ?_⟩
    refine wp_seq (wp_seq (wp_step (ac_r4 S.1 S.2.2.1 S.2.2.2) (fun a1 W1 k1 => ?_)))
    refine wp_cond (k1.slot (by decide)) ?_
    rw [if_neg (by decide)]
    refine wp_exit (hQ _ _ ?_)
    simpa using k1.drop
  | @step V W V' last y k l' m y0 hsp G1 hr ih =>
    intro s g hy hl h1 h2 hQ
    have gW := splay_gv hsp g
    obtain ⟨r, hm⟩ := ih (s + k) G1 (G1.up y hy) hy (by omega) (by omega) (fun a W S => hQ a W (by
      have e : s + (k : Int) + (m : Int) = s + ((k + m : Nat) : Int) := by omega
      rw [e] at S
      exact S))
    refine ⟨r + 1, fun a W S => ?_⟩
    refine wp_seq (wp_seq (wp_step (ac_r4 S.1 S.2.2.1 S.2.2.2) (fun a1 W1 k1 => ?_)))
    refine wp_cond (k1.slot (by decide)) ?_
    rw [if_pos (decide_eq_true y0)]
    refine wp_skip (wp_seq (wp_block (wp_seq (wp_step (ac_r6 k1.1 k1.2.2.1 k1.2.2.2 g hy y0 hsp hN h1 (by omega)) (fun a2 W2 k2 => ?_)))))
    refine wp_seq (wp_step (ac_r7 k2.1 k2.2.2.1 k2.2.2.2 hy hl) (fun a3 W3 k3 => ?_))
    refine wp_seq (wp_step (ac_r8 k3.1 k3.2.2.1 k3.2.2.2 (gW.bv.put y ((gW.bv.bx hy).setRight hl)) hy) (fun a4 W4 k4 => ?_))
    refine wp_step (ac_r9 k4.1 k4.2.2.1 k4.2.2.2) (fun a5 W5 k5 => ?_)
    refine wp_step (ac_r5 k5.1 k5.2.2.1 k5.2.2.2 hy) (fun a6 W6 k6 => ?_)
    exact hm _ _ k6
set_option maxRecDepth 100000 in
set_option maxHeartbeats 1000000 in
theorem access_any (w : World) {f b n : Nat} {s : Int} {V Vf : K.Vs} {x l m N : Nat} (h : FS w f b n s V) (g : GV n V) (hx : x ≤ n) (hx0 : x ≠ 0) (hA : K.Access (GV n) N V x Vf l m) (hN : N ≤ 900) (hs1 : -4611686018427387904 ≤ s) (hs2 : s + (m + 1 : Nat) ≤ 4611686018427387904) :
    Calls Try.prog 41 #[.pointer (some ⟨f, 0, none⟩), .int .i64 x] w fun e w' => e = .returned (.int .i64 (l : Nat)) ∧ FS w' f b n (s + (m + 1 : Nat)) Vf ∧ Fr (onFB f b) w w' := by
  obtain ⟨V1, m1, k, hr, hsp, rfl⟩ := hA
  have g1 := acrun_gv hr g
  go_enter Try.func41, Try.ntmps41
  refine wp_seq (wp_step (ac_r0 rfl h (Fr.refl _ _)) (fun a0 W0 k0 => ?_))
  refine wp_seq (wp_step (ac_r1 k0.1 k0.2.2.1 k0.2.2.2 hs1 (by omega)) (fun a1 W1 k1 => ?_))
  refine wp_seq (wp_step (ac_r2 k1.1 k1.2.2.1 k1.2.2.2) (fun a2 W2 k2 => ?_))
  refine wp_seq (wp_seq (wp_step (ac_r3 k2.1 k2.2.2.1 k2.2.2.2) (fun a3 W3 k3 => ?_)))
  obtain ⟨r, hm⟩ := ac_rounds (w := w) (f := f) (b := b) (c1 := .int .i64 (x : Nat)) (c4 := .int .i64 (0 : Nat)) (Q := Exit.inBlock 0 (Exit.then (Code.wp Try.prog (.seq (rg41 10) (.seq (rg41 11) .ret)) (bodyPost Try.prog Try.f41 fun e w' => e = .returned (.int .i64 (l : Nat)) ∧ FS w' f b n (s + ((m1 + k + 1 : Nat) : Int)) Vf ∧ Fr (onFB f b) w w')) (bodyPost Try.prog Try.f41 fun e w' => e = .returned (.int .i64 (l : Nat)) ∧ FS w' f b n (s + ((m1 + k + 1 : Nat) : Int)) Vf ∧ Fr (onFB f b) w w'))) hN hr (s + 1) g hx (Nat.zero_le _) (by omega) (by omega) (fun a4 W4 k4 => by
    refine inBlock_exit ?_
    refine (show Code.wp _ _ _ _ _ from ?_)
    refine wp_seq (wp_step (ac_r10 k4.1 k4.2.2.1 k4.2.2.2 g1 hx hx0 hsp hN (by omega) (by omega)) (fun a5 W5 k5 => ?_))
    refine wp_seq (wp_step (ac_r11 k5.1 k5.2.2.1 k5.2.2.2) (fun a6 W6 k6 => ?_))
    refine wp_ret ?_
    obtain ⟨ha, -, S, F⟩ := k6
    rw [ha]
    refine bodyPost_ret (results_tmp rfl _ _ _) rfl ⟨rfl, ?_, F⟩
    have e : s + 1 + (m1 : Int) + (k : Int) = s + ((m1 + k + 1 : Nat) : Int) := by omega
    rwa [e] at S)
  exact wp_block (wp_loop_rounds r (hm _ _ k3))
set_option maxRecDepth 100000 in
set_option maxHeartbeats 1000000 in
theorem evert_any (w : World) {f b n : Nat} {s : Int} {V Vf : K.Vs} {x m N : Nat} (h : FS w f b n s V) (g : GV n V) (hx : x ≤ n) (hx0 : x ≠ 0) (hE : K.EvertR (GV n) N V x Vf m) (hN : N ≤ 900) (hs1 : -4611686018427387904 ≤ s) (hs2 : s + (m + 1 : Nat) ≤ 4611686018427387904) :
    Calls Try.prog 51 #[.pointer (some ⟨f, 0, none⟩), .int .i64 x] w fun e w' => e = .returned (.tuple #[]) ∧ FS w' f b n (s + (m + 1 : Nat)) Vf ∧ Fr (onFB f b) w w' := by
  obtain ⟨V1, l, hA, rfl⟩ := hE
  have g1 := access_gv hA g
  have H := Lib.hid h
  have HA := Lib.hid hA
  clear h hA
  go_enter Try.func51, Try.ntmps51
  go_wp2_with (first
    | (go_at_call 41; refine (access_any _ H.out g hx hx0 HA.out hN hs1 hs2).mono ?_; rintro e w1 ⟨rfl, hw1, F1⟩; replace hw1 := Lib.hid hw1; replace F1 := Lib.hid F1; clear HA)
    | (go_at_call 62; refine (turn_any _ hw1.out hx).mono ?_; rintro e w2 ⟨rfl, hw2, F2⟩; replace hw2 := Lib.hid hw2; replace F2 := Lib.hid F2; clear H)
    | (go_at_call 52; refine (push_any _ hw2.out (g1.turn x) hx hx0).mono ?_; rintro e w3 ⟨rfl, hw3, F3⟩; replace hw3 := Lib.hid hw3; replace F3 := Lib.hid F3))
  go_end0
  exact ⟨rfl, hw3.out, (F1.out.trans F2.out (fun _ _ h => .inr h)).trans F3.out (fun _ _ h => .inr h)⟩
end Go.Proofs.Ytfeokafjehpgnaa
