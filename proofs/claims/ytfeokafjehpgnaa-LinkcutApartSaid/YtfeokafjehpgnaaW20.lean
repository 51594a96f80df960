/- root. -/
import Derived.Test.YtfeokafjehpgnaaW19
namespace Go.Proofs.Ytfeokafjehpgnaa
open Go.RowKit
attribute [local go_sem ↓] Go.wp_at_zero Go.wp_at_succ
theorem dnrun_gv {d : Bool} {n : Nat} {V W : K.Vs} {y z : Nat} (h : K.DnRun d V y W z) : GV n V → y ≤ n → y ≠ 0 → GV n W ∧ z ≤ n ∧ z ≠ 0 := by
  induction h with
  | stop _ => exact fun g hy hy0 => ⟨g.push _, hy, hy0⟩
  | @go V V' y y' hc _ ih =>
    intro g hy hy0
    refine ih (g.push y) ?_ hc
    unfold K.child
    split
    · exact (g.push y).left y hy
    · exact (g.push y).right y hy
/-- The loop of root. -/
noncomputable abbrev RB : Code := .seq (.seq (rg50 3) (.cond (.tmp 19) .skip (.exit 0))) (.seq (.block 1 (rg50 5)) (rg50 4))
theorem ro_rounds {w : World} {f b n : Nat} {s : Int} {c4 : Value} {Q : Exit → Act → World → Prop} {V V' : K.Vs} {y y' : Nat} (h : K.DnRun true V y V' y') :
    GV n V → y ≤ n → y ≠ 0 → (∀ a W, RoO w f b n s V' (.int .i64 (y' : Nat)) c4 0 undef a W → Q (.exit 0) a W) →
    ∃ r, ∀ a W, RoO w f b n s (K.pushF V y) (.int .i64 (y : Nat)) c4 0 undef a W → Code.rounds Try.prog RB Q r a W := by
  induction h with
  | @stop V y hc =>
    intro g hy hy0 hQ
    refine ⟨1, fun a W S => ?_⟩
    refine wp_seq (wp_seq (wp_step (ro_r3 S.1 S.2.2.1 S.2.2.2 hy) (fun a1 W1 k1 => ?_)))
    refine wp_cond (k1.slot (by decide)) ?_
    have hc' : (K.pushF V y y).left = 0 := hc
    rw [if_neg (by rw [hc']; decide)]
    exact wp_exit (hQ _ _ k1.drop)
  | @go V V' y y' hc _ ih =>
    intro g hy hy0 hQ
    have hc' : (K.pushF V y y).left ≠ 0 := hc
    have gp := g.push y
    have hl := gp.left y hy
    obtain ⟨r, hm⟩ := ih gp hl hc' hQ
    refine ⟨r + 1, fun a W S => ?_⟩
    refine wp_seq (wp_seq (wp_step (ro_r3 S.1 S.2.2.1 S.2.2.2 hy) (fun a1 W1 k1 => ?_)))
    refine wp_cond (k1.slot (by decide)) ?_
    rw [if_pos (decide_eq_true hc')]
    refine wp_skip (wp_seq (wp_block (wp_step (ro_r5 k1.1 k1.2.2.1 k1.2.2.2 hy) (fun a2 W2 k2 => ?_))))
    exact wp_step (ro_r4 k2.1 k2.2.2.1 k2.2.2.2 gp hl hc') (fun a3 W3 k3 => hm _ _ k3)
set_option maxRecDepth 100000 in
theorem ro_r1 {w : World} {f b n : Nat} {s : Int} {V Vf : K.Vs} {x l m N : Nat} {c4 : Value} {a : Act} (ha : a = RoF f (.int .i64 (x : Nat)) c4 (gOf a)) (h : FS w f b n s V) (g : GV n V) (hx : x ≤ n) (hx0 : x ≠ 0) (hA : K.Access (GV n) N V x Vf l m) (hN : N ≤ 900) (hs1 : -4611686018427387904 ≤ s) (hs2 : s + (m + 1 : Nat) ≤ 4611686018427387904) :
    (rg50 1).wp Try.prog (Exit.then (RoO w f b n (s + (m + 1 : Nat)) Vf (.int .i64 (x : Nat)) c4 0 undef) fun _ _ _ => False) a w := by
  have H := Lib.hid h
  have HA := Lib.hid hA
  clear h hA
  rw [ha]
  clear ha
  generalize gOf a = gg
  unfold RoF
  conv => arg 2; whnf
  go_wp2_with (go_at_call 41; refine (access_any _ H.out g hx hx0 HA.out hN hs1 hs2).mono ?_; rintro e w1 ⟨rfl, hw1, F1⟩; replace hw1 := Lib.hid hw1; replace F1 := Lib.hid F1)
  exact ⟨rfl, fun h => absurd rfl h, hw1.out, F1.out⟩
set_option maxRecDepth 100000 in
set_option maxHeartbeats 1000000 in
theorem root_any (w : World) {f b n : Nat} {s : Int} {V Vf : K.Vs} {x y m N : Nat} (h : FS w f b n s V) (g : GV n V) (hx : x ≤ n) (hx0 : x ≠ 0) (hR : K.RootR (GV n) N V x Vf y m) (hN : N ≤ 900) (hs1 : -4611686018427387904 ≤ s) (hs2 : s + (m + 1 : Nat) ≤ 4611686018427387904) :
    Calls Try.prog 50 #[.pointer (some ⟨f, 0, none⟩), .int .i64 x] w fun e w' => e = .returned (.int .i64 (y : Nat)) ∧ FS w' f b n (s + (m + 1 : Nat)) Vf ∧ Fr (onFB f b) w w' := by
  obtain ⟨V1, l, m1, V2, k, hA, hD, hsp, rfl⟩ := hR
  have g1 := access_gv hA g
  obtain ⟨g2, hy, hy0⟩ := dnrun_gv hD g1 hx hx0
  go_enter Try.func50, Try.ntmps50
  refine wp_seq (wp_step (ro_r0 rfl h (Fr.refl _ _)) (fun a0 W0 k0 => ?_))
  refine wp_seq (wp_step (ro_r1 k0.1 k0.2.2.1 g hx hx0 hA hN hs1 (by omega)) (fun a1 W1 k1 => ?_))
  have F1 := k0.2.2.2.trans k1.2.2.2 (fun _ _ h => h)
  refine wp_seq (wp_seq (wp_step (ro_r2 k1.1 k1.2.2.1 F1 g1 hx hx0) (fun a2 W2 k2 => ?_)))
  obtain ⟨r, hm⟩ := ro_rounds (w := w) (f := f) (b := b) (s := s + (m1 + 1 : Nat)) (c4 := .int .i64 (0 : Nat)) (Q := Exit.inBlock 0 (Exit.then (Code.wp Try.prog (.seq (rg50 6) (.seq (rg50 7) .ret)) (bodyPost Try.prog Try.f50 fun e w' => e = .returned (.int .i64 (y : Nat)) ∧ FS w' f b n (s + ((m1 + k + 1 : Nat) : Int)) Vf ∧ Fr (onFB f b) w w')) (bodyPost Try.prog Try.f50 fun e w' => e = .returned (.int .i64 (y : Nat)) ∧ FS w' f b n (s + ((m1 + k + 1 : Nat) : Int)) Vf ∧ Fr (onFB f b) w w'))) hD g1 hx hx0 (fun a4 W4 k4 => by
    refine inBlock_exit ?_
    refine (show Code.wp _ _ _ _ _ from ?_)
    refine wp_seq (wp_step (ro_r6 k4.1 k4.2.2.1 k4.2.2.2 g2 hy hy0 hsp hN (by omega) (by omega)) (fun a5 W5 k5 => ?_))
    refine wp_seq (wp_step (ro_r7 k5.1 k5.2.2.1 k5.2.2.2) (fun a6 W6 k6 => ?_))
    refine wp_ret ?_
    obtain ⟨ha, -, S, F⟩ := k6
    rw [ha]
    refine bodyPost_ret (results_tmp rfl _ _ _) rfl ⟨rfl, ?_, F⟩
    have e : s + ((m1 + 1 : Nat) : Int) + (k : Int) = s + ((m1 + k + 1 : Nat) : Int) := by omega
    rwa [e] at S)
  exact wp_block (wp_loop_rounds r (hm _ _ k2))
end Go.Proofs.Ytfeokafjehpgnaa
