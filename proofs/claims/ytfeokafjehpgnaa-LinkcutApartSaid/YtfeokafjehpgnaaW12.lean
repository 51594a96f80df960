/- splay: its two loops. -/
import Derived.Test.YtfeokafjehpgnaaW11
import Derived.LoopN
namespace Go.Proofs.Ytfeokafjehpgnaa
open Go.RowKit
section
variable {w W : World} {f b n : Nat} {s : Int} {V : K.Vs} {x bx : Nat} {pa : Option Addr} {pn pc : Nat} {vs Ds : List Nat} {c5 c7 c8 c9 v : Value} {ds : List Deferred} {k : Nat} {a : Act}
theorem SO.slot (h : SO w f b n s V x bx pa pn pc vs Ds c5 c7 c8 c9 ds k v a W) (hk : k ≠ 0) : a.eval (.tmp k) = v := h.2.1 hk
theorem SO.drop (h : SO w f b n s V x bx pa pn pc vs Ds c5 c7 c8 c9 ds k v a W) : SO w f b n s V x bx pa pn pc vs Ds c5 c7 c8 c9 ds 0 undef a W := ⟨h.1, fun h => absurd rfl h, h.2.2⟩
end
/-- The loop up the tree. -/
noncomputable abbrev UB : Code := .seq (.seq (rg53 3) (.cond (.tmp 16) .skip (.exit 0))) (.block 1 (.seq (rg53 4) (rg53 5)))
theorem up_rounds {w : World} {f b n : Nat} {s : Int} {V : K.Vs} {x bx : Nat} {c7 c8 c9 : Value} {Q : Exit → Act → World → Prop} (g : GV n V) (hx : x ≤ n) {y : Nat} {l : List Nat} (h : K.UpRun V y l) :
    ∀ (vs : List Nat) (pa : Option Addr) (pn pc : Nat) (a : Act) (W : World), y ≤ n → pn + l.length ≤ 1000 → SO w f b n s V x bx pa pn pc (vs ++ [y]) [] (.int .i64 (y : Nat)) c7 c8 c9 [] 0 undef a W →
    (∀ pa pn pc (z : Nat) a W, SO w f b n s V x bx pa pn pc (vs ++ l) [] (.int .i64 (z : Nat)) c7 c8 c9 [] 0 undef a W → Q (.exit 0) a W) → Code.rounds Try.prog UB Q l.length a W := by
  induction h with
  | @done y ht =>
    intro vs pa pn pc a W hy hl S hQ
    refine wp_seq (wp_seq (wp_step (spl_r3 S.1 S.2.2 hx hy g) (fun a1 W1 k1 => ?_)))
    refine wp_cond (k1.slot (by decide)) ?_
    rw [ht, if_neg (by decide)]
    exact wp_exit (hQ _ _ _ y _ _ k1.drop)
  | @up y l ht hr ih =>
    intro vs pa pn pc a W hy hl S hQ
    refine wp_seq (wp_seq (wp_step (spl_r3 S.1 S.2.2 hx hy g) (fun a1 W1 k1 => ?_)))
    refine wp_cond (k1.slot (by decide)) ?_
    rw [ht, if_pos (by decide)]
    refine wp_skip (wp_block (wp_seq (wp_step (spl_r4 k1.1 k1.2.2 hx hy) (fun a2 W2 k2 => ?_))))
    simp only [List.length_cons] at hl
    refine wp_step (spl_r5 k2.1 k2.2.2 hx (by omega)) (fun a3 W3 k3 => ?_)
    obtain ⟨pa', pc', k3⟩ := k3
    refine ih (vs ++ [y]) pa' (pn + 1) pc' a3 W3 (g.up y hy) (by omega) k3 (fun pa pn pc z a W h => hQ pa pn pc z a W ?_)
    rw [List.append_assoc] at h
    exact h
/-- The loop of the rotations. -/
noncomputable abbrev SB : Code := .seq (.seq (rg53 9) (.cond (.tmp 39) .skip (.exit 4))) (.block 5 (.seq (rg53 10) (.seq (.seq (rg53 11) (.cond (.tmp 51) (.seq (rg53 12) (.seq (rg53 13) (.cond (.tmp 80) (rg53 14) (rg53 15)))) .skip)) (rg53 16))))
theorem sp_rounds {w : World} {f b n : Nat} {x bx : Nat} {c5 c7 : Value} {pa : Option Addr} {pn pc : Nat} {vs Ds : List Nat} {ds : List Deferred} {Q : Exit → Act → World → Prop} (hx : x ≤ n) {V Vf : K.Vs} {k : Nat} (h : K.SpRun (GV n) V x k Vf) :
    ∀ (s : Int), GV n V → -4611686018427387904 ≤ s → s + k ≤ 4611686018427387904 →
    (∀ c8 c9 a W, SO w f b n (s + k) Vf x bx pa pn pc vs Ds c5 c7 c8 c9 ds 0 undef a W → Q (.exit 4) a W) →
    ∃ m, ∀ c8 c9 a W, SO w f b n s V x bx pa pn pc vs Ds c5 c7 c8 c9 ds 0 undef a W → Code.rounds Try.prog SB Q m a W := by
  induction h with
  | @done V x ht =>
    intro s g h1 h2 hQ
    refine ⟨1, fun c8 c9 a W S => ?_⟩
    refine wp_seq (wp_seq (wp_step (spl_r9 S.1 S.2.2 hx g) (fun a1 W1 k1 => ?_)))
    refine wp_cond (k1.slot (by decide)) ?_
    rw [ht, if_neg (by decide)]
    refine wp_exit (hQ c8 c9 _ _ ?_)
    simpa using k1.drop
  | @zig V Vf x k ht htp G1 hr ih =>
    intro s g h1 h2 hQ
    obtain ⟨m, hm⟩ := ih hx (s + 1) G1 (by omega) (by omega) (fun c8 c9 a W S => hQ c8 c9 a W (by
      have e : s + 1 + (k : Int) = s + ((k + 1 : Nat) : Int) := by omega
      rw [e] at S
      exact S))
    refine ⟨m + 1, fun c8 c9 a W S => ?_⟩
    have hp := g.up x hx
    refine wp_seq (wp_seq (wp_step (spl_r9 S.1 S.2.2 hx g) (fun a1 W1 k1 => ?_)))
    refine wp_cond (k1.slot (by decide)) ?_
    rw [ht, if_pos (by decide)]
    refine wp_skip (wp_block (wp_seq (wp_step (spl_r10 k1.1 k1.2.2 hx) (fun a2 W2 k2 => ?_))))
    refine wp_seq (wp_seq (wp_step (spl_r11 k2.1 k2.2.2 hx hp g) (fun a3 W3 k3 => ?_)))
    refine wp_cond (k3.slot (by decide)) ?_
    rw [htp, if_neg (by decide)]
    refine wp_skip (wp_step (spl_r16 k3.1 k3.2.2 hx g G1 ht h1 (by omega)) (fun a4 W4 k4 => ?_))
    exact hm _ _ _ _ k4
  | @zigzig V Vf x k ht htp hd G1 tz G2 hr ih =>
    intro s g h1 h2 hQ
    obtain ⟨m, hm⟩ := ih hx (s + 1 + 1) G2 (by omega) (by omega) (fun c8 c9 a W S => hQ c8 c9 a W (by
      have e : s + 1 + 1 + (k : Int) = s + ((k + 2 : Nat) : Int) := by omega
      rw [e] at S
      exact S))
    refine ⟨m + 1, fun c8 c9 a W S => ?_⟩
    have hp := g.up x hx
    have hq := g.up _ hp
    refine wp_seq (wp_seq (wp_step (spl_r9 S.1 S.2.2 hx g) (fun a1 W1 k1 => ?_)))
    refine wp_cond (k1.slot (by decide)) ?_
    rw [ht, if_pos (by decide)]
    refine wp_skip (wp_block (wp_seq (wp_step (spl_r10 k1.1 k1.2.2 hx) (fun a2 W2 k2 => ?_))))
    refine wp_seq (wp_seq (wp_step (spl_r11 k2.1 k2.2.2 hx hp g) (fun a3 W3 k3 => ?_)))
    refine wp_cond (k3.slot (by decide)) ?_
    rw [htp, if_pos (by decide)]
    refine wp_seq (wp_step (spl_r12 k3.1 k3.2.2 hx hp) (fun a4 W4 k4 => ?_))
    refine wp_seq (wp_step (spl_r13 k4.1 k4.2.2 hx hp hq) (fun a5 W5 k5 => ?_))
    refine wp_cond (k5.slot (by decide)) ?_
    rw [hd, if_pos rfl]
    refine wp_step (spl_r14 k5.1 k5.2.2 hx hp g G1 htp h1 (by omega)) (fun a6 W6 k6 => ?_)
    refine wp_step (spl_r16 k6.1 k6.2.2 hx G1 G2 tz (by omega) (by omega)) (fun a7 W7 k7 => ?_)
    exact hm _ _ _ _ k7
  | @zigzag V Vf x k ht htp hd G1 tz G2 hr ih =>
    intro s g h1 h2 hQ
    obtain ⟨m, hm⟩ := ih hx (s + 1 + 1) G2 (by omega) (by omega) (fun c8 c9 a W S => hQ c8 c9 a W (by
      have e : s + 1 + 1 + (k : Int) = s + ((k + 2 : Nat) : Int) := by omega
      rw [e] at S
      exact S))
    refine ⟨m + 1, fun c8 c9 a W S => ?_⟩
    have hp := g.up x hx
    have hq := g.up _ hp
    refine wp_seq (wp_seq (wp_step (spl_r9 S.1 S.2.2 hx g) (fun a1 W1 k1 => ?_)))
    refine wp_cond (k1.slot (by decide)) ?_
    rw [ht, if_pos (by decide)]
    refine wp_skip (wp_block (wp_seq (wp_step (spl_r10 k1.1 k1.2.2 hx) (fun a2 W2 k2 => ?_))))
    refine wp_seq (wp_seq (wp_step (spl_r11 k2.1 k2.2.2 hx hp g) (fun a3 W3 k3 => ?_)))
    refine wp_cond (k3.slot (by decide)) ?_
    rw [htp, if_pos (by decide)]
    refine wp_seq (wp_step (spl_r12 k3.1 k3.2.2 hx hp) (fun a4 W4 k4 => ?_))
    refine wp_seq (wp_step (spl_r13 k4.1 k4.2.2 hx hp hq) (fun a5 W5 k5 => ?_))
    refine wp_cond (k5.slot (by decide)) ?_
    rw [hd, if_neg (by decide)]
    refine wp_step (spl_r15 k5.1 k5.2.2 hx g G1 ht h1 (by omega)) (fun a6 W6 k6 => ?_)
    refine wp_step (spl_r16 k6.1 k6.2.2 hx G1 G2 tz (by omega) (by omega)) (fun a7 W7 k7 => ?_)
    exact hm _ _ _ _ k7
end Go.Proofs.Ytfeokafjehpgnaa
