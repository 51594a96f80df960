/- rotate. -/
import Derived.Test.YtfeokafjehpgnaaW8
namespace Go.Proofs.Ytfeokafjehpgnaa
open Go.RowKit
attribute [local go_sem ↓] Go.wp_at_zero Go.wp_at_succ
/-- A vertex within bounds. -/
structure BX (n : Nat) (v : K.Vx) : Prop where
  up : v.up ≤ n
  left : v.left ≤ n
  right : v.right ≤ n
  first : v.first ≤ n
  last : v.last ≤ n
  size : v.size ≤ n
  sum : -1099511627776 ≤ v.sum ∧ v.sum ≤ 1099511627776
  weight : -1048576 ≤ v.weight ∧ v.weight ≤ 1048576
theorem BV.bx {n : Nat} {V : K.Vs} (g : BV n V) {x : Nat} (hx : x ≤ n) : BX n (V x) := ⟨g.up x hx, g.left x hx, g.right x hx, g.first x hx, g.last x hx, g.size x hx, g.sum x hx, g.weight x hx⟩
theorem BV.of {n : Nat} {V : K.Vs} (h : ∀ x, x ≤ n → BX n (V x)) : BV n V :=
  ⟨fun x hx => (h x hx).up, fun x hx => (h x hx).left, fun x hx => (h x hx).right, fun x hx => (h x hx).first, fun x hx => (h x hx).last, fun x hx => (h x hx).size, fun x hx => (h x hx).sum, fun x hx => (h x hx).weight⟩
theorem BV.put {n : Nat} {V : K.Vs} (g : BV n V) (x : Nat) {v : K.Vx} (hv : BX n v) : BV n (K.put V x v) := BV.of (fun y hy => by
  by_cases e : y = x
  · rw [e, K.put_same]; exact hv
  · rw [K.put_other e]; exact g.bx hy)
theorem BX.setUp {n : Nat} {v : K.Vx} (h : BX n v) {u : Nat} (hu : u ≤ n) : BX n { v with up := u } := ⟨hu, h.left, h.right, h.first, h.last, h.size, h.sum, h.weight⟩
theorem BX.setLeft {n : Nat} {v : K.Vx} (h : BX n v) {u : Nat} (hu : u ≤ n) : BX n { v with left := u } := ⟨h.up, hu, h.right, h.first, h.last, h.size, h.sum, h.weight⟩
theorem BX.setRight {n : Nat} {v : K.Vx} (h : BX n v) {u : Nat} (hu : u ≤ n) : BX n { v with right := u } := ⟨h.up, h.left, hu, h.first, h.last, h.size, h.sum, h.weight⟩
theorem BV.setUp {n : Nat} {V : K.Vs} (g : BV n V) {x : Nat} (hx : x ≤ n) {u : Nat} (hu : u ≤ n) : BV n (K.setUp V x u) := g.put x ((g.bx hx).setUp hu)
theorem BV.rotG {n : Nat} {V : K.Vs} (g : BV n V) {x : Nat} (hx : x ≤ n) : BV n (K.rotG V x) := by
  unfold K.rotG
  have hg := g.up _ (g.up x hx)
  split
  · exact g
  · split
    · exact g.put _ ((g.bx hg).setLeft hx)
    · exact g.put _ ((g.bx hg).setRight hx)
/-- rotate's middle, by the case. -/
def mid (V : K.Vs) (x p : Nat) : K.Vs := if (V p).left = x then K.put (K.put V p { V p with left := (V x).right }) x { K.put V p { V p with left := (V x).right } x with right := p } else K.put (K.put V p { V p with right := (V x).left }) x { K.put V p { V p with right := (V x).left } x with left := p }
def midc (V : K.Vs) (x p : Nat) : Nat := if (V p).left = x then (V x).right else (V x).left
def mid2 (V : K.Vs) (x p : Nat) : K.Vs := if midc V x p ≠ 0 then K.setUp (mid V x p) (midc V x p) p else mid V x p
theorem rotC_mid (V : K.Vs) (x p g : Nat) : K.rotC V x p g = K.setUp (K.setUp (mid2 V x p) p x) x g := by
  unfold K.rotC mid2 midc mid
  by_cases h : (V p).left = x <;> simp only [h, if_true, if_false]
theorem BV.mid {n : Nat} {V : K.Vs} (g : BV n V) {x p : Nat} (hx : x ≤ n) (hp : p ≤ n) : BV n (mid V x p) := by
  unfold Ytfeokafjehpgnaa.mid
  split
  · have g1 := g.put p ((g.bx hp).setLeft (g.right x hx))
    exact g1.put x ((g1.bx hx).setRight hp)
  · have g1 := g.put p ((g.bx hp).setRight (g.left x hx))
    exact g1.put x ((g1.bx hx).setLeft hp)
theorem midc_le {n : Nat} {V : K.Vs} (g : BV n V) {x p : Nat} (hx : x ≤ n) : midc V x p ≤ n := by
  unfold midc
  split
  · exact g.right x hx
  · exact g.left x hx
theorem BV.mid2 {n : Nat} {V : K.Vs} (g : BV n V) {x p : Nat} (hx : x ≤ n) (hp : p ≤ n) : BV n (mid2 V x p) := by
  unfold Ytfeokafjehpgnaa.mid2
  split
  · exact (g.mid hx hp).setUp (midc_le g hx) hp
  · exact g.mid hx hp
section
variable {w W : World} {f b n : Nat} {s : Int} {V : K.Vs} {x p g c : Nat} {c4 c5 c6 v : Value} {k : Nat} {a : Act}
theorem RO.slot (h : RO w f b n s V x c4 c5 c6 k v a W) (hk : k ≠ 0) : a.eval (.tmp k) = v := h.2.1 hk
theorem RO.drop (h : RO w f b n s V x c4 c5 c6 k v a W) : RO w f b n s V x c4 c5 c6 0 undef a W := ⟨h.1, fun h => absurd rfl h, h.2.2⟩
theorem rot_if1 (h : RO w f b n s V x (.int .i64 (p : Nat)) (.int .i64 (g : Nat)) c6 33 (.bool (!K.topB V p)) a W) (hx : x ≤ n) (hp : p ≤ n) (hg : g ≤ n) (e1 : (V x).up = p) (e2 : (V p).up = g) :
    (Code.cond (.tmp 33) (.seq (rg65 4) (.cond (.tmp 43) (rg65 5) (rg65 6))) .skip).wp Try.prog (Exit.then (RO w f b n s (K.rotG V x) x (.int .i64 (p : Nat)) (.int .i64 (g : Nat)) c6 0 undef) fun _ _ _ => False) a W := by
  refine wp_cond (h.slot (by decide)) ?_
  unfold K.rotG
  rw [e1, e2]
  cases ht : K.topB V p with
  | true => exact wp_skip (h.drop)
  | false =>
    rw [if_neg Bool.false_ne_true]
    refine wp_seq (wp_step (rot_r4 h.1 h.2.2.1 h.2.2.2 hx hp hg) (fun a1 W1 k1 => ?_))
    refine wp_cond (k1.slot (by decide)) ?_
    by_cases e : (V g).left = p
    · rw [if_pos e, if_pos (decide_eq_true e)]
      exact rot_r5 k1.1 k1.2.2.1 k1.2.2.2 hx hp hg
    · rw [if_neg e, if_neg (by simp [e])]
      exact rot_r6 k1.1 k1.2.2.1 k1.2.2.2 hx hp hg
theorem rot_if2 (h : RO w f b n s V x (.int .i64 (p : Nat)) c5 c6 69 (.bool (decide ((V p).left = x))) a W) (G : BV n V) (hx : x ≤ n) (hp : p ≤ n) :
    (Code.cond (.tmp 69) (.seq (rg65 9) (rg65 10)) (.seq (rg65 11) (rg65 12))).wp Try.prog (Exit.then (RO w f b n s (mid V x p) x (.int .i64 (p : Nat)) c5 (.int .i64 (midc V x p : Nat)) 0 undef) fun _ _ _ => False) a W := by
  refine wp_cond (h.slot (by decide)) ?_
  unfold mid midc
  by_cases e : (V p).left = x
  · rw [if_pos e, if_pos e, if_pos (decide_eq_true e)]
    refine wp_seq (wp_step (rot_r9 h.1 h.2.2.1 h.2.2.2 hx) (fun a1 W1 k1 => ?_))
    exact rot_r10 k1.1 k1.2.2.1 k1.2.2.2 hx hp (G.right x hx)
  · rw [if_neg e, if_neg e, if_neg (by simp [e])]
    refine wp_seq (wp_step (rot_r11 h.1 h.2.2.1 h.2.2.2 hx) (fun a1 W1 k1 => ?_))
    exact rot_r12 k1.1 k1.2.2.1 k1.2.2.2 hx hp (G.left x hx)
theorem rot_if3 {V' : K.Vs} (h : RO w f b n s V x (.int .i64 (p : Nat)) c5 (.int .i64 (c : Nat)) 119 (.bool (decide (c ≠ 0))) a W) (hx : x ≤ n) (hc : c ≤ n) (hV : V' = if c ≠ 0 then K.setUp V c p else V) :
    (Code.cond (.tmp 119) (rg65 14) .skip).wp Try.prog (Exit.then (RO w f b n s V' x (.int .i64 (p : Nat)) c5 (.int .i64 (c : Nat)) 0 undef) fun _ _ _ => False) a W := by
  refine wp_cond (h.slot (by decide)) ?_
  rw [hV]
  by_cases e : c = 0
  · rw [if_neg (by simp [e]), if_neg (by simp [e])]
    exact wp_skip h.drop
  · rw [if_pos (by simp [e]), if_pos e]
    exact rot_r14 h.1 h.2.2.1 h.2.2.2 hx hc
end
set_option maxRecDepth 100000 in
set_option maxHeartbeats 1000000 in
theorem rotate_any (w : World) {f b n : Nat} {s : Int} {V : K.Vs} (h : FS w f b n s V) (g : GV n V) {x : Nat} (hx : x ≤ n) (g' : GV n (K.rotF V x)) (ht : K.topB V x = false) (hs1 : -4611686018427387904 ≤ s) (hs2 : s ≤ 4611686018427387904) :
    Calls Try.prog 65 #[.pointer (some ⟨f, 0, none⟩), .int .i64 x] w fun e w' => e = .returned (.tuple #[]) ∧ FS w' f b n (s + 1) (K.rotF V x) ∧ Fr (onFB f b) w w' := by
  obtain ⟨p, hp⟩ : ∃ p, (V x).up = p := ⟨_, rfl⟩
  obtain ⟨q, hq⟩ : ∃ q, (V p).up = q := ⟨_, rfl⟩
  have lp : p ≤ n := hp ▸ g.up x hx
  have lq : q ≤ n := hq ▸ g.up p lp
  have hpx : p ≠ x := by
    unfold K.topB at ht
    rw [hp] at ht
    simp only [Bool.or_eq_false_iff, decide_eq_false_iff_not, Bool.and_eq_false_iff, Decidable.not_not] at ht
    intro e
    rcases ht.2 with h1 | h1
    · exact g.nl p ht.1 lp (h1.trans e.symm)
    · exact g.nr p ht.1 lp (h1.trans e.symm)
  have bG : BV n (K.rotG V x) := g.bv.rotG hx
  have b2 := bG.mid2 hx lp
  have bC : BV n (K.rotC (K.rotG V x) x p q) := by
    rw [rotC_mid]
    exact (b2.setUp lp hx).setUp hx lq
  have eF : K.rotF V x = K.pullF (K.pullF (K.rotC (K.rotG V x) x p q) p) x := by unfold K.rotF; rw [hp, hq]
  have bP : BV n (K.pullF (K.rotC (K.rotG V x) x p q) p) := BV.of (fun y hy => by
    by_cases e : y = x
    · rw [e]
      have : K.pullF (K.rotC (K.rotG V x) x p q) p x = K.rotC (K.rotG V x) x p q x := by unfold K.pullF; exact K.put_other (Ne.symm hpx)
      rw [this]
      exact bC.bx hx
    · have : K.rotF V x y = K.pullF (K.rotC (K.rotG V x) x p q) p y := by rw [eF]; rw [K.pullF.eq_1 (K.pullF (K.rotC (K.rotG V x) x p q) p) x]; exact K.put_other e
      rw [← this]
      exact g'.bv.bx hy)
  have eu : (K.rotG V x x).up = (V x).up := by
    unfold K.rotG
    split
    · rfl
    · split
      · by_cases e : x = (V (V x).up).up
        · rw [← e, K.put_same]
        · rw [K.put_other e]
      · by_cases e : x = (V (V x).up).up
        · rw [← e, K.put_same]
        · rw [K.put_other e]
  rw [eF]
  have hg0 := g
  clear g' eF eu
  go_enter Try.func65, Try.ntmps65
  refine wp_seq (wp_step (rot_r0 rfl h (Fr.refl _ _) hx hs1 hs2) (fun a0 W0 k0 => ?_))
  refine wp_seq (wp_step (rot_r1 k0.1 k0.2.2.1 k0.2.2.2 hx) (fun a1 W1 k1 => ?_))
  rw [hp] at k1
  refine wp_seq (wp_step (rot_r2 k1.1 k1.2.2.1 k1.2.2.2 hx lp) (fun a2 W2 k2 => ?_))
  rw [hq] at k2
  refine wp_seq (wp_step (wp_seq (wp_step (rot_r3 k2.1 k2.2.2.1 k2.2.2.2 hx lp hg0) (fun a3 W3 k3 => rot_if1 k3 hx lp lq hp hq))) (fun a4 W4 k4 => ?_))
  refine wp_seq (wp_step (rot_r7 k4.1 k4.2.2.1 k4.2.2.2 hx) (fun a5 W5 k5 => ?_))
  refine wp_seq (wp_step (wp_seq (wp_step (rot_r8 k5.1 k5.2.2.1 k5.2.2.2 hx lp) (fun a6 W6 k6 => rot_if2 k6 bG hx lp))) (fun a7 W7 k7 => ?_))
  refine wp_seq (wp_step (wp_seq (wp_step (rot_r13 k7.1 k7.2.2.1 k7.2.2.2 hx) (fun a8 W8 k8 => rot_if3 k8 hx (midc_le bG hx) rfl))) (fun a9 W9 k9 => ?_))
  refine wp_seq (wp_step (rot_r15 k9.1 k9.2.2.1 k9.2.2.2 hx lp hpx) (fun a10 W10 k10 => ?_))
  have e3 : K.setUp (K.setUp (if midc (K.rotG V x) x p ≠ 0 then K.setUp (mid (K.rotG V x) x p) (midc (K.rotG V x) x p) p else mid (K.rotG V x) x p) p x) x q = K.rotC (K.rotG V x) x p q := by rw [rotC_mid]; rfl
  rw [e3] at k10
  refine wp_seq (wp_step (rot_r16 k10.1 k10.2.2.1 k10.2.2.2 hx lp bC) (fun a11 W11 k11 => ?_))
  refine wp_step (rot_r17 k11.1 k11.2.2.1 k11.2.2.2 hx bP) (fun a12 W12 k12 => ?_)
  obtain ⟨ha, -, S, F⟩ := k12
  rw [ha]
  exact (show bodyPost Try.prog Try.f65 _ .normal _ _ from bodyPost_end (results_none rfl _ _ _) rfl ⟨rfl, S, F⟩)
end Go.Proofs.Ytfeokafjehpgnaa
