/- pull. -/
import Derived.Test.YtfeokafjehpgnaaW4
import Derived.Test.YtfeokafjehpgnaaW5
namespace Go.Proofs.Ytfeokafjehpgnaa
open Go.RowKit
attribute [local go_sem ↓] Go.wp_at_zero Go.wp_at_succ
/-- All lies within bounds (what pull wants). -/
structure BV (n : Nat) (V : K.Vs) : Prop where
  up : ∀ x, x ≤ n → (V x).up ≤ n
  left : ∀ x, x ≤ n → (V x).left ≤ n
  right : ∀ x, x ≤ n → (V x).right ≤ n
  first : ∀ x, x ≤ n → (V x).first ≤ n
  last : ∀ x, x ≤ n → (V x).last ≤ n
  size : ∀ x, x ≤ n → (V x).size ≤ n
  sum : ∀ x, x ≤ n → -1099511627776 ≤ (V x).sum ∧ (V x).sum ≤ 1099511627776
  weight : ∀ x, x ≤ n → -1048576 ≤ (V x).weight ∧ (V x).weight ≤ 1048576
theorem GV.bv {n : Nat} {V : K.Vs} (g : GV n V) : BV n V := ⟨g.up, g.left, g.right, g.first, g.last, g.size, g.sum, g.weight⟩
section
variable {w W : World} {p q f b n : Nat} {s : Int} {V : K.Vs} {l r x : Nat} {v : K.Vx} {a : Act}
theorem PO.k {k : Nat} {c : Value} (h : PO w p q f b n s V l r x v k c a W) (hk : k ≠ 0) : a.eval (.tmp k) = c := h.2.1 hk

theorem pull_c88 {t : Bool} (h : PO w p q f b n s V l r x v 88 (.bool t) a W) (hx : x ≤ n) {v2 : K.Vx} (hv2 : v2 = if t then { v with first := (V l).first } else v) :
    (Code.cond (.tmp 88) (rg48 6) .skip).wp Try.prog (Exit.then (PO w p q f b n s V l r x v2 0 undef) fun _ _ _ => False) a W := by
  refine wp_cond (h.k (by decide)) ?_
  cases t with
  | false => exact wp_skip (by rw [hv2]; exact ⟨h.1, fun h => absurd rfl h, h.2.2⟩)
  | true => exact pull_r6 h.1 h.2.2 hx hv2
theorem pull_c114 {t : Bool} (h : PO w p q f b n s V l r x v 114 (.bool t) a W) (hx : x ≤ n) {v2 : K.Vx} (hv2 : v2 = if t then { v with last := (V l).last } else v) :
    (Code.cond (.tmp 114) (rg48 8) .skip).wp Try.prog (Exit.then (PO w p q f b n s V l r x v2 0 undef) fun _ _ _ => False) a W := by
  refine wp_cond (h.k (by decide)) ?_
  cases t with
  | false => exact wp_skip (by rw [hv2]; exact ⟨h.1, fun h => absurd rfl h, h.2.2⟩)
  | true => exact pull_r8 h.1 h.2.2 hx hv2
theorem pull_c145 {t : Bool} (h : PO w p q f b n s V l r x v 145 (.bool t) a W) (hx : x ≤ n) {v2 : K.Vx} (hv2 : v2 = if t then { v with first := (V r).first } else v) :
    (Code.cond (.tmp 145) (rg48 11) .skip).wp Try.prog (Exit.then (PO w p q f b n s V l r x v2 0 undef) fun _ _ _ => False) a W := by
  refine wp_cond (h.k (by decide)) ?_
  cases t with
  | false => exact wp_skip (by rw [hv2]; exact ⟨h.1, fun h => absurd rfl h, h.2.2⟩)
  | true => exact pull_r11 h.1 h.2.2 hx hv2
theorem pull_c171 {t : Bool} (h : PO w p q f b n s V l r x v 171 (.bool t) a W) (hx : x ≤ n) {v2 : K.Vx} (hv2 : v2 = if t then { v with last := (V r).last } else v) :
    (Code.cond (.tmp 171) (rg48 13) .skip).wp Try.prog (Exit.then (PO w p q f b n s V l r x v2 0 undef) fun _ _ _ => False) a W := by
  refine wp_cond (h.k (by decide)) ?_
  cases t with
  | false => exact wp_skip (by rw [hv2]; exact ⟨h.1, fun h => absurd rfl h, h.2.2⟩)
  | true => exact pull_r13 h.1 h.2.2 hx hv2
theorem pull_left (h : PO w p q f b n s V l r x v 0 undef a W) (hx : x ≤ n) (hvw : v.weight = (V x).weight) (h1 : (V l).first ≤ n) (h2 : (V l).last ≤ n) (h3 : v.first ≤ n) (h4 : v.last ≤ n) {v2 : K.Vx}
    (hv2 : v2 = { v with first := if (V (V l).first).weight ≤ (V v.first).weight then (V l).first else v.first, last := if (V (V l).last).weight < (V v.last).weight then (V l).last else v.last }) :
    (Code.seq (.seq (rg48 5) (.cond (.tmp 88) (rg48 6) .skip)) (.seq (rg48 7) (.cond (.tmp 114) (rg48 8) .skip))).wp Try.prog (Exit.then (PO w p q f b n s V l r x v2 0 undef) fun _ _ _ => False) a W := by
  refine wp_seq (wp_step (wp_seq (wp_step (pull_r5 h.1 h.2.2 hx hvw h1 h3 rfl) (fun a1 W1 k1 => pull_c88 k1 hx rfl))) (fun a2 W2 k2 => ?_))
  refine wp_seq (wp_step (pull_r7 k2.1 k2.2.2 hx ?_ h2 ?_ rfl) (fun a3 W3 k3 => ?_))
  · split <;> exact hvw
  · split <;> exact h4
  refine pull_c114 k3 hx ?_
  rw [hv2]
  by_cases c1 : (V (V l).first).weight ≤ (V v.first).weight
  · simp only [c1, decide_true, if_true]
    by_cases c2 : (V (V l).last).weight < (V v.last).weight <;> simp [c2]
  · simp only [c1, decide_false, if_false]
    by_cases c2 : (V (V l).last).weight < (V v.last).weight <;> simp [c2]
theorem pull_right (h : PO w p q f b n s V l r x v 0 undef a W) (hx : x ≤ n) (hvw : v.weight = (V x).weight) (h1 : (V r).first ≤ n) (h2 : (V r).last ≤ n) (h3 : v.first ≤ n) (h4 : v.last ≤ n) {v2 : K.Vx}
    (hv2 : v2 = { v with first := if (V (V r).first).weight < (V v.first).weight then (V r).first else v.first, last := if (V (V r).last).weight ≤ (V v.last).weight then (V r).last else v.last }) :
    (Code.seq (.seq (rg48 10) (.cond (.tmp 145) (rg48 11) .skip)) (.seq (rg48 12) (.cond (.tmp 171) (rg48 13) .skip))).wp Try.prog (Exit.then (PO w p q f b n s V l r x v2 0 undef) fun _ _ _ => False) a W := by
  refine wp_seq (wp_step (wp_seq (wp_step (pull_r10 h.1 h.2.2 hx hvw h1 h3 rfl) (fun a1 W1 k1 => pull_c145 k1 hx rfl))) (fun a2 W2 k2 => ?_))
  refine wp_seq (wp_step (pull_r12 k2.1 k2.2.2 hx ?_ h2 ?_ rfl) (fun a3 W3 k3 => ?_))
  · split <;> exact hvw
  · split <;> exact h4
  refine pull_c171 k3 hx ?_
  rw [hv2]
  by_cases c1 : (V (V r).first).weight < (V v.first).weight
  · simp only [c1, decide_true, if_true]
    by_cases c2 : (V (V r).last).weight ≤ (V v.last).weight <;> simp [c2]
  · simp only [c1, decide_false, if_false]
    by_cases c2 : (V (V r).last).weight ≤ (V v.last).weight <;> simp [c2]
theorem PO.drop {k : Nat} {c : Value} (h : PO w p q f b n s V l r x v k c a W) : PO w p q f b n s V l r x v 0 undef a W := ⟨h.1, fun h => absurd rfl h, h.2.2⟩
end

theorem pull_if_left {w W : World} {p q f b n : Nat} {s : Int} {V : K.Vs} {l r x : Nat} {v : K.Vx} {a : Act} (h : PO w p q f b n s V l r x v 67 (.bool (decide (l ≠ 0))) a W) (hx : x ≤ n) (hvw : v.weight = (V x).weight) (h1 : (V l).first ≤ n) (h2 : (V l).last ≤ n) (h3 : v.first ≤ n) (h4 : v.last ≤ n) {v2 : K.Vx}
    (hv2 : v2 = { v with first := if l ≠ 0 ∧ (V (V l).first).weight ≤ (V v.first).weight then (V l).first else v.first, last := if l ≠ 0 ∧ (V (V l).last).weight < (V v.last).weight then (V l).last else v.last }) :
    (Code.cond (.tmp 67) (Code.seq (.seq (rg48 5) (.cond (.tmp 88) (rg48 6) .skip)) (.seq (rg48 7) (.cond (.tmp 114) (rg48 8) .skip))) .skip).wp Try.prog (Exit.then (PO w p q f b n s V l r x v2 0 undef) fun _ _ _ => False) a W := by
  refine wp_cond (h.k (by decide)) ?_
  by_cases c : l = 0
  · have c' : decide (l ≠ 0) = false := by simp [c]
    have e : v2 = v := by rw [hv2]; simp [c]
    rw [c', if_neg Bool.false_ne_true, e]
    exact wp_skip h.drop
  · have c' : decide (l ≠ 0) = true := by simp [c]
    rw [c', if_pos rfl]
    refine pull_left h.drop hx hvw h1 h2 h3 h4 ?_
    rw [hv2]
    simp only [c, ne_eq, not_false_eq_true, true_and]
theorem pull_if_right {w W : World} {p q f b n : Nat} {s : Int} {V : K.Vs} {l r x : Nat} {v : K.Vx} {a : Act} (h : PO w p q f b n s V l r x v 124 (.bool (decide (r ≠ 0))) a W) (hx : x ≤ n) (hvw : v.weight = (V x).weight) (h1 : (V r).first ≤ n) (h2 : (V r).last ≤ n) (h3 : v.first ≤ n) (h4 : v.last ≤ n) {v2 : K.Vx}
    (hv2 : v2 = { v with first := if r ≠ 0 ∧ (V (V r).first).weight < (V v.first).weight then (V r).first else v.first, last := if r ≠ 0 ∧ (V (V r).last).weight ≤ (V v.last).weight then (V r).last else v.last }) :
    (Code.cond (.tmp 124) (Code.seq (.seq (rg48 10) (.cond (.tmp 145) (rg48 11) .skip)) (.seq (rg48 12) (.cond (.tmp 171) (rg48 13) .skip))) .skip).wp Try.prog (Exit.then (PO w p q f b n s V l r x v2 0 undef) fun _ _ _ => False) a W := by
  refine wp_cond (h.k (by decide)) ?_
  by_cases c : r = 0
  · have c' : decide (r ≠ 0) = false := by simp [c]
    have e : v2 = v := by rw [hv2]; simp [c]
    rw [c', if_neg Bool.false_ne_true, e]
    exact wp_skip h.drop
  · have c' : decide (r ≠ 0) = true := by simp [c]
    rw [c', if_pos rfl]
    refine pull_right h.drop hx hvw h1 h2 h3 h4 ?_
    rw [hv2]
    simp only [c, ne_eq, not_false_eq_true, true_and]
set_option maxRecDepth 100000 in
set_option maxHeartbeats 1000000 in
theorem pull_any (w : World) {f b n : Nat} {s : Int} {V : K.Vs} (h : FS w f b n s V) (g : BV n V) {x : Nat} (hx : x ≤ n) :
    Calls Try.prog 48 #[.pointer (some ⟨f, 0, none⟩), .int .i64 x] w fun e w' => e = .returned (.tuple #[]) ∧ FS w' f b n s (K.pullF V x) ∧ Fr (onB b) w w' := by
  have hs := h.small
  have f0 := h.fb.cell (i := 0) rfl
  have H := Lib.hid h
  have HG := Lib.hid g
  clear h g
  go_enter Try.func48, Try.ntmps48
  go_wp2_with fail
  rename_i Q' C hC
  replace hC := Lib.hid hC
  have hl := HG.out.left x hx
  have hr := HG.out.right x hx
  have hlf := HG.out.first _ hl
  have hll := HG.out.last _ hl
  have hrf := HG.out.first _ hr
  have hrl := HG.out.last _ hr
  have E : K.pullF V x = K.put V x { V x with sum := (V (V x).left).sum + (V x).weight + (V (V x).right).sum, size := (V (V x).left).size + 1 + (V (V x).right).size, first := K.first2 V x, last := K.last2 V x } := rfl
  refine wp_step (pull_r1 rfl H.out hx rfl rfl hl hr) ?_
  rintro a1 W1 ⟨p, q, k1⟩
  refine hC.out a1 W1 ?_
  refine wp_seq (wp_step (pull_r2 k1.1 k1.2.2 hx rfl (HG.out.sum _ hl) (HG.out.sum _ hr) (HG.out.weight _ hx) (HG.out.size _ hl) (HG.out.size _ hr) rfl) (fun a2 W2 k2 => ?_))
  refine wp_seq (wp_step (pull_r3 k2.1 k2.2.2 hx rfl) (fun a3 W3 k3 => ?_))
  refine wp_seq (wp_step (wp_seq (wp_step (pull_r4 k3.1 k3.2.2 hx rfl rfl) (fun a4 W4 k4 => pull_if_left k4 hx rfl hlf hll hx hx rfl))) (fun a5 W5 k5 => ?_))
  refine wp_seq (wp_step (pull_r9 k5.1 k5.2.2 hx rfl rfl) (fun a6 W6 k6 => ?_))
  refine wp_step (pull_if_right k6 hx rfl hrf hrl ?_ ?_ rfl) (fun a7 W7 k7 => ?_)
  · dsimp only; split <;> assumption
  · dsimp only; split <;> assumption
  obtain ⟨ha, -, S⟩ := k7
  rw [ha]
  refine (show bodyPost Try.prog Try.f48 _ .normal _ _ from bodyPost_end (results_none rfl _ _ _) rfl ⟨rfl, ?_, S.fr⟩)
  exact S.fs
end Go.Proofs.Ytfeokafjehpgnaa
