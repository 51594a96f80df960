/- Small functions of trees. -/
import Derived.Test.YtohblajdeicfeaaE1
import Derived.Test.YtohblajdeicfeaaComQ
import Derived.Lib.MinMax
import Derived.Laws.BitsLemmas
namespace Go.Proofs.Ytohblajdeicfeaa
open Go.RowKit
attribute [local go_sem ↓] Go.wp_at_zero Go.wp_at_succ
/-- The cells of a set. -/
abbrev stC (k n : Nat) (st : Int) (rb : Nat) : List Value := [.int .i64 k, .int .i64 n, .int .i64 st, .pointer (some ⟨rb, 0, none⟩)]
theorem look_any {w : World} {f k n rb : Nat} {st : Int} (v : Value) (hb : Blk w f 57 (stC k n st rb)) (h0 : 0 ≤ st) (h1 : st ≤ 1000000) :
    Calls Try.prog 48 #[.pointer (some ⟨f, 0, none⟩), v] w fun e w' => e = .returned v ∧ Blk w' f 57 (stC k n (st + 1) rb) ∧ Fr (onB f) w w' := by
  have HB := Lib.hid hb
  have y2 := hb.cell (i := 2) rfl
  have z2 := hb.free 2
  clear hb
  go_enter Try.func48, Try.ntmps48
  go_wp2_with fail
  go_ret
  exact ⟨rfl, HB.out.set 2 _, (Fr.refl (onB f) w).setB _ _⟩
theorem half_any {w : World} {b k : Nat} {vs : List Value} (hb : Blk w b 71 (.int .i64 k :: vs)) (hk : k ≤ 20) :
    Calls Try.prog 57 #[.pointer (some ⟨b, 0, none⟩)] w fun e w' => e = .returned (.int .i64 ((k / 2 : Nat) : Int)) ∧ w = w' := by
  have y0 := hb.cell (i := 0) rfl
  clear hb
  have hk' : (k : Int) ≤ 1000 := by omega
  go_enter Try.func57, Try.ntmps57
  go_wp2_with fail
  go_ret
  exact ⟨ret_int (by omega), rfl⟩
theorem small_any {w : World} {b k : Nat} {vs : List Value} (hb : Blk w b 71 (.int .i64 k :: vs)) :
    Calls Try.prog 49 #[.pointer (some ⟨b, 0, none⟩)] w fun e w' => e = .returned (.bool (decide (k ≤ 6))) ∧ w = w' := by
  have y0 := hb.cell (i := 0) rfl
  clear hb
  go_enter Try.func49, Try.ntmps49
  go_wp2_with fail
  go_ret
  exact ⟨ret_bool (by simp; omega), rfl⟩
theorem newTree_any (w : World) (k : Int) :
    Calls Try.prog 47 #[.int .i64 k] w fun e w' => e = .returned (.pointer (some ⟨w.heap.size, 0, none⟩)) ∧ w' = w.alloc (.cells #[.int .i64 k, .int .i64 (-1), .int .i64 (-1), .int .u64 0, .pointer none, .map none] 71) := by
  go_enter Try.func47, Try.ntmps47
  go_wp2_with fail
  go_ret
  exact ⟨rfl, rfl⟩
theorem found_some (w : World) (x : Nat) : Calls Try.prog 39 #[.int .i64 x] w fun e w' => e = .returned (.tuple #[.int .i64 x, .int .i64 0]) ∧ w = w' := by
  go_enter Try.func39, Try.ntmps39
  go_wp2_with fail
  go_ret2
  exact ⟨rfl, rfl⟩
theorem found_none (w : World) : Calls Try.prog 39 #[.int .i64 (-1)] w fun e w' => e = .returned (.tuple #[.int .i64 0, .int .i64 12]) ∧ w = w' := by
  go_enter Try.func39, Try.ntmps39
  go_wp2_with fail
  go_ret2
  exact ⟨rfl, rfl⟩
theorem wrapP {i : Nat} (h : i ≤ 20) : wrap64 (2 ^ i) = 2 ^ i := by
  have h1 : (2 : Nat) ^ i ≤ 2 ^ 20 := Nat.pow_le_pow_right (by decide) h
  have h2 : ((2 : Int) ^ i) = ((2 ^ i : Nat) : Int) := by simp
  rw [h2]
  generalize (2 : Nat) ^ i = p at *
  unfold wrap64
  omega
theorem and_mask {x i : Nat} (hx : x < 2 ^ 20) (hi : i ≤ 20) : bits .and .i64 (x : Int) (wrap64 (wrap64 (2 ^ i) - 1)) = ((x % 2 ^ i : Nat) : Int) := by
  rw [wrapP hi]
  have h1 : (2 : Nat) ^ i ≤ 2 ^ 20 := Nat.pow_le_pow_right (by decide) hi
  have h2 : ((2 : Int) ^ i) = ((2 ^ i : Nat) : Int) := by simp
  have h3 : wrap64 (2 ^ i - 1) = 2 ^ i - 1 := by
    rw [h2]
    have := Nat.two_pow_pos i
    generalize (2 : Nat) ^ i = p at *
    unfold wrap64
    omega
  rw [h3, bits_mask .i64 62 (by decide) (fun n h0 h4 => by rw [IntKind.wrap_i64]; omega) i (by omega) x (by omega) (by omega)]
  simp
theorem or_join {h l i : Nat} (hh : h * 2 ^ i < 2 ^ 20) (hl : l < 2 ^ i) (hi : i ≤ 20) : bits .or .i64 (wrap64 ((h : Int) * 2 ^ i)) (l : Int) = ((h * 2 ^ i + l : Nat) : Int) := by
  have h1 : (2 : Nat) ^ i ≤ 2 ^ 20 := Nat.pow_le_pow_right (by decide) hi
  have h2 : ((2 : Int) ^ i) = ((2 ^ i : Nat) : Int) := by simp
  have h3 : (h : Int) * 2 ^ i = ((h * 2 ^ i : Nat) : Int) := by simp
  have h4 : wrap64 ((h : Int) * 2 ^ i) = ((h * 2 ^ i : Nat) : Int) := by
    rw [h3]
    unfold wrap64
    omega
  rw [h4, bits_join .i64 62 (by decide) (fun n h0 h4 => by rw [IntKind.wrap_i64]; omega) i _ _ (by omega) (by rw [h2]; exact_mod_cast Nat.mul_mod_left _ _) (by omega) (by omega) (by rw [h2]; omega) (by omega)]
  simp
theorem half_q {w : World} {b k hf : Nat} {vs : List Value} (hb : Blk w b 71 (.int .i64 k :: vs)) (hk : k ≤ 20) (hg : k / 2 = hf) (q : Nat) :
    Calls Try.prog 57 #[.pointer (some ⟨b, 0, none⟩)] (w.drewN q) fun e w' => e = .returned (.int .i64 (hf : Int)) ∧ w.drewN q = w' := by
  subst hg
  exact half_any (w := w.drewN q) hb hk
theorem ret_two {k k' : IntKind} {a b c d : Int} (h1 : a = c) (h2 : b = d) : Ending.returned (.tuple #[.int k a, .int k' b]) = .returned (.tuple #[.int k c, .int k' d]) := by rw [h1, h2]
theorem split_any {w : World} {b k x : Nat} {vs : List Value} (hb : Blk w b 71 (.int .i64 k :: vs)) (hk : k ≤ 20) (hx : x < 2 ^ k) :
    Calls Try.prog 51 #[.pointer (some ⟨b, 0, none⟩), .int .i64 x] w fun e w' => e = .returned (.tuple #[.int .i64 ((x / 2 ^ (k / 2) : Nat) : Int), .int .i64 ((x % 2 ^ (k / 2) : Nat) : Int)]) ∧ ∃ q, w' = w.drewN q := by
  have H := Lib.hid (half_q hb hk rfl)
  clear hb
  have hh : k / 2 ≤ 10 := by omega
  have hx20 : x < 2 ^ 20 := Nat.lt_of_lt_of_le hx (Nat.pow_le_pow_right (by decide) hk)
  clear hx hk
  generalize k / 2 = hf at *
  have HX := Lib.hid (and_mask hx20 (show hf ≤ 20 by omega))
  clear hx20
  go_enter Try.func51, Try.ntmps51
  go_wp2_with fail
  go_quiet ((go_at_call 57; exact qsame H.out _))
  go_wp2_with fail
  go_ret2
  exact ⟨ret_two (by simp) HX.out, _, rfl⟩
theorem join_any {w : World} {b k h l : Nat} {vs : List Value} (hb : Blk w b 71 (.int .i64 k :: vs)) (hk : k ≤ 20) (hh : h < 2 ^ (k - k / 2)) (hl : l < 2 ^ (k / 2)) :
    Calls Try.prog 53 #[.pointer (some ⟨b, 0, none⟩), .int .i64 h, .int .i64 l] w fun e w' => e = .returned (.int .i64 ((h * 2 ^ (k / 2) + l : Nat) : Int)) ∧ ∃ q, w' = w.drewN q := by
  have H := Lib.hid (half_q hb hk rfl)
  have hj : h * 2 ^ (k / 2) < 2 ^ 20 := by
    have h1 : h * 2 ^ (k / 2) < 2 ^ (k - k / 2) * 2 ^ (k / 2) := Nat.mul_lt_mul_of_pos_right hh (Nat.two_pow_pos _)
    rw [← Nat.pow_add] at h1
    exact Nat.lt_of_lt_of_le h1 (Nat.pow_le_pow_right (by decide) (by omega))
  have HX := Lib.hid (or_join hj hl (by omega))
  clear hb hj hl hh
  have h20 : k / 2 ≤ 20 := by omega
  clear hk
  generalize k / 2 = hf at *
  go_enter Try.func53, Try.ntmps53
  go_wp2_with (go_at_call 57; refine (H.out 0).mono ?_; rintro e w1 ⟨rfl, rfl⟩)
  go_ret
  exact ⟨ret_int HX.out, 0, rfl⟩
end Go.Proofs.Ytohblajdeicfeaa
