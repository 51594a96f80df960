/- Buffer trees: small functions. -/
import Derived.Test.YtkmnnfflibamnaaComAll
import Derived.Lib.MinMax
namespace Go.Proofs.Ytkmnnfflibamnaa
open Go.RowKit
attribute [local go_sem ↓] Go.wp_at_zero Go.wp_at_succ
theorem wI {x : Int} (h1 : -9223372036854775808 ≤ x) (h2 : x ≤ 9223372036854775807) : IntKind.i64.wrap x = x := IntWalk.i64_in _ ⟨h1, h2⟩
/-- The sizes are right. -/
def szB (b m : Int) : Bool := decide (1 ≤ b) && decide (b ≤ 64) && decide (2 * b ≤ m) && decide (m ≤ 1000)
theorem szB_iff {b m : Int} : szB b m = true ↔ 1 ≤ b ∧ b ≤ 64 ∧ 2 * b ≤ m ∧ m ≤ 1000 := by unfold szB; simp [and_assoc]
def fanN (b m : Nat) : Nat := max 2 (m / b - 1)
def cntN (b n : Nat) : Nat := (n + b - 1) / b
theorem right_any (b m : Int) (w : World) : Calls Try.prog 34 #[.agg #[.int .i64 b, .int .i64 m]] w fun e w' => e = .returned (.bool (szB b m)) ∧ Fr F0 w w' := by
  have FB : Hid (Fr F0 w (w.alloc (.cells #[.int .i64 b, .int .i64 m] 73))) := Lib.hid ((Fr.refl _ _).alloc _)
  obtain ⟨r, hr⟩ : ∃ r, r = szB b m := ⟨_, rfl⟩
  rw [← hr]
  unfold szB at hr
  by_cases c1 : 1 ≤ b
  · by_cases c2 : b ≤ 64
    · have hw : IntKind.i64.wrap (2 * b) = 2 * b := wI (by omega) (by omega)
      by_cases c3 : 2 * b ≤ m
      · by_cases c4 : m ≤ 1000
        · simp only [c1, c2, c3, c4, decide_true, Bool.and_self] at hr
          subst hr
          go_enter Try.func34, Try.ntmps34
          go_wp2_with fail
          go_ret
          exact ⟨rfl, FB.out⟩
        · simp only [c1, c2, c3, c4, decide_true, decide_false, Bool.and_self, Bool.and_false] at hr
          subst hr
          go_enter Try.func34, Try.ntmps34
          go_wp2_with fail
          go_ret
          exact ⟨rfl, FB.out⟩
      · simp only [c1, c2, c3, decide_true, decide_false, Bool.and_self, Bool.and_false, Bool.false_and] at hr
        subst hr
        go_enter Try.func34, Try.ntmps34
        go_wp2_with fail
        go_ret
        exact ⟨rfl, FB.out⟩
    · simp only [c1, c2, decide_true, decide_false, Bool.and_false, Bool.false_and] at hr
      subst hr
      go_enter Try.func34, Try.ntmps34
      go_wp2_with fail
      go_ret
      exact ⟨rfl, FB.out⟩
  · simp only [c1, decide_false, Bool.false_and] at hr
    subst hr
    go_enter Try.func34, Try.ntmps34
    go_wp2_with fail
    go_ret
    exact ⟨rfl, FB.out⟩
theorem key_any (k : Int) (w : World) : Calls Try.prog 57 #[.int .i64 k] w fun e w' => e = .returned (.bool (decide (-1048576 ≤ k) && decide (k ≤ 1048576))) ∧ w = w' := by
  by_cases c1 : -1048576 ≤ k
  · by_cases c2 : k ≤ 1048576
    · have d : (decide (-1048576 ≤ k) && decide (k ≤ 1048576)) = true := by simp [c1, c2]
      have D := Lib.hid d
      clear d
      go_enter Try.func57, Try.ntmps57
      go_wp2_with fail
      go_ret
      exact ⟨ret_bool D.out.symm, rfl⟩
    · have d : decide (k ≤ 1048576) = false := by simp [c2]
      have D := Lib.hid d
      clear d
      go_enter Try.func57, Try.ntmps57
      go_wp2_with fail
      go_ret
      exact ⟨ret_bool D.out.symm, rfl⟩
  · have d : (decide (-1048576 ≤ k) && decide (k ≤ 1048576)) = false := by simp [c1]
    have D := Lib.hid d
    clear d
    go_enter Try.func57, Try.ntmps57
    go_wp2_with fail
    go_ret
    exact ⟨ret_bool D.out.symm, rfl⟩
theorem blocks_any (b : Nat) (m : Int) (n : Nat) (w : World) (hb : 1 ≤ b ∧ b ≤ 64) (hn : n ≤ 1000000) : Calls Try.prog 38 #[.agg #[.int .i64 (b : Int), .int .i64 m], .int .i64 (n : Int)] w fun e w' => e = .returned (.int .i64 (cntN b n : Int)) ∧ Fr F0 w w' := by
  have FB : Hid (Fr F0 w (w.alloc (.cells #[.int .i64 (b : Int), .int .i64 m] 73))) := Lib.hid ((Fr.refl _ _).alloc _)
  have hw1 : IntKind.i64.wrap ((n : Int) + (b : Int)) = (n : Int) + (b : Int) := wI (by omega) (by omega)
  have hw2 : IntKind.i64.wrap ((n : Int) + (b : Int) - 1) = (n : Int) + (b : Int) - 1 := wI (by omega) (by omega)
  have hb0 : (b : Int) ≠ 0 := by omega
  go_enter Try.func38, Try.ntmps38
  go_wp2_with fail
  go_ret
  refine ⟨congrArg (fun z : Int => Ending.returned (Value.int .i64 z)) (?_ : ((n : Int) + (b : Int) - 1) / (b : Int) = (cntN b n : Int)), FB.out⟩
  unfold cntN
  rw [Int.natCast_ediv]
  congr 1
  omega
theorem fan_any (b m : Nat) (w : World) (hb : 1 ≤ b ∧ b ≤ 64) (hm : 2 * b ≤ m ∧ m ≤ 1000) : Calls Try.prog 42 #[.agg #[.int .i64 (b : Int), .int .i64 (m : Int)]] w fun e w' => e = .returned (.int .i64 (fanN b m : Int)) ∧ Fr F0 w w' := by
  have FB : Hid (Fr F0 w (w.alloc (.cells #[.int .i64 (b : Int), .int .i64 (m : Int)] 73))) := Lib.hid ((Fr.refl _ _).alloc _)
  have hb0 : (b : Int) ≠ 0 := by omega
  go_enter Try.func42, Try.ntmps42
  go_wp2_with fail
  go_ret
  refine ⟨congrArg (fun z : Int => Ending.returned (Value.int .i64 z)) (?_ : max 2 (wrap64 (wrap64 ((m : Int) / (b : Int)) - 1)) = (fanN b m : Int)), FB.out⟩
  have h1 : ((m : Int) / (b : Int)) = ((m / b : Nat) : Int) := (Int.natCast_ediv m b).symm
  rw [h1]
  have h2 : 2 ≤ m / b := (Nat.le_div_iff_mul_le (by omega)).2 (by omega)
  have h3 : m / b ≤ m := Nat.div_le_self _ _
  unfold fanN
  generalize m / b = q at h2 h3 ⊢
  rw [show wrap64 (q : Int) = (q : Int) by unfold wrap64; omega, show wrap64 ((q : Int) - 1) = (q : Int) - 1 by unfold wrap64; omega]
  omega
theorem isNaN_any (x : Int) (w : World) : Calls Try.prog 73 #[.int .i64 x] w fun e w' => e = .returned (.bool false) ∧ w = w' := by
  go_enter Try.func73, Try.ntmps73
  go_wp2_with fail
  go_ret
  exact ⟨ret_bool (by simp), rfl⟩
def cmpI (x y : Int) : Int := if x < y then -1 else if y < x then 1 else 0
theorem Compare_any (x y : Int) (w : World) : Calls Try.prog 84 #[.int .i64 x, .int .i64 y] w fun e w' => e = .returned (.int .i64 (cmpI x y)) ∧ w = w' := by
  have HN := Lib.hid (fun x => isNaN_any x w)
  obtain ⟨r, hr⟩ : ∃ r, r = cmpI x y := ⟨_, rfl⟩
  rw [← hr]
  unfold cmpI at hr
  by_cases c1 : x < y
  · rw [if_pos c1] at hr
    subst hr
    go_enter Try.func84, Try.ntmps84
    go_wp2_with (go_at_call 73; refine (HN.out _).mono ?_; rintro e w' ⟨rfl, rfl⟩)
    go_ret
    exact ⟨rfl, rfl⟩
  · rw [if_neg c1] at hr
    by_cases c2 : y < x
    · rw [if_pos c2] at hr
      subst hr
      go_enter Try.func84, Try.ntmps84
      go_wp2_with (go_at_call 73; refine (HN.out _).mono ?_; rintro e w' ⟨rfl, rfl⟩)
      go_ret
      exact ⟨rfl, rfl⟩
    · rw [if_neg c2] at hr
      subst hr
      go_enter Try.func84, Try.ntmps84
      go_wp2_with (go_at_call 73; refine (HN.out _).mono ?_; rintro e w' ⟨rfl, rfl⟩)
      go_ret
      exact ⟨rfl, rfl⟩
/-- The key of an entry against a key. -/
theorem findCl_any (k v : Int) (rm : Bool) (x : Int) (w : World) : Calls Try.prog 83 #[.agg #[.int .i64 k, .int .i64 v, .bool rm], .int .i64 x] w fun e w' => e = .returned (.int .i64 (cmpI k x)) ∧ Fr F0 w w' := by
  have FB : Hid (Fr F0 w (w.alloc (.cells #[.int .i64 k, .int .i64 v, .bool rm] 80))) := Lib.hid ((Fr.refl _ _).alloc _)
  have HC := Lib.hid (fun w => Compare_any k x w)
  go_enter Try.func83, Try.ntmps83
  go_wp2_with fail
  refine (HC.out _).mono ?_
  rintro e w' ⟨rfl, rfl⟩
  go_wp2_with fail
  go_ret
  exact ⟨rfl, FB.out⟩
/-- What New leaves. -/
def NewR (w : World) (b m : Int) (e : Ending) (w' : World) : Prop :=
  if szB b m then ∃ t, e = .returned (.tuple #[.pointer (some ⟨t, 0, none⟩), .int .i64 0]) ∧ Blk w' t 77 [.int .i64 b, .int .i64 m, .slice none 0 0, .slice none 0 0, .int .i64 0] ∧ w.heap.size ≤ t ∧ Fr F0 w w'
  else e = .returned (.tuple #[.pointer none, .int .i64 2]) ∧ Fr F0 w w'
theorem New_any (b m : Int) (w : World) : Calls Try.prog 12 #[.int .i64 b, .int .i64 m] w (NewR w b m) := by
  have HR := Lib.hid (fun w => right_any b m w)
  have FB : Hid (Fr F0 w (w.alloc (.cells #[.int .i64 b, .int .i64 m] 73))) := Lib.hid ((Fr.refl _ _).alloc _)
  unfold NewR
  cases hs : szB b m
  · rw [hs] at HR
    clear hs
    go_enter Try.func12, Try.ntmps12
    go_wp2_with fail
    refine (HR.out _).mono ?_
    rintro e w2 ⟨rfl, F2⟩
    have HF := Lib.hid (FB.out.trans0 F2)
    clear F2
    go_wp2_with fail
    go_ret2
    exact ⟨rfl, HF.out⟩
  · rw [hs] at HR
    clear hs
    have B0 := Blk.new w 73 [.int .i64 b, .int .i64 m]
    go_enter Try.func12, Try.ntmps12
    go_wp2_with fail
    refine (HR.out _).mono ?_
    rintro e w2 ⟨rfl, F2⟩
    have B2 := B0.fr F2 id
    have x0 := B2.cell (i := 0) rfl
    have x1 := B2.cell (i := 1) rfl
    have HF := Lib.hid (FB.out.trans0 F2)
    clear F2 B0 B2
    go_wp2_with fail
    go_ret2
    have B3 := Blk.new w2 77 [.int .i64 b, .int .i64 m, .slice none 0 0, .slice none 0 0, .int .i64 0]
    exact ⟨_, rfl, B3, HF.out.size, HF.out.trans0 ((Fr.refl F0 _).alloc _)⟩
end Go.Proofs.Ytkmnnfflibamnaa
