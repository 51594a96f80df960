/- Heights, ascending lists, Build: treelayout's and the reference's. -/
import Derived.Test.YtdllpiekkbojgaaT2
namespace Go.Proofs.Ytdllpiekkbojgaa
open Go.RowKit Go.Maps

def heightS (n : Nat) : Nat := ((List.range 17).find? fun j => decide (1 ≤ j) && decide (cnt j = n)).getD 0
theorem cnt_inj {i j : Nat} (h : cnt i = cnt j) : i = j := by
  have h1 : (1 : Nat) ≤ 2 ^ i := Nat.one_le_two_pow
  have h2 : (1 : Nat) ≤ 2 ^ j := Nat.one_le_two_pow
  unfold cnt at h
  have h3 : 2 ^ i = 2 ^ j := by omega
  exact Nat.le_antisymm ((Nat.pow_le_pow_iff_right (by omega : 1 < 2)).1 (by omega)) ((Nat.pow_le_pow_iff_right (by omega : 1 < 2)).1 (by omega))
theorem heightS_eq {n h : Nat} (h1 : 1 ≤ h) (h2 : h ≤ 16) (hn : cnt h = n) : heightS n = h := by
  unfold heightS
  cases hf : (List.range 17).find? fun j => decide (1 ≤ j) && decide (cnt j = n) with
  | none =>
    rw [List.find?_eq_none] at hf
    have := hf h (by simp; omega)
    simp [h1, hn] at this
  | some j =>
    have := List.find?_some hf
    simp at this
    show j = h
    exact cnt_inj (by rw [this.2, hn])
theorem heightS_zero {n : Nat} (h : ∀ j, 1 ≤ j → j ≤ 16 → cnt j ≠ n) : heightS n = 0 := by
  unfold heightS
  cases hf : (List.range 17).find? fun j => decide (1 ≤ j) && decide (cnt j = n) with
  | none => rfl
  | some j =>
    have h1 := List.find?_some hf
    have h2 := List.mem_of_find?_eq_some hf
    simp at h1 h2
    exact absurd h1.2 (h j h1.1 (by omega))
theorem heightS_spec (n : Nat) : heightS n = 0 ∨ (1 ≤ heightS n ∧ heightS n ≤ 16 ∧ cnt (heightS n) = n) := by
  by_cases h : ∃ j, 1 ≤ j ∧ j ≤ 16 ∧ cnt j = n
  · obtain ⟨j, h1, h2, h3⟩ := h
    right; rw [heightS_eq h1 h2 h3]; exact ⟨h1, h2, h3⟩
  · left
    exact heightS_zero (fun j h1 h2 h3 => h ⟨j, h1, h2, h3⟩)

set_option maxHeartbeats 1000000 in
theorem heightOf_any (n : Nat) (ni : Int) (w : World) (hni : ni = n) (hn : n ≤ 1000000) : Calls Try.prog 44 #[.int .i64 ni] w fun e w' => e = .returned (.int .i64 (heightS n)) ∧ w = w' := by
  subst hni
  go_enter Try.func44, Try.ntmps44
  go_wp2_with fail
  go_loop [3] (fun i => ∃ k : Nat, 1 ≤ k ∧ k ≤ 17 ∧ i = .int .i64 k ∧ Hid (∀ j, 1 ≤ j → j < k → cnt j ≠ n)) (fun i => 17 - (intOf i).toNat)
  case atStart => exact ⟨1, by omega, by omega, rfl, Lib.hid (fun j _ _ => by omega)⟩
  case round =>
    obtain ⟨k, hk1, hk, rfl, hno⟩ := hrel
    by_cases hlt : k ≤ 16
    · obtain ⟨m, hm⟩ : ∃ m, m = cnt k := ⟨_, rfl⟩
      have hm1 : m ≤ 65535 := by rw [hm]; exact cnt_le hlt
      have hp : (1 : Nat) ≤ 2 ^ k := Nat.one_le_two_pow
      have W1 : Hid (wrap64 (wrap64 ((2 : Int) ^ k) - 1) = (m : Int)) := Lib.hid (by
        rw [show (2 : Int) ^ k = ((m + 1 : Nat) : Int) by subst hm; unfold cnt; rw [Nat.sub_add_cancel hp]; simp]
        rw [IntWalk.wrap64_in ((m + 1 : Nat) : Int) (by omega), IntWalk.wrap64_in _ (by omega)]; omega)
      have Hm := Lib.hid hm
      clear hm hp
      go_wp2_with fail
      · have hh : ((n : Int) == wrap64 (wrap64 ((2 : Int) ^ k) - 1)) = true := by assumption
        rw [W1.out] at hh
        have e0 : (n : Int) = m := by simpa using hh
        have e : n = m := by omega
        have E : Hid (heightS n = k) := Lib.hid (heightS_eq hk1 hlt (by rw [← Hm.out, e]))
        go_ret
        rw [E.out]
        exact ⟨rfl, rfl⟩
      · have hh : ((n : Int) == wrap64 (wrap64 ((2 : Int) ^ k) - 1)) = false := by assumption
        rw [W1.out] at hh
        have e0 : ¬ (n : Int) = m := by simpa using hh
        have e : n ≠ m := by omega
        go_round
        case rel => exact ⟨k + 1, by omega, by omega, by go_num, Lib.hid (fun j h1 h2 => by
          by_cases hj : j = k
          · rw [hj, ← Hm.out]; omega
          · exact hno.out j h1 (by omega))⟩
        case measure => simp [intOf]; omega
    · obtain rfl : k = 17 := by omega
      have E : Hid (heightS n = 0) := Lib.hid (heightS_zero (fun j h1 h2 => hno.out j h1 (by omega)))
      go_wp2_with fail
      go_ret
      rw [E.out]
      exact ⟨rfl, rfl⟩

set_option maxHeartbeats 1000000 in
theorem refHeight_any (n : Nat) (ni : Int) (w : World) (hni : ni = n) (hn : n ≤ 1000000) : Calls Try.prog 46 #[.int .i64 ni] w fun e w' => e = .returned (.int .i64 (heightS n)) ∧ w = w' := by
  subst hni
  go_enter Try.func46, Try.ntmps46
  go_wp2_with fail
  go_loopw [3] (fun i wr => ∃ k : Nat, 1 ≤ k ∧ k ≤ 17 ∧ i = .int .i64 k ∧ Hid (∀ j, 1 ≤ j → j < k → cnt j ≠ n) ∧ w = wr) (fun i _ => 17 - (intOf i).toNat)
  case atStart => exact ⟨1, by omega, by omega, rfl, Lib.hid (fun j _ _ => by omega), rfl⟩
  case round =>
    obtain ⟨k, hk1, hk, rfl, hno, rfl⟩ := hrel
    by_cases hlt : k ≤ 16
    · obtain ⟨m, hm⟩ : ∃ m, m = cnt k := ⟨_, rfl⟩
      have Hc : ∀ w, Calls Try.prog 14 #[.int .i64 (k : Int)] w fun e w' => e = .returned (.int .i64 m) ∧ w = w' := fun w => by
        have := Count_any k (k : Int) w rfl (by omega); rw [← hm] at this; exact this
      replace Hc := Lib.hid Hc
      have Hm := Lib.hid hm
      clear hm
      by_cases e : n = m
      · have E : Hid (heightS n = k) := Lib.hid (heightS_eq hk1 hlt (by rw [← Hm.out, e]))
        subst e
        go_wp2_with fail
        refine (Hc.out _).mono ?_; rintro e w2 ⟨rfl, rfl⟩
        go_wp2_with fail
        go_ret
        rw [E.out]
        exact ⟨rfl, rfl⟩
      · have e2 : ((m : Int) == (n : Int)) = false := by simp; omega
        go_wp2_with fail
        refine (Hc.out _).mono ?_; rintro e w2 ⟨rfl, rfl⟩
        go_wp2_with fail
        go_roundw
        case rel => exact ⟨k + 1, by omega, by omega, by go_num, Lib.hid (fun j h1 h2 => by
          by_cases hj : j = k
          · rw [hj, ← Hm.out]; omega
          · exact hno.out j h1 (by omega)), trivial⟩
        case measure => simp [intOf]; omega
    · obtain rfl : k = 17 := by omega
      have E : Hid (heightS n = 0) := Lib.hid (heightS_zero (fun j h1 h2 => hno.out j h1 (by omega)))
      go_wp2_with fail
      go_ret
      rw [E.out]
      exact ⟨rfl, rfl⟩

/-- Ascending up to the k-th element. -/
def ascK (l : List Int) (k : Nat) : Bool := (List.range (k - 1)).all fun j => decide (l.getD j 0 < l.getD (j + 1) 0)
def ascB (l : List Int) : Bool := ascK l l.length
theorem ascK_succ (l : List Int) (k : Nat) (x y : Int) (hx : l[k]? = some x) (hy : l[k + 1]? = some y) : ascK l (k + 2) = (ascK l (k + 1) && decide (x < y)) := by
  unfold ascK
  rw [show k + 2 - 1 = k + 1 by omega, show k + 1 - 1 = k by omega, List.range_succ, List.all_append]
  simp [hx, hy]
theorem ascB_false {l : List Int} {k : Nat} (h : ascK l k = false) (hk : k ≤ l.length) : ascB l = false := by
  unfold ascB ascK at *
  rw [List.all_eq_false] at *
  obtain ⟨j, hj, hh⟩ := h
  exact ⟨j, by simp at *; omega, hh⟩

set_option maxHeartbeats 1000000 in
theorem asc45_any (a : Option Addr) (n c : Nat) (l : List Int) (w : World) (hl : Rd w a n (ints l)) : Calls Try.prog 45 #[.slice a n c] w fun e w' => e = .returned (.bool (ascB l)) ∧ ∃ q, w' = w.drewN q := by
  have hll : l.length = n := by simpa using hl.len
  have hm := hl.max
  have Hll := Lib.hid hll
  clear hll
  go_enter Try.func45, Try.ntmps45
  go_wp2_with fail
  go_loopw [3] (fun i wr => ∃ k : Nat, 1 ≤ k ∧ k ≤ n + 1 ∧ i = .int .i64 k ∧ Hid (ascK l k = true) ∧ ∃ q, wr = w.drewN q) (fun i _ => n + 1 - (intOf i).toNat)
  case atStart => exact ⟨1, by omega, by omega, rfl, Lib.hid rfl, 0, rfl⟩
  case round =>
    obtain ⟨k, hk1, hk, rfl, hasc, q, rfl⟩ := hrel
    by_cases hlt : k < n
    · obtain ⟨j, rfl⟩ : ∃ j, k = j + 1 := ⟨k - 1, by omega⟩
      have hll := Hll.out
      obtain ⟨x, hx⟩ : ∃ x, l[j]? = some x := ⟨l[j]'(by omega), by simp⟩
      obtain ⟨y, hy⟩ : ∃ y, l[j + 1]? = some y := ⟨l[j + 1]'(by omega), by simp⟩
      have hs := ascK_succ l j x y hx hy
      obtain ⟨b, o, hb, hc⟩ := hl.cells (by omega)
      subst hb
      have d1 := hc j (.int .i64 x) (by simp [hx])
      have d2 := hc (j + 1) (.int .i64 y) (by simp [hy])
      have d3 : w.cell? ⟨b, o + j + 1, none⟩ = some (.int .i64 y) := d2
      have Hs := Lib.hid hs
      clear hc hx hy hs hll
      by_cases hxy : x < y
      · have hb : decide (y ≤ x) = false := by simp; omega
        go_wp2_with fail
        go_quiet (fail)
        go_wp2_with fail
        go_roundw
        case rel => exact ⟨j + 2, by omega, by omega, by go_num, Lib.hid (by rw [Hs.out, hasc.out]; simpa using hxy), _, rfl⟩
        case measure => simp [intOf]; omega
      · have hb : decide (y ≤ x) = true := by simp; omega
        have E : Hid (ascB l = false) := Lib.hid (ascB_false (k := j + 2) (by rw [Hs.out, hasc.out]; simpa using hxy) (by have := Hll.out; omega))
        go_wp2_with fail
        go_quiet (fail)
        go_wp2_with fail
        go_ret
        rw [E.out]
        exact ⟨rfl, _, World.drewN_drewN _ _ _⟩
    · have E : Hid (ascB l = true) := Lib.hid (by
        have h := hasc.out
        have h2 := Hll.out
        by_cases e : k = n
        · unfold ascB; rw [h2, ← e]; exact h
        · have : k = n + 1 := by omega
          subst this
          unfold ascB; rw [h2]
          unfold ascK at *
          rw [List.all_eq_true] at *
          intro j hj
          exact h j (by simp at *; omega))
      go_wp2_with fail
      go_ret
      rw [E.out]
      exact ⟨rfl, _, rfl⟩

set_option maxHeartbeats 1000000 in
theorem asc47_any (a : Option Addr) (n c : Nat) (l : List Int) (w : World) (hl : Rd w a n (ints l)) : Calls Try.prog 47 #[.slice a n c] w fun e w' => e = .returned (.bool (ascB l)) ∧ ∃ q, w' = w.drewN q := by
  have hll : l.length = n := by simpa using hl.len
  have hm := hl.max
  have Hll := Lib.hid hll
  clear hll
  go_enter Try.func47, Try.ntmps47
  go_wp2_with fail
  go_loopw [3] (fun i wr => ∃ k : Nat, 1 ≤ k ∧ k ≤ n + 1 ∧ i = .int .i64 k ∧ Hid (ascK l k = true) ∧ ∃ q, wr = w.drewN q) (fun i _ => n + 1 - (intOf i).toNat)
  case atStart => exact ⟨1, by omega, by omega, rfl, Lib.hid rfl, 0, rfl⟩
  case round =>
    obtain ⟨k, hk1, hk, rfl, hasc, q, rfl⟩ := hrel
    by_cases hlt : k < n
    · obtain ⟨j, rfl⟩ : ∃ j, k = j + 1 := ⟨k - 1, by omega⟩
      have hll := Hll.out
      obtain ⟨x, hx⟩ : ∃ x, l[j]? = some x := ⟨l[j]'(by omega), by simp⟩
      obtain ⟨y, hy⟩ : ∃ y, l[j + 1]? = some y := ⟨l[j + 1]'(by omega), by simp⟩
      have hs := ascK_succ l j x y hx hy
      obtain ⟨b, o, hb, hc⟩ := hl.cells (by omega)
      subst hb
      have d1 := hc j (.int .i64 x) (by simp [hx])
      have d2 := hc (j + 1) (.int .i64 y) (by simp [hy])
      have d3 : w.cell? ⟨b, o + j + 1, none⟩ = some (.int .i64 y) := d2
      have Hs := Lib.hid hs
      clear hc hx hy hs hll
      by_cases hxy : x < y
      · have hb : decide (y ≤ x) = false := by simp; omega
        go_wp2_with fail
        go_quiet (fail)
        go_wp2_with fail
        go_roundw
        case rel => exact ⟨j + 2, by omega, by omega, by go_num, Lib.hid (by rw [Hs.out, hasc.out]; simpa using hxy), _, rfl⟩
        case measure => simp [intOf]; omega
      · have hb : decide (y ≤ x) = true := by simp; omega
        have E : Hid (ascB l = false) := Lib.hid (ascB_false (k := j + 2) (by rw [Hs.out, hasc.out]; simpa using hxy) (by have := Hll.out; omega))
        go_wp2_with fail
        go_quiet (fail)
        go_wp2_with fail
        go_ret
        rw [E.out]
        exact ⟨rfl, _, World.drewN_drewN _ _ _⟩
    · have E : Hid (ascB l = true) := Lib.hid (by
        have h := hasc.out
        have h2 := Hll.out
        by_cases e : k = n
        · unfold ascB; rw [h2, ← e]; exact h
        · have : k = n + 1 := by omega
          subst this
          unfold ascB; rw [h2]
          unfold ascK at *
          rw [List.all_eq_true] at *
          intro j hj
          exact h j (by simp at *; omega))
      go_wp2_with fail
      go_ret
      rw [E.out]
      exact ⟨rfl, _, rfl⟩

end Go.Proofs.Ytdllpiekkbojgaa
