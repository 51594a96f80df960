/- check, the reference's Check, Find. -/
import Derived.Test.YtnlgjpcnnnilpaaSlContains0
import Derived.Test.YtnlgjpcnnnilpaaSlIndex
import Derived.Test.YtnlgjpcnnnilpaaSlEqual
import Derived.Test.YtnlgjpcnnnilpaaCom6
namespace Go.Proofs.Ytnlgjpcnnnilpaa
open Go.RowKit
attribute [local go_sem ↓] Go.wp_at_zero Go.wp_at_succ

def noB (b : Int) : Bool := decide (b < 0) || decide (1048576 < b)
theorem noB_true {b : Int} : noB b = true ↔ b < 0 ∨ 1048576 < b := by unfold noB; simp
theorem noB_false {b : Int} : noB b = false ↔ 0 ≤ b ∧ b ≤ 1048576 := by unfold noB; simp
theorem check1_any (b : Int) (w : World) : Calls Try.prog 43 #[.int .i64 b] w fun e w' => e = .returned (.bool (noB b)) ∧ w = w' := by
  by_cases h : b < 0
  · have E : Hid (noB b = true) := Lib.hid (noB_true.2 (.inl h))
    go_enter Try.func43, Try.ntmps43
    go_wp2_with fail
    go_ret
    exact ⟨ret_bool E.out.symm, rfl⟩
  · have E : Hid (noB b = decide (1048576 < b)) := Lib.hid (by unfold noB; simp [h])
    go_enter Try.func43, Try.ntmps43
    go_wp2_with fail
    go_ret
    exact ⟨ret_bool E.out.symm, rfl⟩
theorem block_any (b : Int) (w : World) : Calls Try.prog 33 #[.int .i64 b] w fun e w' => e = .returned (.bool (!noB b)) ∧ w = w' := by
  by_cases h : b < 0
  · have E : Hid ((!noB b) = false) := Lib.hid (by rw [noB_true.2 (.inl h)]; rfl)
    go_enter Try.func33, Try.ntmps33
    go_wp2_with fail
    go_ret
    exact ⟨ret_bool E.out.symm, rfl⟩
  · have E : Hid ((!noB b) = decide (b ≤ 1048576)) := Lib.hid (by unfold noB; simp [h]; rw [Bool.eq_iff_iff]; simp)
    go_enter Try.func33, Try.ntmps33
    go_wp2_with fail
    go_ret
    exact ⟨ret_bool E.out.symm, rfl⟩
/-- The error of references and a capacity. -/
def chk (l : List Int) (m : Int) : Int := if l.any noB = true then 1 else if m < 1 ∨ 1000 < m then 2 else if 65536 < l.length then 4 else 0
theorem chk_ok {l : List Int} {m : Int} (h : chk l m = 0) : (∀ b ∈ l, 0 ≤ b ∧ b ≤ 1048576) ∧ 1 ≤ m ∧ m ≤ 1000 ∧ l.length ≤ 65536 := by
  unfold chk at h
  by_cases h1 : l.any noB = true
  · rw [if_pos h1] at h; cases h
  rw [if_neg h1] at h
  by_cases h2 : m < 1 ∨ 1000 < m
  · rw [if_pos h2] at h; cases h
  rw [if_neg h2] at h
  by_cases h3 : 65536 < l.length
  · rw [if_pos h3] at h; cases h
  refine ⟨fun b hb => ?_, by omega, by omega, by omega⟩
  have : l.any noB = false := by simpa using h1
  exact noB_false.1 (by simpa using List.any_eq_false.1 this b hb)
theorem check_any (a : Option Addr) (n c : Nat) (l : List Int) (m : Int) (w : World) (hr : Rd w a n (ints l)) :
    Calls Try.prog 31 #[.slice a n c, .int .i64 m] w fun e w' => e = .returned (.int .i64 (chk l m)) ∧ w = w' := by
  have hcf := ContainsFunc_c0 noB a n c l w hr (fun x => check1_any x w)
  have hll : l.length = n := by simpa using hr.len
  have hmax := hr.max
  have Hll := Lib.hid hll
  clear hll
  cases h1 : l.any noB with
  | true =>
    have E : Hid (chk l m = 1) := Lib.hid (by unfold chk; rw [if_pos h1])
    rw [h1] at hcf
    clear h1
    go_enter Try.func31, Try.ntmps31
    go_wp2_with (refine hcf.mono ?_; rintro e w' ⟨rfl, rfl⟩)
    go_ret
    exact ⟨ret_int E.out.symm, rfl⟩
  | false =>
    rw [h1] at hcf
    have h1' : ¬ l.any noB = true := by rw [h1]; decide
    clear h1
    by_cases h2 : m < 1
    · have E : Hid (chk l m = 2) := Lib.hid (by unfold chk; rw [if_neg h1', if_pos (.inl h2)])
      clear h1'
      go_enter Try.func31, Try.ntmps31
      go_wp2_with (refine hcf.mono ?_; rintro e w' ⟨rfl, rfl⟩)
      go_ret
      exact ⟨ret_int E.out.symm, rfl⟩
    · by_cases h3 : 1000 < m
      · have E : Hid (chk l m = 2) := Lib.hid (by unfold chk; rw [if_neg h1', if_pos (.inr h3)])
        clear h1'
        go_enter Try.func31, Try.ntmps31
        go_wp2_with (refine hcf.mono ?_; rintro e w' ⟨rfl, rfl⟩)
        go_ret
        exact ⟨ret_int E.out.symm, rfl⟩
      · have d3 : decide (1000 < m) = false := by simpa using h3
        have h23 : ¬ (m < 1 ∨ 1000 < m) := by omega
        replace h3 := Lib.hid h3
        cases d4 : decide ((65536 : Int) < (n : Int)) with
        | true =>
          have E : Hid (chk l m = 4) := Lib.hid (by unfold chk; rw [if_neg h1', if_neg h23, if_pos (by rw [Hll.out]; simp at d4; omega)])
          clear h1' h23
          replace hmax := Lib.hid hmax
          go_enter Try.func31, Try.ntmps31
          go_wp2_with (refine hcf.mono ?_; rintro e w' ⟨rfl, rfl⟩)
          go_ret
          exact ⟨ret_int E.out.symm, rfl⟩
        | false =>
          have E : Hid (chk l m = 0) := Lib.hid (by unfold chk; rw [if_neg h1', if_neg h23, if_neg (by rw [Hll.out]; simp at d4; omega)])
          clear h1' h23
          replace hmax := Lib.hid hmax
          go_enter Try.func31, Try.ntmps31
          go_wp2_with (refine hcf.mono ?_; rintro e w' ⟨rfl, rfl⟩)
          go_ret
          exact ⟨ret_int E.out.symm, rfl⟩
theorem any_take {l : List Int} {k : Nat} {x : Int} (h : l[k]? = some x) (hx : noB x = false) (ht : (l.take k).any noB = false) : (l.take (k + 1)).any noB = false := by
  rw [List.take_add_one, h, List.any_append, ht]; simpa using hx
set_option maxHeartbeats 1000000 in
theorem refCheck_any (a : Option Addr) (n c : Nat) (l : List Int) (m : Int) (w : World) (hr : Rd w a n (ints l)) :
    Calls Try.prog 12 #[.slice a n c, .int .i64 m] w fun e w' => e = .returned (.int .i64 (chk l m)) ∧ w = w' := by
  have hll : l.length = n := by simpa using hr.len
  have hmax := hr.max
  have Hll := Lib.hid hll
  clear hll
  go_enter Try.func12, Try.ntmps12
  go_wp2_with fail
  go_loop [5] (fun i => ∃ k : Nat, k ≤ n ∧ i = .int .i64 k ∧ Hid ((l.take k).any noB = false)) (fun i => n - (intOf i).toNat)
  case atStart => exact ⟨0, by omega, rfl, Lib.hid rfl⟩
  case round =>
    obtain ⟨k, hk, rfl, hT⟩ := hrel
    by_cases hlt : k < n
    · obtain ⟨b, o, x, hb, hx, d⟩ := hr.ix hlt
      subst hb
      have Hx := Lib.hid hx
      clear hx
      cases hb : noB x with
      | true =>
        have E : Hid (chk l m = 1) := Lib.hid (by unfold chk; rw [if_pos (List.any_eq_true.2 ⟨x, List.mem_of_getElem? Hx.out, hb⟩)])
        have hcall := block_any x w
        rw [hb] at hcall
        clear hb
        go_wp2_with (refine hcall.mono ?_; rintro e w' ⟨rfl, rfl⟩)
        go_ret
        exact ⟨ret_int E.out.symm, rfl⟩
      | false =>
        have hcall := block_any x w
        rw [hb] at hcall
        have hT2 := Lib.hid (any_take Hx.out hb hT.out)
        clear hb
        go_wp2_with (refine hcall.mono ?_; rintro e w' ⟨rfl, rfl⟩)
        go_round
        case rel => exact ⟨k + 1, by omega, by go_num, hT2⟩
        case measure => simp [intOf]; omega
    · obtain rfl : k = n := by omega
      have h1' : Hid (¬ l.any noB = true) := Lib.hid (by
        have h := hT.out
        rw [List.take_of_length_le (by have := Hll.out; omega)] at h
        rw [h]; decide)
      by_cases h2 : m < 1
      · have E : Hid (chk l m = 2) := Lib.hid (by unfold chk; rw [if_neg h1'.out, if_pos (.inl h2)])
        go_wp2_with fail
        go_ret
        exact ⟨ret_int E.out.symm, rfl⟩
      · by_cases h3 : 1000 < m
        · have E : Hid (chk l m = 2) := Lib.hid (by unfold chk; rw [if_neg h1'.out, if_pos (.inr h3)])
          go_wp2_with fail
          go_ret
          exact ⟨ret_int E.out.symm, rfl⟩
        · have d3 : decide (1000 < m) = false := by simpa using h3
          have h23 : ¬ (m < 1 ∨ 1000 < m) := by omega
          replace h3 := Lib.hid h3
          cases d4 : decide ((65536 : Int) < (k : Int)) with
          | true =>
            have E : Hid (chk l m = 4) := Lib.hid (by unfold chk; rw [if_neg h1'.out, if_neg h23, if_pos (by rw [Hll.out]; simp at d4; omega)])
            clear h23
            replace hmax := Lib.hid hmax
            go_wp2_with fail
            go_ret
            exact ⟨ret_int E.out.symm, rfl⟩
          | false =>
            have E : Hid (chk l m = 0) := Lib.hid (by unfold chk; rw [if_neg h1'.out, if_neg h23, if_neg (by rw [Hll.out]; simp at d4; omega)])
            clear h23
            replace hmax := Lib.hid hmax
            go_wp2_with fail
            go_ret
            exact ⟨ret_int E.out.symm, rfl⟩
theorem idxI_hit {l : List Int} {k : Nat} {x : Int} (h : l[k]? = some x) (ht : (l.take k).any (· == x) = false) : idxI l x = k := by
  have hk := (List.getElem?_eq_some_iff.1 h).1
  unfold idxI
  rw [if_pos (List.any_eq_true.2 ⟨x, List.mem_of_getElem? h, by simp⟩)]
  congr 1
  rw [List.findIdx_eq hk]
  refine ⟨by rw [List.getElem?_eq_getElem hk] at h; injection h with h; rw [h]; simp, fun j hj => ?_⟩
  have := List.any_eq_false.1 ht (l[j]'(by omega)) (List.mem_take_iff_getElem.2 ⟨j, by omega, rfl⟩)
  simpa using this
set_option maxHeartbeats 1000000 in
theorem Find_any (a : Option Addr) (n c : Nat) (l : List Int) (v : Int) (w : World) (hr : Rd w a n (ints l)) :
    Calls Try.prog 34 #[.slice a n c, .int .i64 v] w fun e w' => e = .returned (.int .i64 (idxI l v)) ∧ w = w' := by
  have hll : l.length = n := by simpa using hr.len
  have hmax := hr.max
  have Hll := Lib.hid hll
  clear hll
  go_enter Try.func34, Try.ntmps34
  go_wp2_with fail
  go_loop [5] (fun i => ∃ k : Nat, k ≤ n ∧ i = .int .i64 k ∧ Hid ((l.take k).any (· == v) = false)) (fun i => n - (intOf i).toNat)
  case atStart => exact ⟨0, by omega, rfl, Lib.hid rfl⟩
  case round =>
    obtain ⟨k, hk, rfl, hT⟩ := hrel
    by_cases hlt : k < n
    · obtain ⟨b, o, x, hb, hx, d⟩ := hr.ix hlt
      subst hb
      have Hx := Lib.hid hx
      clear hx
      cases hb : (x == v) with
      | true =>
        have ev : x = v := by simpa using hb
        subst ev
        have E : Hid (idxI l x = k) := Lib.hid (idxI_hit Hx.out hT.out)
        clear hb
        go_wp2_with fail
        go_ret
        exact ⟨ret_int E.out.symm, rfl⟩
      | false =>
        have hT2 : Hid ((l.take (k + 1)).any (· == v) = false) := Lib.hid (by rw [List.take_add_one, Hx.out, List.any_append, hT.out]; simpa using hb)
        go_wp2_with fail
        go_round
        case rel => exact ⟨k + 1, by omega, by go_num, hT2⟩
        case measure => simp [intOf]; omega
    · obtain rfl : k = n := by omega
      have E : Hid (idxI l v = -1) := Lib.hid (by
        have h := hT.out
        rw [List.take_of_length_le (by have := Hll.out; omega)] at h
        unfold idxI
        rw [h]; rfl)
      go_wp2_with fail
      go_ret
      exact ⟨ret_int E.out.symm, rfl⟩
end Go.Proofs.Ytnlgjpcnnnilpaa
