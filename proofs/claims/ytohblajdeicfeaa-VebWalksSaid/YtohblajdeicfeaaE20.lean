/- The reference: Bits, Universe, In, Height, Has, Next, Prev. -/
import Derived.Test.YtohblajdeicfeaaE19
namespace Go.Proofs.Ytohblajdeicfeaa
open Go.RowKit
attribute [local go_sem ↓] Go.wp_at_zero Go.wp_at_succ
theorem Bits_any (w : World) (k : Int) : Calls Try.prog 27 #[.int .i64 k] w fun e w' => e = .returned (.bool (decide (1 ≤ k ∧ k ≤ 20))) ∧ w = w' := by
  by_cases h : 1 ≤ k
  · go_enter Try.func27, Try.ntmps27
    go_wp2_with fail
    go_ret
    exact ⟨ret_bool (by simp [h]), rfl⟩
  · go_enter Try.func27, Try.ntmps27
    go_wp2_with fail
    go_ret
    exact ⟨ret_bool (by simp; omega), rfl⟩
set_option maxHeartbeats 1000000 in
theorem Universe_any (w : World) {k : Nat} (h : k ≤ 20) : Calls Try.prog 42 #[.int .i64 k] w fun e w' => e = .returned (.int .i64 ((2 ^ k : Nat) : Int)) ∧ w = w' := by
  go_enter Try.func42, Try.ntmps42
  go_wp2_with fail
  go_loopw [3, 4] (fun s3 s4 wr => ∃ i p : Nat, i ≤ k ∧ s3 = .int .i64 p ∧ s4 = .int .i64 i ∧ Hid (p = 2 ^ i) ∧ w = wr) (fun _ s4 _ => k - (intOf s4).toNat)
  case atStart => exact ⟨0, 1, by omega, rfl, rfl, Lib.hid rfl, rfl⟩
  case round =>
    obtain ⟨i, p, hi, rfl, rfl, HP, rfl⟩ := hrel
    by_cases hlt : i < k
    · have hp : p ≤ 2 ^ 20 := by rw [HP.out]; exact Nat.pow_le_pow_right (by decide) (by omega)
      go_wp2_with fail
      go_roundw
      case rel => exact ⟨i + 1, 2 * p, by omega, by go_num, by go_num, Lib.hid (by rw [HP.out, Nat.pow_succ]; omega), trivial⟩
      case measure => simp [intOf]; omega
    · obtain rfl : i = k := by omega
      go_wp2_with fail
      go_ret
      exact ⟨ret_int (by rw [HP.out]), rfl⟩
theorem In_any (w : World) {k : Nat} (h : k ≤ 20) (x : Int) : Calls Try.prog 16 #[.int .i64 k, .int .i64 x] w fun e w' => e = .returned (.bool (decide (0 ≤ x ∧ x < ((2 ^ k : Nat) : Int)))) ∧ w = w' := by
  have HU := Lib.hid (Universe_any w h)
  generalize (2 : Nat) ^ k = p at *
  by_cases h0 : 0 ≤ x
  · go_enter Try.func16, Try.ntmps16
    go_wp2_with (go_at_call 42; refine (HU.out).mono ?_; rintro e w1 ⟨rfl, rfl⟩)
    go_ret
    exact ⟨ret_bool (by simp [h0]), rfl⟩
  · go_enter Try.func16, Try.ntmps16
    go_wp2_with fail
    go_ret
    exact ⟨ret_bool (by simp; omega), rfl⟩
def HtP (k : Nat) (w : World) (e : Ending) (w' : World) : Prop := ∃ h : Nat, e = .returned (.int .i64 (h : Int)) ∧ 1 ≤ h ∧ h ≤ 6 ∧ (4 < k → 4 ≤ h) ∧ (8 < k → 5 ≤ h) ∧ w = w'
set_option maxHeartbeats 1000000 in
theorem Height_any (w : World) {k : Nat} (h : k ≤ 20) : Calls Try.prog 15 #[.int .i64 k] w (HtP k w) := by
  go_enter Try.func15, Try.ntmps15
  go_wp2_with fail
  go_loopw [3, 4] (fun s3 s4 wr => ∃ h p : Nat, s3 = .int .i64 h ∧ s4 = .int .i64 p ∧ Hid ((h = 1 ∧ p = 1) ∨ (h = 2 ∧ p = 2) ∨ (h = 3 ∧ p = 4) ∨ (h = 4 ∧ p = 8) ∨ (h = 5 ∧ p = 16) ∨ (h = 6 ∧ p = 32)) ∧ w = wr) (fun s3 _ _ => 7 - (intOf s3).toNat)
  case atStart => exact ⟨1, 1, rfl, rfl, Lib.hid (.inl ⟨rfl, rfl⟩), rfl⟩
  case round =>
    obtain ⟨h', p, rfl, rfl, HP, rfl⟩ := hrel
    have hb : p ≤ 32 ∧ h' ≤ 6 := by have := HP.out; omega
    by_cases hlt : p < k
    · go_wp2_with fail
      go_roundw
      case rel => exact ⟨h' + 1, 2 * p, by go_num, by go_num, Lib.hid (by have := HP.out; omega), trivial⟩
      case measure => have := HP.out; simp [intOf]; omega
    · go_wp2_with fail
      go_ret
      have := HP.out
      exact ⟨h', rfl, by omega, by omega, by omega, by omega, rfl⟩
set_option maxHeartbeats 1000000 in
theorem Has_any (a : Option Addr) (n c : Nat) (xs : List Int) (x : Int) (w : World) (hr : Rd w a n (ints xs)) (hmax : n ≤ 1000000) : Calls Try.prog 17 #[.slice a n c, .int .i64 x] w fun e w' => e = .returned (.bool (decide (x ∈ xs))) ∧ w = w' := by
  have hn : xs.length = n := by simpa using hr.len
  have HR := Lib.hid hr
  have HN := Lib.hid hn
  clear hr hn
  go_enter Try.func17, Try.ntmps17
  go_wp2_with fail
  go_loopw [5] (fun s5 wr => ∃ i : Nat, i ≤ n ∧ s5 = .int .i64 i ∧ Hid (x ∉ xs.take i) ∧ w = wr) (fun s5 _ => n - (intOf s5).toNat)
  case atStart => exact ⟨0, by omega, rfl, Lib.hid (by simp), rfl⟩
  case round =>
    obtain ⟨i, hi, rfl, HI, rfl⟩ := hrel
    by_cases hlt : i < n
    · obtain ⟨b, o, v, ea, hv, hc⟩ := HR.out.ix hlt
      subst ea
      have HV := Lib.hid hv
      have hil : i < xs.length := by have := HN.out; omega
      have hvi : v = xs[i] := by rw [List.getElem?_eq_getElem hil] at hv; injection hv with hv; exact hv.symm
      clear hv
      by_cases hx : v = x
      · have Hx := Lib.hid (show x ∈ xs from by rw [← hx, hvi]; exact List.getElem_mem hil)
        clear hvi
        subst hx
        go_wp2_with fail
        go_ret
        exact ⟨ret_bool (decide_eq_true Hx.out).symm, rfl⟩
      · have hx' : (v == x) = false := by simpa using hx
        have Hno := Lib.hid (show x ∉ xs.take (i + 1) by
          rw [← List.take_append_getElem hil]
          simp only [List.mem_append, List.mem_singleton, not_or]
          exact ⟨HI.out, fun e => hx (by rw [hvi, e])⟩)
        clear hvi
        go_wp2_with fail
        go_roundw
        case rel => exact ⟨i + 1, by omega, by go_num, Hno, trivial⟩
        case measure => simp [intOf]; omega
    · obtain rfl : i = n := by omega
      have Hno := Lib.hid (show x ∉ xs by have := HI.out; rwa [← HN.out, List.take_length] at this)
      go_wp2_with fail
      go_ret
      exact ⟨ret_bool (decide_eq_false Hno.out).symm, rfl⟩
theorem ret_io {i j u v : Int} (h : i = u) (g : j = v) : Ending.returned (.tuple #[.int .i64 i, .int .i64 j]) = .returned (.tuple #[.int .i64 u, .int .i64 v]) := by rw [h, g]
def RnP (o : Option Int) (w : World) (e : Ending) (w' : World) : Prop := e = .returned (.tuple #[.int .i64 (o.getD 0), .int .i64 (if o.isSome then 0 else 12)]) ∧ w = w'
theorem find_skip {p : Int → Bool} {xs : List Int} {i : Nat} (h : i < xs.length) (hd : xs.find? p = (xs.drop i).find? p) (hv : p xs[i] = false) : xs.find? p = (xs.drop (i + 1)).find? p := by
  rw [hd, List.drop_eq_getElem_cons h, List.find?_cons, hv]
theorem find_hit {p : Int → Bool} {xs : List Int} {i : Nat} (h : i < xs.length) (hd : xs.find? p = (xs.drop i).find? p) (hv : p xs[i] = true) : xs.find? p = some xs[i] := by
  rw [hd, List.drop_eq_getElem_cons h, List.find?_cons, hv]
set_option maxHeartbeats 1000000 in
theorem refNext_any (a : Option Addr) (n c : Nat) (xs : List Int) (x : Int) (w : World) (hr : Rd w a n (ints xs)) (hmax : n ≤ 1000000) : Calls Try.prog 20 #[.slice a n c, .int .i64 x] w (RnP (nextI xs x) w) := by
  have hn : xs.length = n := by simpa using hr.len
  have HR := Lib.hid hr
  have HN := Lib.hid hn
  obtain ⟨o, ho⟩ : ∃ o, nextI xs x = o := ⟨_, rfl⟩
  rw [ho]
  have HO := Lib.hid ho
  clear hr hn ho
  go_enter Try.func20, Try.ntmps20
  go_wp2_with fail
  go_loopw [6] (fun s6 wr => ∃ i : Nat, i ≤ n ∧ s6 = .int .i64 i ∧ Hid (xs.find? (fun y => decide (x < y)) = (xs.drop i).find? (fun y => decide (x < y))) ∧ w = wr) (fun s6 _ => n - (intOf s6).toNat)
  case atStart => exact ⟨0, by omega, rfl, Lib.hid (by simp), rfl⟩
  case round =>
    obtain ⟨i, hi, rfl, HI, rfl⟩ := hrel
    by_cases hlt : i < n
    · obtain ⟨b, og, v, ea, hv, hc⟩ := HR.out.ix hlt
      subst ea
      have hil : i < xs.length := by have := HN.out; omega
      have hvi : v = xs[i] := by rw [List.getElem?_eq_getElem hil] at hv; injection hv with hv; exact hv.symm
      clear hv
      by_cases hx : x < v
      · have Hx := Lib.hid (find_hit hil HI.out (show decide (x < xs[i]) = true by rw [← hvi]; exact decide_eq_true hx))
        have HV := Lib.hid hvi
        clear hvi
        go_wp2_with fail
        go_ret2
        have : o = some v := by rw [← HO.out, HV.out]; exact Hx.out
        subst this
        exact ⟨rfl, rfl⟩
      · have Hno := Lib.hid (find_skip hil HI.out (show decide (x < xs[i]) = false by rw [← hvi]; exact decide_eq_false hx))
        clear hvi
        go_wp2_with fail
        go_roundw
        case rel => exact ⟨i + 1, by omega, by go_num, Hno, trivial⟩
        case measure => simp [intOf]; omega
    · obtain rfl : i = n := by omega
      go_wp2_with fail
      go_ret2
      have : o = none := by
        rw [← HO.out]
        have h := HI.out
        rw [List.drop_eq_nil_of_le (by rw [HN.out]; exact Nat.le_refl _)] at h
        exact h
      subst this
      exact ⟨rfl, rfl⟩
theorem prev_skip {p : Int → Bool} {xs : List Int} {i : Nat} (h : i < xs.length) (hd : xs.reverse.find? p = (xs.take (i + 1)).reverse.find? p) (hv : p xs[i] = false) : xs.reverse.find? p = (xs.take i).reverse.find? p := by
  rw [hd, ← List.take_append_getElem h, List.reverse_append]
  simp [hv]
theorem prev_hit {p : Int → Bool} {xs : List Int} {i : Nat} (h : i < xs.length) (hd : xs.reverse.find? p = (xs.take (i + 1)).reverse.find? p) (hv : p xs[i] = true) : xs.reverse.find? p = some xs[i] := by
  rw [hd, ← List.take_append_getElem h, List.reverse_append]
  simp [hv]
set_option maxHeartbeats 1000000 in
theorem refPrev_any (a : Option Addr) (n c : Nat) (xs : List Int) (x : Int) (w : World) (hr : Rd w a n (ints xs)) (hmax : n ≤ 1000000) : Calls Try.prog 21 #[.slice a n c, .int .i64 x] w (RnP (prevI xs x) w) := by
  have hn : xs.length = n := by simpa using hr.len
  have HR := Lib.hid hr
  have HN := Lib.hid hn
  obtain ⟨o, ho⟩ : ∃ o, prevI xs x = o := ⟨_, rfl⟩
  rw [ho]
  have HO := Lib.hid ho
  clear hr hn ho
  go_enter Try.func21, Try.ntmps21
  go_wp2_with fail
  go_loopw [6] (fun s6 wr => ∃ (i : Nat) (v : Int), i ≤ n ∧ s6 = .int .i64 v ∧ v = (i : Int) - 1 ∧ Hid (xs.reverse.find? (fun y => decide (y < x)) = (xs.take i).reverse.find? (fun y => decide (y < x))) ∧ w = wr) (fun s6 _ => ((intOf s6) + 1).toNat)
  case atStart => exact ⟨n, (n : Int) - 1, by omega, rfl, rfl, Lib.hid (by rw [← HN.out, List.take_length]), rfl⟩
  case round =>
    obtain ⟨i, j, hi, rfl, hj, HI, rfl⟩ := hrel
    by_cases hlt : 0 < i
    · obtain ⟨i, rfl⟩ : ∃ m, i = m + 1 := ⟨i - 1, by omega⟩
      obtain rfl : j = (i : Int) := by omega
      clear hj
      obtain ⟨b, og, v, ea, hv, hc⟩ := HR.out.ix (show i < n by omega)
      subst ea
      have hil : i < xs.length := by have := HN.out; omega
      have hvi : v = xs[i] := by rw [List.getElem?_eq_getElem hil] at hv; injection hv with hv; exact hv.symm
      have hin : i < n := by omega
      clear hv
      by_cases hx : v < x
      · have Hx := Lib.hid (prev_hit hil HI.out (show decide (xs[i] < x) = true by rw [← hvi]; exact decide_eq_true hx))
        have HV := Lib.hid hvi
        clear hvi
        go_wp2_with fail
        go_ret2
        have : o = some v := by rw [← HO.out, HV.out]; exact Hx.out
        subst this
        exact ⟨rfl, rfl⟩
      · have Hno := Lib.hid (prev_skip hil HI.out (show decide (xs[i] < x) = false by rw [← hvi]; exact decide_eq_false hx))
        clear hvi
        go_wp2_with fail
        go_roundw
        case rel => exact ⟨i, (i : Int) - 1, by omega, by go_num, rfl, Hno, trivial⟩
        case measure => simp [intOf]
    · obtain rfl : i = 0 := by omega
      obtain rfl : j = -1 := by omega
      clear hj hlt hi
      go_wp2_with fail
      go_ret2
      have : o = none := by
        rw [← HO.out]
        exact HI.out
      subst this
      exact ⟨rfl, rfl⟩
end Go.Proofs.Ytohblajdeicfeaa
