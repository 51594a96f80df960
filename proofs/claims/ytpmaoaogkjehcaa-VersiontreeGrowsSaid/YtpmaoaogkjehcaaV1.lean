/- Valid, Is, check, many. -/
import Derived.Test.YtpmaoaogkjehcaaSlEqual
import Derived.Test.YtpmaoaogkjehcaaSlReverse
namespace Go.Proofs.Ytpmaoaogkjehcaa
open Go.RowKit

/-- Up to version k the parents are right. -/
def validK (P : List Int) (k : Nat) : Bool := (List.range (k - 1)).all fun i => decide (0 ≤ P.getD (i + 1) 0) && decide (P.getD (i + 1) 0 ≤ i)
def validB (P : List Int) : Bool := decide (1 ≤ P.length) && decide (P.length ≤ 1000) && decide (P.getD 0 0 = -1) && validK P P.length
theorem validK_succ {P : List Int} {k : Nat} {p : Int} (h : P[k + 1]? = some p) : validK P (k + 2) = (validK P (k + 1) && (decide (0 ≤ p) && decide (p ≤ k))) := by
  unfold validK
  rw [show k + 2 - 1 = k + 1 by omega, show k + 1 - 1 = k by omega, List.range_succ, List.all_append]
  simp [h]
theorem validK_false {P : List Int} {k m : Nat} (h : validK P k = false) (hkm : k ≤ m) : validK P m = false := by
  unfold validK at *
  rw [List.all_eq_false] at *
  obtain ⟨j, hj, hh⟩ := h
  exact ⟨j, by simp at *; omega, hh⟩

/-- A struct with one slice, boxed. -/
abbrev VA (a : Option Addr) (n c : Nat) : Value := .agg #[.slice a n c]
abbrev boxW (w : World) (a : Option Addr) (n c : Nat) : World := w.alloc (.cells #[.slice a n c] 24)

set_option maxHeartbeats 1000000 in
theorem Valid_any (a : Option Addr) (n c : Nat) (P : List Int) (w : World) (hr : Rd w a n (ints P)) (hc : n ≤ c) :
    Calls Try.prog 14 #[VA a n c] w fun e w' => e = .returned (.bool (validB P)) ∧ Fr F0 w w' := by
  have hpl : P.length = n := by simpa using hr.len
  have hm := hr.max
  have hF : Fr F0 w (boxW w a n c) := (Fr.refl _ _).alloc _
  have hr2 := hr.fr0 hF
  replace hF := Lib.hid hF
  by_cases h0 : n = 0
  · have E : Hid (validB P = false) := Lib.hid (by unfold validB; rw [hpl, h0]; rfl)
    subst h0
    clear hpl
    go_enter Try.func14, Try.ntmps14
    go_wp2_with fail
    go_ret
    exact ⟨ret_bool E.out.symm, hF.out⟩
  · by_cases h1 : 1000 < n
    · have E : Hid (validB P = false) := Lib.hid (by unfold validB; rw [hpl, show decide (n ≤ 1000) = false by simp; omega]; simp)
      have hz : ((n : Int) == 0) = false := by simp; omega
      clear hpl
      go_enter Try.func14, Try.ntmps14
      go_wp2_with fail
      go_ret
      exact ⟨ret_bool E.out.symm, hF.out⟩
    · obtain ⟨b, o, x, hab, hx, hcell⟩ := hr2.ix (i := 0) (by omega)
      have hz : ((n : Int) == 0) = false := by simp; omega
      have hz2 : decide (1000 < (n : Int)) = false := by simp; omega
      simp only [Nat.add_zero] at hcell
      by_cases hx1 : x = -1
      · have e1 : validB P = validK P n := by
          unfold validB
          rw [hpl, show decide (n ≤ 1000) = true by simp; omega, show decide (1 ≤ n) = true by simp; omega, show decide (P.getD 0 0 = -1) = true by simp [hx, hx1]]; simp
        have E := Lib.hid e1
        have Hpl := Lib.hid hpl
        obtain ⟨m, hnm⟩ : ∃ m, n = 1 + m := ⟨n - 1, by omega⟩
        have hcut := hr2.cut hc hnm
        rw [List.drop_one] at hcut
        subst hx1
        subst hab
        have hn1 : m ≤ 1000 := by omega
        have Hnm := Lib.hid hnm
        have hmn : m < n := by omega
        clear hnm
        clear e1 hpl hx h1
        go_enter Try.func14, Try.ntmps14
        go_wp2_with (refine wpCut (k := 1) E3 Hnm.out rfl rfl ?_)
        clear hz2
        go_loopw [26] (fun i wr => ∃ k : Nat, k ≤ m ∧ i = .int .i64 k ∧ Hid (validK P (k + 1) = true) ∧ boxW w (some ⟨b, o, none⟩) n c = wr) (fun i _ => m - (intOf i).toNat)
        case atStart => exact ⟨0, by omega, rfl, Lib.hid rfl, rfl⟩
        case round =>
          obtain ⟨k, hk, rfl, hv, rfl⟩ := hrel
          by_cases hlt : k < m
          · obtain ⟨b1, o1, x, hab1, hx, hcell1⟩ := Rd.ix (xs := P.tail) (by simpa using hcut) hlt
            have hstep := validK_succ (P := P) (k := k) (p := x) (by simpa using hx)
            rw [hv.out, Bool.true_and] at hstep
            rw [hab1]
            by_cases hok : 0 ≤ x ∧ x ≤ k
            · obtain ⟨h1, h2⟩ := hok
              have hs : Hid (validK P (k + 2) = true) := Lib.hid (by rw [hstep]; simp; omega)
              clear hstep hx
              go_wp2_with fail
              go_roundw
              case rel => exact ⟨k + 1, by omega, by go_num, hs, trivial⟩
              case measure => simp [intOf]; omega
            · have E2 : Hid (validB P = false) := Lib.hid (by rw [E.out]; exact validK_false (k := k + 2) (by rw [hstep]; simp; omega) (by omega))
              clear hstep hx
              by_cases h1 : x < 0
              · clear hok
                go_wp2_with fail
                go_ret
                exact ⟨ret_bool E2.out.symm, hF.out⟩
              · have h2 : (k : Int) < x := by omega
                clear hok
                go_wp2_with fail
                go_ret
                exact ⟨ret_bool E2.out.symm, hF.out⟩
          · obtain rfl : m = k := by omega
            have E2 : Hid (validB P = true) := Lib.hid (by rw [E.out, Hnm.out, Nat.add_comm]; exact hv.out)
            go_wp2_with fail
            go_ret
            exact ⟨ret_bool E2.out.symm, hF.out⟩
      · have E : Hid (validB P = false) := Lib.hid (by unfold validB; rw [show decide (P.getD 0 0 = -1) = false by simp [hx, hx1]]; simp)
        have hz3 : (x != -1) = true := by simpa using hx1
        subst hab
        clear hpl hx h1
        go_enter Try.func14, Try.ntmps14
        go_wp2_with fail
        go_ret
        exact ⟨ret_bool E.out.symm, hF.out⟩

end Go.Proofs.Ytpmaoaogkjehcaa
