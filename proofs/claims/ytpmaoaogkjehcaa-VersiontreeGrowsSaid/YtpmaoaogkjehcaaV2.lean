/- The reference's Valid, Is; check; many. -/
import Derived.Test.YtpmaoaogkjehcaaV1
namespace Go.Proofs.Ytpmaoaogkjehcaa
open Go.RowKit

set_option maxHeartbeats 1000000 in
theorem refValid_any (a : Option Addr) (n c : Nat) (P : List Int) (w : World) (hr : Rd w a n (ints P)) :
    Calls Try.prog 15 #[VA a n c] w fun e w' => e = .returned (.bool (validB P)) ∧ Fr F0 w w' := by
  have hpl : P.length = n := by simpa using hr.len
  have hm := hr.max
  have hF : Fr F0 w (boxW w a n c) := (Fr.refl _ _).alloc _
  have hr2 := hr.fr0 hF
  replace hF := Lib.hid hF
  by_cases h0 : n = 0
  · have E : Hid (validB P = false) := Lib.hid (by unfold validB; rw [hpl, h0]; rfl)
    subst h0
    clear hpl
    go_enter Try.func15, Try.ntmps15
    go_wp2_with fail
    go_ret
    exact ⟨ret_bool E.out.symm, hF.out⟩
  · have hz : decide ((n : Int) < 1) = false := by simp; omega
    by_cases h1 : 1000 < n
    · have E : Hid (validB P = false) := Lib.hid (by unfold validB; rw [hpl, show decide (n ≤ 1000) = false by simp; omega]; simp)
      clear hpl
      go_enter Try.func15, Try.ntmps15
      go_wp2_with fail
      go_ret
      exact ⟨ret_bool E.out.symm, hF.out⟩
    · obtain ⟨b, o, x, hab, hx, hcell⟩ := hr2.ix (i := 0) (by omega)
      have hz2 : decide (1000 < (n : Int)) = false := by simp; omega
      simp only [Nat.add_zero] at hcell
      by_cases hx1 : x = -1
      · have e1 : validB P = validK P n := by
          unfold validB
          rw [hpl, show decide (n ≤ 1000) = true by simp; omega, show decide (1 ≤ n) = true by simp; omega, show decide (P.getD 0 0 = -1) = true by simp [hx, hx1]]; simp
        have E := Lib.hid e1
        have Hpl := Lib.hid hpl
        have hn1 : n ≤ 1000 := by omega
        subst hx1
        subst hab
        clear e1 hpl hx h1
        go_enter Try.func15, Try.ntmps15
        go_wp2_with fail
        clear hz2
        go_loopw [3] (fun i wr => ∃ k : Nat, k < n ∧ i = .int .i64 ((k : Int) + 1) ∧ Hid (validK P (k + 1) = true) ∧ boxW w (some ⟨b, o, none⟩) n c = wr) (fun i _ => n - (intOf i).toNat)
        case atStart => exact ⟨0, by omega, rfl, Lib.hid rfl, rfl⟩
        case round =>
          obtain ⟨k, hk, rfl, hv, rfl⟩ := hrel
          by_cases hlt : k + 1 < n
          · obtain ⟨b1, o1, x, hab1, hx, hcell1⟩ := hr2.ix hlt
            injection hab1 with hab1; injection hab1 with hb1 ho1; subst hb1 ho1
            have hcell2 : (boxW w (some ⟨b, o, none⟩) n c).cell? ⟨b, o + k + 1, none⟩ = some (.int .i64 x) := hcell1
            have hstep := validK_succ (P := P) (k := k) (p := x) hx
            rw [hv.out, Bool.true_and] at hstep
            by_cases hok : 0 ≤ x ∧ x ≤ k
            · obtain ⟨h1, h2⟩ := hok
              have hs : Hid (validK P (k + 2) = true) := Lib.hid (by rw [hstep]; simp; omega)
              have h3 : decide ((k : Int) + 1 ≤ x) = false := by simp; omega
              clear hstep hx
              go_wp2_with fail
              go_roundw
              case rel => exact ⟨k + 1, by omega, by go_num, hs, trivial⟩
              case measure => simp [intOf]; omega
            · have E2 : Hid (validB P = false) := Lib.hid (by rw [E.out]; exact validK_false (k := k + 2) (by rw [hstep]; simp; omega) (by omega))
              clear hstep hx
              by_cases h1 : x < 0
              · clear hok
                go_wp2_with fail
                go_ret
                exact ⟨ret_bool E2.out.symm, hF.out⟩
              · have h2 : (k : Int) + 1 ≤ x := by omega
                clear hok
                go_wp2_with fail
                go_ret
                exact ⟨ret_bool E2.out.symm, hF.out⟩
          · have hkn : n = k + 1 := by omega
            have E2 : Hid (validB P = true) := Lib.hid (by rw [E.out, hkn]; exact hv.out)
            clear hkn
            go_wp2_with fail
            go_ret
            exact ⟨ret_bool E2.out.symm, hF.out⟩
      · have E : Hid (validB P = false) := Lib.hid (by unfold validB; rw [show decide (P.getD 0 0 = -1) = false by simp [hx, hx1]]; simp)
        have hz3 : (x != -1) = true := by simpa using hx1
        subst hab
        clear hpl hx h1
        go_enter Try.func15, Try.ntmps15
        go_wp2_with fail
        go_ret
        exact ⟨ret_bool E.out.symm, hF.out⟩

def isB (n : Nat) (v : Int) : Bool := decide (0 ≤ v) && decide (v < n)
theorem Is_any (a : Option Addr) (n c : Nat) (v : Int) (w : World) :
    Calls Try.prog 18 #[VA a n c, .int .i64 v] w fun e w' => e = .returned (.bool (isB n v)) ∧ Fr F0 w w' := by
  go_enter Try.func18, Try.ntmps18
  go_wp2
  all_goals go_ret
  all_goals refine ⟨ret_bool ?_, (Fr.refl _ _).alloc _⟩
  all_goals (unfold isB; first | rfl | (rw [Bool.eq_iff_iff]; simp; done) | (rw [Bool.eq_iff_iff]; simp; omega))

def manyB (n : Nat) : Bool := (decide (60 < n) && decide (n ≤ 1000)) || decide (1100 < n)
theorem many_any (a : Option Addr) (n c : Nat) (w : World) (hn : n ≤ 9223372036854775807) :
    Calls Try.prog 10 #[VA a n c] w fun e w' => e = .returned (.bool (manyB n)) ∧ Fr F0 w w' := by
  go_enter Try.func10, Try.ntmps10
  go_wp2
  all_goals go_ret
  all_goals refine ⟨ret_bool ?_, (Fr.refl _ _).alloc _⟩
  all_goals (unfold manyB; first | rfl | (rw [Bool.eq_iff_iff]; simp; done) | (rw [Bool.eq_iff_iff]; simp; omega))

/-- The error of a tree and a version. -/
def checkE (P : List Int) (v : Int) : Int := if validB P = false then 1 else if isB P.length v = false then 24 else 0
set_option maxHeartbeats 1000000 in
theorem check_any (a : Option Addr) (n c : Nat) (P : List Int) (v : Int) (w : World) (hr : Rd w a n (ints P)) (hc : n ≤ c) :
    Calls Try.prog 35 #[VA a n c, .int .i64 v] w fun e w' => e = .returned (.int .i64 (checkE P v)) ∧ Fr F0 w w' := by
  have hpl : P.length = n := by simpa using hr.len
  have hF : Fr F0 w (boxW w a n c) := (Fr.refl _ _).alloc _
  have hone : One (boxW w a n c) w.heap.size 24 (.slice a n c) := One.new 24 _
  by_cases hv : validB P = false
  · have E : Hid (checkE P v = 1) := Lib.hid (by unfold checkE; rw [if_pos hv])
    replace hv := Lib.hid hv
    clear hpl
    go_enter Try.func35, Try.ntmps35
    go_wp2_with fail
    refine (Valid_any a n c P _ (hr.fr0 hF) hc).mono ?_; rintro e w1 ⟨rfl, F1⟩
    rw [hv.out]
    go_wp2_with fail
    go_ret
    exact ⟨ret_int E.out.symm, hF.trans0 F1⟩
  · have hv' : validB P = true := by simpa using hv
    by_cases h1 : v < 0
    · have E : Hid (checkE P v = 24) := Lib.hid (by unfold checkE; rw [if_neg hv, if_pos (by simp [isB]; omega)])
      replace hv' := Lib.hid hv'
      clear hpl hv
      go_enter Try.func35, Try.ntmps35
      go_wp2_with fail
      refine (Valid_any a n c P _ (hr.fr0 hF) hc).mono ?_; rintro e w1 ⟨rfl, F1⟩
      rw [hv'.out]
      go_wp2_with fail
      go_ret
      exact ⟨ret_int E.out.symm, hF.trans0 F1⟩
    · by_cases h2 : v < n
      · have E : Hid (checkE P v = 0) := Lib.hid (by unfold checkE; rw [if_neg hv, if_neg (by simp [isB, hpl]; omega)])
        replace hv' := Lib.hid hv'
        clear hpl hv
        go_enter Try.func35, Try.ntmps35
        go_wp2_with fail
        refine (Valid_any a n c P _ (hr.fr0 hF) hc).mono ?_; rintro e w1 ⟨rfl, F1⟩
        rw [hv'.out]
        have hcell := (hone.fr F1 id).cell
        go_wp2_with fail
        go_ret
        exact ⟨ret_int E.out.symm, hF.trans0 F1⟩
      · have E : Hid (checkE P v = 24) := Lib.hid (by unfold checkE; rw [if_neg hv, if_pos (by simp [isB, hpl]; omega)])
        replace hv' := Lib.hid hv'
        clear hpl hv
        go_enter Try.func35, Try.ntmps35
        go_wp2_with fail
        refine (Valid_any a n c P _ (hr.fr0 hF) hc).mono ?_; rintro e w1 ⟨rfl, F1⟩
        rw [hv'.out]
        have hcell := (hone.fr F1 id).cell
        go_wp2_with fail
        go_ret
        exact ⟨ret_int E.out.symm, hF.trans0 F1⟩

end Go.Proofs.Ytpmaoaogkjehcaa
