/- Valid, by both texts. -/
import Derived.Test.YtehpikjhjghplaaB7
namespace Go.Proofs.Ytehpikjhjghplaa
open Go.RowKit
attribute [local go_sem ↓] Go.wp_at_zero Go.wp_at_succ
abbrev dskI (pg : Int) (a : Option Addr) (n c : Nat) (sy af : Int) : Array Value := #[.int .i64 pg, .slice a n c, .int .i64 sy, .int .i64 af]
def perB (pg af : Int) : Bool := decide (8 ≤ pg ∧ pg ≤ 256 ∧ -1 ≤ af ∧ af ≤ 1048576)
def preB (pg : Int) (n : Nat) (sy af : Int) : Bool := decide (8 ≤ pg ∧ pg ≤ 256 ∧ -1 ≤ af ∧ af ≤ 1048576 ∧ n ≤ 1048576 ∧ 0 ≤ sy)
/-- A disk is valid. -/
def validB (pg : Int) (bs : List UInt8) (sy af : Int) : Bool := preB pg bs.length sy af && decide (sy ≤ ((recs bs pg.toNat).2 : Int))
theorem valid_of {pg : Int} {bs : List UInt8} {sy af : Int} (h : validB pg bs sy af = true) : (8 ≤ pg ∧ pg ≤ 256) ∧ (-1 ≤ af ∧ af ≤ 1048576) ∧ bs.length ≤ 1048576 ∧ 0 ≤ sy ∧ sy ≤ ((recs bs pg.toNat).2 : Int) := by
  unfold validB preB at h
  rw [Bool.and_eq_true, decide_eq_true_eq, decide_eq_true_eq] at h
  omega
theorem validB_no {pg : Int} {bs : List UInt8} {sy af : Int} (h : preB pg bs.length sy af = false) : validB pg bs sy af = false := by unfold validB; rw [h]; rfl
theorem validB_yes {pg : Int} {bs : List UInt8} {sy af : Int} (h : preB pg bs.length sy af = true) : validB pg bs sy af = decide (sy ≤ ((recs bs pg.toNat).2 : Int)) := by unfold validB; rw [h, Bool.true_and]
set_option maxHeartbeats 4000000 in
theorem Valid_any (a : Option Addr) (n c : Nat) (pg sy af : Int) (bs : List UInt8) (w : World) (hr : Rd w a n (byt bs)) (hc : n ≤ c) :
    Calls Try.prog 44 #[.agg (dskI pg a n c sy af)] w fun e w' => e = .returned (.bool (validB pg bs sy af)) ∧ Fr F0 w w' := by
  have hbl : bs.length = n := by simpa using hr.len
  have hmax := hr.max
  have F1 : Hid (Fr F0 w (w.alloc (.cells (dskI pg a n c sy af) 24))) := Lib.hid ((Fr.refl _ _).alloc _)
  by_cases q0 : pg < 8
  · have d0 : decide (pg < 8) = true := by simpa using q0
    have E : Hid (validB pg bs sy af = false) := Lib.hid (validB_no (by unfold preB; rw [hbl]; simp only [decide_eq_false_iff_not]; omega))
    clear hbl hmax q0 hr
    go_enter Try.func44, Try.ntmps44
    go_wp2_with fail
    go_ret
    exact ⟨ret_bool E.out.symm, F1.out⟩
  have d0 : decide (pg < 8) = false := by simpa using q0
  by_cases q1 : 256 < pg
  · have d1 : decide (256 < pg) = true := by simpa using q1
    have E : Hid (validB pg bs sy af = false) := Lib.hid (validB_no (by unfold preB; rw [hbl]; simp only [decide_eq_false_iff_not]; omega))
    clear hbl hmax q0 q1 hr
    go_enter Try.func44, Try.ntmps44
    go_wp2_with fail
    go_ret
    exact ⟨ret_bool E.out.symm, F1.out⟩
  have d1 : decide (256 < pg) = false := by simpa using q1
  by_cases q2 : (1048576 : Int) < (n : Int)
  · have d2 : decide ((1048576 : Int) < (n : Int)) = true := by simpa using q2
    have E : Hid (validB pg bs sy af = false) := Lib.hid (validB_no (by unfold preB; rw [hbl]; simp only [decide_eq_false_iff_not]; omega))
    clear hbl hmax q0 q1 q2 hr
    go_enter Try.func44, Try.ntmps44
    go_wp2_with fail
    go_ret
    exact ⟨ret_bool E.out.symm, F1.out⟩
  have d2 : decide ((1048576 : Int) < (n : Int)) = false := by simpa using q2
  by_cases q3 : af < -1
  · have d3 : decide (af < -1) = true := by simpa using q3
    have E : Hid (validB pg bs sy af = false) := Lib.hid (validB_no (by unfold preB; rw [hbl]; simp only [decide_eq_false_iff_not]; omega))
    clear hbl hmax q0 q1 q2 q3 hr
    go_enter Try.func44, Try.ntmps44
    go_wp2_with fail
    go_ret
    exact ⟨ret_bool E.out.symm, F1.out⟩
  have d3 : decide (af < -1) = false := by simpa using q3
  by_cases q4 : 1048576 < af
  · have d4 : decide (1048576 < af) = true := by simpa using q4
    have E : Hid (validB pg bs sy af = false) := Lib.hid (validB_no (by unfold preB; rw [hbl]; simp only [decide_eq_false_iff_not]; omega))
    clear hbl hmax q0 q1 q2 q3 q4 hr
    go_enter Try.func44, Try.ntmps44
    go_wp2_with fail
    go_ret
    exact ⟨ret_bool E.out.symm, F1.out⟩
  have d4 : decide (1048576 < af) = false := by simpa using q4
  by_cases q5 : sy < 0
  · have d5 : decide (sy < 0) = true := by simpa using q5
    have E : Hid (validB pg bs sy af = false) := Lib.hid (validB_no (by unfold preB; rw [hbl]; simp only [decide_eq_false_iff_not]; omega))
    clear hbl hmax q0 q1 q2 q3 q4 q5 hr
    go_enter Try.func44, Try.ntmps44
    go_wp2_with fail
    go_ret
    exact ⟨ret_bool E.out.symm, F1.out⟩
  have d5 : decide (sy < 0) = false := by simpa using q5
  obtain ⟨page, rfl⟩ := Int.eq_ofNat_of_zero_le (show 0 ≤ pg by omega)
  have E : Hid (validB (page : Int) bs sy af = decide (sy ≤ ((recs bs page).2 : Int))) := Lib.hid (by
    rw [validB_yes (by unfold preB; rw [hbl]; simp only [decide_eq_true_eq]; omega), Int.toNat_natCast])
  have hn : Hid (n ≤ 1048576) := Lib.hid (by omega)
  have hpg : Hid (page ≤ 256) := Lib.hid (by omega)
  have Hr := Lib.hid hr
  clear hbl hmax q0 q1 q2 q3 q4 q5 hr
  go_enter Try.func44, Try.ntmps44
  go_wp2_with fail
  refine (records_any a n c page sy af bs _ (Hr.out.fr0 F1.out) hc hn.out hpg.out).mono ?_
  rintro e w1 ⟨a', c', T, S, rfl, _, _, _, _, G1⟩
  have g := G1.cell (p := ⟨w.heap.size, 2, none⟩) (v := .int .i64 sy) (by simp) id
  have F2 := Lib.hid (F1.out.trans0 G1)
  clear G1
  go_wp2_with fail
  go_ret
  exact ⟨ret_bool E.out.symm, F2.out⟩
theorem permitted_any (pg af : Int) (w : World) : Calls Try.prog 56 #[.int .i64 pg, .int .i64 af] w fun e w' => e = .returned (.bool (perB pg af)) ∧ w = w' := by
  by_cases q0 : 8 ≤ pg
  case neg =>
    have d0 : decide (8 ≤ pg) = false := by simpa using q0
    have E : Hid (perB pg af = false) := Lib.hid (by unfold perB; simp only [decide_eq_false_iff_not]; omega)
    clear q0
    go_enter Try.func56, Try.ntmps56
    go_wp2_with fail
    go_ret
    exact ⟨ret_bool E.out.symm, rfl⟩
  have d0 : decide (8 ≤ pg) = true := by simpa using q0
  by_cases q1 : pg ≤ 256
  case neg =>
    have d1 : decide (pg ≤ 256) = false := by simpa using q1
    have E : Hid (perB pg af = false) := Lib.hid (by unfold perB; simp only [decide_eq_false_iff_not]; omega)
    clear q0 q1
    go_enter Try.func56, Try.ntmps56
    go_wp2_with fail
    go_ret
    exact ⟨ret_bool E.out.symm, rfl⟩
  have d1 : decide (pg ≤ 256) = true := by simpa using q1
  by_cases q2 : -1 ≤ af
  case neg =>
    have d2 : decide (-1 ≤ af) = false := by simpa using q2
    have E : Hid (perB pg af = false) := Lib.hid (by unfold perB; simp only [decide_eq_false_iff_not]; omega)
    clear q0 q1 q2
    go_enter Try.func56, Try.ntmps56
    go_wp2_with fail
    go_ret
    exact ⟨ret_bool E.out.symm, rfl⟩
  have d2 : decide (-1 ≤ af) = true := by simpa using q2
  by_cases q3 : af ≤ 1048576
  case neg =>
    have d3 : decide (af ≤ 1048576) = false := by simpa using q3
    have E : Hid (perB pg af = false) := Lib.hid (by unfold perB; simp only [decide_eq_false_iff_not]; omega)
    clear q0 q1 q2 q3
    go_enter Try.func56, Try.ntmps56
    go_wp2_with fail
    go_ret
    exact ⟨ret_bool E.out.symm, rfl⟩
  have d3 : decide (af ≤ 1048576) = true := by simpa using q3
  have E : Hid (perB pg af = true) := Lib.hid (by unfold perB; simp only [decide_eq_true_eq]; omega)
  clear q0 q1 q2 q3
  go_enter Try.func56, Try.ntmps56
  go_wp2_with fail
  go_ret
  exact ⟨ret_bool E.out.symm, rfl⟩
set_option maxHeartbeats 4000000 in
theorem refValid_any (a : Option Addr) (n c : Nat) (pg sy af : Int) (bs : List UInt8) (w : World) (hr : Rd w a n (byt bs)) (hc : n ≤ c) :
    Calls Try.prog 16 #[.agg (dskI pg a n c sy af)] w fun e w' => e = .returned (.bool (validB pg bs sy af)) ∧ Fr F0 w w' := by
  have hbl : bs.length = n := by simpa using hr.len
  have hmax := hr.max
  have F1 : Hid (Fr F0 w (w.alloc (.cells (dskI pg a n c sy af) 24))) := Lib.hid ((Fr.refl _ _).alloc _)
  have hcp := permitted_any pg af (w.alloc (.cells (dskI pg a n c sy af) 24))
  by_cases p0 : 8 ≤ pg ∧ pg ≤ 256 ∧ -1 ≤ af ∧ af ≤ 1048576
  case neg =>
    have e0 : perB pg af = false := by unfold perB; simp only [decide_eq_false_iff_not]; exact p0
    rw [e0] at hcp
    have E : Hid (validB pg bs sy af = false) := Lib.hid (validB_no (by unfold preB; rw [hbl]; simp only [decide_eq_false_iff_not]; omega))
    clear hbl hmax p0 hr e0
    go_enter Try.func16, Try.ntmps16
    go_wp2_with (refine hcp.mono ?_; rintro e w' ⟨rfl, rfl⟩)
    go_ret
    exact ⟨ret_bool E.out.symm, F1.out⟩
  have e0 : perB pg af = true := by unfold perB; simp only [decide_eq_true_eq]; exact p0
  rw [e0] at hcp
  clear e0
  by_cases q2 : (1048576 : Int) < (n : Int)
  · have d2 : decide ((1048576 : Int) < (n : Int)) = true := by simpa using q2
    have E : Hid (validB pg bs sy af = false) := Lib.hid (validB_no (by unfold preB; rw [hbl]; simp only [decide_eq_false_iff_not]; omega))
    clear hbl hmax q2 p0 hr
    go_enter Try.func16, Try.ntmps16
    go_wp2_with (refine hcp.mono ?_; rintro e w' ⟨rfl, rfl⟩)
    go_ret
    exact ⟨ret_bool E.out.symm, F1.out⟩
  have d2 : decide ((1048576 : Int) < (n : Int)) = false := by simpa using q2
  by_cases q5 : sy < 0
  · have d5 : decide (sy < 0) = true := by simpa using q5
    have E : Hid (validB pg bs sy af = false) := Lib.hid (validB_no (by unfold preB; rw [hbl]; simp only [decide_eq_false_iff_not]; omega))
    clear hbl hmax q2 q5 p0 hr
    go_enter Try.func16, Try.ntmps16
    go_wp2_with (refine hcp.mono ?_; rintro e w' ⟨rfl, rfl⟩)
    go_ret
    exact ⟨ret_bool E.out.symm, F1.out⟩
  have d5 : decide (sy < 0) = false := by simpa using q5
  obtain ⟨page, rfl⟩ := Int.eq_ofNat_of_zero_le (show 0 ≤ pg by omega)
  have E : Hid (validB (page : Int) bs sy af = decide (sy ≤ ((recs bs page).2 : Int))) := Lib.hid (by
    rw [validB_yes (by unfold preB; rw [hbl]; simp only [decide_eq_true_eq]; omega), Int.toNat_natCast])
  have hn : Hid (n ≤ 1048576) := Lib.hid (by omega)
  have hpg : Hid (page ≤ 256 ∧ 1 ≤ page) := Lib.hid (by omega)
  have Hr := Lib.hid hr
  clear hbl hmax q2 q5 p0 hr
  go_enter Try.func16, Try.ntmps16
  go_wp2_with (go_at_call 56; refine hcp.mono ?_; rintro e w' ⟨rfl, rfl⟩)
  refine (Records_any a n c page sy af bs _ (Hr.out.fr0 F1.out) hc hn.out hpg.out.1 hpg.out.2).mono ?_
  rintro e w1 ⟨a', c', T, S, rfl, _, _, _, _, G1⟩
  have g := G1.cell (p := ⟨w.heap.size, 2, none⟩) (v := .int .i64 sy) (by simp) id
  have F2 := Lib.hid (F1.out.trans0 G1)
  clear G1 hcp
  go_wp2_with fail
  go_ret
  exact ⟨ret_bool E.out.symm, F2.out⟩
end Go.Proofs.Ytehpikjhjghplaa
