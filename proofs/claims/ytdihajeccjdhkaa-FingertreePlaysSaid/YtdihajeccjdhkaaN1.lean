/- FingertreeMakes: the walk. -/
import Derived.Test.YtdihajeccjdhkaaA14
namespace Go.Proofs.Ytdihajeccjdhkaa
open Go.RowKit
attribute [local go_sem ↓] Go.wp_at_zero Go.wp_at_succ
theorem madeI_ok {xs : List Int} (h : madeI xs = 0) : Tr.Small xs ∧ xs.length ≤ 4096 := by
  unfold madeI at h
  split at h
  · omega
  · rename_i h1
    split at h
    · omega
    · exact ⟨badB_small.1 (by simpa using h1), by omega⟩
set_option maxRecDepth 100000 in
set_option maxHeartbeats 4000000 in
theorem Makes_rest {a : Option Addr} {m c : Nat} {xs : List Int} {w : World} (hr : Rd w a m (ints xs)) (hc : m ≤ c) (hcase : m ≤ 300 ∨ (4095 ≤ m ∧ m ≤ 4098)) :
    Calls Try.prog 3 #[.slice a m c] w fun e w' => e = .returned (.bool true) ∧ Fr F0 w w' := by
  have hxl : xs.length = m := by simpa using hr.len
  have Hr := Lib.hid hr
  have Hc := Lib.hid hc
  have Hxl := Lib.hid hxl
  have d1 : (decide ((300 : Int) < (m : Int)) = false) ∨ (decide ((300 : Int) < (m : Int)) = true ∧ decide ((m : Int) < 4095) = false) := by
    rcases hcase with h | h
    · left; simp; omega
    · right; constructor <;> simp <;> omega
  have d3 : decide ((4098 : Int) < (m : Int)) = false := by simp; omega
  clear hr hc hcase hxl
  by_cases hz : madeI xs = 0
  · obtain ⟨hs, hm⟩ := madeI_ok hz
    rw [Hxl.out] at hm
    have Hs := Lib.hid hs
    have Hm := Lib.hid hm
    have hmade := Lib.hid (fun (W : World) (f : Fr F0 w W) => Made_any (Hr.out.fr0 f) (c := c))
    rw [hz] at hmade
    clear hs hm hz
    rcases d1 with d1 | ⟨d1, d2⟩
    all_goals
      go_enter Try.func3, Try.ntmps3
      go_wp2_with fail
      refine (awake_any _).mono ?_
      rintro e w1 ⟨rfl, F1⟩
      replace F1 := Lib.hid F1
      go_wp2_with fail
      refine (Make_ok (Hr.out.fr0 F1.out) Hc.out Hs.out Hm.out).mono ?_
      rintro e w2 ⟨t, p, hl, ha, rfl, T, F2⟩
      have F3 := Lib.hid (F1.out.trans0 F2)
      have hM := hmade.out w2 F3.out
      obtain ⟨b, rfl⟩ := T.nn
      have hI := Lib.hid (is_any T ha hl (by have := Hm.out; omega) (Hr.out.fr0 F3.out) (c := c))
      clear hl ha T F2 F1
      go_wp2_with fail
      refine hM.mono ?_; rintro e w3 ⟨rfl, rfl⟩
      go_wp2_with fail
      refine hI.out.mono ?_
      rintro e w4 ⟨rfl, F4⟩
      have F5 := Lib.hid (F3.out.trans0 F4)
      clear F4
      go_wp2_with fail
      go_ret
      exact ⟨rfl, F5.out⟩
  · have hmade := Lib.hid (fun (W : World) (f : Fr F0 w W) => Made_any (Hr.out.fr0 f) (c := c))
    have hbad := Lib.hid (fun (W : World) (f : Fr F0 w W) => Make_bad (Hr.out.fr0 f) hz (c := c))
    obtain ⟨E, hE⟩ : ∃ E, E = madeI xs := ⟨_, rfl⟩
    rw [← hE] at hmade hbad hz
    have hz' : (E == 0) = false := by simpa using hz
    clear hE
    rcases d1 with d1 | ⟨d1, d2⟩
    all_goals
      go_enter Try.func3, Try.ntmps3
      go_wp2_with fail
      refine (awake_any _).mono ?_
      rintro e w1 ⟨rfl, F1⟩
      replace F1 := Lib.hid F1
      go_wp2_with fail
      refine (hbad.out _ F1.out).mono ?_
      rintro e w2 ⟨rfl, F2⟩
      have F3 := Lib.hid (F1.out.trans0 F2)
      clear F1 F2
      go_wp2_with fail
      refine (hmade.out _ F3.out).mono ?_; rintro e w3 ⟨rfl, rfl⟩
      go_wp2_with fail
      go_ret
      exact ⟨rfl, F3.out⟩
set_option maxRecDepth 100000 in
theorem Makes_skip {a : Option Addr} {m c : Nat} {w : World} (hcase : (300 < m ∧ m < 4095) ∨ 4098 < m) :
    Calls Try.prog 3 #[.slice a m c] w fun e w' => e = .returned (.bool true) ∧ Fr F0 w w' := by
  have d1 : decide ((300 : Int) < (m : Int)) = true := by simp; omega
  rcases hcase with ⟨h1, h2⟩ | h
  · have d2 : decide ((m : Int) < 4095) = true := by simp; omega
    clear h1 h2
    go_enter Try.func3, Try.ntmps3
    go_wp2_with fail
    refine (awake_any _).mono ?_
    rintro e w1 ⟨rfl, F1⟩
    replace F1 := Lib.hid F1
    go_wp2_with fail
    refine (awake_any _).mono ?_
    rintro e w2 ⟨rfl, F2⟩
    replace F2 := Lib.hid (F1.out.trans0 F2)
    go_wp2_with fail
    go_ret
    exact ⟨rfl, F2.out⟩
  · have d2 : decide ((m : Int) < 4095) = false := by simp; omega
    have d3 : decide ((4098 : Int) < (m : Int)) = true := by simp; omega
    clear h
    go_enter Try.func3, Try.ntmps3
    go_wp2_with fail
    refine (awake_any _).mono ?_
    rintro e w1 ⟨rfl, F1⟩
    replace F1 := Lib.hid F1
    go_wp2_with fail
    refine (awake_any _).mono ?_
    rintro e w2 ⟨rfl, F2⟩
    replace F2 := Lib.hid (F1.out.trans0 F2)
    go_wp2_with fail
    go_ret
    exact ⟨rfl, F2.out⟩
theorem Makes_law (a : Option Addr) (m c : Nat) (xs : List Int) (w : World) (h : ArgSl w a m c xs) :
    Calls Try.prog 3 #[.slice a m c] w fun e w' => e = .returned (.bool true) ∧ Fr F0 w w' := by
  by_cases h1 : m ≤ 300 ∨ (4095 ≤ m ∧ m ≤ 4098)
  · exact Makes_rest h.rd h.cap h1
  · exact Makes_skip (by omega)
end Go.Proofs.Ytdihajeccjdhkaa
