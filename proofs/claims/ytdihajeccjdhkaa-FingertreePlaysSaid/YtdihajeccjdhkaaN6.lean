/- FingertreeSums: every input. -/
import Derived.Test.YtdihajeccjdhkaaN5
namespace Go.Proofs.Ytdihajeccjdhkaa
open Go.RowKit
attribute [local go_sem ↓] Go.wp_at_zero Go.wp_at_succ
set_option maxRecDepth 100000 in
theorem Sums_big {l : Option Addr} {m cl : Nat} {a b c : Nat} {s : Int} {w : World} (h : 150 < m) :
    Calls Try.prog 8 #[.slice l m cl, .int .u8 a, .int .u8 b, .int .u8 c, .int .i64 s] w fun e w' => e = .returned (.bool true) ∧ Fr F0 w w' := by
  have d1 : decide ((150 : Int) < (m : Int)) = true := by simp; omega
  go_enter Try.func8, Try.ntmps8
  go_wp2_with fail
  refine (awake_any _).mono ?_
  rintro e w1 ⟨rfl, F1⟩
  replace F1 := Lib.hid F1
  go_wp2_with fail
  refine (awake_any _).mono ?_
  rintro e w2 ⟨rfl, F2⟩
  replace F2 := Lib.hid (F1.out.trans0 F2)
  go_wp2_with fail
  go_ret
  exact ⟨rfl, F2.out⟩
set_option maxRecDepth 100000 in
theorem Sums_bad {l : Option Addr} {m cl : Nat} {xs : List Int} {a b c : Nat} {s : Int} {w : World} (rl : Rd w l m (ints xs)) (hcl : m ≤ cl) (hm : m ≤ 150) (hz : madeI xs ≠ 0) :
    Calls Try.prog 8 #[.slice l m cl, .int .u8 a, .int .u8 b, .int .u8 c, .int .i64 s] w fun e w' => e = .returned (.bool true) ∧ Fr F0 w w' := by
  have HA := Lib.hid (fun (W : World) (f : Fr F0 w W) => Make_gen (rl.fr0 f) hcl)
  generalize madeI xs = E at *
  have d1 : decide ((150 : Int) < (m : Int)) = false := by simp; omega
  have hE : (E == 0) = false := by simpa using hz
  have Hz := Lib.hid hz
  clear rl hcl hm hz
  go_enter Try.func8, Try.ntmps8
  go_wp2_with fail
  refine (awake_any _).mono ?_
  rintro e w1 ⟨rfl, F1⟩
  replace F1 := Lib.hid F1
  go_wp2_with fail
  refine (HA.out _ F1.out).mono ?_
  rintro e w2 ⟨pa, rfl, hpa, F2⟩
  obtain rfl := hpa Hz.out
  replace F2 := Lib.hid (F1.out.trans0 F2)
  clear hpa
  go_wp2_with fail
  go_ret
  exact ⟨rfl, F2.out⟩
theorem u8_nat {x : Int} (h5 : (Lit.int .u8 x).wf = true) : ∃ k : Nat, x = k ∧ k ≤ 255 := by
  have h4 : 0 ≤ x ∧ x ≤ 255 := by
    simp only [Lit.wf, Bool.and_eq_true, decide_eq_true_eq] at h5
    have e1 : IntKind.u8.min = 0 := by decide
    have e2 : IntKind.u8.max = 255 := by decide
    rw [e1, e2] at h5
    exact h5
  exact ⟨x.toNat, by omega, by omega⟩
theorem Sums_law (l : Option Addr) (m cl : Nat) (xs : List Int) (a b c : Int) (s : Int) (w : World) (h1 : ArgSl w l m cl xs) (ha : (Lit.int .u8 a).wf = true) (hb : (Lit.int .u8 b).wf = true) (hc : (Lit.int .u8 c).wf = true) :
    Calls Try.prog 8 #[.slice l m cl, .int .u8 a, .int .u8 b, .int .u8 c, .int .i64 s] w fun e w' => e = .returned (.bool true) ∧ Fr F0 w w' := by
  obtain ⟨a', rfl, ka⟩ := u8_nat ha
  obtain ⟨b', rfl, kb⟩ := u8_nat hb
  obtain ⟨c', rfl, kc⟩ := u8_nat hc
  by_cases hbig : 150 < m
  · exact Sums_big hbig
  · by_cases hz : madeI xs = 0
    · exact Sums_main Sort_any h1.rd h1.cap (by omega) hz ka kb kc
    · exact Sums_bad h1.rd h1.cap (by omega) hz
end Go.Proofs.Ytdihajeccjdhkaa
