/- VersiontreeNearest: the walk. -/
import Derived.Test.YtpmaoaogkjehcaaX10
import Derived.Test.YtpmaoaogkjehcaaX9
import Derived.Test.YtpmaoaogkjehcaaAgg1
namespace Go.Proofs.Ytpmaoaogkjehcaa
open Go.RowKit

set_option maxHeartbeats 1000000 in
theorem Near_skip (la : Option Addr) (ln lc : Nat) (ma : Option Addr) (mn mc : Nat) (v : Int) (w : World) (hln : ln ≤ 9223372036854775807) (hmn : mn ≤ 9223372036854775807)
    (h : 60 < ln ∨ (ln ≤ 60 ∧ 60 < mn ∧ mn ≤ 1000) ∨ (ln ≤ 60 ∧ 1100 < mn)) :
    Calls Try.prog 6 #[.slice la ln lc, .slice ma mn mc, .int .i64 v] w fun e w' => e = .returned (.bool true) ∧ Fr F0 w w' := by
  rcases h with h | ⟨h1, h2, h3⟩ | ⟨h1, h2⟩
  · have d1 : decide ((60 : Int) < (ln : Int)) = true := by simp; omega
    replace h := Lib.hid h
    go_enter Try.func6, Try.ntmps6
    go_wp2_with fail
    refine (awake_any _).mono ?_; rintro e w1 ⟨rfl, F1⟩
    go_wp2_with fail
    go_ret
    exact ⟨rfl, F1⟩
  · have d1 : decide ((60 : Int) < (ln : Int)) = false := by simp; omega
    have d2 : decide ((60 : Int) < (mn : Int)) = true := by simp; omega
    have d3 : decide ((mn : Int) ≤ 1000) = true := by simp; omega
    replace h1 := Lib.hid h1
    replace h2 := Lib.hid h2
    replace h3 := Lib.hid h3
    go_enter Try.func6, Try.ntmps6
    go_wp2_with fail
    refine (awake_any _).mono ?_; rintro e w1 ⟨rfl, F1⟩
    go_wp2_with fail
    go_ret
    exact ⟨rfl, F1⟩
  · have d1 : decide ((60 : Int) < (ln : Int)) = false := by simp; omega
    have d2 : decide ((60 : Int) < (mn : Int)) = true := by simp; omega
    have d3 : decide ((mn : Int) ≤ 1000) = false := by simp; omega
    have d4 : decide ((1100 : Int) < (mn : Int)) = true := by simp; omega
    replace h1 := Lib.hid h1
    replace h2 := Lib.hid h2
    go_enter Try.func6, Try.ntmps6
    go_wp2_with fail
    refine (awake_any _).mono ?_; rintro e w1 ⟨rfl, F1⟩
    go_wp2_with fail
    go_ret
    exact ⟨rfl, F1⟩

set_option maxHeartbeats 1000000 in
theorem Near_go (la : Option Addr) (ln lc : Nat) (l : List Int) (ma : Option Addr) (mn mc : Nat) (ms : List Int) (v : Int) (w : World) (hl : Rd w la ln (ints l)) (hm : Rd w ma mn (ints ms))
    (h1 : ln ≤ 60) (h : mn ≤ 60 ∨ (60 < mn ∧ 1000 < mn ∧ mn ≤ 1100)) :
    Calls Try.prog 6 #[.slice la ln lc, .slice ma mn mc, .int .i64 v] w fun e w' => e = .returned (.bool true) ∧ Fr F0 w w' := by
  have d1 : decide ((60 : Int) < (ln : Int)) = false := by simp; omega
  have d4 : decide ((1100 : Int) < (mn : Int)) = false := by simp; omega
  have hd : decide ((60 : Int) < (mn : Int)) = false ∨ (decide ((60 : Int) < (mn : Int)) = true ∧ decide ((mn : Int) ≤ 1000) = false) := by
    rcases h with h | h
    · left; simp; omega
    · right; constructor <;> (simp; omega)
  have h1h := Lib.hid h1
  replace h := Lib.hid h
  clear h1
  rcases hd with d2 | ⟨d2, d3⟩
  all_goals
    go_enter Try.func6, Try.ntmps6
    go_wp2_with fail
    refine (awake_any _).mono ?_; rintro e w1 ⟨rfl, F1⟩
    go_wp2_with fail
    refine (grown_any la ln lc l _ (hl.fr0 F1) h1h.out).mono ?_; rintro e w2 ⟨x, sa, c, va, n, c', rfl, HX, Rv, hc', hap, F2⟩
    have F := F1.trans0 F2
    have k8 : One (w2.alloc (.cells #[.slice va n c'] 24)) w2.heap.size 24 (.slice va n c') := One.new _ _
    have FA : Fr F0 w2 (w2.alloc (.cells #[.slice va n c'] 24)) := (Fr.refl _ _).alloc _
    have kc := k8.cell
    have hv := Lib.hid (growP_valid l)
    clear F1 F2 hap
    go_wp2_with fail
    refine (Nearest_any _ _ x sa c _ (HX.fr0 FA) hv.out ma mn mc ms (hm.fr0 (F.trans0 FA)) v).mono ?_; rintro e w3 ⟨rfl, F3⟩
    replace k8 := k8.fr F3 id
    have kc := k8.cell
    have G := F.trans0 (FA.trans0 F3)
    have Rv3 := Rv.fr0 (FA.trans0 F3)
    clear F3 FA F
    go_wp2_with fail
    refine (refNearest_any va n c' _ _ Rv3 hv.out ma mn mc ms (hm.fr0 G) v).mono ?_; rintro e w4 ⟨rfl, F4⟩
    replace G := Lib.hid (G.trans0 F4)
    have b1 : ((nearE (growP l) ms v).1 == (nearE (growP l) ms v).1) = true := by simp
    have b2 : ((nearE (growP l) ms v).2 == (nearE (growP l) ms v).2) = true := by simp
    clear F4 Rv3
    go_wp2_with fail
    go_ret
    exact ⟨rfl, G.out⟩

theorem LNear_any (la : Option Addr) (ln lc : Nat) (l : List Int) (ma : Option Addr) (mn mc : Nat) (ms : List Int) (v : Int) (w : World) (hl : ArgSl w la ln lc l) (hm : ArgSl w ma mn mc ms) :
    Calls Try.prog 6 #[.slice la ln lc, .slice ma mn mc, .int .i64 v] w fun e w' => e = .returned (.bool true) ∧ Fr F0 w w' := by
  have h1 := hl.rd.max
  have h2 := hm.rd.max
  by_cases hs : 60 < ln ∨ (ln ≤ 60 ∧ 60 < mn ∧ mn ≤ 1000) ∨ (ln ≤ 60 ∧ 1100 < mn)
  · exact Near_skip la ln lc ma mn mc v w h1 h2 hs
  · exact Near_go la ln lc l ma mn mc ms v w hl.rd hm.rd (by omega) (by omega)

end Go.Proofs.Ytpmaoaogkjehcaa
