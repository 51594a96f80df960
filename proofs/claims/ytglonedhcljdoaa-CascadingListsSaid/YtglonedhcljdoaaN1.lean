/- CascadingNil: the walk. -/
import Derived.Test.YtglonedhcljdoaaC14
namespace Go.Proofs.Ytglonedhcljdoaa
open Go.RowKit
attribute [local go_sem ↓] Go.wp_at_zero Go.wp_at_succ

set_option maxHeartbeats 2000000 in
theorem Nil_walk (key : Int) (w : World) : Calls Try.prog 5 #[.int .i64 key] w fun e w' => e = .returned (.bool true) ∧ Fr F0 w w' := by
  go_enter Try.func5, Try.ntmps5
  go_wp2_with fail
  refine (awake_any _).mono ?_; rintro e w1 ⟨rfl, F1⟩
  go_wp2_with fail
  refine (Search_nil _ _).mono ?_; rintro e w2 ⟨rfl, F2⟩
  have F := Lib.hid (F1.trans0 F2)
  clear F1 F2
  go_wp2_with (first | (refine (Len_nil _).mono ?_; rintro e w3 ⟨rfl, rfl⟩) | (refine (Compares_nil _).mono ?_; rintro e w3 ⟨rfl, rfl⟩) | (refine (Size_nil _).mono ?_; rintro e w3 ⟨rfl, rfl⟩) | (refine (Lists_nil _).mono ?_; rintro e w3 ⟨rfl, rfl⟩))
  go_ret
  exact ⟨rfl, F.out⟩
end Go.Proofs.Ytglonedhcljdoaa
