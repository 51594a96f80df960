/- Methods of a nil set; Errnos. -/
import Derived.Test.YtohblajdeicfeaaE24
import Derived.Lib.SliceRun
namespace Go.Proofs.Ytohblajdeicfeaa
open Go.RowKit
attribute [local go_sem ↓] Go.wp_at_zero Go.wp_at_succ
def BoP (w : World) (e : Ending) (w' : World) : Prop := e = .returned (.tuple #[.bool false, .int .i64 1]) ∧ w = w'
def InpP (w : World) (e : Ending) (w' : World) : Prop := e = .returned (.tuple #[.int .i64 0, .int .i64 1]) ∧ w = w'
theorem Insert_nil (w : World) (x : Int) : Calls Try.prog 9 #[.pointer none, .int .i64 x] w (BoP w) := by
  go_enter Try.func9, Try.ntmps9
  go_wp2_with fail
  go_ret2
  exact ⟨rfl, rfl⟩
theorem Contains_nil (w : World) (x : Int) : Calls Try.prog 11 #[.pointer none, .int .i64 x] w (BoP w) := by
  go_enter Try.func11, Try.ntmps11
  go_wp2_with fail
  go_ret2
  exact ⟨rfl, rfl⟩
theorem Delete_nil (w : World) (x : Int) : Calls Try.prog 10 #[.pointer none, .int .i64 x] w (BoP w) := by
  go_enter Try.func10, Try.ntmps10
  go_wp2_with (go_at_call 11; refine (Contains_nil _ _).mono ?_; rintro e w1 ⟨rfl, rfl⟩)
  go_ret2
  exact ⟨rfl, rfl⟩
theorem end_nil (w : World) (b : Bool) : Calls Try.prog 43 #[.pointer none, .bool b] w (InpP w) := by
  go_enter Try.func43, Try.ntmps43
  go_wp2_with fail
  go_ret2
  exact ⟨rfl, rfl⟩
theorem Min_nil (w : World) : Calls Try.prog 23 #[.pointer none] w (InpP w) := by
  go_enter Try.func23, Try.ntmps23
  go_wp2_with (go_at_call 43; refine (end_nil _ _).mono ?_; rintro e w1 ⟨rfl, rfl⟩)
  go_ret2
  exact ⟨rfl, rfl⟩
theorem Max_nil (w : World) : Calls Try.prog 24 #[.pointer none] w (InpP w) := by
  go_enter Try.func24, Try.ntmps24
  go_wp2_with (go_at_call 43; refine (end_nil _ _).mono ?_; rintro e w1 ⟨rfl, rfl⟩)
  go_ret2
  exact ⟨rfl, rfl⟩
theorem Next_nil (w : World) (x : Int) : Calls Try.prog 12 #[.pointer none, .int .i64 x] w (InpP w) := by
  go_enter Try.func12, Try.ntmps12
  go_wp2_with fail
  go_ret2
  exact ⟨rfl, rfl⟩
theorem Prev_nil (w : World) (x : Int) : Calls Try.prog 13 #[.pointer none, .int .i64 x] w (InpP w) := by
  go_enter Try.func13, Try.ntmps13
  go_wp2_with fail
  go_ret2
  exact ⟨rfl, rfl⟩
theorem Len_nil (w : World) : Calls Try.prog 22 #[.pointer none] w fun e w' => e = .returned (.int .i64 0) ∧ w = w' := by
  go_enter Try.func22, Try.ntmps22
  go_wp2_with fail
  go_ret
  exact ⟨rfl, rfl⟩
theorem Steps_nil (w : World) : Calls Try.prog 14 #[.pointer none] w fun e w' => e = .returned (.int .i64 0) ∧ w = w' := by
  go_enter Try.func14, Try.ntmps14
  go_wp2_with fail
  go_ret
  exact ⟨rfl, rfl⟩
theorem List_nil (w : World) : Calls Try.prog 26 #[.pointer none] w fun e w' => e = .returned (.slice none 0 0) ∧ w = w' := by
  go_enter Try.func26, Try.ntmps26
  go_wp2_with fail
  go_ret
  exact ⟨rfl, rfl⟩
theorem Mul64_small (w : World) : Calls Try.prog 56 #[.int .u64 1, .int .u64 7] w fun e w' => e = .returned (.tuple #[.int .u64 0, .int .u64 7]) ∧ w = w' := by
  have b1 : bits .and .u64 1 4294967295 = 1 := by decide
  have b2 : bits .and .u64 7 4294967295 = 7 := by decide
  have b3 : bits .and .u64 0 4294967295 = 0 := by decide
  go_enter Try.func56, Try.ntmps56
  go_wp2_with fail
  go_ret2
  exact ⟨by simp, rfl⟩
end Go.Proofs.Ytohblajdeicfeaa
