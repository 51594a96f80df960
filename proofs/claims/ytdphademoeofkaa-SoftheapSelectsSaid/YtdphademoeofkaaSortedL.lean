/- The laying of a function of slices at ints: the numbers of this program. -/
import Derived.Shelf.SlIterI.Sorted
import Derived.Test.YtdphademoeofkaaProg
namespace Go.Proofs.Ytdphademoeofkaa
open Go.Shelf
def sortedLay_ren : Go.Shelf.Ren := ⟨fun | 6 => 45 | 8 => 62 | 9 => 25 | 11 => 70 | 13 => 43 | 12 => 42 | 23 => 60 | 24 => 61 | 14 => 51 | 15 => 52 | 16 => 53 | 17 => 54 | 18 => 55 | 19 => 56 | 20 => 57 | 21 => 58 | 22 => 59 | 25 => 64 | 26 => 65 | 27 => 66 | 28 => 67 | 29 => 68 | 30 => 69 | 31 => 71 | n => n, fun | 26 => 3 | 28 => 76 | 24 => 22 | 0 => 0 | 3 => 3 | 37 => 73 | 48 => 93 | 50 => 95 | 4 => 4 | 40 => 85 | 39 => 84 | 45 => 90 | 5 => 5 | 9 => 9 | 51 => 96 | 55 => 100 | 57 => 103 | 58 => 104 | 33 => 30 | n => n, fun | n => n⟩
theorem sortedLay : Go.Proofs.SlLaysZI.n6 Try.prog sortedLay_ren := {
  mixed := by kernel_rfl,
  f6 := ⟨Try.f45.name, by decide, Try.func45.trans (congrArg some (by kernel_rfl))⟩,
  f8 := ⟨Try.f62.name, by decide, Try.func62.trans (congrArg some (by kernel_rfl))⟩,
  f11 := ⟨Try.f70.name, by decide, Try.func70.trans (congrArg some (by kernel_rfl))⟩,
  t0 := Try.underlying0,
  a0 := Try.isAgg0,
  z0 := Try.sizeOf0,
  v0 := Try.zeroValue0,
  t24 := Try.underlying22,
  a24 := Try.isAgg22,
  z24 := Try.sizeOf22,
  v24 := Try.zeroValue22,
  t26 := Try.underlying3,
  a26 := Try.isAgg3,
  z26 := Try.sizeOf3,
  v26 := Try.zeroValue3,
  t28 := Try.underlying76,
  a28 := Try.isAgg76,
  z28 := Try.sizeOf76,
  v28 := Try.zeroValue76,
  i26 := by kernel_rfl }
end Go.Proofs.Ytdphademoeofkaa
