/- The laying of a function of slices at ints: the numbers of this program. -/
import Derived.Shelf.SlIterI.Sorted
import Derived.Test.YtehpikjhjghplaaProg
namespace Go.Proofs.Ytehpikjhjghplaa
open Go.Shelf
def sortedLay_ren : Go.Shelf.Ren := ⟨fun | 6 => 38 | 8 => 63 | 9 => 64 | 11 => 74 | 13 => 76 | 12 => 75 | 23 => 88 | 24 => 89 | 14 => 79 | 15 => 80 | 16 => 81 | 17 => 82 | 18 => 83 | 19 => 84 | 20 => 85 | 21 => 86 | 22 => 87 | 25 => 91 | 26 => 92 | 27 => 93 | 28 => 94 | 29 => 95 | 30 => 96 | 31 => 97 | n => n, fun | 26 => 3 | 28 => 69 | 24 => 25 | 0 => 0 | 3 => 3 | 37 => 107 | 48 => 94 | 50 => 119 | 4 => 4 | 40 => 111 | 39 => 110 | 45 => 115 | 5 => 5 | 9 => 9 | 51 => 121 | 55 => 125 | 57 => 127 | 58 => 128 | 33 => 63 | n => n, fun | n => n⟩
theorem sortedLay : Go.Proofs.SlLaysZI.n6 Try.prog sortedLay_ren := {
  mixed := by kernel_rfl,
  f6 := ⟨Try.f38.name, by decide, Try.func38.trans (congrArg some (by kernel_rfl))⟩,
  f8 := ⟨Try.f63.name, by decide, Try.func63.trans (congrArg some (by kernel_rfl))⟩,
  f11 := ⟨Try.f74.name, by decide, Try.func74.trans (congrArg some (by kernel_rfl))⟩,
  t0 := Try.underlying0,
  a0 := Try.isAgg0,
  z0 := Try.sizeOf0,
  v0 := Try.zeroValue0,
  t24 := Try.underlying25,
  a24 := Try.isAgg25,
  z24 := Try.sizeOf25,
  v24 := Try.zeroValue25,
  t26 := Try.underlying3,
  a26 := Try.isAgg3,
  z26 := Try.sizeOf3,
  v26 := Try.zeroValue3,
  t28 := Try.underlying69,
  a28 := Try.isAgg69,
  z28 := Try.sizeOf69,
  v28 := Try.zeroValue69,
  i26 := by kernel_rfl }
end Go.Proofs.Ytehpikjhjghplaa
