/- The laying of a function of slices at ints: the numbers of this program. -/
import Derived.Shelf.SlicesG.CompactI
import Derived.Test.YtehpikjhjghplaaProg
namespace Go.Proofs.Ytehpikjhjghplaa
open Go.Shelf
def compactLay_ren : Go.Shelf.Ren := ⟨fun | 43 => 37 | n => n, fun | 22 => 25 | 23 => 3 | 3 => 3 | 4 => 4 | 0 => 0 | n => n, fun | n => n⟩
theorem compactLay : Go.Proofs.SlLaysN.n43 Try.prog compactLay_ren := {
  mixed := by kernel_rfl,
  f43 := ⟨Try.f37.name, by decide, Try.func37.trans (congrArg some (by kernel_rfl))⟩,
  t0 := Try.underlying0,
  a0 := Try.isAgg0,
  z0 := Try.sizeOf0,
  v0 := Try.zeroValue0,
  t3 := Try.underlying3,
  a3 := Try.isAgg3,
  z3 := Try.sizeOf3,
  v3 := Try.zeroValue3,
  t4 := Try.underlying4,
  a4 := Try.isAgg4,
  z4 := Try.sizeOf4,
  v4 := Try.zeroValue4,
  t22 := Try.underlying25,
  a22 := Try.isAgg25,
  z22 := Try.sizeOf25,
  v22 := Try.zeroValue25,
  t23 := Try.underlying3,
  a23 := Try.isAgg3,
  z23 := Try.sizeOf3,
  v23 := Try.zeroValue3,
  i23 := by kernel_rfl }
end Go.Proofs.Ytehpikjhjghplaa
