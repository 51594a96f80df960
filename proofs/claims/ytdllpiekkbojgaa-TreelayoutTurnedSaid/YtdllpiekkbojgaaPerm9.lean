/- Layouts of height 9 are permutations: reckoned by the kernel. -/
import Derived.Test.YtdllpiekkbojgaaPerm
namespace Go.Proofs.Ytdllpiekkbojgaa
theorem perm_1_9 : permOk 1 9 = true := by decide +kernel
theorem perm_2_9 : permOk 2 9 = true := by decide +kernel
theorem perm_3_9 : permOk 3 9 = true := by decide +kernel
theorem perm_4_9 : permOk 4 9 = true := by decide +kernel
theorem perm_ok {k : Int} {h : Nat} (hk1 : 1 ≤ k) (hk2 : k ≤ 4) (hh : h ≤ 9) : ∃ out, invS (layS k h) = some out := by
  by_cases h8 : h ≤ 8
  · exact perm_ok8 hk1 hk2 h8
  · obtain rfl : h = 9 := by omega
    have hk : k = 1 ∨ k = 2 ∨ k = 3 ∨ k = 4 := by omega
    have : permOk k 9 = true := by
      rcases hk with rfl | rfl | rfl | rfl
      · exact perm_1_9
      · exact perm_2_9
      · exact perm_3_9
      · exact perm_4_9
    exact Option.isSome_iff_exists.1 this
end Go.Proofs.Ytdllpiekkbojgaa
