/- Layouts of heights up to 8 are permutations: reckoned by the kernel. -/
import Derived.Test.YtdllpiekkbojgaaV1
namespace Go.Proofs.Ytdllpiekkbojgaa
def permOk (k : Int) (h : Nat) : Bool := (invS (layS k h)).isSome
theorem perm_1_0 : permOk 1 0 = true := by decide +kernel
theorem perm_1_1 : permOk 1 1 = true := by decide +kernel
theorem perm_1_2 : permOk 1 2 = true := by decide +kernel
theorem perm_1_3 : permOk 1 3 = true := by decide +kernel
theorem perm_1_4 : permOk 1 4 = true := by decide +kernel
theorem perm_1_5 : permOk 1 5 = true := by decide +kernel
theorem perm_1_6 : permOk 1 6 = true := by decide +kernel
theorem perm_1_7 : permOk 1 7 = true := by decide +kernel
theorem perm_1_8 : permOk 1 8 = true := by decide +kernel
theorem perm_2_0 : permOk 2 0 = true := by decide +kernel
theorem perm_2_1 : permOk 2 1 = true := by decide +kernel
theorem perm_2_2 : permOk 2 2 = true := by decide +kernel
theorem perm_2_3 : permOk 2 3 = true := by decide +kernel
theorem perm_2_4 : permOk 2 4 = true := by decide +kernel
theorem perm_2_5 : permOk 2 5 = true := by decide +kernel
theorem perm_2_6 : permOk 2 6 = true := by decide +kernel
theorem perm_2_7 : permOk 2 7 = true := by decide +kernel
theorem perm_2_8 : permOk 2 8 = true := by decide +kernel
theorem perm_3_0 : permOk 3 0 = true := by decide +kernel
theorem perm_3_1 : permOk 3 1 = true := by decide +kernel
theorem perm_3_2 : permOk 3 2 = true := by decide +kernel
theorem perm_3_3 : permOk 3 3 = true := by decide +kernel
theorem perm_3_4 : permOk 3 4 = true := by decide +kernel
theorem perm_3_5 : permOk 3 5 = true := by decide +kernel
theorem perm_3_6 : permOk 3 6 = true := by decide +kernel
theorem perm_3_7 : permOk 3 7 = true := by decide +kernel
theorem perm_3_8 : permOk 3 8 = true := by decide +kernel
theorem perm_4_0 : permOk 4 0 = true := by decide +kernel
theorem perm_4_1 : permOk 4 1 = true := by decide +kernel
theorem perm_4_2 : permOk 4 2 = true := by decide +kernel
theorem perm_4_3 : permOk 4 3 = true := by decide +kernel
theorem perm_4_4 : permOk 4 4 = true := by decide +kernel
theorem perm_4_5 : permOk 4 5 = true := by decide +kernel
theorem perm_4_6 : permOk 4 6 = true := by decide +kernel
theorem perm_4_7 : permOk 4 7 = true := by decide +kernel
theorem perm_4_8 : permOk 4 8 = true := by decide +kernel
theorem perm_ok8 {k : Int} {h : Nat} (hk1 : 1 ≤ k) (hk2 : k ≤ 4) (hh : h ≤ 8) : ∃ out, invS (layS k h) = some out := by
  have hk : k = 1 ∨ k = 2 ∨ k = 3 ∨ k = 4 := by omega
  have hc : h = 0 ∨ h = 1 ∨ h = 2 ∨ h = 3 ∨ h = 4 ∨ h = 5 ∨ h = 6 ∨ h = 7 ∨ h = 8 := by omega
  have : permOk k h = true := by
    rcases hk with rfl | rfl | rfl | rfl
    · rcases hc with rfl | rfl | rfl | rfl | rfl | rfl | rfl | rfl | rfl
      · exact perm_1_0
      · exact perm_1_1
      · exact perm_1_2
      · exact perm_1_3
      · exact perm_1_4
      · exact perm_1_5
      · exact perm_1_6
      · exact perm_1_7
      · exact perm_1_8
    · rcases hc with rfl | rfl | rfl | rfl | rfl | rfl | rfl | rfl | rfl
      · exact perm_2_0
      · exact perm_2_1
      · exact perm_2_2
      · exact perm_2_3
      · exact perm_2_4
      · exact perm_2_5
      · exact perm_2_6
      · exact perm_2_7
      · exact perm_2_8
    · rcases hc with rfl | rfl | rfl | rfl | rfl | rfl | rfl | rfl | rfl
      · exact perm_3_0
      · exact perm_3_1
      · exact perm_3_2
      · exact perm_3_3
      · exact perm_3_4
      · exact perm_3_5
      · exact perm_3_6
      · exact perm_3_7
      · exact perm_3_8
    · rcases hc with rfl | rfl | rfl | rfl | rfl | rfl | rfl | rfl | rfl
      · exact perm_4_0
      · exact perm_4_1
      · exact perm_4_2
      · exact perm_4_3
      · exact perm_4_4
      · exact perm_4_5
      · exact perm_4_6
      · exact perm_4_7
      · exact perm_4_8
  exact Option.isSome_iff_exists.1 this
end Go.Proofs.Ytdllpiekkbojgaa
