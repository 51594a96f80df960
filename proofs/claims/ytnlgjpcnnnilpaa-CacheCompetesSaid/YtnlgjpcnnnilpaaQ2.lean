/- The elements of a sorted list, each once. -/
import Derived.Lib.SlicesCompact
namespace Go.Proofs.Ytnlgjpcnnnilpaa
theorem compact_sorted (zs : List Int) (hs : zs.Pairwise (· ≤ ·)) : ∀ m, m ≤ zs.length → (Lib.compactUpTo zs.toArray m).Pairwise (· < ·) ∧ (∀ x ∈ Lib.compactUpTo zs.toArray m, x ∈ zs) ∧ ∀ x ∈ Lib.compactUpTo zs.toArray m, ∀ j, m ≤ j + 1 → (hj : j < zs.length) → x ≤ zs[j]
  | 0, _ => by simp [Lib.compactUpTo]
  | m + 1, hm => by
    obtain ⟨h1, h2, h3⟩ := compact_sorted zs hs m (by omega)
    have hmon : ∀ i j, (hij : i ≤ j) → (hj : j < zs.length) → zs[i]'(by omega) ≤ zs[j] := by
      intro i j hij hj
      rcases Nat.lt_or_ge i j with h | h
      · exact List.pairwise_iff_getElem.1 hs i j (by omega) hj h
      · have : i = j := by omega
        subst this; exact Int.le_refl _
    rw [Lib.compactUpTo_succ]
    have em : zs.toArray[m]! = zs[m]'(by omega) := by simp [show m < zs.length by omega]
    rw [em]
    by_cases hk : Lib.keeps zs.toArray m = true
    · rw [if_pos hk]
      refine ⟨?_, fun x hx => ?_, fun x hx j hj hjl => ?_⟩
      · rw [List.pairwise_append]
        refine ⟨h1, by simp, fun x hx y hy => ?_⟩
        rw [List.mem_singleton] at hy
        subst hy
        rcases Nat.eq_zero_or_pos m with h0 | h0
        · subst h0; simp [Lib.compactUpTo] at hx
        · have h4 := h3 x hx (m - 1) (by omega) (by omega)
          have h5 := hmon (m - 1) m (by omega) (by omega)
          have h6 : zs[m - 1]'(by omega) ≠ zs[m]'(by omega) := by
            intro e
            have : Lib.keeps zs.toArray m = false := Lib.keeps_neg h0 (by rw [em]; simp [show m - 1 < zs.length by omega]; exact e.symm)
            rw [this] at hk; cases hk
          omega
      · rcases List.mem_append.1 hx with hx | hx
        · exact h2 x hx
        · rw [List.mem_singleton] at hx; rw [hx]; exact List.getElem_mem _
      · rcases List.mem_append.1 hx with hx | hx
        · exact h3 x hx j (by omega) hjl
        · rw [List.mem_singleton] at hx; rw [hx]; exact hmon m j (by omega) hjl
    · rw [if_neg hk, List.append_nil]
      exact ⟨h1, h2, fun x hx j hj hjl => h3 x hx j (by omega) hjl⟩
theorem compact_distinct {zs : List Int} (hs : zs.Pairwise (· ≤ ·)) : (Lib.compact zs).Nodup ∧ ∀ x ∈ Lib.compact zs, x ∈ zs := by
  obtain ⟨h1, h2, _⟩ := compact_sorted zs hs zs.length (Nat.le_refl _)
  exact ⟨h1.imp (fun h e => by omega), h2⟩
end Go.Proofs.Ytnlgjpcnnnilpaa
