/- The plain law of Search. -/
import Derived.Test.YtglonedhcljdoaaC11
namespace Go.Proofs.Ytglonedhcljdoaa
open Go.RowKit

theorem kx_asc {L : List (List Int)} (h : ∀ l ∈ L, Asc l) (q : Nat) : Asc (kx L q) := by
  unfold kx
  cases hA : augK (L.drop q) with
  | nil => simp
  | cons ks r => exact augK_asc (fun l hl => h l (List.mem_of_mem_drop hl)) ks (by rw [hA]; simp)
theorem adj {K : List Int} (h : Asc K) (key : Int) {at_ : Nat} (ha : at_ = 2 * (rk K key / 2)) :
    (if at_ < K.length ∧ K.getD at_ 0 < key then at_ + 1 else at_) = rk K key := by
  have hl := rk_le K key
  by_cases h1 : at_ < K.length
  · have h2 := asc_take h key at_ h1
    split
    · rename_i h3; have := h2.1 h3.2; omega
    · rename_i h3
      have h4 : ¬ at_ < rk K key := fun h5 => h3 ⟨h1, h2.2 h5⟩
      omega
  · rw [if_neg (fun h3 => h1 h3.1)]; omega
theorem out_eq {L : List (List Int)} {q : Nat} {l : List Int} (h : L[q]? = some l) (hA : Asc (kx L q)) (key : Int) : cO ((kq L q).take (rk (kx L q) key)) = rk l key := by
  rw [kx_kq] at hA ⊢
  rw [take_rk _ hA, cO_filter, kq_step h, ownL_merge]
theorem next_eq {L : List (List Int)} {q : Nat} {l : List Int} (h : L[q]? = some l) (hA : Asc (kx L q)) (hB : Asc (kx L (q + 1))) (key : Int) : cT ((kq L q).take (rk (kx L q) key)) = rk (kx L (q + 1)) key / 2 := by
  rw [kx_kq] at hA ⊢
  rw [take_rk _ hA, cT_filter, kq_step h, takL_merge, rk_odd hB]
/-- The halving: what is left after one step of the binary search. -/
theorem half {lo hi j : Nat} (h : lo < hi) (hj : hi - lo + 1 ≤ 2 ^ (j + 1)) : (lo + hi) / 2 - lo + 1 ≤ 2 ^ j ∧ hi - ((lo + hi) / 2 + 1) + 1 ≤ 2 ^ j := by
  rw [Nat.pow_succ] at hj
  omega
theorem half_pos {lo hi j : Nat} (h : lo < hi) (hj : hi - lo + 1 ≤ 2 ^ j) : 0 < j := by
  cases j with
  | zero => simp at hj; omega
  | succ j => omega

end Go.Proofs.Ytglonedhcljdoaa
