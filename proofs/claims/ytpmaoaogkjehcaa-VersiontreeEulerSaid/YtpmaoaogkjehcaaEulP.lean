/- The Euler tour encloses: plain law. -/
import Derived.Test.YtpmaoaogkjehcaaX1
import Derived.Test.YtpmaoaogkjehcaaV6
namespace Go.Proofs.Ytpmaoaogkjehcaa
open Go.RowKit

def fstO (l : List Nat) (v : Nat) : Int := if v ∈ l then (l.idxOf v : Int) else -1
def lstO (l : List Nat) (v : Nat) : Int := if v ∈ l then ((l.length - 1 - l.reverse.idxOf v : Nat) : Int) else 0
theorem fstO_snoc (l : List Nat) (x v : Nat) : fstO (l ++ [x]) v = if fstO l v < 0 ∧ v = x then (l.length : Int) else fstO l v := by
  unfold fstO
  by_cases hm : v ∈ l
  · rw [if_pos (by simp [hm]), if_pos hm, if_neg (by omega), List.idxOf_append, if_pos hm]
  · rw [if_neg hm]
    by_cases hx : v = x
    · subst hx
      rw [if_pos (by simp), if_pos ⟨by omega, rfl⟩, List.idxOf_append, if_neg hm]; simp
    · rw [if_neg (by simp [hm, hx]), if_neg (by simp [hx])]
theorem lstO_snoc (l : List Nat) (x v : Nat) : lstO (l ++ [x]) v = if v = x then (l.length : Int) else lstO l v := by
  unfold lstO
  by_cases hx : v = x
  · subst hx
    rw [if_pos (by simp), if_pos rfl]; simp
  · rw [if_neg hx]
    by_cases hm : v ∈ l
    · rw [if_pos (by simp [hm]), if_pos hm]
      simp only [List.reverse_append, List.reverse_cons, List.reverse_nil, List.nil_append, List.singleton_append, List.length_append, List.length_cons, List.length_nil]
      have h2 : (x == v) = false := by simpa using fun h => hx h.symm
      rw [List.idxOf_cons, h2]
      simp only [cond_false]
      congr 1; omega
    · rw [if_neg (by simp [hm, hx]), if_neg hm]
/-- The tour from a version is a part of the whole. -/
theorem tour_part {P : List Int} (hv : validB P = true) : ∀ v : Nat, v < P.length → ∃ A B, tour P 0 = A ++ tour P v ++ B := by
  intro v
  induction v using Nat.strongRecOn with
  | _ v ih =>
    intro hvl
    by_cases h0 : v = 0
    · subst h0; exact ⟨[], [], by simp⟩
    · obtain ⟨hp1, hp2⟩ := par_lt hv hvl (by omega)
      obtain ⟨A, B, h⟩ := ih (par P v) hp1 (by omega)
      have hmem : v ∈ kN P P.length (par P v) := by
        simp only [kN, List.mem_filter, List.mem_range, decide_eq_true_eq]; exact ⟨hvl, hp2⟩
      obtain ⟨s, t, hst⟩ := List.append_of_mem hmem
      rw [tour_eq hv (v := par P v) (by omega), hst, List.flatMap_append, List.flatMap_cons] at h
      exact ⟨A ++ par P v :: s.flatMap (tour P), t.flatMap (tour P) ++ [par P v] ++ B, by rw [h]; simp⟩
theorem tour_split {P : List Int} (hv : validB P = true) {v : Nat} (hvl : v < P.length) : ∃ A B, tour P 0 = A ++ tour P v ++ B ∧ v ∉ A ∧ v ∉ B ∧ ∃ M, tour P v = v :: (M ++ [v]) := by
  obtain ⟨A, B, h⟩ := tour_part hv v hvl
  have c1 := tour_count0 hv hvl
  have c2 : (tour P v).count v = 2 := by
    rw [tour_count hv v hvl P.length v (by omega) hvl, if_pos (by rw [chain_pos hv hvl]; simp)]
  rw [h, List.count_append, List.count_append, c2] at c1
  refine ⟨A, B, h, List.count_eq_zero.1 (by omega), List.count_eq_zero.1 (by omega), _, tour_eq hv hvl⟩
theorem fst_split {A B M : List Nat} {v : Nat} (h1 : v ∉ A) : fstO (A ++ (v :: (M ++ [v])) ++ B) v = A.length := by
  unfold fstO
  rw [if_pos (by simp), List.append_assoc, List.idxOf_append, if_neg h1]; simp
theorem lst_split {A B M : List Nat} {v : Nat} (h2 : v ∉ B) : lstO (A ++ (v :: (M ++ [v])) ++ B) v = A.length + (M.length + 1) := by
  unfold lstO
  rw [if_pos (by simp)]
  simp only [List.reverse_append, List.reverse_cons, List.nil_append, List.append_assoc, List.cons_append]
  rw [List.idxOf_append, if_neg (by simpa using h2)]
  simp; omega
theorem enc_first {P : List Int} (hv : validB P = true) {a : Nat} (ha : a < P.length) : 0 ≤ fstO (tour P 0) a ∧ fstO (tour P 0) a < lstO (tour P 0) a := by
  obtain ⟨A, B, h, h1, h2, M, hM⟩ := tour_split hv ha
  rw [h, hM, fst_split h1, lst_split h2]; omega
theorem enc {P : List Int} (hv : validB P = true) {a b : Nat} (ha : a < P.length) (hb : b < P.length) :
    a ∈ chN P b ↔ (fstO (tour P 0) a ≤ fstO (tour P 0) b ∧ lstO (tour P 0) b ≤ lstO (tour P 0) a) := by
  obtain ⟨A, B, h, h1, h2, M, hM⟩ := tour_split hv ha
  obtain ⟨A', B', h', h1', h2', M', hM'⟩ := tour_split hv hb
  have ea1 : fstO (tour P 0) a = A.length := by rw [h, hM]; exact fst_split h1
  have ea2 : lstO (tour P 0) a = A.length + (M.length + 1) := by rw [h, hM]; exact lst_split h2
  have eb1 : fstO (tour P 0) b = A'.length := by rw [h', hM']; exact fst_split h1'
  have eb2 : lstO (tour P 0) b = A'.length + (M'.length + 1) := by rw [h', hM']; exact lst_split h2'
  rw [ea1, ea2, eb1, eb2]
  have cab := tour_count hv b hb P.length a (by omega) ha
  have hmc : ((a : Int) ∈ chain P b) ↔ a ∈ chN P b := by
    rw [chain_chN hv b hb, List.mem_map]
    constructor
    · rintro ⟨y, hy, he⟩
      have : y = a := Int.ofNat_inj.1 he
      rw [← this]; exact hy
    · intro h; exact ⟨a, h, rfl⟩
  have htl : (tour P a).length = M.length + 2 := by rw [hM]; simp
  have htl' : (tour P b).length = M'.length + 2 := by rw [hM']; simp
  -- what stands at the places of b
  have g1 : (tour P 0)[A'.length]? = some b := by rw [h', hM']; simp
  have g2 : (tour P 0)[A'.length + (M'.length + 1)]? = some b := by
    rw [h', hM', List.append_assoc, List.getElem?_append_right (by omega)]
    simp
  constructor
  · intro hm
    rw [if_pos (hmc.2 hm)] at cab
    have c0 := tour_count0 hv hb
    rw [h, List.count_append, List.count_append, cab] at c0
    have nA : b ∉ A := List.count_eq_zero.1 (by omega)
    have nB : b ∉ B := List.count_eq_zero.1 (by omega)
    constructor
    · rcases Nat.lt_or_ge A'.length A.length with hlt | hge
      · exfalso
        rw [h, List.append_assoc, List.getElem?_append_left hlt] at g1
        exact nA (List.mem_of_getElem? g1)
      · omega
    · rcases Nat.lt_or_ge (A.length + (M.length + 1)) (A'.length + (M'.length + 1)) with hlt | hge
      · exfalso
        rw [h, List.getElem?_append_right (by rw [List.length_append, htl]; omega)] at g2
        exact nB (List.mem_of_getElem? g2)
      · omega
  · rintro ⟨i1, i2⟩
    rw [h, List.getElem?_append_left (by rw [List.length_append, htl]; omega), List.getElem?_append_right (by omega)] at g1
    have hm := List.mem_of_getElem? g1
    have := List.count_pos_iff.2 hm
    rw [cab] at this
    split at this
    · rename_i hc; exact hmc.1 hc
    · omega

end Go.Proofs.Ytpmaoaogkjehcaa
