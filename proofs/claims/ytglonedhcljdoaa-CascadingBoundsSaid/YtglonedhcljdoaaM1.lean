/- Merging with marks, every second element, ranks: plain law. -/
import Derived.Test.YtglonedhcljdoaaC3
namespace Go.Proofs.Ytglonedhcljdoaa
open Go.RowKit

/-- Two lists merged, the elements of the second one marked. -/
def mergeB : List Int → List Int → List (Int × Bool)
  | [], ys => ys.map fun y => (y, true)
  | x :: xs, [] => (x, false) :: mergeB xs []
  | x :: xs, y :: ys => if y < x then (y, true) :: mergeB (x :: xs) ys else (x, false) :: mergeB xs (y :: ys)
termination_by xs ys => xs.length + ys.length
theorem mergeB_nil (xs : List Int) : mergeB xs [] = xs.map fun x => (x, false) := by
  induction xs with
  | nil => rw [mergeB]; rfl
  | cons x xs ih => rw [mergeB, ih]; rfl
theorem mergeB_len (xs ys : List Int) : (mergeB xs ys).length = xs.length + ys.length := by
  fun_induction mergeB xs ys with
  | case1 ys => simp
  | case2 x xs ih => simp [ih]
  | case3 x xs y ys h ih => simp [ih]; omega
  | case4 x xs y ys h ih => simp [ih]; omega
/-- Those of the first, those of the second. -/
def ownL (ks : List (Int × Bool)) : List Int := ks.filterMap fun p => if p.2 then none else some p.1
def takL (ks : List (Int × Bool)) : List Int := ks.filterMap fun p => if p.2 then some p.1 else none
theorem takL_map (ys : List Int) : takL (ys.map fun y => (y, true)) = ys := by
  induction ys with
  | nil => rfl
  | cons y ys ih => simp only [takL, List.map_cons, List.filterMap_cons, if_true] at *; rw [ih]
theorem ownL_map (ys : List Int) : ownL (ys.map fun y => (y, true)) = [] := by
  induction ys with
  | nil => rfl
  | cons y ys ih => simp only [ownL, List.map_cons, List.filterMap_cons, if_true] at *; exact ih
theorem ownL_merge (xs ys : List Int) : ownL (mergeB xs ys) = xs := by
  fun_induction mergeB xs ys with
  | case1 ys => exact ownL_map ys
  | case2 x xs ih => simp only [ownL, List.filterMap_cons] at *; simp [ih]
  | case3 x xs y ys h ih => simp only [ownL, List.filterMap_cons] at *; simp [ih]
  | case4 x xs y ys h ih => simp only [ownL, List.filterMap_cons] at *; simp [ih]
theorem takL_merge (xs ys : List Int) : takL (mergeB xs ys) = ys := by
  fun_induction mergeB xs ys with
  | case1 ys => exact takL_map ys
  | case2 x xs ih => simp only [takL, List.filterMap_cons] at *; simp [ih]
  | case3 x xs y ys h ih => simp only [takL, List.filterMap_cons] at *; simp [ih]
  | case4 x xs y ys h ih => simp only [takL, List.filterMap_cons] at *; simp [ih]
abbrev keyL (ks : List (Int × Bool)) : List Int := ks.map (·.1)
theorem keyL_mem {xs ys : List Int} {k : Int} (h : k ∈ keyL (mergeB xs ys)) : k ∈ xs ∨ k ∈ ys := by
  obtain ⟨p, hp, rfl⟩ := List.mem_map.1 h
  cases h2 : p.2 with
  | true => right; rw [← takL_merge xs ys]; exact List.mem_filterMap.2 ⟨p, hp, by simp [h2]⟩
  | false => left; rw [← ownL_merge xs ys]; exact List.mem_filterMap.2 ⟨p, hp, by simp [h2]⟩
abbrev Asc (xs : List Int) : Prop := xs.Pairwise (· ≤ ·)
theorem merge_asc {xs ys : List Int} (hx : Asc xs) (hy : Asc ys) : Asc (keyL (mergeB xs ys)) := by
  fun_induction mergeB xs ys with
  | case1 ys => simpa [keyL, List.map_map, Function.comp_def] using hy
  | case2 x xs ih =>
    have hx' := List.pairwise_cons.1 hx
    simp only [keyL, List.map_cons, Asc, List.pairwise_cons]
    refine ⟨fun k hk => ?_, ih hx'.2 hy⟩
    rcases keyL_mem hk with h | h
    · exact hx'.1 k h
    · cases h
  | case3 x xs y ys h ih =>
    have hy' := List.pairwise_cons.1 hy
    have hx' := List.pairwise_cons.1 hx
    simp only [keyL, List.map_cons, Asc, List.pairwise_cons]
    refine ⟨fun k hk => ?_, ih hx hy'.2⟩
    rcases keyL_mem hk with h2 | h2
    · rcases List.mem_cons.1 h2 with rfl | h2
      · omega
      · have := hx'.1 k h2; omega
    · exact hy'.1 k h2
  | case4 x xs y ys h ih =>
    have hy' := List.pairwise_cons.1 hy
    have hx' := List.pairwise_cons.1 hx
    simp only [keyL, List.map_cons, Asc, List.pairwise_cons]
    refine ⟨fun k hk => ?_, ih hx'.2 hy⟩
    rcases keyL_mem hk with h2 | h2
    · exact hx'.1 k h2
    · rcases List.mem_cons.1 h2 with rfl | h2
      · omega
      · have := hy'.1 k h2; omega

/-- Every second element. -/
def oddL : List Int → List Int
  | [] => []
  | [_] => []
  | _ :: y :: r => y :: oddL r
theorem oddL_sub : ∀ xs : List Int, (oddL xs).Sublist xs := by
  intro xs
  fun_induction oddL xs with
  | case1 => exact List.Sublist.refl _
  | case2 x => exact List.nil_sublist _
  | case3 x y r ih => exact (ih.cons_cons y).cons x
theorem oddL_len (xs : List Int) : (oddL xs).length = xs.length / 2 := by
  fun_induction oddL xs with
  | case1 => rfl
  | case2 x => simp
  | case3 x y r ih => simp [ih]; omega
theorem oddL_take (xs : List Int) : ∀ j, 2 * j + 1 < xs.length → oddL (xs.take (2 * j + 2)) = oddL (xs.take (2 * j)) ++ [xs.getD (2 * j + 1) 0] := by
  fun_induction oddL xs with
  | case1 => intro j h; simp at h
  | case2 x => intro j h; simp at h
  | case3 x y r ih =>
    intro j h
    cases j with
    | zero => simp [oddL]
    | succ j =>
      have := ih j (by simp at h; omega)
      rw [show 2 * (j + 1) + 2 = (2 * j + 2) + 2 by omega, show 2 * (j + 1) = 2 * j + 2 by omega, show 2 * j + 2 + 1 = (2 * j + 1) + 2 by omega]
      simp only [List.take_succ_cons, oddL, this]
      simp
theorem oddL_take_all (xs : List Int) {j : Nat} (h : xs.length ≤ 2 * j + 1) : oddL (xs.take (2 * j)) = oddL xs := by
  fun_induction oddL xs generalizing j with
  | case1 => simp [oddL]
  | case2 x => cases j with
    | zero => simp [oddL]
    | succ j => rw [List.take_of_length_le (by simp; omega)]; rfl
  | case3 x y r ih =>
    cases j with
    | zero => simp at h
    | succ j =>
      rw [show 2 * (j + 1) = 2 * j + 2 by omega]
      simp only [List.take_succ_cons, oddL]
      rw [ih (by simp at h; omega)]
/-- How many are less. -/
def rk (xs : List Int) (key : Int) : Nat := xs.countP fun x => decide (x < key)
theorem rk_le (xs : List Int) (key : Int) : rk xs key ≤ xs.length := List.countP_le_length
theorem asc_take {xs : List Int} (h : Asc xs) (key : Int) : ∀ i, i < xs.length → (xs.getD i 0 < key ↔ i < rk xs key) := by
  induction xs with
  | nil => intro i hi; simp at hi
  | cons x xs ih =>
    have hx := List.pairwise_cons.1 h
    intro i hi
    by_cases hk : x < key
    · have e : rk (x :: xs) key = rk xs key + 1 := by unfold rk; rw [List.countP_cons]; simp [hk]
      cases i with
      | zero => simp [e, hk]
      | succ i =>
        rw [e]
        have := ih hx.2 i (by simpa using hi)
        simp only [List.getD_cons_succ]
        rw [this]; omega
    · have e : rk (x :: xs) key = 0 := by
        unfold rk
        rw [List.countP_eq_zero]
        intro y hy
        rcases List.mem_cons.1 hy with rfl | hy
        · simpa using hk
        · have := hx.1 y hy; simp; omega
      rw [e]
      cases i with
      | zero => simp; omega
      | succ i =>
        simp only [List.getD_cons_succ]
        have : xs.getD i 0 ∈ xs := by
          rw [List.getD_eq_getElem?_getD, List.getElem?_eq_getElem (by simpa using hi)]; simp
        have := hx.1 _ this
        constructor <;> intro <;> omega
theorem rk_odd {xs : List Int} (h : Asc xs) (key : Int) : rk (oddL xs) key = rk xs key / 2 := by
  fun_induction oddL xs with
  | case1 => simp [rk]
  | case2 x => unfold rk; rw [List.countP_cons]; simp; split <;> rfl
  | case3 x y r ih =>
    have hx := List.pairwise_cons.1 h
    have hy := List.pairwise_cons.1 hx.2
    have hxy := hx.1 y (by simp)
    have ih' := ih hy.2
    unfold rk at *
    rw [List.countP_cons, List.countP_cons, List.countP_cons, ih']
    by_cases h1 : y < key
    · have h2 : x < key := by omega
      simp only [h1, h2, decide_true, if_true]; omega
    · have h0 : r.countP (fun x => decide (x < key)) = 0 := by
        rw [List.countP_eq_zero]
        intro z hz
        have := hy.1 z hz
        simp; omega
      simp only [h1, decide_false, h0]
      by_cases h2 : x < key <;> simp [h2]
/-- The elements before the rank: those that are less. -/
theorem take_rk (ks : List (Int × Bool)) (h : Asc (keyL ks)) (key : Int) : ks.take (rk (keyL ks) key) = ks.filter fun p => decide (p.1 < key) := by
  induction ks with
  | nil => rfl
  | cons p ks ih =>
    have hx := List.pairwise_cons.1 h
    by_cases hk : p.1 < key
    · have e : rk (keyL (p :: ks)) key = rk (keyL ks) key + 1 := by unfold rk; simp [hk]
      rw [e, List.take_succ_cons, ih hx.2, List.filter_cons]; simp [hk]
    · have e : rk (keyL (p :: ks)) key = 0 := by
        unfold rk
        rw [List.countP_eq_zero]
        intro y hy
        rcases List.mem_cons.1 hy with rfl | hy
        · simpa using hk
        · have h3 : p.1 ≤ y := hx.1 y hy
          have h4 : ¬ y < key := by omega
          simpa using h4
      rw [e, List.take_zero, Eq.comm, List.filter_eq_nil_iff]
      intro q hq
      rcases List.mem_cons.1 hq with rfl | hq
      · simpa using hk
      · have h3 : p.1 ≤ q.1 := hx.1 q.1 (List.mem_map_of_mem hq)
        simp; omega
def cO (ks : List (Int × Bool)) : Nat := ks.countP fun p => !p.2
def cT (ks : List (Int × Bool)) : Nat := ks.countP fun p => p.2
theorem cO_filter (ks : List (Int × Bool)) (key : Int) : cO (ks.filter fun p => decide (p.1 < key)) = rk (ownL ks) key := by
  induction ks with
  | nil => rfl
  | cons p ks ih =>
    obtain ⟨k, s⟩ := p
    unfold cO rk ownL at *
    rw [List.filter_cons, List.filterMap_cons]
    cases s <;> by_cases hk : k < key <;> simp [hk, ih]
theorem cT_filter (ks : List (Int × Bool)) (key : Int) : cT (ks.filter fun p => decide (p.1 < key)) = rk (takL ks) key := by
  induction ks with
  | nil => rfl
  | cons p ks ih =>
    obtain ⟨k, s⟩ := p
    unfold cT rk takL at *
    rw [List.filter_cons, List.filterMap_cons]
    cases s <;> by_cases hk : k < key <;> simp [hk, ih]
/-- The entries of an augmented list, the end too. -/
def entP (ks : List (Int × Bool)) : List Tri := (List.range ks.length).map fun i => ((ks.getD i (0, false)).1, (cO (ks.take i) : Int), (cT (ks.take i) : Int))
def entL (ks : List (Int × Bool)) : List Tri := entP ks ++ [(0, (cO ks : Int), (cT ks : Int))]
theorem entP_len (ks : List (Int × Bool)) : (entP ks).length = ks.length := by simp [entP]
theorem entL_len (ks : List (Int × Bool)) : (entL ks).length = ks.length + 1 := by simp [entL, entP_len]
theorem entP_snoc (ks : List (Int × Bool)) (k : Int) (s : Bool) : entP (ks ++ [(k, s)]) = entP ks ++ [(k, (cO ks : Int), (cT ks : Int))] := by
  unfold entP
  rw [show (ks ++ [(k, s)]).length = ks.length + 1 by simp, List.range_succ, List.map_append]
  congr 1
  · apply List.map_congr_left
    intro i hi
    have hi' : i < ks.length := by simpa using hi
    rw [List.getD_eq_getElem?_getD, List.getElem?_append_left hi', ← List.getD_eq_getElem?_getD, List.take_append_of_le_length (by omega)]
  · simp
theorem entL_get (ks : List (Int × Bool)) {i : Nat} (h : i ≤ ks.length) : ∃ k, (entL ks)[i]? = some (k, (cO (ks.take i) : Int), (cT (ks.take i) : Int)) ∧ (i < ks.length → k = (keyL ks).getD i 0) := by
  unfold entL
  by_cases hi : i < ks.length
  · refine ⟨(ks.getD i (0, false)).1, ?_, fun _ => ?_⟩
    · rw [List.getElem?_append_left (by rw [entP_len]; exact hi)]
      simp [entP, hi]
    · simp [keyL, List.getD_eq_getElem?_getD, hi]
  · have : i = ks.length := by omega
    subst this
    exact ⟨0, by rw [List.getElem?_append_right (by rw [entP_len]; omega), entP_len]; simp, fun h => absurd h hi⟩

/-- The augmented lists. -/
def augK : List (List Int) → List (List (Int × Bool))
  | [] => []
  | l :: r => mergeB l (oddL (keyL ((augK r).headD []))) :: augK r
theorem augK_len (L : List (List Int)) : (augK L).length = L.length := by
  induction L with
  | nil => rfl
  | cons l r ih => simp [augK, ih]
theorem augK_asc {L : List (List Int)} (h : ∀ l ∈ L, Asc l) : ∀ ks ∈ augK L, Asc (keyL ks) := by
  induction L with
  | nil => intro ks hk; cases hk
  | cons l r ih =>
    have ih' := ih (fun l hl => h l (by simp [hl]))
    intro ks hk
    rcases List.mem_cons.1 hk with rfl | hk
    · refine merge_asc (h l (by simp)) (List.Pairwise.sublist (oddL_sub _) ?_)
      cases hr : augK r with
      | nil => exact List.Pairwise.nil
      | cons k0 kr => exact ih' k0 (by rw [hr]; simp)
    · exact ih' ks hk

end Go.Proofs.Ytglonedhcljdoaa
