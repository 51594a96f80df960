/- slices.Reverse at ints. -/
import Derived.Test.YtohblajdeicfeaaSlBase
namespace Go.Proofs.Ytohblajdeicfeaa
open Go.RowKit

/-- xs with the first k and the last k elements exchanged. -/
def swaps (xs : List Int) (k : Nat) : List Int := (List.range xs.length).map fun i => if i < k ∨ xs.length < i + k + 1 then xs.getD (xs.length - 1 - i) 0 else xs.getD i 0
theorem swaps_len (xs : List Int) (k : Nat) : (swaps xs k).length = xs.length := by simp [swaps]
theorem swaps_get (xs : List Int) (k i : Nat) (h : i < xs.length) : (swaps xs k)[i]? = some (if i < k ∨ xs.length < i + k + 1 then xs.getD (xs.length - 1 - i) 0 else xs.getD i 0) := by
  simp [swaps, h]
theorem swaps_zero (xs : List Int) : swaps xs 0 = xs := by
  apply List.ext_getElem?
  intro i
  by_cases h : i < xs.length
  · rw [swaps_get xs 0 i h, if_neg (by omega)]; simp [h]
  · rw [List.getElem?_eq_none (by rw [swaps_len]; omega), List.getElem?_eq_none (by omega)]
theorem swaps_end (xs : List Int) (k : Nat) (h : xs.length ≤ 2 * k + 1) : swaps xs k = xs.reverse := by
  apply List.ext_getElem?
  intro i
  by_cases hi : i < xs.length
  · rw [swaps_get xs k i hi]
    by_cases h2 : i < k ∨ xs.length < i + k + 1
    · rw [if_pos h2, List.getElem?_reverse hi]; simp [show xs.length - 1 - i < xs.length by omega]
    · rw [if_neg h2, List.getElem?_reverse hi, show xs.length - 1 - i = i by omega]; simp [hi]
  · rw [List.getElem?_eq_none (by rw [swaps_len]; omega), List.getElem?_eq_none (by simp; omega)]
theorem swaps_succ (xs : List Int) (k : Nat) (h : 2 * k + 1 < xs.length) (x y : Int) (hx : (swaps xs k)[k]? = some x) (hy : (swaps xs k)[xs.length - 1 - k]? = some y) :
    swaps xs (k + 1) = ((swaps xs k).set k y).set (xs.length - 1 - k) x := by
  rw [swaps_get xs k k (by omega), if_neg (by omega)] at hx
  rw [swaps_get xs k _ (by omega), if_neg (by omega)] at hy
  simp only [Option.some.injEq] at hx hy
  apply List.ext_getElem?
  intro i
  by_cases hi : i < xs.length
  · rw [swaps_get xs (k + 1) i hi, List.getElem?_set, List.getElem?_set, swaps_len, List.length_set, swaps_len]
    by_cases e1 : xs.length - 1 - k = i
    · subst e1
      rw [if_pos rfl, if_pos hi, if_pos (by omega), ← hx]
      congr 1
      rw [show xs.length - 1 - (xs.length - 1 - k) = k by omega]
    · rw [if_neg e1]
      by_cases e2 : k = i
      · subst e2
        rw [if_pos rfl, if_pos hi, if_pos (by omega), ← hy]
      · rw [if_neg e2, swaps_get xs k i hi]
        by_cases e3 : i < k ∨ xs.length < i + k + 1
        · rw [if_pos e3, if_pos (by omega)]
        · rw [if_neg e3, if_neg (by omega)]
  · rw [List.getElem?_eq_none (by rw [swaps_len]; omega), List.getElem?_eq_none (by simp [swaps_len]; omega)]
theorem swaps_succ' (xs : List Int) (k : Nat) (h : 2 * k + 1 < xs.length) (x y : Int) (hx : (swaps xs k)[k]? = some x) (hy : (swaps xs k)[xs.length - 1 - k]? = some y) :
    swaps xs (k + 1) = ((swaps xs k).set (xs.length - 1 - k) x).set k y := by
  rw [swaps_succ xs k h x y hx hy, List.set_comm _ _ (by omega)]

set_option maxHeartbeats 1000000 in
theorem Reverse_any (B : Nat) (a : Option Addr) (n c : Nat) (xs : List Int) (w : World) (h : Own w B 3 a n c (ints xs)) :
    Calls Try.prog 30 #[.slice a n c] w fun e w' => e = .returned (.tuple #[]) ∧ Own w' B 3 a n c (ints xs.reverse) ∧ Fr (onBlk a) w w' := by
  have hxl : xs.length = n := by simpa using h.len
  have hm1 := h.rd.max
  have Hx := Lib.hid hxl
  clear hxl
  have H := Lib.hid h
  clear h
  go_enter Try.func30, Try.ntmps30
  go_wp2_with fail
  go_loopw [2, 3] (fun i j wr => ∃ k : Nat, 2 * k ≤ n ∧ i = .int .i64 k ∧ j = .int .i64 ((n : Int) - 1 - k) ∧ Own wr B 3 a n c (ints (swaps xs k)) ∧ Fr (onBlk a) w wr) (fun i _ _ => n - (intOf i).toNat)
  case atStart => exact ⟨0, by omega, rfl, by go_num, by rw [swaps_zero]; exact H.out, Fr.refl _ _⟩
  case round =>
    obtain ⟨k, hk, rfl, rfl, hO, F2⟩ := hrel
    by_cases hlt : 2 * k + 1 < n
    · have hx1 := Hx.out
      obtain ⟨x, hx⟩ : ∃ x, (swaps xs k)[k]? = some x := ⟨_, swaps_get xs k k (by omega)⟩
      obtain ⟨y, hy⟩ : ∃ y, (swaps xs k)[xs.length - 1 - k]? = some y := ⟨_, swaps_get xs k _ (by omega)⟩
      have s1 := Lib.hid (swaps_succ xs k (by omega) x y hx hy)
      have s2 := Lib.hid (swaps_succ' xs k (by omega) x y hx hy)
      obtain ⟨g, hg, hB, hgs, hc, hf⟩ := hO.at (by omega)
      have d1 := hc k (.int .i64 x) (by simp [hx])
      have d2 := hc (n - 1 - k) (.int .i64 y) (by rw [← hx1]; simp [hy])
      have f1 := hf k
      have f2 := hf (n - 1 - k)
      obtain ⟨j, hj⟩ : ∃ j, j = n - 1 - k := ⟨_, rfl⟩
      have hji : ((n : Int) - 1 - k) = (j : Int) := by omega
      have hjk : k < j := by omega
      have hjn : j < n := by omega
      rw [← hj] at d2 f2
      rw [hx1, ← hj] at s1 s2
      simp only [hji]
      replace hO := Lib.hid hO
      replace F2 := Lib.hid F2
      have Hj := Lib.hid hj
      clear hc hf hx hy hx1 hj hji
      subst hg
      go_wp2_with fail
      go_region
      all_goals go_wp2_with fail
      go_roundw
      case rel =>
        refine ⟨k + 1, by have := Hj.out; omega, by go_num, by have := Hj.out; go_num, ?_, ?_⟩
        · rw [s1.out]
          have h := ((hO.out.set (i := k) (.int .i64 y)).set (i := j) (.int .i64 x)).drew
          simpa [List.map_set] using h
        · exact ((F2.out.setOn _ _).setOn _ _).drew
      case measure => simp [intOf]; omega
    · replace hO := Lib.hid hO
      replace F2 := Lib.hid F2
      go_wp2_with fail
      go_end0
      refine ⟨rfl, ?_, F2.out⟩
      rw [← swaps_end xs k (by have := Hx.out; omega)]
      exact hO.out


end Go.Proofs.Ytohblajdeicfeaa
