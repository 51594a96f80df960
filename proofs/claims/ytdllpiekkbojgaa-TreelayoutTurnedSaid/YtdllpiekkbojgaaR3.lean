/- slices.Reverse; the paths. -/
import Derived.Test.YtdllpiekkbojgaaR2
namespace Go.Proofs.Ytdllpiekkbojgaa
open Go.RowKit

/-- xs with the first k and the last k elements exchanged. -/
def swaps (xs : List Int) (k : Nat) : List Int := (List.range xs.length).map fun i => if i < k ∨ xs.length < i + k + 1 then xs.getD (xs.length - 1 - i) 0 else xs.getD i 0
theorem swaps_len (xs : List Int) (k : Nat) : (swaps xs k).length = xs.length := by simp [swaps]
theorem swaps_get (xs : List Int) (k i : Nat) (h : i < xs.length) : (swaps xs k)[i]? = some (if i < k ∨ xs.length < i + k + 1 then xs.getD (xs.length - 1 - i) 0 else xs.getD i 0) := by
  simp [swaps, h]
theorem swaps_zero (xs : List Int) : swaps xs 0 = xs := by
  apply List.ext_getElem?
  intro i
  by_cases h : i < xs.length
  · rw [swaps_get xs 0 i h, if_neg (by omega)]; simp [h]
  · rw [List.getElem?_eq_none (by rw [swaps_len]; omega), List.getElem?_eq_none (by omega)]
theorem swaps_end (xs : List Int) (k : Nat) (h : xs.length ≤ 2 * k + 1) : swaps xs k = xs.reverse := by
  apply List.ext_getElem?
  intro i
  by_cases hi : i < xs.length
  · rw [swaps_get xs k i hi]
    by_cases h2 : i < k ∨ xs.length < i + k + 1
    · rw [if_pos h2, List.getElem?_reverse hi]; simp [show xs.length - 1 - i < xs.length by omega]
    · rw [if_neg h2, List.getElem?_reverse hi, show xs.length - 1 - i = i by omega]; simp [hi]
  · rw [List.getElem?_eq_none (by rw [swaps_len]; omega), List.getElem?_eq_none (by simp; omega)]
theorem swaps_succ (xs : List Int) (k : Nat) (h : 2 * k + 1 < xs.length) (x y : Int) (hx : (swaps xs k)[k]? = some x) (hy : (swaps xs k)[xs.length - 1 - k]? = some y) :
    swaps xs (k + 1) = ((swaps xs k).set k y).set (xs.length - 1 - k) x := by
  rw [swaps_get xs k k (by omega), if_neg (by omega)] at hx
  rw [swaps_get xs k _ (by omega), if_neg (by omega)] at hy
  simp only [Option.some.injEq] at hx hy
  apply List.ext_getElem?
  intro i
  by_cases hi : i < xs.length
  · rw [swaps_get xs (k + 1) i hi, List.getElem?_set, List.getElem?_set, swaps_len, List.length_set, swaps_len]
    by_cases e1 : xs.length - 1 - k = i
    · subst e1
      rw [if_pos rfl, if_pos hi, if_pos (by omega), ← hx]
      congr 1
      rw [show xs.length - 1 - (xs.length - 1 - k) = k by omega]
    · rw [if_neg e1]
      by_cases e2 : k = i
      · subst e2
        rw [if_pos rfl, if_pos hi, if_pos (by omega), ← hy]
      · rw [if_neg e2, swaps_get xs k i hi]
        by_cases e3 : i < k ∨ xs.length < i + k + 1
        · rw [if_pos e3, if_pos (by omega)]
        · rw [if_neg e3, if_neg (by omega)]
  · rw [List.getElem?_eq_none (by rw [swaps_len]; omega), List.getElem?_eq_none (by simp [swaps_len]; omega)]
theorem swaps_succ' (xs : List Int) (k : Nat) (h : 2 * k + 1 < xs.length) (x y : Int) (hx : (swaps xs k)[k]? = some x) (hy : (swaps xs k)[xs.length - 1 - k]? = some y) :
    swaps xs (k + 1) = ((swaps xs k).set (xs.length - 1 - k) x).set k y := by
  rw [swaps_succ xs k h x y hx hy, List.set_comm _ _ (by omega)]

set_option maxHeartbeats 1000000 in
theorem Reverse_any (B : Nat) (a : Option Addr) (n c : Nat) (xs : List Int) (w : World) (h : Own w B 3 a n c (ints xs)) :
    Calls Try.prog 35 #[.slice a n c] w fun e w' => e = .returned (.tuple #[]) ∧ Own w' B 3 a n c (ints xs.reverse) ∧ Fr (onBlk a) w w' := by
  have hxl : xs.length = n := by simpa using h.len
  have hm1 := h.rd.max
  have Hx := Lib.hid hxl
  clear hxl
  have H := Lib.hid h
  clear h
  go_enter Try.func35, Try.ntmps35
  go_wp2_with fail
  go_loopw [2, 3] (fun i j wr => ∃ k : Nat, 2 * k ≤ n ∧ i = .int .i64 k ∧ j = .int .i64 ((n : Int) - 1 - k) ∧ Own wr B 3 a n c (ints (swaps xs k)) ∧ Fr (onBlk a) w wr) (fun i _ _ => n - (intOf i).toNat)
  case atStart => exact ⟨0, by omega, rfl, by go_num, by rw [swaps_zero]; exact H.out, Fr.refl _ _⟩
  case round =>
    obtain ⟨k, hk, rfl, rfl, hO, F2⟩ := hrel
    by_cases hlt : 2 * k + 1 < n
    · have hx1 := Hx.out
      obtain ⟨x, hx⟩ : ∃ x, (swaps xs k)[k]? = some x := ⟨_, swaps_get xs k k (by omega)⟩
      obtain ⟨y, hy⟩ : ∃ y, (swaps xs k)[xs.length - 1 - k]? = some y := ⟨_, swaps_get xs k _ (by omega)⟩
      have s1 := Lib.hid (swaps_succ xs k (by omega) x y hx hy)
      have s2 := Lib.hid (swaps_succ' xs k (by omega) x y hx hy)
      obtain ⟨g, hg, hB, hgs, hc, hf⟩ := hO.at (by omega)
      have d1 := hc k (.int .i64 x) (by simp [hx])
      have d2 := hc (n - 1 - k) (.int .i64 y) (by rw [← hx1]; simp [hy])
      have f1 := hf k
      have f2 := hf (n - 1 - k)
      obtain ⟨j, hj⟩ : ∃ j, j = n - 1 - k := ⟨_, rfl⟩
      have hji : ((n : Int) - 1 - k) = (j : Int) := by omega
      have hjk : k < j := by omega
      have hjn : j < n := by omega
      rw [← hj] at d2 f2
      rw [hx1, ← hj] at s1 s2
      simp only [hji]
      replace hO := Lib.hid hO
      replace F2 := Lib.hid F2
      have Hj := Lib.hid hj
      clear hc hf hx hy hx1 hj hji
      subst hg
      go_wp2_with fail
      go_region
      all_goals go_wp2_with fail
      go_roundw
      case rel =>
        refine ⟨k + 1, by have := Hj.out; omega, by go_num, by have := Hj.out; go_num, ?_, ?_⟩
        · rw [s1.out]
          have h := ((hO.out.set (i := k) (.int .i64 y)).set (i := j) (.int .i64 x)).drew
          simpa [List.map_set] using h
        · exact ((F2.out.setOn _ _).setOn _ _).drew
      case measure => simp [intOf]; omega
    · replace hO := Lib.hid hO
      replace F2 := Lib.hid F2
      go_wp2_with fail
      go_end0
      refine ⟨rfl, ?_, F2.out⟩
      rw [← swaps_end xs k (by have := Hx.out; omega)]
      exact hO.out

/-- The nodes upwards from a leaf: v - 1 for v, v / 2, ... -/
def upP : Nat → Nat → List Int
  | 0, _ => []
  | f + 1, u => if u = 0 then [] else ((u : Int) - 1) :: upP f (u / 2)
theorem upP_fuel : ∀ (f f' u : Nat), u ≤ f → u ≤ f' → upP f u = upP f' u := by
  intro f
  induction f with
  | zero =>
    intro f' u h h'
    have : u = 0 := by omega
    subst this
    cases f' <;> simp [upP]
  | succ f ih =>
    intro f' u h h'
    cases f' with
    | zero => have : u = 0 := by omega
              subst this; simp [upP]
    | succ f' =>
      unfold upP
      by_cases h0 : u = 0
      · simp [h0]
      · rw [if_neg h0, if_neg h0, ih f' (u / 2) (by omega) (by omega)]
def up (u : Nat) : List Int := upP u u
theorem up_zero : up 0 = [] := rfl
theorem up_pos (u : Nat) (h : 0 < u) : up u = ((u : Int) - 1) :: up (u / 2) := by
  unfold up
  cases u with
  | zero => omega
  | succ u => rw [upP, if_neg (by omega), upP_fuel u ((u + 1) / 2) _ (by omega) (Nat.le_refl _)]
/-- The path from the root to a leaf. -/
def pathL (h leaf : Nat) : List Int := (up (2 ^ (h - 1) + leaf)).reverse
theorem up_len (u : Nat) : (up u).length ≤ u := by
  induction u using Nat.strongRecOn with
  | _ u ih =>
    by_cases h : u = 0
    · subst h; simp [up_zero]
    · rw [up_pos u (by omega)]
      have := ih (u / 2) (by omega)
      simp; omega

set_option maxHeartbeats 1000000 in
theorem Path_any (h l : Nat) (hi li : Int) (w : World) (hhi : hi = h) (hli : li = l) (h1 : 1 ≤ h) (h2 : h ≤ 16) (hl : l < 2 ^ (h - 1)) :
    Calls Try.prog 13 #[.int .i64 hi, .int .i64 li] w fun e w' => ∃ a n c, e = .returned (.tuple #[.slice a n c, .int .i64 0]) ∧ Own w' w.heap.size 3 a n c (ints (pathL h l)) ∧ Fr F0 w w' := by
  subst hhi hli
  obtain ⟨m, hm⟩ : ∃ m, m = 2 ^ (h - 1) := ⟨_, rfl⟩
  have hm1 : m ≤ 65536 := by
    have := Nat.pow_le_pow_right (n := 2) (by omega) (show h - 1 ≤ 16 by omega)
    rw [hm]; simpa using this
  rw [← hm] at hl
  have W1 : Hid (wrap64 ((2 : Int) ^ (h - 1)) = (m : Int)) := Lib.hid (by
    rw [show (2 : Int) ^ (h - 1) = ((m : Nat) : Int) by subst hm; simp]
    exact IntWalk.wrap64_in _ (by omega))
  have hg : givenB 1 h 1 = true := by unfold givenB; simp; omega
  have Hm := Lib.hid hm
  clear hm
  have e1 : ((h : Int) - 1).toNat = h - 1 := by omega
  have e2 : decide ((l : Int) < 0) = false := by simp
  have e3 : decide ((m : Int) ≤ (l : Int)) = false := by simp; omega
  go_enter Try.func13, Try.ntmps13
  go_wp2_with fail
  refine (given_any _ _ _ _).mono ?_; rintro e w' ⟨rfl, rfl⟩
  obtain ⟨t, ht⟩ : ∃ t, t = m + l := ⟨_, rfl⟩
  have W2 : Hid (wrap64 ((m : Int) + (l : Int)) = (t : Int)) := Lib.hid (by rw [IntWalk.wrap64_in _ (by omega)]; omega)
  have ht2 : t ≤ 200000 := by omega
  replace ht := Lib.hid ht
  go_wp2_with fail
  all_goals simp only [W1.out, e3]
  · have hh : wrap64 ((2 : Int) ^ (h - 1)) ≤ (l : Int) := by assumption
    rw [W1.out] at hh; exfalso; omega
  · simp only [W2.out]
    go_loopw [6, 7] (fun o v wr => ∃ (u k : Nat) (a : Option Addr) (c : Nat) (xs : List Int), k + u ≤ t ∧ v = .int .i64 u ∧ o = .slice a k c ∧ Own wr w.heap.size 3 a k c (ints xs) ∧ Hid (up t = xs ++ up u) ∧ Fr F0 w wr) (fun _ v _ => (intOf v).toNat)
    case atStart => exact ⟨t, 0, none, 0, [], by omega, rfl, rfl, Own.nil _ _ _, Lib.hid rfl, Fr.refl _ _⟩
    case round =>
      obtain ⟨u, k, a, c, xs, hk, rfl, rfl, hown, hu, hnx⟩ := hrel
      have hsz := hnx.size
      by_cases hlt : 0 < u
      · have e4 := Lib.hid (up_pos u hlt)
        go_wp2_with (at_builtin; refine wpApp1 E3 hown (by omega) (by omega) (by omega) rfl rfl rfl ?_; intro a' c' w' own' fr')
        go_roundw
        case rel => exact ⟨u / 2, k + 1, a', c', xs ++ [(u : Int) - 1], by omega, by go_num, rfl, by simpa using own', Lib.hid (by rw [hu.out, e4.out]; simp), hnx.trans fr' (fun k hk hs => absurd (hown.blk _ hs).1 (by omega))⟩
        case measure => simp [intOf]; omega
      · have h0 : u = 0 := by omega
        subst h0
        go_wp2_with fail
        refine (Reverse_any _ _ _ _ _ _ hown).mono ?_; rintro e w2 ⟨rfl, hO2, F2⟩
        replace hO2 := Lib.hid hO2
        replace F2 := Lib.hid F2
        go_wp2_with fail
        go_ret2
        refine ⟨_, _, _, rfl, ?_, hnx.trans F2.out (fun k hk hs => absurd (hown.blk _ hs).1 (by omega))⟩
        have e5 : pathL h l = xs.reverse := by unfold pathL; rw [← Hm.out, ← ht.out, hu.out, up_zero, List.append_nil]
        rw [e5]
        exact hO2.out

theorem Path_bad (hi li : Int) (w : World) (hb : hi < 1 ∨ 16 < hi ∨ li < 0 ∨ (1 ≤ hi ∧ hi ≤ 16 ∧ ((2 ^ (hi.toNat - 1) : Nat) : Int) ≤ li)) :
    Calls Try.prog 13 #[.int .i64 hi, .int .i64 li] w fun e w' => e = .returned (.tuple #[.slice none 0 0, .int .i64 2]) ∧ w = w' := by
  by_cases hg : givenB 1 hi 1 = true
  · have h1 : 1 ≤ hi ∧ hi ≤ 16 := by simp [givenB] at hg; omega
    obtain ⟨h, rfl⟩ := Int.eq_ofNat_of_zero_le (show 0 ≤ hi by omega)
    obtain ⟨m, hm⟩ : ∃ m, m = 2 ^ (h - 1) := ⟨_, rfl⟩
    have hm1 : m ≤ 65536 := by
      have := Nat.pow_le_pow_right (n := 2) (by omega) (show h - 1 ≤ 16 by omega)
      rw [hm]; simpa using this
    have W1 : Hid (wrap64 ((2 : Int) ^ (h - 1)) = (m : Int)) := Lib.hid (by
      rw [show (2 : Int) ^ (h - 1) = ((m : Nat) : Int) by subst hm; simp]
      exact IntWalk.wrap64_in _ (by omega))
    have e1 : ((h : Int) - 1).toNat = h - 1 := by omega
    have hb2 : li < 0 ∨ (m : Int) ≤ li := by
      rw [show (h : Int).toNat - 1 = h - 1 by omega, ← hm] at hb
      omega
    clear hb hm
    by_cases hl : li < 0
    · go_enter Try.func13, Try.ntmps13
      go_wp2_with fail
      refine (given_any _ _ _ _).mono ?_; rintro e w' ⟨rfl, rfl⟩
      go_wp2_with fail
      go_ret2
      exact ⟨rfl, rfl⟩
    · go_enter Try.func13, Try.ntmps13
      go_wp2_with fail
      refine (given_any _ _ _ _).mono ?_; rintro e w' ⟨rfl, rfl⟩
      go_wp2_with fail
      all_goals simp only [W1.out]
      · go_ret2
        exact ⟨rfl, rfl⟩
      · have hh : 0 ≤ li ∧ li < wrap64 ((2 : Int) ^ (h - 1)) := by assumption
        rw [W1.out] at hh; exfalso; omega
  · have hg' : givenB 1 hi 1 = false := by simpa using hg
    clear hb hg
    go_enter Try.func13, Try.ntmps13
    go_wp2_with fail
    refine (given_any _ _ _ _).mono ?_; rintro e w' ⟨rfl, rfl⟩
    go_wp2_with fail
    go_ret2
    exact ⟨rfl, rfl⟩

end Go.Proofs.Ytdllpiekkbojgaa
