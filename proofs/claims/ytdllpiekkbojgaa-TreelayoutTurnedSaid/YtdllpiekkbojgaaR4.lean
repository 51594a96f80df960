/- The reference's Path; awake, right, outside. -/
import Derived.Test.YtdllpiekkbojgaaR3
namespace Go.Proofs.Ytdllpiekkbojgaa
open Go.RowKit

set_option maxHeartbeats 1000000 in
theorem refPath_any (h l : Nat) (hi li : Int) (w : World) (hhi : hi = h) (hli : li = l) (h1 : 1 ≤ h) (h2 : h ≤ 16) (hl : l < 2 ^ (h - 1)) :
    Calls Try.prog 16 #[.int .i64 hi, .int .i64 li] w fun e w' => ∃ a n c, e = .returned (.slice a n c) ∧ Own w' w.heap.size 3 a n c (ints (pathL h l)) ∧ Fr F0 w w' := by
  subst hhi hli
  obtain ⟨m, hm⟩ : ∃ m, m = cnt (h - 1) := ⟨_, rfl⟩
  have hp : (1 : Nat) ≤ 2 ^ (h - 1) := Nat.one_le_two_pow
  have hm1 : m ≤ 65535 := by rw [hm]; exact cnt_le (by omega)
  have hm2 : 2 ^ (h - 1) = m + 1 := by rw [hm]; unfold cnt; omega
  rw [hm2] at hl
  have Hc : ∀ w, Calls Try.prog 14 #[.int .i64 ((h : Int) - 1)] w fun e w' => e = .returned (.int .i64 m) ∧ w = w' := fun w => by
    have := Count_any (h - 1) ((h : Int) - 1) w (by omega) (by omega); rw [← hm] at this; exact this
  replace Hc := Lib.hid Hc
  obtain ⟨t, ht⟩ : ∃ t, t = m + l := ⟨_, rfl⟩
  have E1 : Hid (pathL h l = (up (t + 1)).reverse) := Lib.hid (by unfold pathL; rw [hm2, ht, Nat.add_right_comm])
  have e2 : ((m : Int) + (l : Int)) = (t : Int) := by omega
  have ht2 : t ≤ 200000 := by omega
  clear hp hm2 hm ht
  go_enter Try.func16, Try.ntmps16
  go_wp2_with fail
  refine (Hc.out _).mono ?_; rintro e w' ⟨rfl, rfl⟩
  go_wp2_with fail
  replace e2 := Lib.hid e2
  go_loopw [5, 6] (fun v o wr => ∃ (u k : Nat) (a : Option Addr) (c : Nat) (xs : List Int), k + u ≤ t ∧ v = .int .i64 u ∧ o = .slice a k c ∧ Own wr w.heap.size 3 a k c (ints xs) ∧ Hid (up (t + 1) = xs ++ up (u + 1)) ∧ Fr F0 w wr) (fun v _ _ => (intOf v).toNat)
  case atStart => exact ⟨t, 0, none, 0, [], by omega, rfl, rfl, Own.nil _ _ _, Lib.hid rfl, Fr.refl _ _⟩
  case round =>
    obtain ⟨u, k, a, c, xs, hk, rfl, rfl, hown, hu, hnx⟩ := hrel
    have hsz := hnx.size
    by_cases hlt : 0 < u
    · have e4 := Lib.hid (up_pos (u + 1) (by omega))
      go_wp2_with (at_builtin; refine wpApp1 E3 hown (by omega) (by omega) (by omega) rfl rfl rfl ?_; intro a' c' w' own' fr')
      go_roundw
      case rel => exact ⟨(u - 1) / 2, k + 1, a', c', xs ++ [(u : Int)], by omega, by go_num, rfl, by simpa using own', Lib.hid (by rw [hu.out, e4.out, show (u + 1) / 2 = (u - 1) / 2 + 1 by omega]; simp), hnx.trans fr' (fun k hk hs => absurd (hown.blk _ hs).1 (by omega))⟩
      case measure => simp [intOf]; omega
    · have h0 : u = 0 := by omega
      subst h0
      have E5 : Hid (pathL h l = 0 :: xs.reverse) := Lib.hid (by rw [E1.out, hu.out, up_pos 1 (by omega)]; simp [up_zero])
      have hxl : Hid (xs.length = k) := Lib.hid (by simpa using hown.len)
      have hlt1 := hown.blk
      have hrd := hown.rd
      have hO2 : Own (wr.alloc (.cells #[.int .i64 0] 3)) wr.heap.size 3 (some ⟨wr.heap.size, 0, none⟩) 1 1 (ints [0]) := Own.lit [.int .i64 0] 1 rfl (by omega) (by omega)
      have hF2 : Fr F0 wr (wr.alloc (.cells #[.int .i64 0] 3)) := (Fr.refl _ _).alloc _
      replace hlt1 := Lib.hid hlt1
      replace hO2 := Lib.hid hO2
      replace hF2 := Lib.hid hF2
      replace hnx := Lib.hid hnx
      clear hown
      obtain ⟨wo, rfl⟩ : ∃ wo : World, wo = wr := ⟨_, rfl⟩
      rw [show ((0 : Nat) : Int) = 0 from rfl]
      go_wp2_with fail
      go_loopw [7, 8] (fun o i wr => ∃ (j : Nat) (a2 : Option Addr) (c2 : Nat), j ≤ k ∧ i = .int .i64 ((j : Int) - 1) ∧ o = .slice a2 (k - j + 1) c2 ∧ Own wr wo.heap.size 3 a2 (k - j + 1) c2 (ints (0 :: (xs.drop j).reverse)) ∧ Fr F0 wo wr) (fun _ i _ => (intOf i + 1).toNat)
      case atStart => exact ⟨k, some ⟨wo.heap.size, 0, none⟩, 1, by omega, rfl, by simp, by rw [List.drop_of_length_le (by rw [hxl.out]; omega), Nat.sub_self]; exact hO2.out, hF2.out⟩
      case round =>
        obtain ⟨j, a2, c2, hj, rfl, rfl, hown2, hnx2⟩ := hrel
        have hsz2 := hnx2.size
        by_cases hlt : 0 < j
        · obtain ⟨x, hx⟩ : ∃ x, xs[j - 1]? = some x := ⟨xs[j - 1]'(by rw [hxl.out]; omega), by simp [hxl.out]⟩
          obtain ⟨b, o, hb, hc⟩ := (hrd.fr0 hnx2).cells (by omega)
          subst hb
          have d := hc (j - 1) (.int .i64 x) (by simp [hx])
          obtain ⟨i, hi⟩ : ∃ i, i = j - 1 := ⟨_, rfl⟩
          have e6 : ((j : Int) - 1) = (i : Int) := by omega
          have e7 : Hid (0 :: (xs.drop i).reverse = 0 :: (xs.drop j).reverse ++ [x]) := Lib.hid (by
            rw [hi, List.drop_eq_getElem_cons (by rw [hxl.out]; omega), show j - 1 + 1 = j by omega]
            simp
            rw [List.getElem?_eq_getElem (by rw [hxl.out]; omega)] at hx
            simpa using hx)
          rw [← hi] at d
          simp only [e6]
          have hij : j = i + 1 := by omega
          subst hij
          clear hc hx hi e6
          have hin : i < k := by omega
          obtain ⟨n2, hn2⟩ : ∃ n2, n2 = k - (i + 1) + 1 := ⟨_, rfl⟩
          rw [← hn2] at hown2
          simp only [← hn2]
          have hn3 : n2 ≤ 300000 := by omega
          replace hn2 := Lib.hid hn2
          go_wp2_with (at_builtin; refine wpApp1 E3 hown2 (by omega) (by omega) (by omega) rfl rfl rfl ?_; intro a' c' w' own' fr')
          go_roundw
          case rel =>
            have e8 : k - i + 1 = n2 + 1 := by have := hn2.out; omega
            refine ⟨i, a', c', by omega, rfl, by rw [e8], ?_, hnx2.trans fr' (fun k hk hs => absurd (hown2.blk _ hs).1 (by omega))⟩
            rw [e7.out, e8]
            simpa using own'
          case measure => simp [intOf]
        · have h0 : j = 0 := by omega
          subst h0
          replace hown2 := Lib.hid hown2
          replace hnx2 := Lib.hid hnx2
          go_wp2_with fail
          go_ret
          refine ⟨_, _, _, rfl, ?_, hnx.out.trans0 hnx2.out⟩
          rw [E5.out]
          have h8 := hown2.out
          simp only [List.drop_zero] at h8
          exact Own.mono h8 hnx.out.size

def rightB (k h : Int) : Bool := decide (1 ≤ k ∧ k ≤ 4 ∧ 1 ≤ h ∧ h ≤ 10)
def outB (k h : Int) : Bool := decide (k < 1 ∨ 4 < k ∨ h < 1 ∨ 16 < h)
theorem right_any (k h : Int) (w : World) : Calls Try.prog 10 #[.int .i64 k, .int .i64 h] w fun e w' => e = .returned (.bool (rightB k h)) ∧ w = w' := by
  go_enter Try.func10, Try.ntmps10
  go_wp2
  all_goals go_ret
  all_goals refine ⟨ret_bool ?_, rfl⟩
  all_goals (unfold rightB; first | (apply Eq.symm; apply decide_eq_false; omega) | (rw [Bool.eq_iff_iff]; simp; omega))
theorem out_any (k h : Int) (w : World) : Calls Try.prog 11 #[.int .i64 k, .int .i64 h] w fun e w' => e = .returned (.bool (outB k h)) ∧ w = w' := by
  go_enter Try.func11, Try.ntmps11
  go_wp2
  all_goals go_ret
  all_goals refine ⟨ret_bool ?_, rfl⟩
  all_goals (unfold outB; first | (apply Eq.symm; apply decide_eq_true; omega) | (rw [Bool.eq_iff_iff]; simp; omega))

theorem lay44 : layS 4 4 = [0, 1, 2, 3, 6, 9, 12, 4, 5, 7, 8, 10, 11, 13, 14] := by decide +kernel

theorem awake_any (w : World) : Calls Try.prog 9 #[] w fun e w' => e = .returned (.bool true) ∧ Fr F0 w w' := by
  go_enter Try.func9, Try.ntmps9
  go_wp2_with fail
  refine (Layout_any 4 4 4 w rfl (by omega) (by omega) (by omega) (by omega)).mono ?_; rintro e w1 ⟨a, c, rfl, hO, hF⟩
  rw [show cnt 4 = 15 from rfl] at *
  replace hO := Lib.hid hO
  replace hF := Lib.hid hF
  go_wp2_with fail
  have hO2 : Own (w1.alloc (.cells (ints [0, 1, 2, 3, 6, 9, 12, 4, 5, 7, 8, 10, 11, 13, 14]).toArray 3)) w1.heap.size 3 (some ⟨w1.heap.size, 0, none⟩) 15 15 (ints [0, 1, 2, 3, 6, 9, 12, 4, 5, 7, 8, 10, 11, 13, 14]) := Own.lit _ 15 rfl (by omega) (by omega)
  replace hO2 := Lib.hid hO2
  refine (Equal_any _ _ 15 15 _ _ (layS 4 4) [0, 1, 2, 3, 6, 9, 12, 4, 5, 7, 8, 10, 11, 13, 14] _ (hO.out.alloc _).rd hO2.out.rd).mono ?_; rintro e w2 ⟨rfl, q, rfl⟩
  rw [show decide (layS 4 4 = [0, 1, 2, 3, 6, 9, 12, 4, 5, 7, 8, 10, 11, 13, 14]) = true by simp [lay44]]
  go_wp2_with fail
  go_ret
  exact ⟨rfl, (hF.out.alloc _).drewN q⟩

end Go.Proofs.Ytdllpiekkbojgaa
