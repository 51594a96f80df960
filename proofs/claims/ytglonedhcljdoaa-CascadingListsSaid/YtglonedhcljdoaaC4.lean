/- The reference's merge. -/
import Derived.Test.YtglonedhcljdoaaM1
namespace Go.Proofs.Ytglonedhcljdoaa
open Go.RowKit

theorem merge_left {x : Int} {xs ys : List Int} (h : ys = [] ∨ ∃ y r, ys = y :: r ∧ ¬ y < x) : mergeB (x :: xs) ys = (x, false) :: mergeB xs ys := by
  rcases h with rfl | ⟨y, r, rfl, h⟩
  · rw [mergeB]
  · rw [mergeB, if_neg h]
theorem merge_right {y : Int} {xs ys : List Int} (h : xs = [] ∨ ∃ x r, xs = x :: r ∧ y < x) : mergeB xs (y :: ys) = (y, true) :: mergeB xs ys := by
  rcases h with rfl | ⟨x, r, rfl, h⟩
  · rw [mergeB]; simp [mergeB]
  · rw [mergeB, if_pos h]
theorem drop_cons {xs : List Int} {i : Nat} {x : Int} (h : xs[i]? = some x) : xs.drop i = x :: xs.drop (i + 1) := by
  have hl := (List.getElem?_eq_some_iff.1 h).1
  rw [List.drop_eq_getElem_cons hl, (List.getElem?_eq_some_iff.1 h).2]
set_option maxHeartbeats 2000000 in
theorem refMerge_any (a : Option Addr) (n ca : Nat) (xs : List Int) (b : Option Addr) (m cb : Nat) (ys : List Int) (w : World) (hx : Rd w a n (ints xs)) (hy : Rd w b m (ints ys)) (hn : n ≤ 100000) (hm : m ≤ 100000) :
    Calls Try.prog 31 #[.slice a n ca, .slice b m cb] w fun e w' => ∃ a' c', e = .returned (.slice a' (n + m) c') ∧ Own w' w.heap.size 3 a' (n + m) c' (ints (keyL (mergeB xs ys))) ∧ Fr F0 w w' := by
  have hxl : xs.length = n := by simpa using hx.len
  have hyl : ys.length = m := by simpa using hy.len
  have Hx := Lib.hid hxl
  have Hy := Lib.hid hyl
  clear hxl hyl
  go_enter Try.func31, Try.ntmps31
  go_wp2_with fail
  go_loopw [5, 6, 7] (fun s p q wr => ∃ (i k : Nat) (a1 : Option Addr) (u c1 : Nat) (out : List Int), i ≤ n ∧ k ≤ m ∧ u = i + k ∧ s = .slice a1 u c1 ∧ p = .int .i64 i ∧ q = .int .i64 k ∧ Own wr w.heap.size 3 a1 u c1 (ints out) ∧ Hid (keyL (mergeB xs ys) = out ++ keyL (mergeB (xs.drop i) (ys.drop k))) ∧ Fr F0 w wr) (fun _ p q _ => n + m - (intOf p).toNat - (intOf q).toNat)
  case atStart => exact ⟨0, 0, none, 0, 0, [], by omega, by omega, rfl, rfl, rfl, rfl, Own.nil _ _ _, Lib.hid (by simp), Fr.refl _ _⟩
  case round =>
    obtain ⟨i, k, a1, u, c1, out, hi, hk, hu, rfl, rfl, rfl, hO, hE, hF⟩ := hrel
    have bO := Lib.hid hO.blk
    have hsz := hF.size
    have hub : u ≤ 200000 := by omega
    have Hu := Lib.hid hu
    clear hu
    by_cases hin : i < n
    · obtain ⟨g, o, x, hg, hxi, hcx⟩ := (hx.fr0 hF).ix hin
      have ex := Lib.hid (drop_cons hxi)
      have i1 : (0 : Int) ≤ (i : Int) := by omega
      have i2 : (i : Int) < (n : Int) := by omega
      subst hg
      clear hxi
      by_cases hkm : k < m
      · obtain ⟨g2, o2, y, hg2, hyk, hcy⟩ := (hy.fr0 hF).ix hkm
        have ey := Lib.hid (drop_cons hyk)
        have j1 : (0 : Int) ≤ (k : Int) := by omega
        have j2 : (k : Int) < (m : Int) := by omega
        subst hg2
        clear hyk
        have dn : decide (i < n) = true := by simp; omega
        have dm : decide (k < m) = true := by simp; omega
        have dn' : decide ((i : Int) < (n : Int)) = true := by simp; omega
        have dm' : decide ((k : Int) < (m : Int)) = true := by simp; omega
        have dk : decide (m ≤ k) = false := by simp; omega
        have dk' : decide ((m : Int) ≤ (k : Int)) = false := by simp; omega
        by_cases hxy : x ≤ y
        · have dx : decide (x ≤ y) = true := by simpa using hxy
          have hE2 : Hid (keyL (mergeB xs ys) = (out ++ [x]) ++ keyL (mergeB (xs.drop (i + 1)) (ys.drop k))) := Lib.hid (by
            rw [hE.out, ex.out, merge_left (.inr ⟨y, _, ey.out, by omega⟩)]; simp)
          replace hxy := Lib.hid hxy
          go_wp2_with fail
          go_quiet (fail)
          replace hO := hO.fr0 ((Fr.refl F0 wr).drewN nq)
          have hcx2 := ((Fr.refl F0 wr).drewN nq).cell hcx id
          have hF0 := hF.drewN nq
          go_wp2_with (at_builtin; refine wpAppAt E3 hO (by omega) (by omega) (by simp; omega) rfl rfl (by first | rfl | (show Value.slice (some ⟨wr.heap.size, 0, none⟩) 1 1 = _; simp)) ?_; intro a' c' w' own' fr' at')
          have hF2 : Fr F0 w w' := hF0.trans fr' (fun k hk hs => absurd (bO.out _ hs).1 (by omega))
          replace at' := Lib.hid at'
          clear fr' hF0
          go_roundw
          case rel => exact ⟨i + 1, k, a', u + 1, c', out ++ [x], by omega, by omega, by have := Hu.out; omega, rfl, by go_num, rfl, by simpa using own', hE2, hF2⟩
          case measure => simp [intOf]; omega
        · have dx : decide (x ≤ y) = false := by simpa using hxy
          have hE2 : Hid (keyL (mergeB xs ys) = (out ++ [y]) ++ keyL (mergeB (xs.drop i) (ys.drop (k + 1)))) := Lib.hid (by
            rw [hE.out, ey.out, merge_right (.inr ⟨x, _, ex.out, by omega⟩)]; simp)
          replace hxy := Lib.hid hxy
          go_wp2_with fail
          go_quiet (fail)
          replace hO := hO.fr0 ((Fr.refl F0 wr).drewN nq)
          have hcy2 := ((Fr.refl F0 wr).drewN nq).cell hcy id
          have hF0 := hF.drewN nq
          go_wp2_with (at_builtin; refine wpAppAt E3 hO (by omega) (by omega) (by simp; omega) rfl rfl (by first | rfl | (show Value.slice (some ⟨wr.heap.size, 0, none⟩) 1 1 = _; simp)) ?_; intro a' c' w' own' fr' at')
          have hF2 : Fr F0 w w' := hF0.trans fr' (fun k hk hs => absurd (bO.out _ hs).1 (by omega))
          replace at' := Lib.hid at'
          clear fr' hF0
          go_roundw
          case rel => exact ⟨i, k + 1, a', u + 1, c', out ++ [y], by omega, by omega, by have := Hu.out; omega, rfl, rfl, by go_num, by simpa using own', hE2, hF2⟩
          case measure => simp [intOf]; omega
      · have eyn : ys.drop k = [] := List.drop_eq_nil_of_le (by have := Hy.out; omega)
        have dn : decide (i < n) = true := by simp; omega
        have dm : decide (k < m) = false := by simp; omega
        have dn' : decide ((i : Int) < (n : Int)) = true := by simp; omega
        have dm' : decide ((k : Int) < (m : Int)) = false := by simp; omega
        have dk : decide (m ≤ k) = true := by simp; omega
        have dk' : decide ((m : Int) ≤ (k : Int)) = true := by simp; omega
        have hE2 : Hid (keyL (mergeB xs ys) = (out ++ [x]) ++ keyL (mergeB (xs.drop (i + 1)) (ys.drop k))) := Lib.hid (by
          rw [hE.out, ex.out, merge_left (.inl eyn)]; simp)
        clear eyn
        go_wp2_with fail
        go_quiet (fail)
        replace hO := hO.fr0 ((Fr.refl F0 wr).drewN nq)
        have hcx2 := ((Fr.refl F0 wr).drewN nq).cell hcx id
        have hF0 := hF.drewN nq
        go_wp2_with (at_builtin; refine wpAppAt E3 hO (by omega) (by omega) (by simp; omega) rfl rfl (by first | rfl | (show Value.slice (some ⟨wr.heap.size, 0, none⟩) 1 1 = _; simp)) ?_; intro a' c' w' own' fr' at')
        have hF2 : Fr F0 w w' := hF0.trans fr' (fun k hk hs => absurd (bO.out _ hs).1 (by omega))
        replace at' := Lib.hid at'
        clear fr' hF0
        go_roundw
        case rel => exact ⟨i + 1, k, a', u + 1, c', out ++ [x], by omega, by omega, by have := Hu.out; omega, rfl, by go_num, rfl, by simpa using own', hE2, hF2⟩
        case measure => simp [intOf]; omega
    · by_cases hkm : k < m
      · obtain ⟨g2, o2, y, hg2, hyk, hcy⟩ := (hy.fr0 hF).ix hkm
        have ey := Lib.hid (drop_cons hyk)
        have j1 : (0 : Int) ≤ (k : Int) := by omega
        have j2 : (k : Int) < (m : Int) := by omega
        subst hg2
        have exn : xs.drop i = [] := List.drop_eq_nil_of_le (by have := Hx.out; omega)
        clear hyk
        have dn : decide (i < n) = false := by simp; omega
        have dm : decide (k < m) = true := by simp; omega
        have dn' : decide ((i : Int) < (n : Int)) = false := by simp; omega
        have dm' : decide ((k : Int) < (m : Int)) = true := by simp; omega
        have dk : decide (m ≤ k) = false := by simp; omega
        have dk' : decide ((m : Int) ≤ (k : Int)) = false := by simp; omega
        have hE2 : Hid (keyL (mergeB xs ys) = (out ++ [y]) ++ keyL (mergeB (xs.drop i) (ys.drop (k + 1)))) := Lib.hid (by
          rw [hE.out, ey.out, merge_right (.inl exn)]; simp)
        clear exn
        go_wp2_with fail
        go_quiet (fail)
        replace hO := hO.fr0 ((Fr.refl F0 wr).drewN nq)
        have hcy2 := ((Fr.refl F0 wr).drewN nq).cell hcy id
        have hF0 := hF.drewN nq
        go_wp2_with (at_builtin; refine wpAppAt E3 hO (by omega) (by omega) (by simp; omega) rfl rfl (by first | rfl | (show Value.slice (some ⟨wr.heap.size, 0, none⟩) 1 1 = _; simp)) ?_; intro a' c' w' own' fr' at')
        have hF2 : Fr F0 w w' := hF0.trans fr' (fun k hk hs => absurd (bO.out _ hs).1 (by omega))
        replace at' := Lib.hid at'
        clear fr' hF0
        go_roundw
        case rel => exact ⟨i, k + 1, a', u + 1, c', out ++ [y], by omega, by omega, by have := Hu.out; omega, rfl, rfl, by go_num, by simpa using own', hE2, hF2⟩
        case measure => simp [intOf]; omega
      · have hi' : i = n := by omega
        have hk' : k = m := by omega
        have he : Hid (keyL (mergeB xs ys) = out) := Lib.hid (by
          rw [hE.out, List.drop_eq_nil_of_le (by have := Hx.out; omega), List.drop_eq_nil_of_le (by have := Hy.out; omega)]
          simp [mergeB])
        have hu' : u = n + m := by have := Hu.out; omega
        have dn : decide (i < n) = false := by simp; omega
        have dm : decide (k < m) = false := by simp; omega
        have dn' : decide ((i : Int) < (n : Int)) = false := by simp; omega
        have dm' : decide ((k : Int) < (m : Int)) = false := by simp; omega
        have dk : decide (m ≤ k) = true := by simp; omega
        have dk' : decide ((m : Int) ≤ (k : Int)) = true := by simp; omega
        replace hO := Lib.hid hO
        have Hu2 := Lib.hid hu'
        clear hi' hk' hu'
        go_wp2_with fail
        go_ret
        refine ⟨a1, c1, ret_slice rfl Hu2.out rfl, ?_, hF⟩
        rw [he.out, ← Hu2.out]; exact hO.out

end Go.Proofs.Ytglonedhcljdoaa
