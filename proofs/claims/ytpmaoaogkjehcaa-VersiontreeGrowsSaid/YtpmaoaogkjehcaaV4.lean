/- The reference's path, children. -/
import Derived.Test.YtpmaoaogkjehcaaV3
namespace Go.Proofs.Ytpmaoaogkjehcaa
open Go.RowKit

theorem take_rev_succ {xs : List Int} {j i : Nat} {x : Int} (h : xs[i]? = some x) (hj : j + i + 1 = xs.length) : xs.reverse.take (j + 1) = xs.reverse.take j ++ [x] := by
  rw [List.take_add_one]
  congr 1
  rw [List.getElem?_reverse (by omega), show xs.length - 1 - j = i by omega, h]
  rfl

set_option maxHeartbeats 1000000 in
theorem refPath_any (a : Option Addr) (n c : Nat) (P : List Int) (v : Int) (w : World) (hr : Rd w a n (ints P)) (hv : validB P = true) (hv0 : 0 ≤ v) (hv1 : v < n) :
    Calls Try.prog 19 #[VA a n c, .int .i64 v] w fun e w' => ∃ a' m c', e = .returned (.slice a' m c') ∧ Own w' w.heap.size 3 a' m c' (ints (chain P v).reverse) ∧ Fr F0 w w' := by
  have hpl : P.length = n := by simpa using hr.len
  have hF : Fr F0 w (boxW w a n c) := (Fr.refl _ _).alloc _
  have hone : One (boxW w a n c) w.heap.size 24 (.slice a n c) := One.new 24 _
  obtain ⟨k0, rfl⟩ := Int.eq_ofNat_of_zero_le hv0
  have hl := (valid_len hv).2.1
  have Hpl := Lib.hid hpl
  replace hv := Lib.hid hv
  have hk0 : k0 < n := by omega
  have hn1 : n ≤ 1000 := by omega
  clear hpl hv0 hv1 hl
  go_enter Try.func19, Try.ntmps19
  go_wp2_with fail
  go_loopw [6, 5] (fun x s wr => ∃ (x1 : Int) (a1 : Option Addr) (m c1 : Nat) (xs : List Int), -1 ≤ x1 ∧ x1 < n ∧ m + (x1 + 1).toNat ≤ 1000 ∧ x = .int .i64 x1 ∧ s = .slice a1 m c1 ∧ Own wr (w.heap.size + 1) 3 a1 m c1 (ints xs) ∧ Hid (chain P k0 = xs ++ chain P x1) ∧ One wr w.heap.size 24 (.slice a n c) ∧ Fr F0 w wr) (fun x _ _ => (intOf x + 1).toNat)
  case atStart => exact ⟨k0, none, 0, 0, [], by omega, by omega, by omega, rfl, rfl, Own.nil _ _ _, Lib.hid rfl, hone, hF⟩
  case round =>
    obtain ⟨x1, a1, m, c1, xs, hx0, hx1, hm, rfl, rfl, hown, hu, hone1, hF1⟩ := hrel
    have hsz := hF1.size
    have hsz1 := hone1.lt
    by_cases hlt : 0 ≤ x1
    · obtain ⟨y, rfl⟩ := Int.eq_ofNat_of_zero_le hlt
      have hyn : y < n := by omega
      have e4 := Lib.hid (chain_pos hv.out (x := y) (by have := Hpl.out; omega))
      have e5 := valid_par hv.out (x := y) (by have := Hpl.out; omega)
      obtain ⟨b, o, z, hab, hz, hcell⟩ := (hr.fr0 hF1).ix hyn
      have ez : P.getD y 0 = z := by simp [hz]
      rw [ez] at e4 e5
      obtain ⟨e5, e6, _⟩ := e5
      replace hu := hu.out
      rw [e4.out] at hu
      replace hu := Lib.hid hu
      have hcell1 := hone1.cell
      have hb1 := hr.lt (by omega) b ⟨o, none, hab⟩
      have hnb : Hid (¬ onBlk a1 b) := Lib.hid (fun h => absurd (hown.blk _ h).1 (by omega))
      have hnw : Hid (¬ onBlk a1 w.heap.size) := Lib.hid (fun h => absurd (hown.blk _ h).1 (by omega))
      subst hab
      clear hz ez e4
      go_wp2_with (at_builtin; refine wpApp1 E3 hown (by omega) (by omega) (by omega) rfl rfl rfl ?_; intro a' c' w' own' fr'; have hone2 := hone1.fr fr' hnw.out; have hF2 : Fr F0 w w' := hF1.trans fr' (fun k hk hs => absurd (hown.blk _ hs).1 (by omega)); have hcell3 := hone2.cell; have hcell4 := fr'.cell hcell hnb.out)
      go_roundw
      case rel => exact ⟨z, a', m + 1, c', xs ++ [(y : Int)], by omega, by omega, by omega, rfl, rfl, by simpa using own', Lib.hid (by rw [hu.out]; simp), hone2, hF2⟩
      case measure => simp [intOf] <;> omega
    · have h0 : x1 = -1 := by omega
      subst h0
      have hxs : Hid (chain P k0 = xs) := Lib.hid (by rw [hu.out, chain_neg P (by omega), List.append_nil])
      have hxl := hown.lens
      clear hu
      have hm2 : m ≤ 1000 := by omega
      have hrd := hown.rd
      have hwl : ∀ k, onBlk a1 k → k < wr.heap.size := fun k h => (hown.blk k h).2
      replace hwl := Lib.hid hwl
      clear hown hm hone1
      go_wp2_with fail
      go_loopw [8, 7] (fun x s wr2 => ∃ (x1 : Int) (a2 : Option Addr) (j c2 : Nat), -1 ≤ x1 ∧ (j : Int) + x1 + 1 = m ∧ x = .int .i64 x1 ∧ s = .slice a2 j c2 ∧ Own wr2 wr.heap.size 3 a2 j c2 (ints (xs.reverse.take j)) ∧ Fr F0 wr wr2) (fun x _ _ => (intOf x + 1).toNat)
      case atStart => exact ⟨(m : Int) - 1, none, 0, 0, by omega, by omega, by go_num, rfl, Own.nil _ _ _, Fr.refl _ _⟩
      case round =>
        obtain ⟨x1, a2, j, c2, hx2, hj, rfl, rfl, hown2, hF2⟩ := hrel
        have hsz2 := hF2.size
        by_cases hlt : 0 ≤ x1
        · obtain ⟨y, rfl⟩ := Int.eq_ofNat_of_zero_le hlt
          obtain ⟨b, o, z, hab, hz, hcell⟩ := (hrd.fr0 hF2).ix (i := y) (by omega)
          have hs := Lib.hid (take_rev_succ (j := j) hz (by omega))
          subst hab
          clear hz
          go_wp2_with (at_builtin; refine wpApp1 E3 hown2 (by omega) (by omega) (by omega) rfl rfl rfl ?_; intro a' c' w' own' fr'; have hF3 := hF2.trans (S := F0) fr' (fun k hk hs => absurd (hown2.blk _ hs).1 (by omega)))
          go_roundw
          case rel => exact ⟨(y : Int) - 1, a', j + 1, c', by omega, by omega, by go_num, rfl, by rw [hs.out]; simpa using own', hF3⟩
          case measure => simp [intOf] <;> omega
        · have hjm : xs.reverse.take j = xs.reverse := List.take_of_length_le (by simp; omega)
          rw [hjm] at hown2
          replace hown2 := Lib.hid hown2
          clear hjm
          go_wp2_with fail
          go_ret
          refine ⟨_, _, _, rfl, ?_, hF1.trans0 hF2⟩
          rw [hxs.out, ← List.map_reverse]
          exact hown2.out.mono hsz

set_option maxHeartbeats 1000000 in
theorem Children_any (a : Option Addr) (n c : Nat) (P : List Int) (v : Int) (w : World) (hr : Rd w a n (ints P)) (hc : n ≤ c) :
    Calls Try.prog 12 #[VA a n c, .int .i64 v] w fun e w' => ∃ a' m c', e = .returned (.tuple #[.slice a' m c', .int .i64 (checkE P v)]) ∧ Own w' w.heap.size 3 a' m c' (ints (if checkE P v = 0 then kids P v n else [])) ∧ Fr F0 w w' := by
  have hpl : P.length = n := by simpa using hr.len
  have hF : Fr F0 w (boxW w a n c) := (Fr.refl _ _).alloc _
  have hone : One (boxW w a n c) w.heap.size 24 (.slice a n c) := One.new 24 _
  by_cases hE : checkE P v = 0
  · obtain ⟨hv, hv0, hv1⟩ := checkE_ok hE
    have hl := (valid_len hv).2.1
    have hn1 : n ≤ 1000 := by omega
    have HE := Lib.hid hE
    clear hpl hE hv hl
    go_enter Try.func12, Try.ntmps12
    go_wp2_with fail
    refine (check_any a n c P _ _ (hr.fr0 hF) hc).mono ?_; rintro e w1 ⟨rfl, F1⟩
    rw [HE.out]
    replace hone := hone.fr F1 id
    replace hF := hF.trans0 F1
    have hcell := hone.cell
    clear F1
    go_wp2_with fail
    go_loopw [19, 7] (fun x s wr => ∃ (k : Nat) (a1 : Option Addr) (m c1 : Nat), k ≤ n ∧ m ≤ k ∧ x = .int .i64 k ∧ s = .slice a1 m c1 ∧ Own wr w.heap.size 3 a1 m c1 (ints (kids P v k)) ∧ Fr F0 w wr) (fun x _ _ => n - (intOf x).toNat)
    case atStart => exact ⟨0, none, 0, 0, by omega, by omega, rfl, rfl, Own.nil _ _ _, hF⟩
    case round =>
      obtain ⟨k, a1, m, c1, hk, hm, rfl, rfl, hown, hF1⟩ := hrel
      have hsz := hF1.size
      by_cases hlt : k < n
      · obtain ⟨b, o, z, hab, hz, hcell⟩ := (hr.fr0 hF1).ix hlt
        have hs := Lib.hid (kids_succ P v k)
        have ez : P.getD k 0 = z := by simp [hz]
        rw [ez] at hs
        subst hab
        clear hz ez
        by_cases hzv : z = v
        · have hs2 : Hid (kids P v (k + 1) = kids P v k ++ [(k : Int)]) := Lib.hid (by rw [hs.out, if_pos hzv])
          subst hzv
          clear hs
          go_wp2_with (at_builtin; refine wpApp1 E3 hown (by omega) (by omega) (by omega) rfl rfl rfl ?_; intro a' c' w' own' fr'; have hF3 : Fr F0 w w' := hF1.trans fr' (fun k hk hs => absurd (hown.blk _ hs).1 (by omega)))
          go_roundw
          case rel => exact ⟨k + 1, a', m + 1, c', by omega, by omega, by go_num, rfl, by rw [hs2.out]; simpa using own', hF3⟩
          case measure => simp [intOf] <;> omega
        · have hs2 : Hid (kids P v (k + 1) = kids P v k) := Lib.hid (by rw [hs.out, if_neg hzv, List.append_nil])
          have hzb : (z == v) = false := by simpa using hzv
          clear hs
          go_wp2_with fail
          go_roundw
          case rel => exact ⟨k + 1, a1, m, c1, by omega, by omega, by go_num, rfl, by rw [hs2.out]; exact hown, hF1⟩
          case measure => simp [intOf] <;> omega
      · obtain rfl : n = k := by omega
        replace hown := Lib.hid hown
        go_wp2_with fail
        go_ret2
        exact ⟨_, _, _, rfl, hown.out, hF1⟩
  · obtain ⟨q, hq⟩ : ∃ q, q = checkE P v := ⟨_, rfl⟩
    have hq0 : q ≠ 0 := by omega
    have hz : (q != 0) = true := by simpa using hq0
    rw [← hq]
    have Hq := Lib.hid hq
    replace hq0 := Lib.hid hq0
    clear hq hE hpl
    go_enter Try.func12, Try.ntmps12
    go_wp2_with fail
    refine (check_any a n c P _ _ (hr.fr0 hF) hc).mono ?_; rintro e w1 ⟨rfl, F1⟩
    rw [← Hq.out]
    go_wp2_with fail
    go_ret2
    refine ⟨_, _, _, rfl, ?_, hF.trans0 F1⟩
    exact Own.nil _ _ _

set_option maxHeartbeats 1000000 in
theorem refChildren_any (a : Option Addr) (n c : Nat) (P : List Int) (v : Int) (w : World) (hr : Rd w a n (ints P)) (hn1 : n ≤ 1000) :
    Calls Try.prog 20 #[VA a n c, .int .i64 v] w fun e w' => ∃ a' m c', e = .returned (.slice a' m c') ∧ Own w' w.heap.size 3 a' m c' (ints (kids P v n)) ∧ Fr F0 w w' := by
  have hF : Fr F0 w (boxW w a n c) := (Fr.refl _ _).alloc _
  have hone : One (boxW w a n c) w.heap.size 24 (.slice a n c) := One.new 24 _
  go_enter Try.func20, Try.ntmps20
  go_wp2_with fail
  go_loopw [6, 5] (fun x s wr => ∃ (k : Nat) (a1 : Option Addr) (m c1 : Nat), k ≤ n ∧ m ≤ k ∧ x = .int .i64 k ∧ s = .slice a1 m c1 ∧ Own wr (w.heap.size + 1) 3 a1 m c1 (ints (kids P v k)) ∧ One wr w.heap.size 24 (.slice a n c) ∧ Fr F0 w wr) (fun x _ _ => n - (intOf x).toNat)
  case atStart => exact ⟨0, none, 0, 0, by omega, by omega, rfl, rfl, Own.nil _ _ _, hone, hF⟩
  case round =>
    obtain ⟨k, a1, m, c1, hk, hm, rfl, rfl, hown, hone1, hF1⟩ := hrel
    have hsz := hF1.size
    have hsz1 := hone1.lt
    have hcell1 := hone1.cell
    by_cases hlt : k < n
    · obtain ⟨b, o, z, hab, hz, hcell⟩ := (hr.fr0 hF1).ix hlt
      have hs := Lib.hid (kids_succ P v k)
      have ez : P.getD k 0 = z := by simp [hz]
      rw [ez] at hs
      have hnw : Hid (¬ onBlk a1 w.heap.size) := Lib.hid (fun h => absurd (hown.blk _ h).1 (by omega))
      subst hab
      clear hz ez
      by_cases hzv : z = v
      · have hs2 : Hid (kids P v (k + 1) = kids P v k ++ [(k : Int)]) := Lib.hid (by rw [hs.out, if_pos hzv])
        subst hzv
        clear hs
        go_wp2_with (at_builtin; refine wpApp1 E3 hown (by omega) (by omega) (by omega) rfl rfl rfl ?_; intro a' c' w' own' fr'; have hone2 := hone1.fr fr' hnw.out; have hF3 : Fr F0 w w' := hF1.trans fr' (fun k hk hs => absurd (hown.blk _ hs).1 (by omega)))
        go_roundw
        case rel => exact ⟨k + 1, a', m + 1, c', by omega, by omega, by go_num, rfl, by rw [hs2.out]; simpa using own', hone2, hF3⟩
        case measure => simp [intOf] <;> omega
      · have hs2 : Hid (kids P v (k + 1) = kids P v k) := Lib.hid (by rw [hs.out, if_neg hzv, List.append_nil])
        have hzb : (z == v) = false := by simpa using hzv
        clear hs
        go_wp2_with fail
        go_roundw
        case rel => exact ⟨k + 1, a1, m, c1, by omega, by omega, by go_num, rfl, by rw [hs2.out]; exact hown, hone1, hF1⟩
        case measure => simp [intOf] <;> omega
    · obtain rfl : n = k := by omega
      replace hown := Lib.hid hown
      go_wp2_with fail
      go_ret
      exact ⟨_, _, _, rfl, hown.out.mono (by omega), hF1⟩

end Go.Proofs.Ytpmaoaogkjehcaa
