/- slices.Equal at ints. -/
import Derived.Test.YtihcaemheknjbaaComAll
namespace Go.Proofs.Ytihcaemheknjbaa
open Go.RowKit

/-- slices.Equal at ints. -/
theorem Equal_any (a1 a2 : Option Addr) (n m c1 c2 : Nat) (xs ys : List Int) (w : World) (hx : Rd w a1 n (ints xs)) (hy : Rd w a2 m (ints ys)) :
    Calls Try.prog 15 #[.slice a1 n c1, .slice a2 m c2] w fun e w' => e = .returned (.bool (decide (xs = ys))) ∧ ∃ q, w' = w.drewN q := by
  have hxl : xs.length = n := by simpa using hx.len
  have hyl : ys.length = m := by simpa using hy.len
  have hm1 := hx.max
  have hm2 := hy.max
  by_cases hnm : n = m
  · subst hnm
    have Hx := Lib.hid hxl
    have Hy := Lib.hid hyl
    clear hxl hyl
    have hne : (((n : Nat) : Int) != (n : Int)) = false := by simp
    go_enter Try.func15, Try.ntmps15
    go_wp2_with fail
    go_loopw [13] (fun i wr => ∃ k : Nat, k ≤ n ∧ i = .int .i64 k ∧ xs.take k = ys.take k ∧ ∃ q, wr = w.drewN q) (fun i _ => n - (intOf i).toNat)
    case atStart => exact ⟨0, by omega, rfl, by simp, 0, rfl⟩
    case round =>
      obtain ⟨k, hk, rfl, htk, q, rfl⟩ := hrel
      replace htk := Lib.hid htk
      by_cases hlt : k < n
      · have hxl := Hx.out
        have hyl := Hy.out
        obtain ⟨x, hxk⟩ : ∃ x, xs[k]? = some x := ⟨xs[k], by simp [hxl, hlt]⟩
        obtain ⟨y, hyk⟩ : ∃ y, ys[k]? = some y := ⟨ys[k], by simp [hyl, hlt]⟩
        obtain ⟨b1, o1, rfl, hc1⟩ := hx.cells (by omega)
        obtain ⟨b2, o2, rfl, hc2⟩ := hy.cells (by omega)
        have d1 := hc1 k (.int .i64 x) (by simp [hxk])
        have d2 := hc2 k (.int .i64 y) (by simp [hyk])
        have e : xs.take (k + 1) = ys.take (k + 1) ↔ x = y := by
          rw [List.take_add_one, List.take_add_one, htk.out, hxk, hyk]; simp
        have E := Lib.hid e
        clear hc1 hc2 hxk hyk e hxl hyl
        by_cases hxy : x = y
        · subst hxy
          have hb : (x != x) = false := by simp
          go_wp2_with fail
          go_quiet (fail)
          go_wp2_with fail
          go_roundw
          case rel => exact ⟨k + 1, by omega, by go_num, E.out.2 trivial, _, rfl⟩
          case measure => simp [intOf]; omega
        · have hb : (x != y) = true := by simp [hxy]
          go_wp2_with fail
          go_quiet (fail)
          go_wp2_with fail
          go_ret
          refine ⟨ret_bool ?_, _, World.drewN_drewN _ _ _⟩
          show false = _
          rw [Eq.comm, decide_eq_false_iff_not]
          intro h
          subst h
          exact hxy (E.out.1 rfl)
      · have hkm : k = n := by omega
        subst hkm
        go_wp2_with fail
        go_ret
        refine ⟨ret_bool ?_, _, rfl⟩
        show true = _
        have h := htk.out
        rw [List.take_of_length_le (by rw [Hx.out]; omega), List.take_of_length_le (by rw [Hy.out]; omega)] at h
        simp [h]
  · have hne : (((n : Nat) : Int) != (m : Int)) = true := by simp; omega
    have H : Hid (decide (xs = ys) = false) := Lib.hid (by simp; intro h; subst h; omega)
    clear hxl hyl
    go_enter Try.func15, Try.ntmps15
    go_wp2_with fail
    go_ret
    rw [H.out]
    exact ⟨rfl, 0, rfl⟩

end Go.Proofs.Ytihcaemheknjbaa
