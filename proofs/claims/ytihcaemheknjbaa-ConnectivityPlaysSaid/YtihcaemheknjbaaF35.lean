/- slices.Equal at bool and at [4]int. -/
import Derived.Test.YtihcaemheknjbaaComAll
import Derived.Test.YtihcaemheknjbaaF17
import Derived.ChangeKeysEq
import Derived.Laws.StructEq
namespace Go.Proofs.Ytihcaemheknjbaa
open Go.RowKit
/-- slices.Equal at bools. -/
theorem EqualB_any (a1 a2 : Option Addr) (n m c1 c2 : Nat) (xs ys : List Bool) (w : World) (hx : Rd w a1 n (bls xs)) (hy : Rd w a2 m (bls ys)) :
    Calls Try.prog 14 #[.slice a1 n c1, .slice a2 m c2] w fun e w' => e = .returned (.bool (decide (xs = ys))) ∧ ∃ q, w' = w.drewN q := by
  have hxl : xs.length = n := by simpa [bls] using hx.len
  have hyl : ys.length = m := by simpa [bls] using hy.len
  have hm1 := hx.max
  have hm2 := hy.max
  by_cases hnm : n = m
  · subst hnm
    have Hx := Lib.hid hxl
    have Hy := Lib.hid hyl
    clear hxl hyl
    have hne : (((n : Nat) : Int) != (n : Int)) = false := by simp
    go_enter Try.func14, Try.ntmps14
    go_wp2_with fail
    go_loopw [13] (fun i wr => ∃ k : Nat, k ≤ n ∧ i = .int .i64 k ∧ xs.take k = ys.take k ∧ ∃ q, wr = w.drewN q) (fun i _ => n - (intOf i).toNat)
    case atStart => exact ⟨0, by omega, rfl, by simp, 0, rfl⟩
    case round =>
      obtain ⟨k, hk, rfl, htk, q, rfl⟩ := hrel
      replace htk := Lib.hid htk
      by_cases hlt : k < n
      · have hxl := Hx.out
        have hyl := Hy.out
        obtain ⟨x, hxk⟩ : ∃ x, xs[k]? = some x := ⟨xs[k], by simp [hxl, hlt]⟩
        obtain ⟨y, hyk⟩ : ∃ y, ys[k]? = some y := ⟨ys[k], by simp [hyl, hlt]⟩
        obtain ⟨b1, o1, rfl, hc1⟩ := hx.cells (by omega)
        obtain ⟨b2, o2, rfl, hc2⟩ := hy.cells (by omega)
        have d1 := hc1 k (.bool x) (by simp [bls, hxk])
        have d2 := hc2 k (.bool y) (by simp [bls, hyk])
        have e : xs.take (k + 1) = ys.take (k + 1) ↔ x = y := by
          rw [List.take_add_one, List.take_add_one, htk.out, hxk, hyk]; simp
        have E := Lib.hid e
        clear hc1 hc2 hxk hyk e hxl hyl
        by_cases hxy : x = y
        · subst hxy
          have hb : (x != x) = false := by simp
          go_wp2_with fail
          go_quiet (fail)
          go_wp2_with fail
          go_roundw
          case rel => exact ⟨k + 1, by omega, by go_num, E.out.2 trivial, _, rfl⟩
          case measure => simp [intOf]; omega
        · cases x <;> cases y <;> (first | exact absurd rfl hxy | skip)
          all_goals
            go_wp2_with fail
            go_quiet (fail)
            go_wp2_with fail
            go_ret
            refine ⟨ret_bool ?_, _, World.drewN_drewN _ _ _⟩
            show false = _
            rw [Eq.comm, decide_eq_false_iff_not]
            intro h
            subst h
            exact hxy (E.out.1 rfl)
      · have hkm : k = n := by omega
        subst hkm
        go_wp2_with fail
        go_ret
        refine ⟨ret_bool ?_, _, rfl⟩
        show true = _
        have h := htk.out
        rw [List.take_of_length_le (by rw [Hx.out]; omega), List.take_of_length_le (by rw [Hy.out]; omega)] at h
        simp [h]
  · have hne : (((n : Nat) : Int) != (m : Int)) = true := by simp; omega
    have H : Hid (decide (xs = ys) = false) := Lib.hid (by simp; intro h; subst h; omega)
    clear hxl hyl
    go_enter Try.func14, Try.ntmps14
    go_wp2_with fail
    go_ret
    rw [H.out]
    exact ⟨rfl, 0, rfl⟩

theorem neqV (x0 x1 x2 x3 y0 y1 y2 y3 : Nat) (w : World) : (Op.equalIn 10000 41 (.agg #[.int .i64 (x0 : Int), .int .i64 (x1 : Int), .int .i64 (x2 : Int), .int .i64 (x3 : Int)]) (.agg #[.int .i64 (y0 : Int), .int .i64 (y1 : Int), .int .i64 (y2 : Int), .int .i64 (y3 : Int)])).run Try.prog w = .ok (decide ((x0, x1, x2, x3) = (y0, y1, y2, y3))) w := by
  obtain ⟨i, hi⟩ := Option.isSome_iff_exists.1 (show (Try.prog.info? 3).isSome = true by kernel_rfl)
  have u3 := Try.underlying3
  have hu : Try.prog.underlying 41 = some (.array 4 3) := by kernel_rfl
  have hc : Try.prog.cellsOf 3 = 1 := by kernel_rfl
  rw [show (10000 : Nat) = 9998 + 1 + 1 from rfl, run_equalIn_array w (9998 + 1) _ _ hu hi, hc]
  rw [show List.range 4 = [0, 1, 2, 3] from rfl]
  unfold Op.eqItems Op.eqItems Op.eqItems Op.eqItems Op.eqItems
  go_simp
  by_cases h0 : x0 = y0 <;> by_cases h1 : x1 = y1 <;> by_cases h2 : x2 = y2 <;> by_cases h3 : x3 = y3 <;> simp [h0, h1, h2, h3] <;> omega
attribute [local go_sem] neqV
theorem eqg41 : Try.prog.eqGuardType Try.prog.depth 41 = false := by kernel_rfl
attribute [local go_sem] eqg41
/-- slices.Equal at [4]int. -/
theorem EqualV_any (a1 a2 : Option Addr) (n m c1 c2 : Nat) (xs ys : List Iv) (w : World) (hx : RdZ w 4 a1 n (ivs xs)) (hy : RdZ w 4 a2 m (ivs ys)) :
    Calls Try.prog 19 #[.slice a1 n c1, .slice a2 m c2] w fun e w' => e = .returned (.bool (decide (xs = ys))) ∧ ∃ q, w' = w.drewN q := by
  have hxl : xs.length = n := by have := hx.len; rw [ivs_len] at this; omega
  have hyl : ys.length = m := by have := hy.len; rw [ivs_len] at this; omega
  have hm1 := hx.max
  have hm2 := hy.max
  by_cases hnm : n = m
  · subst hnm
    have Hx := Lib.hid hxl
    have Hy := Lib.hid hyl
    clear hxl hyl
    have hne : (((n : Nat) : Int) != (n : Int)) = false := by simp
    go_enter Try.func19, Try.ntmps19
    go_wp2_with fail
    go_loopw [13] (fun i wr => ∃ k : Nat, k ≤ n ∧ i = .int .i64 k ∧ xs.take k = ys.take k ∧ ∃ q, wr = w.drewN q) (fun i _ => n - (intOf i).toNat)
    case atStart => exact ⟨0, by omega, rfl, by simp, 0, rfl⟩
    case round =>
      obtain ⟨k, hk, rfl, htk, q, rfl⟩ := hrel
      replace htk := Lib.hid htk
      by_cases hlt : k < n
      · have hxl := Hx.out
        have hyl := Hy.out
        obtain ⟨x, hxk⟩ : ∃ x, xs[k]? = some x := ⟨xs[k], by simp [hxl, hlt]⟩
        obtain ⟨y, hyk⟩ : ∃ y, ys[k]? = some y := ⟨ys[k], by simp [hyl, hlt]⟩
        obtain ⟨b1, o1, rfl, hc1⟩ := hx.cells (by omega)
        obtain ⟨b2, o2, rfl, hc2⟩ := hy.cells (by omega)
        have d10 := hc1 _ _ (ivs_get hxk 0 (by omega))
        rw [← Nat.add_assoc] at d10
        have d11 := hc1 _ _ (ivs_get hxk 1 (by omega))
        rw [← Nat.add_assoc] at d11
        have d12 := hc1 _ _ (ivs_get hxk 2 (by omega))
        rw [← Nat.add_assoc] at d12
        have d13 := hc1 _ _ (ivs_get hxk 3 (by omega))
        rw [← Nat.add_assoc] at d13
        have d20 := hc2 _ _ (ivs_get hyk 0 (by omega))
        rw [← Nat.add_assoc] at d20
        have d21 := hc2 _ _ (ivs_get hyk 1 (by omega))
        rw [← Nat.add_assoc] at d21
        have d22 := hc2 _ _ (ivs_get hyk 2 (by omega))
        rw [← Nat.add_assoc] at d22
        have d23 := hc2 _ _ (ivs_get hyk 3 (by omega))
        rw [← Nat.add_assoc] at d23
        have e : xs.take (k + 1) = ys.take (k + 1) ↔ x = y := by
          rw [List.take_add_one, List.take_add_one, htk.out, hxk, hyk]; simp
        have E := Lib.hid e
        obtain ⟨x0, x1, x2, x3⟩ := x
        obtain ⟨y0, y1, y2, y3⟩ := y
        replace d10 : w.cell? ⟨b1, o1 + k * 4 , none⟩ = some (.int .i64 (x0 : Int)) := d10
        replace d20 : w.cell? ⟨b2, o2 + k * 4 , none⟩ = some (.int .i64 (y0 : Int)) := d20
        replace d11 : w.cell? ⟨b1, o1 + k * 4 + 1, none⟩ = some (.int .i64 (x1 : Int)) := d11
        replace d21 : w.cell? ⟨b2, o2 + k * 4 + 1, none⟩ = some (.int .i64 (y1 : Int)) := d21
        replace d12 : w.cell? ⟨b1, o1 + k * 4 + 2, none⟩ = some (.int .i64 (x2 : Int)) := d12
        replace d22 : w.cell? ⟨b2, o2 + k * 4 + 2, none⟩ = some (.int .i64 (y2 : Int)) := d22
        replace d13 : w.cell? ⟨b1, o1 + k * 4 + 3, none⟩ = some (.int .i64 (x3 : Int)) := d13
        replace d23 : w.cell? ⟨b2, o2 + k * 4 + 3, none⟩ = some (.int .i64 (y3 : Int)) := d23
        clear hc1 hc2 hxk hyk e hxl hyl
        by_cases hxy : (x0, x1, x2, x3) = (y0, y1, y2, y3)
        · obtain ⟨rfl, rfl, rfl, rfl⟩ : x0 = y0 ∧ x1 = y1 ∧ x2 = y2 ∧ x3 = y3 := by simpa using hxy
          have hb : decide ((x0, x1, x2, x3) = (x0, x1, x2, x3)) = true := decide_eq_true rfl
          go_wp2_with fail
          go_quiet (fail)
          go_wp2_with fail
          go_roundw
          case rel => exact ⟨k + 1, by omega, by go_num, E.out.2 (by simp), _, rfl⟩
          case measure => simp [intOf]; omega
        · have hb : decide ((x0, x1, x2, x3) = (y0, y1, y2, y3)) = false := decide_eq_false hxy
          go_wp2_with fail
          go_quiet (fail)
          go_wp2_with fail
          go_ret
          refine ⟨ret_bool ?_, _, World.drewN_drewN _ _ _⟩
          show false = _
          rw [Eq.comm, decide_eq_false_iff_not]
          intro h
          subst h
          exact hxy (E.out.1 rfl)
      · have hkm : k = n := by omega
        subst hkm
        go_wp2_with fail
        go_ret
        refine ⟨ret_bool ?_, _, rfl⟩
        show true = _
        have h := htk.out
        rw [List.take_of_length_le (by rw [Hx.out]; omega), List.take_of_length_le (by rw [Hy.out]; omega)] at h
        simp [h]
  · have hne : (((n : Nat) : Int) != (m : Int)) = true := by simp; omega
    have H : Hid (decide (xs = ys) = false) := Lib.hid (by simp; intro h; subst h; omega)
    clear hxl hyl
    go_enter Try.func19, Try.ntmps19
    go_wp2_with fail
    go_ret
    rw [H.out]
    exact ⟨rfl, 0, rfl⟩

end Go.Proofs.Ytihcaemheknjbaa
