/- The two closures of distances. -/
import Derived.Test.YtnlgjpcnnnilpaaM2
namespace Go.Proofs.Ytnlgjpcnnnilpaa
open Go.RowKit
attribute [local go_sem ↓] Go.wp_at_zero Go.wp_at_succ
def chkL (i : Nat) : Bool := decide (bits .and .i64 (i : Int) (-(i : Int)) = (lw i : Int))
theorem chk_low : allB (fun t => chkL (t + 1)) 201 = true := by decide +kernel
theorem and_low {i : Nat} (h0 : 1 ≤ i) (h1 : i ≤ 201) : bits .and .i64 (i : Int) (-(i : Int)) = (lw i : Int) := by
  have h := allB_get chk_low (i - 1) (by omega)
  rw [show i - 1 + 1 = i by omega] at h
  exact of_decide_eq_true h
theorem bef_fuel {sm : List Int} : ∀ (q x : Nat), x ≤ q → x ≤ 201 → bef (q + 1) sm x = bef q sm x
  | 0, x, h, _ => by
    obtain rfl : x = 0 := by omega
    simp [bef]
  | q + 1, x, h, hx => by
    by_cases h0 : 0 < x
    · have hp := lw_pos h0 hx
      have e1 : bef (q + 1 + 1) sm x = sm.getD x 0 + bef (q + 1) sm (x - lw x) := by rw [bef, if_pos h0]
      have e2 : bef (q + 1) sm x = sm.getD x 0 + bef q sm (x - lw x) := by rw [bef, if_pos h0]
      rw [e1, e2, bef_fuel q (x - lw x) (by omega) (by omega)]
    · simp [bef, h0]
theorem bef_step {sm : List Int} {q x : Nat} (h0 : 0 < x) (hq : x ≤ q) (hx : x ≤ 201) : bef q sm x = sm.getD x 0 + bef q sm (x - lw x) := by
  have hp := lw_pos h0 hx
  obtain ⟨q, rfl⟩ : ∃ q', q = q' + 1 := ⟨q - 1, by omega⟩
  rw [bef_fuel q (x - lw x) (by omega) (by omega), bef, if_pos h0]
theorem bef_0 (sm : List Int) : ∀ q, bef q sm 0 = 0
  | 0 => rfl
  | q + 1 => by rw [bef, if_neg (by omega)]
/-- No sum is greater than M, nor smaller than its opposite. -/
def Bd (sm : List Int) (M : Int) : Prop := ∀ t, -M ≤ sm.getD t 0 ∧ sm.getD t 0 ≤ M
theorem wrap_small {x : Int} (h0 : -1000000 ≤ x) (h1 : x ≤ 1000000) : wrap64 x = x := IntWalk.wrap64_in _ (by omega)
set_option maxHeartbeats 1000000 in
theorem before_any (b g n c : Nat) (sm : List Int) (i0 : Nat) (w : World) (hp : w.cell? ⟨b, 0, none⟩ = some (.slice (some ⟨g, 0, none⟩) n c)) (hr : Rd w (some ⟨g, 0, none⟩) n (ints sm)) (hi : i0 < n) (hn : n ≤ 201) (hB : Bd sm 1000) :
    Calls Try.prog 45 #[.int .i64 i0, .pointer (some ⟨b, 0, none⟩)] w fun e w' => e = .returned (.int .i64 (bef n sm i0)) ∧ w = w' := by
  obtain ⟨r, hz⟩ : ∃ r, r = bef n sm i0 := ⟨_, rfl⟩
  rw [← hz]
  replace hz := Lib.hid hz
  have HB := Lib.hid hB
  clear hB
  go_enter Try.func45, Try.ntmps45
  go_wp2_with fail
  go_loop [0, 4] (fun s0 s4 => ∃ (k : Nat) (z : Int), k ≤ i0 ∧ s0 = .int .i64 k ∧ s4 = .int .i64 z ∧ Hid (r = z + bef n sm k) ∧ Hid (-1000 * ((i0 : Int) - k) ≤ z ∧ z ≤ 1000 * ((i0 : Int) - k))) (fun s0 _ => (intOf s0).toNat)
  case atStart => exact ⟨i0, 0, by omega, rfl, rfl, Lib.hid (by rw [hz.out]; omega), Lib.hid (by omega)⟩
  case round =>
    obtain ⟨k, z, hk, rfl, rfl, hR, hA⟩ := hrel
    by_cases h0 : 0 < k
    · obtain ⟨g', o, x, hb, hx, d⟩ := hr.ix (show k < n by omega)
      obtain ⟨rfl, rfl⟩ : g = g' ∧ 0 = o := by simpa using hb
      rw [Nat.zero_add] at d
      have hxd : sm.getD k 0 = x := by rw [List.getD_eq_getElem?_getD, hx]; rfl
      have hxb := HB.out k
      rw [hxd] at hxb
      have hA1 := hA.out
      have hst := bef_step (sm := sm) h0 (show k ≤ n by omega) (show k ≤ 201 by omega)
      rw [hxd] at hst
      have hp1 := lw_pos (i := k) (by omega) (by omega)
      have w1 := and_low (i := k) (by omega) (by omega)
      have w2 : wrap64 ((k : Int) - (lw k : Int)) = ((k - lw k : Nat) : Int) := by rw [wrap_small (by omega) (by omega)]; omega
      have w3 : wrap64 (z + x) = z + x := wrap_small (by omega) (by omega)
      have R2 : Hid (r = z + x + bef n sm (k - lw k)) := Lib.hid (by have := hR.out; omega)
      have A2 : Hid (-1000 * ((i0 : Int) - ((k - lw k : Nat) : Int)) ≤ z + x ∧ z + x ≤ 1000 * ((i0 : Int) - ((k - lw k : Nat) : Int))) := Lib.hid (by omega)
      have m1 : k - lw k < k := by omega
      have m2 : k - lw k ≤ i0 := by omega
      clear hx hxd hxb hA1 hst hp1 hR hA hb
      have d2 : (0 : Int) < k := by omega
      go_wp2_with fail
      rw [w2, w3]
      exact ⟨⟨_, _, m2, rfl, rfl, R2, A2⟩, by simp [intOf]; omega⟩
    · obtain rfl : k = 0 := by omega
      have E : Hid (r = z) := Lib.hid (by rw [hR.out, bef_0]; omega)
      go_wp2_with fail
      go_ret
      exact ⟨ret_int (by rw [E.out]), rfl⟩
theorem addS_fuel {v : Int} : ∀ (q : Nat) (sm : List Int) (i : Nat), 1 ≤ i → sm.length ≤ 201 → sm.length ≤ i + q → addS (q + 1) sm i v = addS q sm i v
  | 0, sm, i, h, _, hq => by simp only [addS]; rw [if_neg (by omega)]
  | q + 1, sm, i, h, hl, hq => by
    by_cases h0 : i < sm.length
    · have hp := lw_pos h (by omega)
      have e1 : addS (q + 1 + 1) sm i v = addS (q + 1) (sm.set i (sm.getD i 0 + v)) (i + lw i) v := by rw [addS, if_pos h0]
      have e2 : addS (q + 1) sm i v = addS q (sm.set i (sm.getD i 0 + v)) (i + lw i) v := by rw [addS, if_pos h0]
      rw [e1, e2, addS_fuel q _ _ (by omega) (by simpa using hl) (by simp; omega)]
    · simp [addS, h0]
theorem addS_step {v : Int} {q : Nat} {sm : List Int} {i : Nat} (h : 1 ≤ i) (hi : i < sm.length) (hl : sm.length ≤ 201) (hq : sm.length ≤ i + q) (h0 : 0 < q) : addS q sm i v = addS q (sm.set i (sm.getD i 0 + v)) (i + lw i) v := by
  have hp := lw_pos h (by omega)
  obtain ⟨q, rfl⟩ : ∃ q', q = q' + 1 := ⟨q - 1, by omega⟩
  rw [addS_fuel q _ (i + lw i) (by omega) (by simpa using hl) (by simp; omega), addS, if_pos hi]
theorem addS_end {v : Int} {sm : List Int} {i : Nat} (hi : sm.length ≤ i) : ∀ q, addS q sm i v = sm
  | 0 => rfl
  | q + 1 => by rw [addS, if_neg (by omega)]
theorem Bd.add {sm : List Int} {M v : Int} {q i : Nat} (h : Bd sm M) (hM : 0 ≤ M) (hv : -1 ≤ v ∧ v ≤ 1) (hl : sm.length ≤ 201) (hi : 1 ≤ i) (hq : sm.length ≤ i + q) : Bd (addS q sm i v) (M + 1) := by
  intro t
  by_cases ht : t < sm.length
  · rw [addS_get q sm i v hl hi hq t ht]
    have := h t
    split <;> omega
  · rw [List.getD_eq_getElem?_getD, List.getElem?_eq_none (by rw [addS_len]; omega)]
    simp; omega
attribute [local irreducible] lw bef addS
set_option maxHeartbeats 1000000 in
theorem add_any (b g n c B : Nat) (sm : List Int) (i0 : Nat) (v : Int) (w : World) (hp : w.cell? ⟨b, 0, none⟩ = some (.slice (some ⟨g, 0, none⟩) n c)) (hO : Own w B 3 (some ⟨g, 0, none⟩) n c (ints sm)) (hbg : b ≠ g) (hi : i0 < n) (hn : n ≤ 201) (hB : Bd sm 1000) (hv : -1 ≤ v ∧ v ≤ 1) :
    Calls Try.prog 44 #[.int .i64 i0, .int .i64 v, .pointer (some ⟨b, 0, none⟩)] w fun e w' => e = .returned (.tuple #[]) ∧ Own w' B 3 (some ⟨g, 0, none⟩) n c (ints (addS n sm (i0 + 1) v)) ∧ Fr (onB g) w w' := by
  obtain ⟨R, hz⟩ : ∃ R, R = addS n sm (i0 + 1) v := ⟨_, rfl⟩
  rw [← hz]
  replace hz := Lib.hid hz
  have HB := Lib.hid hB
  have HV := Lib.hid hv
  have Hp := Lib.hid hp
  replace hO := Lib.hid hO
  have w0 : wrap64 ((i0 : Int) + 1) = ((i0 + 1 : Nat) : Int) := by rw [wrap_small (by omega) (by omega)]; omega
  clear hB hv
  go_enter Try.func44, Try.ntmps44
  go_wp2_with fail
  go_loopw [0] (fun s0 wr => ∃ (k : Nat) (sk : List Int), k ≤ 402 ∧ s0 = .int .i64 k ∧ 1 ≤ k ∧ Hid (R = addS n sk k v) ∧ Hid (∀ t, k ≤ t → sk.getD t 0 = sm.getD t 0) ∧ Hid (Own wr B 3 (some ⟨g, 0, none⟩) n c (ints sk)) ∧ Fr (onB g) w wr) (fun s0 _ => n - (intOf s0).toNat)
  case atStart => exact ⟨i0 + 1, sm, by omega, by go_num, by omega, hz, Lib.hid (fun _ _ => rfl), hO, Fr.refl _ _⟩
  case round =>
    obtain ⟨k, sk, hk, rfl, hk1, hR, hS, hW, hF⟩ := hrel
    have hp2 := hF.cell Hp.out (show ¬ onB g b from hbg)
    have hlen := Lib.hid hW.out.lens
    by_cases h0 : k < n
    · obtain ⟨g', o, x, hb, hx, d⟩ := hW.out.rd.ix h0
      obtain ⟨rfl, rfl⟩ : g = g' ∧ 0 = o := by simpa using hb
      rw [Nat.zero_add] at d
      have hxd : sk.getD k 0 = x := by rw [List.getD_eq_getElem?_getD, hx]; rfl
      have hxb := HB.out k
      rw [← hS.out k (Nat.le_refl _), hxd] at hxb
      have hvv := HV.out
      have hst := addS_step (q := n) (v := v) (sm := sk) hk1 (by rw [hlen.out]; exact h0) (by rw [hlen.out]; exact hn) (by rw [hlen.out]; omega) (by omega)
      rw [hxd] at hst
      have hp1 := lw_pos (i := k) (by omega) (by omega)
      have m1 : n - (k + lw k) < n - k := by omega
      have m2 : k + lw k ≤ 402 := by omega
      have m3 : 1 ≤ k + lw k := by omega
      have w1 := and_low (i := k) (by omega) (by omega)
      have w2 : wrap64 ((k : Int) + (lw k : Int)) = ((k + lw k : Nat) : Int) := by rw [wrap_small (by omega) (by omega)]; omega
      have w3 : wrap64 (x + v) = x + v := wrap_small (by omega) (by omega)
      have R2 : Hid (R = addS n (sk.set k (x + v)) (k + lw k) v) := Lib.hid (hR.out.trans hst)
      have S2 : Hid (∀ t, k + lw k ≤ t → (sk.set k (x + v)).getD t 0 = sm.getD t 0) := Lib.hid (fun t ht => by
        have hne : k ≠ t := Nat.ne_of_lt (Nat.lt_of_lt_of_le (Nat.lt_add_of_pos_right hp1.1) ht)
        rw [List.getD_eq_getElem?_getD, List.getElem?_set_ne hne, ← List.getD_eq_getElem?_getD]
        exact hS.out t (Nat.le_trans (Nat.le_add_right _ _) ht))
      have O2 : Hid (Own (wr.setCell ⟨g, k, none⟩ (.int .i64 (x + v))) B 3 (some ⟨g, 0, none⟩) n c (ints (sk.set k (x + v)))) := Lib.hid (by have h := hW.out.set (i := k) (.int .i64 (x + v)); simpa [ints, List.map_set] using h)
      have fz : wr.frozen? ⟨g, k, none⟩ = false := by
        obtain ⟨g2, hg2, _, _, _, fz⟩ := hW.out.at (by omega)
        obtain rfl : g = g2 := by simpa using hg2
        exact fz k
      have F2 : Hid (Fr (onB g) w (wr.setCell ⟨g, k, none⟩ (.int .i64 (x + v)))) := Lib.hid (hF.setB k _)
      clear hx hxd hxb hvv hst hp1 hR hS hb hW
      replace m1 := Lib.hid m1
      replace m2 := Lib.hid m2
      replace m3 := Lib.hid m3
      go_wp2_with fail
      rw [w2]
      exact ⟨⟨k + lw k, sk.set k (x + v), m2.out, rfl, m3.out, R2, S2, O2, F2.out⟩, m1.out⟩
    · have E : Hid (R = sk) := Lib.hid (by rw [hR.out, addS_end (by have := hlen.out; omega)])
      go_wp2_with fail
      first | go_end0 | refine bodyPost_ret (results_none rfl _ _ _) rfl ?_
      exact ⟨rfl, by rw [E.out]; exact hW.out, hF⟩
end Go.Proofs.Ytnlgjpcnnnilpaa
