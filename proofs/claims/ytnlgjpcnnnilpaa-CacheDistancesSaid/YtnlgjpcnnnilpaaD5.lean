/- The reference's Curve. -/
import Derived.Test.YtnlgjpcnnnilpaaD4
namespace Go.Proofs.Ytnlgjpcnnnilpaa
open Go.RowKit
attribute [local go_sem ↓] Go.wp_at_zero Go.wp_at_succ
theorem curveAt_snoc (D : List Int) (d : Int) (k : Nat) : curveAt (D ++ [d]) k = curveAt D k + if d = 0 ∨ (k : Int) < d then 1 else 0 := by
  unfold curveAt; rw [List.countP_append, List.countP_cons]; simp
theorem curveAt_nil (k : Nat) : curveAt [] k = 0 := rfl
set_option maxHeartbeats 4000000 in
theorem refCurve_any (a : Option Addr) (n c m : Nat) (l : List Int) (w : World) (hr : Rd w a n (ints l)) (hm0 : 1 ≤ m) (hm1 : m ≤ 1000) (hn : n ≤ 65536) :
    Calls Try.prog 25 #[.slice a n c, .int .i64 m] w (fun e w' => ∃ a' c', e = .returned (.slice a' m c') ∧ Own w' w.heap.size 3 a' m c' (ints (curveL (distL l) m)) ∧ Fr F0 w w') := by
  obtain ⟨D, hD⟩ : ∃ D, D = distL l := ⟨_, rfl⟩
  rw [← hD]
  have HD := Lib.hid hD
  have hll : l.length = n := by simpa using hr.len
  have HDl : Hid (D.length = n) := Lib.hid (by rw [hD, distL_len]; exact hll)
  have Hr := Lib.hid hr
  clear hll hr hD
  go_enter Try.func25, Try.ntmps25
  go_wp2_with fail
  refine (refDistances_any a n c l _ Hr.out hn).mono ?_; rintro e w1 ⟨aD, cD, rfl, OD, F1⟩
  rw [← HD.out] at OD
  have hsz := F1.size
  replace OD := Lib.hid OD
  replace F1 := Lib.hid F1
  have hB : Hid (∀ q, onBlk aD q → q < w1.heap.size) := Lib.hid (fun q h => (OD.out.blk q h).2)
  obtain ⟨wo, hwo⟩ : ∃ wo : World, wo = w1 := ⟨_, rfl⟩
  rw [← hwo] at OD F1 hB hsz
  rw [← hwo]
  clear hwo
  go_wp2_with fail
  go_loopw [6, 7, 8, 9] (fun s6 s7 _ _ wr => ∃ (j c6 : Nat) (a6 : Option Addr), j ≤ m ∧ s7 = .int .i64 ((j : Int) + 1) ∧ s6 = .slice a6 j c6 ∧ Hid (Own wr wo.heap.size 3 a6 j c6 (ints (curveL D j))) ∧ Hid (Rd wr aD n (ints D)) ∧ wo.heap.size ≤ wr.heap.size ∧ Hid (Fr F0 w wr)) (fun _ s7 _ _ _ => (m : Nat) + 1 - (intOf s7).toNat)
  case atStart => exact ⟨0, 0, none, by omega, rfl, rfl, Lib.hid (Own.nil _ _ _), Lib.hid OD.out.rd, by omega, F1⟩
  case round =>
    clear F1 OD
    obtain ⟨j, c6, a6, hj, rfl, rfl, hO, hR, hsz2, hF⟩ := hrel
    by_cases hlt : j < m
    · have d1 : decide ((j : Int) + 1 ≤ (m : Int)) = true := by simp; omega
      obtain ⟨wi, hwi⟩ : ∃ wi : World, wi = wr := ⟨_, rfl⟩
      rw [← hwi] at hO hR hF hsz2
      rw [← hwi]
      clear hwi
      go_wp2_with fail
      go_loop [8, 9] (fun s8 s9 => ∃ (i t : Nat), i ≤ n ∧ s9 = .int .i64 i ∧ s8 = .int .i64 t ∧ t ≤ i ∧ Hid (curveAt (D.take i) (j + 1) = t)) (fun _ s9 => n - (intOf s9).toNat)
      case atStart => exact ⟨0, 0, by omega, rfl, rfl, by omega, Lib.hid rfl⟩
      case round =>
        obtain ⟨i, t, hi, rfl, rfl, ht, hC⟩ := hrel
        by_cases hlt2 : i < n
        · obtain ⟨b, o, x, hb, hx, d⟩ := hR.out.ix hlt2
          have hts := take_snoc' hx
          have Hts := Lib.hid hts
          clear hx hts
          subst hb
          have i0 : (0 : Int) ≤ (i : Int) := by omega
          have i1 : (i : Int) < (n : Int) := by omega
          by_cases h0 : x = 0
          · subst h0
            have E : Hid (curveAt (D.take (i + 1)) (j + 1) = t + 1) := Lib.hid (by rw [Hts.out, curveAt_snoc, if_pos (.inl rfl), hC.out])
            go_wp2_with fail
            exact ⟨⟨i + 1, t + 1, by omega, by go_num, by go_num, by omega, E⟩, by simp [intOf]; omega⟩
          · have d2 : (x == 0) = false := by simpa using h0
            by_cases h1 : (j : Int) + 1 < x
            · have d3 : decide ((j : Int) + 1 < x) = true := by simpa using h1
              have E : Hid (curveAt (D.take (i + 1)) (j + 1) = t + 1) := Lib.hid (by rw [Hts.out, curveAt_snoc, if_pos (.inr (by omega)), hC.out])
              replace h0 := Lib.hid h0
              replace h1 := Lib.hid h1
              go_wp2_with fail
              exact ⟨⟨i + 1, t + 1, by omega, by go_num, by go_num, by omega, E⟩, by simp [intOf]; omega⟩
            · have d3 : decide ((j : Int) + 1 < x) = false := by simpa using h1
              have E : Hid (curveAt (D.take (i + 1)) (j + 1) = t) := Lib.hid (by rw [Hts.out, curveAt_snoc, if_neg (by omega), hC.out]; rfl)
              replace h0 := Lib.hid h0
              replace h1 := Lib.hid h1
              go_wp2_with fail
              exact ⟨⟨i + 1, t, by omega, by go_num, rfl, by omega, E⟩, by simp [intOf]; omega⟩
        · have : i = n := by omega
          subst this
          have E : Hid (curveAt D (j + 1) = t) := Lib.hid (by have h := hC.out; rwa [List.take_of_length_le (by have := HDl.out; omega)] at h)
          have hBi : Hid (∀ q, onBlk aD q → ¬ onBlk a6 q) := Lib.hid (fun q h1 h2 => by have := hB.out q h1; have := (hO.out.blk q h2).1; omega)
          clear hC
          go_wp2_with (at_builtin; refine wpAppAt E3 hO.out (by omega) (by omega) hsz2 (u := .int .i64 t) rfl rfl rfl ?_; intro a5 c5 w5 own5 fr5 at5)
          exact ⟨⟨j + 1, c5, a5, by omega, by go_num, rfl, Lib.hid (by rw [curveL_succ, E.out]; simpa [ints] using own5), Lib.hid (hR.out.fr fr5 hBi.out), by have := fr5.size; omega, Lib.hid (hF.out.trans fr5 (fun q h1 h2 => absurd (hO.out.blk _ h2).1 (by omega)))⟩, by simp [intOf]; omega⟩
    · have : j = m := by omega
      subst this
      have d1 : decide ((j : Int) + 1 ≤ (j : Int)) = false := by simp; omega
      go_wp2_with fail
      go_ret
      exact ⟨_, _, rfl, hO.out.mono hsz, hF.out⟩
end Go.Proofs.Ytnlgjpcnnnilpaa
