/- The reference's twice. -/
import Derived.Test.YtehpikjhjghplaaB3
namespace Go.Proofs.Ytehpikjhjghplaa
open Go.RowKit
attribute [local go_sem ↓] Go.wp_at_zero Go.wp_at_succ

set_option maxHeartbeats 2000000 in
theorem twice_any (a : Option Addr) (n c : Nat) (l : List Int) (w : World) (hr : Rd w a n (ints l)) :
    Calls Try.prog 52 #[.slice a n c] w fun e w' => e = .returned (.bool (!decide l.Nodup)) ∧ ∃ q, w' = w.drewN q := by
  have hll : l.length = n := by simpa using hr.len
  have hmax := hr.max
  have Hll := Lib.hid hll
  have Hr := Lib.hid hr
  clear hll hr
  go_enter Try.func52, Try.ntmps52
  go_wp2_with fail
  go_loopw [3, 4] (fun s3 _ wr => ∃ i : Nat, i ≤ n ∧ s3 = .int .i64 i ∧ Hid (l.take i).Nodup ∧ Hid (∃ q, wr = w.drewN q)) (fun s3 _ _ => n - (intOf s3).toNat)
  case atStart => exact ⟨0, by omega, rfl, Lib.hid (by simp), Lib.hid ⟨0, rfl⟩⟩
  case round =>
    obtain ⟨i, hi, rfl, hnd, hq⟩ := hrel
    by_cases hlt : i < n
    · obtain ⟨q, hq⟩ := hq.out
      obtain ⟨wo, hwo⟩ : ∃ wo : World, wo = wr := ⟨_, rfl⟩
      rw [← hwo] at hq
      rw [← hwo]
      have Hq := Lib.hid hq
      have F := (Fr.refl F0 w).drewN q
      rw [← hq] at F
      have Hr2 := Lib.hid (Hr.out.fr0 F)
      obtain ⟨b, o, x, hb, hx, d⟩ := Hr2.out.ix hlt
      subst hb
      have Hx := Lib.hid hx
      clear hwo hq F hx
      go_wp2_with fail
      go_loopw [4] (fun s4 wr => ∃ k : Nat, k ≤ i ∧ s4 = .int .i64 k ∧ Hid ((l.take k).any (· == x) = false) ∧ Hid (∃ q, wr = wo.drewN q)) (fun s4 _ => i - (intOf s4).toNat)
      case atStart => exact ⟨0, by omega, rfl, Lib.hid (by simp), Lib.hid ⟨0, rfl⟩⟩
      case round =>
        obtain ⟨k, hk, rfl, hno, hq2⟩ := hrel
        obtain ⟨q2, hq2⟩ := hq2.out
        have F2 := (Fr.refl F0 wo).drewN q2
        rw [← hq2] at F2
        have Hq2 := Lib.hid hq2
        clear hq2
        by_cases hlt2 : k < i
        · obtain ⟨_, _, y, hb, hy, dy⟩ := Hr2.out.ix (show k < n by omega)
          cases hb
          have e1 := F2.cell d id
          have e2 := F2.cell dy id
          have Hy := Lib.hid hy
          have i0 : (0 : Int) ≤ (k : Int) := by omega
          have i1 : (k : Int) < (n : Int) := by omega
          have j0 : (0 : Int) ≤ (i : Int) := by omega
          have j1 : (i : Int) < (n : Int) := by omega
          clear hy d dy F2
          by_cases hxy : x = y
          · have d1 : ((x : Int) == y) = true := by simpa using hxy
            have E : Hid ((!decide l.Nodup) = true) := Lib.hid (by
              have h2 : ¬ l.Nodup := fun h => by
                have hil : i < l.length := by have := Hll.out; omega
                have hkl : k < l.length := by omega
                have := (List.getElem_inj (h₀ := hkl) (h₁ := hil) h).1 (by
                  have h3 := (List.getElem?_eq_some_iff.1 Hx.out).2
                  have h4 := (List.getElem?_eq_some_iff.1 Hy.out).2
                  rw [h3, h4]; exact hxy.symm)
                omega
              simp [h2])
            replace hxy := Lib.hid hxy
            go_wp2_with fail
            go_quiet (fail)
            go_wp2_with fail
            go_ret
            exact ⟨ret_bool E.out.symm, q + (q2 + nq), by rw [Hq2.out, Hq.out, World.drewN_drewN, World.drewN_drewN]⟩
          · have d1 : ((x : Int) == y) = false := by simpa using hxy
            have hno2 : Hid ((l.take (k + 1)).any (· == x) = false) := Lib.hid (by
              rw [List.take_add_one, Hy.out, List.any_append, hno.out]
              simpa using fun e => hxy e.symm)
            replace hxy := Lib.hid hxy
            go_wp2_with fail
            go_quiet (fail)
            go_wp2_with fail
            go_roundw
            case rel => exact ⟨k + 1, by omega, by go_num, hno2, Lib.hid ⟨q2 + nq, by rw [Hq2.out, World.drewN_drewN]⟩⟩
            case measure => simp [intOf]; omega
        · obtain rfl : k = i := by omega
          have hnd2 : Hid (l.take (k + 1)).Nodup := Lib.hid (by
            rw [List.take_add_one, Hx.out]
            show ((l.take k) ++ [x]).Nodup
            rw [List.nodup_append]
            refine ⟨hnd.out, by simp, fun u hu v hv e => ?_⟩
            simp at hv
            subst hv
            subst e
            have := List.any_eq_false.1 hno.out u hu
            simp at this)
          clear F2
          go_wp2_with fail
          go_roundw
          case rel => exact ⟨k + 1, by omega, by go_num, hnd2, Lib.hid ⟨q + q2, by rw [Hq2.out, Hq.out, World.drewN_drewN]⟩⟩
          case measure => simp [intOf]; omega
    · obtain rfl : i = n := by omega
      have E : Hid ((!decide l.Nodup) = false) := Lib.hid (by
        have h := hnd.out
        rw [List.take_of_length_le (by have := Hll.out; omega)] at h
        simp [h])
      go_wp2_with fail
      go_ret
      exact ⟨ret_bool E.out.symm, hq.out⟩
end Go.Proofs.Ytehpikjhjghplaa
