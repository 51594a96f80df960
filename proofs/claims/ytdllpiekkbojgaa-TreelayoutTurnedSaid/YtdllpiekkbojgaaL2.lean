/- treelayout's split. -/
import Derived.Test.YtdllpiekkbojgaaL1
namespace Go.Proofs.Ytdllpiekkbojgaa
open Go.RowKit

set_option maxHeartbeats 800000 in
theorem split_any (B n H : Nat) (kind : Int) (hn : n + 1 = 2 ^ H) (hH : H ≤ 16) : ∀ (f v h : Nat) (vi hi : Int) (s : St) (w : World), vi = v → hi = h → h ≤ f → 1 ≤ h → (v + 2) * 2 ^ (h - 1) ≤ 2 ^ H → Lay w B n kind s →
    Calls Try.prog 50 #[.int .i64 vi, .int .i64 hi, .pointer (some ⟨B + 5, 0, none⟩), .pointer (some ⟨B + 7, 0, none⟩)] w (LayPost w B n kind (splitS f v h s)) := by
  intro f
  induction f with
  | zero => intro v h vi hi s w _ _ h1 h2; omega
  | succ f ih =>
    intro v h vi hi s w hvi hhi hf hh hv L
    subst hvi hhi
    have hp16 : (2 : Nat) ^ H ≤ 65536 := by
      have := Nat.pow_le_pow_right (n := 2) (by omega) hH
      simpa using this
    have hpos : 1 ≤ 2 ^ (h - 1) := Nat.one_le_two_pow
    have hv1 : v + 2 ≤ 2 ^ H := Nat.le_trans (Nat.le_mul_of_pos_right _ hpos) hv
    by_cases e1 : h = 1
    · subst e1
      have h3 := L.bp.cell
      have H := Lib.hid L
      have h9 : v < n := by omega
      clear L ih hn hv
      go_enter Try.func50, Try.ntmps50
      go_wp2_with fail
      refine (put_any w B n v kind s H.out h9).mono ?_; rintro e w1 ⟨rfl, L1, F1⟩
      have L1 := Lib.hid L1
      have F1 := Lib.hid F1
      go_wp2_with fail
      go_end0
      exact ⟨rfl, by unfold splitS; rw [if_pos rfl]; exact L1.out, F1.out⟩
    · obtain ⟨low, hlow⟩ : ∃ low, low = h / 2 := ⟨_, rfl⟩
      obtain ⟨top, htop⟩ : ∃ top, top = h - h / 2 := ⟨_, rfl⟩
      have e2 : ((h : Int) == 1) = false := by simp; omega
      have e3 : ((h : Int) / 2) = (low : Int) := by omega
      have e4 : ((h : Int) - (low : Int)) = (top : Int) := by omega
      have e5 : top ≤ 16 := by
        have : 2 ^ (h - 1) ≤ 2 ^ H := Nat.le_trans (Nat.le_mul_of_pos_left _ (by omega)) hv
        have := (Nat.pow_le_pow_iff_right (by omega : 1 < 2)).1 this
        omega
      have h3 := L.bs.cell
      have L := Lib.hid L
      have IH := Lib.hid ih
      have Hv := Lib.hid hv
      have Hn := Lib.hid hn
      have Htop := Lib.hid htop
      have Hlow := Lib.hid hlow
      clear ih hv hn htop hlow
      go_enter Try.func50, Try.ntmps50
      go_wp2_with fail
      have hq1 : 1 ≤ 2 ^ top := Nat.one_le_two_pow
      have hq2 : 2 ^ top ≤ 65536 := by
        have := Nat.pow_le_pow_right (n := 2) (by omega) e5
        simpa using this
      have hq3 : (v + 1) * 2 ^ top ≤ 65536 * 65536 := Nat.mul_le_mul (by omega) hq2
      have hq4 : 1 ≤ (v + 1) * 2 ^ top := Nat.le_trans hq1 (Nat.le_mul_of_pos_left _ (by omega))
      refine (IH.out v top _ _ s w rfl rfl ?_ ?_ ?_ L.out).mono ?_
      · have := Htop.out; omega
      · have := Htop.out; omega
      · exact Nat.le_trans (Nat.mul_le_mul_left _ (Nat.pow_le_pow_right (by omega) (by have := Htop.out; omega))) Hv.out
      rintro e w1 ⟨rfl, L1, F1⟩
      have L1 := Lib.hid L1
      have F1 := Lib.hid F1
      obtain ⟨q, hq⟩ : ∃ q, q = (v + 1) * 2 ^ top := ⟨_, rfl⟩
      obtain ⟨m, hm⟩ : ∃ m, m = 2 ^ top := ⟨_, rfl⟩
      have W1 : Hid (wrap64 (((v : Int) + 1) * 2 ^ top) = (q : Int)) := Lib.hid (by
        rw [show ((v : Int) + 1) * 2 ^ top = ((q : Nat) : Int) by subst hq; simp]
        exact IntWalk.wrap64_in _ (by rw [← hq] at hq3; omega))
      have W2 : Hid (wrap64 ((2 : Int) ^ top) = (m : Int)) := Lib.hid (by
        rw [show (2 : Int) ^ top = ((m : Nat) : Int) by subst hm; simp]
        exact IntWalk.wrap64_in _ (by rw [← hm] at hq2; omega))
      rw [← hm] at hq1 hq2
      rw [← hq] at hq3 hq4
      have Hq := Lib.hid hq
      have Hm := Lib.hid hm
      have W3 : Hid (wrap64 ((q : Int) - 1) = ((q - 1 : Nat) : Int)) := Lib.hid (by rw [IntWalk.wrap64_in _ (by omega)]; omega)
      clear hq hm
      go_wp2_with fail
      simp only [W1.out, W2.out, W3.out]
      go_loopw [31] (fun i wr => ∃ k : Nat, k ≤ m ∧ i = .int .i64 k ∧ Lay wr B n kind (iterS (fun i s => splitS f (q - 1 + i) low s) k (splitS f v top s)) ∧ Fr (LayS B) w wr) (fun i _ => m - (intOf i).toNat)
      case atStart => exact ⟨0, by omega, rfl, L1.out, F1.out⟩
      case round =>
        obtain ⟨k, hk, rfl, L2, F2⟩ := hrel
        by_cases hlt : k < m
        · have b3 := L2.bs.cell
          have L2 := Lib.hid L2
          have F2 := Lib.hid F2
          go_wp2_with fail
          refine (IH.out (q - 1 + k) low _ _ _ wr (by omega) rfl ?_ ?_ ?_ L2.out).mono ?_
          · have := Hlow.out; omega
          · have := Hlow.out; omega
          · refine Nat.le_trans ?_ Hv.out
            have h1 := Hq.out
            have h2 := Hm.out
            have h3 := Htop.out
            have h4 := Hlow.out
            have e : (v + 2) * 2 ^ (h - 1) = ((v + 2) * 2 ^ top) * 2 ^ (low - 1) := by
              rw [Nat.mul_assoc, ← Nat.pow_add]; congr 2; omega
            rw [e]
            refine Nat.mul_le_mul_right _ ?_
            have : (v + 2) * 2 ^ top = q + m := by rw [h1, h2, ← Nat.succ_mul]
            omega
          rintro e w3 ⟨rfl, L3, F3⟩
          have L3 := Lib.hid L3
          have F3 := Lib.hid F3
          go_wp2_with fail
          go_roundw
          case rel => exact ⟨k + 1, by omega, by go_num, by rw [iterS_succ]; exact L3.out, F2.out.trans F3.out (fun _ _ h => h)⟩
          case measure => simp [intOf]; omega
        · have hkm : k = m := by omega
          subst hkm
          have L2 := Lib.hid L2
          have F2 := Lib.hid F2
          go_wp2_with fail
          go_end0
          refine ⟨rfl, ?_, F2.out⟩
          unfold splitS
          rw [if_neg e1]
          have L3 := L2.out
          rw [Hm.out, Hq.out, Htop.out, Hlow.out] at L3
          exact L3

end Go.Proofs.Ytdllpiekkbojgaa
