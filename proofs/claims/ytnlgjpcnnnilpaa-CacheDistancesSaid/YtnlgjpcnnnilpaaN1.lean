/- CacheMisses: the walk. -/
import Derived.Test.YtnlgjpcnnnilpaaR8
namespace Go.Proofs.Ytnlgjpcnnnilpaa
open Go.RowKit
attribute [local go_sem ↓] Go.wp_at_zero Go.wp_at_succ

def SmPost (n : Nat) (w : World) (e : Ending) (w' : World) : Prop := ∃ r : Bool, e = .returned (.bool r) ∧ (r = true → n ≤ 200 ∨ 65536 < n) ∧ w = w'
theorem small_any (a : Option Addr) (n c : Nat) (m : Int) (w : World) : Calls Try.prog 8 #[.slice a n c, .int .i64 m] w (SmPost n w) := by
  have hfin : ∀ r : Bool, (r = true → (n ≤ 200 ∨ 65536 < n)) → SmPost n w (.returned (.bool r)) w := fun r h => ⟨r, rfl, h, rfl⟩
  cases d1 : decide ((n : Int) ≤ 200) with
  | true =>
    have h1 : n ≤ 200 := by simp at d1; omega
    have Hf : Hid (∀ r, SmPost n w (.returned (.bool r)) w) := Lib.hid fun r => hfin r (fun _ => .inl h1)
    clear hfin h1
    cases d4 : decide (m ≤ 100) with
    | true =>
      go_enter Try.func8, Try.ntmps8
      go_wp2_with fail
      go_ret
      exact Hf.out _
    | false =>
      go_enter Try.func8, Try.ntmps8
      go_wp2_with fail
      go_ret
      exact Hf.out _
  | false =>
    cases d2 : decide ((65536 : Int) < (n : Int)) with
    | true =>
      have h1 : 65536 < n := by simp at d2; omega
      have Hf : Hid (∀ r, SmPost n w (.returned (.bool r)) w) := Lib.hid fun r => hfin r (fun _ => .inr h1)
      clear hfin h1
      cases d3 : decide ((n : Int) ≤ 65541) with
      | true =>
        cases d4 : decide (m ≤ 100) with
        | true =>
          go_enter Try.func8, Try.ntmps8
          go_wp2_with fail
          go_ret
          exact Hf.out _
        | false =>
          go_enter Try.func8, Try.ntmps8
          go_wp2_with fail
          go_ret
          exact Hf.out _
      | false =>
        go_enter Try.func8, Try.ntmps8
        go_wp2_with fail
        go_ret
        exact Hf.out _
    | false =>
      have Hf := Lib.hid (hfin false (fun h => by cases h))
      clear hfin
      go_enter Try.func8, Try.ntmps8
      go_wp2_with fail
      go_ret
      exact Hf.out
set_option maxHeartbeats 2000000 in
theorem Misses_walk (a : Option Addr) (n c : Nat) (l : List Int) (m : Int) (w : World) (hs : ArgSl w a n c l) :
    Calls Try.prog 3 #[.slice a n c, .int .i64 m] w fun e w' => e = .returned (.bool true) ∧ Fr F0 w w' := by
  have Hr := Lib.hid hs.rd
  clear hs
  by_cases hz : chk l m = 0
  · obtain ⟨_, hm, _, hn⟩ := chk_ok hz
    have hll : l.length = n := by simpa using Hr.out.len
    obtain ⟨m', rfl⟩ := Int.eq_ofNat_of_zero_le (show 0 ≤ m by omega)
    have h1 : 1 ≤ m' ∧ m' ≤ 1000 ∧ n ≤ 65536 := by omega
    have Hz := Lib.hid hz
    have H1 := Lib.hid h1
    clear hz hm hn hll h1
    go_enter Try.func3, Try.ntmps3
    go_wp2_with fail
    refine (awake_any _).mono ?_; rintro e w1 ⟨rfl, F1⟩
    go_wp2_with fail
    refine (small_any a n c _ _).mono ?_; rintro e w2 ⟨r, rfl, _, rfl⟩
    cases r with
    | false =>
      go_wp2_with fail
      go_ret
      exact ⟨rfl, F1⟩
    | true =>
      go_wp2_with fail
      refine (LRU_any a n c m' l _ (Hr.out.fr0 F1) Hz.out).mono ?_; rintro e w2 ⟨rfl, F2⟩
      replace F1 := F1.trans0 F2; clear F2
      go_wp2_with fail
      refine (FIFO_any a n c m' l _ (Hr.out.fr0 F1) Hz.out).mono ?_; rintro e w3 ⟨rfl, F2⟩
      replace F1 := F1.trans0 F2; clear F2
      go_wp2_with fail
      refine (Optimal_any a n c m' l _ (Hr.out.fr0 F1) Hz.out).mono ?_; rintro e w4 ⟨rfl, F2⟩
      replace F1 := F1.trans0 F2; clear F2
      go_wp2_with fail
      refine (refCheck_any a n c l m' _ (Hr.out.fr0 F1)).mono ?_; rintro e w5 ⟨rfl, rfl⟩
      rw [Hz.out]
      go_wp2_with (first | (refine (refLRU_any a n c m' l _ (Hr.out.fr0 F1) H1.out.1 H1.out.2.1 H1.out.2.2).mono ?_; rintro e w6 ⟨rfl, F2⟩; replace F2 := F1.trans0 F2) | (refine (refFIFO_any a n c m' l _ (Hr.out.fr0 F2) H1.out.1 H1.out.2.1 H1.out.2.2).mono ?_; rintro e w7 ⟨rfl, F3⟩; replace F3 := F2.trans0 F3) | (refine (refOptimal_any a n c m' l _ (Hr.out.fr0 F3) H1.out.1 H1.out.2.1 H1.out.2.2).mono ?_; rintro e w8 ⟨rfl, F4⟩; replace F4 := F3.trans0 F4))
      go_ret
      exact ⟨rfl, F4⟩
  · obtain ⟨z, hzz⟩ : ∃ z, z = chk l m := ⟨_, rfl⟩
    have e0 : (z != 0) = true := by rw [hzz]; simpa using hz
    have Hz := Lib.hid hz
    have Hzz := Lib.hid hzz
    clear hz hzz
    go_enter Try.func3, Try.ntmps3
    go_wp2_with fail
    refine (awake_any _).mono ?_; rintro e w1 ⟨rfl, F1⟩
    go_wp2_with fail
    refine (small_any a n c _ _).mono ?_; rintro e w2 ⟨r, rfl, _, rfl⟩
    cases r with
    | false =>
      go_wp2_with fail
      go_ret
      exact ⟨rfl, F1⟩
    | true =>
      go_wp2_with fail
      refine (LRU_bad a n c l m _ (Hr.out.fr0 F1) Hz.out).mono ?_; rintro e w2 ⟨rfl, rfl⟩
      rw [← Hzz.out]
      go_wp2_with fail
      refine (FIFO_bad a n c l m _ (Hr.out.fr0 F1) Hz.out).mono ?_; rintro e w3 ⟨rfl, rfl⟩
      rw [← Hzz.out]
      go_wp2_with fail
      refine (Optimal_bad a n c l m _ (Hr.out.fr0 F1) Hz.out).mono ?_; rintro e w4 ⟨rfl, rfl⟩
      rw [← Hzz.out]
      go_wp2_with fail
      refine (refCheck_any a n c l m _ (Hr.out.fr0 F1)).mono ?_; rintro e w5 ⟨rfl, rfl⟩
      rw [← Hzz.out]
      go_wp2_with fail
      go_ret
      exact ⟨rfl, F1⟩
end Go.Proofs.Ytnlgjpcnnnilpaa
