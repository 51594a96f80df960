/- Bridges: all arguments. -/
import Derived.Test.YtihcaemheknjbaaF32
namespace Go.Proofs.Ytihcaemheknjbaa
open Go.RowKit
attribute [local go_sem ↓] Go.wp_at_zero Go.wp_at_succ
set_option maxRecDepth 100000 in
set_option maxHeartbeats 16000000 in
theorem Bridges_any {w : World} {n : Int} {a : Option Addr} {m c : Nat} {l : List Pr} (h : ArgP w a m c l) :
    Calls Try.prog 34 #[.int .i64 n, .slice a m c] w (BrR w n l) := by
  have FB : Hid (Fr F0 w (w.alloc (.cells #[.int .i64 n] 3))) := Lib.hid ((Fr.refl _ _).alloc _)
  have hcap := h.cap
  have hmax := h.max
  by_cases hn : 1 ≤ n ∧ n ≤ 1000
  · cases hany : l.any (fun e => !inP n e) with
    | false =>
      by_cases hm : m ≤ 1000
      · obtain ⟨k, rfl⟩ := Int.eq_ofNat_of_zero_le (show 0 ≤ n by omega)
        exact Bridges_ok h (by omega) hm (fun e he => by
          have := List.any_eq_false.1 hany e he
          simpa using this)
      · have hE : brE n l = 4 := by
          unfold brE
          rw [if_neg (by omega), hany, if_neg (by decide), if_pos (by have := h.len; omega)]
        obtain ⟨w1, hw1⟩ : ∃ wb, w.alloc (.cells #[.int .i64 n] 3) = wb := ⟨_, rfl⟩
        obtain ⟨q, hq⟩ : ∃ b, w.heap.size = b := ⟨_, rfl⟩
        have BX : Blk w1 q 3 [.int .i64 n] := by rw [← hw1, ← hq]; exact Blk.new w 3 _
        rw [hw1] at FB
        have x0 := BX.cell (i := 0) rfl
        have HC := Lib.hid (ContainsFunc_any n q a m c l w1 (h.fr0 FB.out) x0)
        rw [hany] at HC
        have hn1 : ¬ n < 1 := by omega
        have hn2 : ¬ (1000 : Int) < n := by omega
        have hm2 : (1000 : Int) < (m : Int) := by omega
        have HE := Lib.hid hE
        clear h hany BX hE hn
        go_enter Try.func34, Try.ntmps34
        go_wp2_with (go_at_call 49; refine HC.out.mono ?_; rintro e w2 ⟨rfl, F2⟩; have HF2 := Lib.hid (FB.out.trans0 F2); clear F2)
        go_ret2
        exact BrR.no HE.out (by decide) HF2.out
    | true =>
      have hE : brE n l = 2 := by
        unfold brE
        rw [if_neg (by omega), hany, if_pos rfl]
      obtain ⟨w1, hw1⟩ : ∃ wb, w.alloc (.cells #[.int .i64 n] 3) = wb := ⟨_, rfl⟩
      obtain ⟨q, hq⟩ : ∃ b, w.heap.size = b := ⟨_, rfl⟩
      have BX : Blk w1 q 3 [.int .i64 n] := by rw [← hw1, ← hq]; exact Blk.new w 3 _
      rw [hw1] at FB
      have x0 := BX.cell (i := 0) rfl
      have HC := Lib.hid (ContainsFunc_any n q a m c l w1 (h.fr0 FB.out) x0)
      rw [hany] at HC
      have hn1 : ¬ n < 1 := by omega
      have hn2 : ¬ (1000 : Int) < n := by omega
      have HE := Lib.hid hE
      clear h hany BX hE hn
      go_enter Try.func34, Try.ntmps34
      go_wp2_with (go_at_call 49; refine HC.out.mono ?_; rintro e w2 ⟨rfl, F2⟩; have HF2 := Lib.hid (FB.out.trans0 F2); clear F2)
      go_ret2
      exact BrR.no HE.out (by decide) HF2.out
  · have hE : brE n l = 2 := by
      unfold brE
      rw [if_pos hn]
    have HE := Lib.hid hE
    clear hE
    by_cases hn1 : n < 1
    · clear hn
      go_enter Try.func34, Try.ntmps34
      go_wp2_with fail
      go_ret2
      exact BrR.no HE.out (by decide) FB.out
    · have hn2 : (1000 : Int) < n := by omega
      clear hn
      go_enter Try.func34, Try.ntmps34
      go_wp2_with fail
      go_ret2
      exact BrR.no HE.out (by decide) FB.out
end Go.Proofs.Ytihcaemheknjbaa
