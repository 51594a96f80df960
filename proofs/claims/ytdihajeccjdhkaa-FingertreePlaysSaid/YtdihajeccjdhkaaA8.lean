/- Depths and shapes. -/
import Derived.Test.YtdihajeccjdhkaaA7
namespace Go.Proofs.Ytdihajeccjdhkaa
open Go.RowKit
attribute [local go_sem ↓] Go.wp_at_zero Go.wp_at_succ
theorem lg_le (n : Nat) : lg n ≤ n := by
  induction n using Nat.strongRecOn with
  | ind n ih =>
    rw [lg]
    split
    · omega
    · have := ih (n / 2) (by omega); omega
theorem Log_any (n : Nat) (hn : n ≤ 100000) (w : World) : Calls Try.prog 51 #[.int .i64 n] w fun e w' => e = .returned (.int .i64 (lg n)) ∧ w = w' := by
  go_enter Try.func51, Try.ntmps51
  go_wp2_with fail
  go_loop [0, 3] (fun s0 s3 => ∃ m k : Nat, m ≤ 100000 ∧ k ≤ 100000 ∧ s0 = .int .i64 m ∧ s3 = .int .i64 k ∧ Hid (lg n = k + lg m)) (fun s0 _ => (intOf s0).toNat)
  case atStart => exact ⟨n, 0, hn, by omega, rfl, rfl, Lib.hid (by omega)⟩
  case round =>
    obtain ⟨m, k, hm, hk, rfl, rfl, he⟩ := hrel
    by_cases h1 : 1 < m
    · obtain ⟨h, hh⟩ : ∃ h, h = m / 2 := ⟨_, rfl⟩
      have e : Hid (lg n = (k + 1) + lg h) := Lib.hid (by rw [he.out, lg, dif_neg (by omega), hh]; omega)
      have hk2 : Hid (k + 1 ≤ 100000) := Lib.hid (by have := lg_le n; have := e.out; omega)
      have hq : (m : Int) / 2 = (h : Int) := by omega
      have hq2 : Int.tdiv (m : Int) 2 = (h : Int) := by rw [Int.tdiv_eq_ediv_of_nonneg (by omega)]; omega
      have hw2 : IntKind.i64.wrap (h : Int) = (h : Int) := wI2 (by omega) (by omega)
      have hh2 : h ≤ 100000 := by omega
      have hh3 : h < m := by omega
      clear hh
      go_wp2_with fail
      go_round
      case rel => exact ⟨h, k + 1, hh2, hk2.out, by first | rfl | (congr 1), by go_num, e⟩
      case measure => simp [intOf]; omega
    · have e : Hid (lg n = k) := Lib.hid (by rw [he.out, lg, dif_pos (by omega)]; omega)
      go_wp2_with fail
      go_ret
      exact ⟨ret_int (by rw [e.out]), rfl⟩
set_option maxHeartbeats 2000000 in
theorem Shaped_any (n d : Nat) (hn : n ≤ 100000) (hd : d ≤ 2 * lg n + 2) (a : Option Addr) (m c : Nat) (w : World) (hr : Rd w a m (ints (shp n))) : Calls Try.prog 32 #[.int .i64 n, .int .i64 d, .slice a m c] w fun e w' => e = .returned (.bool true) ∧ w = w' := by
  have hl := Lib.hid (Log_any n hn w)
  have hlg := lg_le n
  have hm : m = (shp n).length := by simpa using hr.len.symm
  obtain ⟨L, hL⟩ : ∃ L, L = lg n := ⟨_, rfl⟩
  rw [← hL] at hl hlg hd
  clear hL
  by_cases h0 : n = 0
  · subst h0
    obtain rfl : m = 0 := hm
    have d1 : decide ((2 : Int) * (L : Int) + 2 < (d : Int)) = false := by simp; omega
    have d2 : decide ((8 : Int) * ((L : Int) + 1) < ((0 : Nat) : Int)) = false := by simp; omega
    go_enter Try.func32, Try.ntmps32
    go_wp2_with fail
    refine hl.out.mono ?_; rintro e w' ⟨rfl, rfl⟩
    go_wp2_with fail
    refine hl.out.mono ?_; rintro e w' ⟨rfl, rfl⟩
    go_wp2_with fail
    go_loop [7, 8] (fun s7 s8 => s7 = .int .i64 0 ∧ s8 = .int .i64 0) (fun _ _ => 0)
    case atStart => exact ⟨rfl, rfl⟩
    case round =>
      obtain ⟨rfl, rfl⟩ := hrel
      go_wp2_with fail
      go_ret
      exact ⟨rfl, rfl⟩
  · have es : shp n = [(n : Int)] := by unfold shp; rw [if_neg h0]
    rw [es] at hr hm
    obtain rfl : m = 1 := hm
    obtain ⟨b, o, x, rfl, hx, d9⟩ := hr.ix (i := 0) (by omega)
    obtain rfl : x = (n : Int) := by simpa using hx.symm
    rw [Nat.add_zero] at d9
    have d1 : decide ((2 : Int) * (L : Int) + 2 < (d : Int)) = false := by simp; omega
    have d2 : decide ((8 : Int) * ((L : Int) + 1) < ((1 : Nat) : Int)) = false := by simp; omega
    have n1 : (1 : Int) ≤ (n : Int) := by omega
    clear hr hx es
    go_enter Try.func32, Try.ntmps32
    go_wp2_with fail
    refine hl.out.mono ?_; rintro e w' ⟨rfl, rfl⟩
    go_wp2_with fail
    refine hl.out.mono ?_; rintro e w' ⟨rfl, rfl⟩
    go_wp2_with fail
    go_loop [7, 8] (fun s7 s8 => (s7 = .int .i64 n ∧ s8 = .int .i64 0) ∨ (s7 = .int .i64 0 ∧ s8 = .int .i64 1)) (fun _ s8 => 1 - (intOf s8).toNat)
    case atStart => exact .inl ⟨rfl, rfl⟩
    case round =>
      rcases hrel with ⟨rfl, rfl⟩ | ⟨rfl, rfl⟩
      · go_wp2_with fail
        go_round
        case rel => exact .inr ⟨by first | rfl | simp, rfl⟩
        case measure => simp [intOf]
      · go_wp2_with fail
        go_ret
        exact ⟨rfl, rfl⟩
end Go.Proofs.Ytdihajeccjdhkaa
