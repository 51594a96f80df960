/- Buffer trees: Log, Most; slices.IsSorted. -/
import Derived.Test.YtkmnnfflibamnaaG289
import Derived.BigQuiet
namespace Go.Proofs.Ytkmnnfflibamnaa
open Go.RowKit
attribute [local go_sem ↓] Go.wp_at_zero Go.wp_at_succ
/-- The greatest number L with 2^L at most n. -/
def lg (n : Nat) : Nat := if h : n ≤ 1 then 0 else 1 + lg (n / 2)
termination_by n
theorem lg_lt (n : Nat) : n < 2 ^ (lg n + 1) := by
  induction n using Nat.strongRecOn with
  | ind n ih =>
    rw [lg]
    split
    · simp; omega
    · have := ih (n / 2) (by omega)
      rw [Nat.pow_succ, Nat.add_comm 1]
      omega
theorem lg_le (n : Nat) : lg n ≤ n := by
  induction n using Nat.strongRecOn with
  | ind n ih =>
    rw [lg]
    split
    · omega
    · have := ih (n / 2) (by omega); omega
theorem Log_any (n : Nat) (hn : n ≤ 100000) (w : World) : Calls Try.prog 36 #[.int .i64 n] w fun e w' => e = .returned (.int .i64 (lg n)) ∧ w = w' := by
  go_enter Try.func36, Try.ntmps36
  go_wp2_with fail
  go_loop [0, 3] (fun s0 s3 => ∃ m k : Nat, m ≤ 100000 ∧ k ≤ 100000 ∧ s0 = .int .i64 m ∧ s3 = .int .i64 k ∧ Hid (lg n = k + lg m)) (fun s0 _ => (intOf s0).toNat)
  case atStart => exact ⟨n, 0, hn, by omega, rfl, rfl, Lib.hid (by omega)⟩
  case round =>
    obtain ⟨m, k, hm, hk, rfl, rfl, he⟩ := hrel
    by_cases h1 : 1 < m
    · obtain ⟨h, hh⟩ : ∃ h, h = m / 2 := ⟨_, rfl⟩
      have e : Hid (lg n = (k + 1) + lg h) := Lib.hid (by rw [he.out, lg, dif_neg (by omega), hh]; omega)
      have hk2 : Hid (k + 1 ≤ 100000) := Lib.hid (by have := lg_le n; have := e.out; omega)
      have hq : (m : Int) / 2 = (h : Int) := by omega
      have hq2 : Int.tdiv (m : Int) 2 = (h : Int) := by rw [Int.tdiv_eq_ediv_of_nonneg (by omega)]; omega
      have hw2 : IntKind.i64.wrap (h : Int) = (h : Int) := wI (by omega) (by omega)
      have hh2 : h ≤ 100000 := by omega
      have hh3 : h < m := by omega
      clear hh
      go_wp2_with fail
      go_round
      case rel => exact ⟨h, k + 1, hh2, hk2.out, by first | rfl | (congr 1), by go_num, e⟩
      case measure => simp [intOf]; omega
    · have e : Hid (lg n = k) := Lib.hid (by rw [he.out, lg, dif_pos (by omega)]; omega)
      go_wp2_with fail
      go_ret
      exact ⟨ret_int (by rw [e.out]), rfl⟩
theorem Most_any (n m : Nat) (w : World) (hn : n ≤ 100000) (hm : 1 ≤ m) : Calls Try.prog 16 #[.int .i64 (n : Int), .int .i64 (m : Int)] w fun e w' => e = .returned (.int .i64 ((3 * n * (lg (n / m) + 1) : Nat) : Int)) ∧ w = w' := by
  have hq : n / m ≤ 100000 := Nat.le_trans (Nat.div_le_self n m) hn
  have HL := Lib.hid (Log_any (n / m) hq w)
  have hlg := lg_le (n / m)
  have htd : Int.tdiv (n : Int) (m : Int) = ((n / m : Nat) : Int) := by
    rw [Int.tdiv_eq_ediv_of_nonneg (by omega)]; rfl
  have hm0 : ¬ (m : Int) = 0 := by omega
  obtain ⟨q, hqd⟩ : ∃ q, q = n / m := ⟨_, rfl⟩
  rw [← hqd] at HL htd hq hlg ⊢
  obtain ⟨L, hL⟩ : ∃ L, L = lg q := ⟨_, rfl⟩
  rw [← hL] at HL hlg ⊢
  have hp : 3 * n * (L + 1) ≤ 40000000000 := by
    have h1 : 3 * n * (L + 1) ≤ 300000 * 100001 := Nat.mul_le_mul (by omega) (by omega)
    omega
  have hpi : (3 * (n : Int)) * ((L : Int) + 1) = ((3 * n * (L + 1) : Nat) : Int) := by
    rw [Int.natCast_mul, Int.natCast_mul]; rfl
  have hwp : IntKind.i64.wrap ((3 * (n : Int)) * ((L : Int) + 1)) = ((3 * n * (L + 1) : Nat) : Int) := by rw [hpi]; exact wI (by omega) (by omega)
  have hwq : IntKind.i64.wrap ((q : Int)) = (q : Int) := wI (by omega) (by omega)
  obtain ⟨R, hR⟩ : ∃ R, R = 3 * n * (L + 1) := ⟨_, rfl⟩
  rw [← hR] at hwp ⊢
  clear hqd hL hpi hp hR
  go_enter Try.func16, Try.ntmps16
  go_wp2_with (go_at_call 36; refine HL.out.mono ?_; rintro e w1 ⟨rfl, rfl⟩)
  go_ret
  exact ⟨rfl, rfl⟩
theorem qsame {P : Program} {f : FuncId} {args : Array Value} {w : World} {v : Value} (h : ∀ q, Calls P f args (w.drewN q) fun e w' => e = .returned v ∧ w.drewN q = w') (n : Nat) :
    Calls P f args (w.drewN n) fun e w'' => e = .returned v ∧ ∃ m, w'' = w.drewN m :=
  (h n).mono fun _ _ ⟨he, hm⟩ => ⟨he, n, hm.symm⟩
theorem Less_any (w : World) (x y : Int) : Calls Try.prog 45 #[.int .i64 x, .int .i64 y] w fun e w' => e = .returned (.bool (decide (x < y))) ∧ w = w' := by
  go_enter Try.func45, Try.ntmps45
  go_wp2_with (go_at_call 73; refine (isNaN_any _ _).mono ?_; rintro e w1 ⟨rfl, rfl⟩)
  go_ret
  exact ⟨rfl, rfl⟩
theorem IsSorted_any (a : Option Addr) (n c : Nat) (xs : List Int) (w : World) (hr : Rd w a n (ints xs)) (so : xs.Pairwise (· ≤ ·)) (hmax : n ≤ 1000000) :
    Calls Try.prog 18 #[.slice a n c] w fun e w' => e = .returned (.bool true) ∧ ∃ q, w' = w.drewN q := by
  have hn : xs.length = n := by simpa using hr.len
  have HR := Lib.hid hr
  have HN := Lib.hid hn
  have HS := Lib.hid so
  clear hr hn so
  go_enter Try.func18, Try.ntmps18
  go_wp2_with fail
  go_loopw [3] (fun s3 wr => ∃ (i : Nat) (v : Int), i ≤ n ∧ s3 = .int .i64 v ∧ v = (i : Int) - 1 ∧ ∃ q, wr = w.drewN q) (fun s3 _ => ((intOf s3) + 1).toNat)
  case atStart => exact ⟨n, (n : Int) - 1, by omega, rfl, rfl, 0, rfl⟩
  case round =>
    obtain ⟨i, j, hi, rfl, hj, q, rfl⟩ := hrel
    by_cases hlt : 1 < i
    · obtain ⟨i, rfl⟩ : ∃ m, i = m + 2 := ⟨i - 2, by omega⟩
      obtain ⟨m, hm⟩ : ∃ m, m = i + 1 := ⟨_, rfl⟩
      obtain rfl : j = (m : Int) := by omega
      have hmi : (m : Int) - 1 = (i : Int) := by omega
      have hmn : m < n := by omega
      have hwr : IntKind.i64.wrap (i : Int) = (i : Int) := IntWalk.i64_in _ (by omega)
      clear hj
      obtain ⟨b, o, v, ea, hv, hc⟩ := HR.out.ix hmn
      obtain ⟨b', o', u, ea', hu, hc'⟩ := HR.out.ix (show i < n by omega)
      rw [ea] at ea'
      injection ea' with ea'
      injection ea' with e1 e2 _
      subst e1
      subst e2
      subst ea
      have hvu : ¬ v < u := by
        obtain ⟨h1, rfl⟩ := List.getElem?_eq_some_iff.1 hv
        obtain ⟨h2, rfl⟩ := List.getElem?_eq_some_iff.1 hu
        have := List.pairwise_iff_getElem.1 HS.out i m h2 h1 (by omega)
        omega
      obtain ⟨wq, hwq⟩ : ∃ wq, w.drewN q = wq := ⟨_, rfl⟩
      have hL : ∀ m, Calls Try.prog 45 #[.int .i64 v, .int .i64 u] (wq.drewN m) fun e w' => e = .returned (.bool false) ∧ wq.drewN m = w' := fun m => by
        have := Less_any (wq.drewN m) v u
        rwa [decide_eq_false hvu] at this
      have HL := Lib.hid hL
      have hcq : wq.cell? ⟨b, o + m, none⟩ = some (.int .i64 v) := by rw [← hwq]; exact hc
      have hcq' : wq.cell? ⟨b, o + i, none⟩ = some (.int .i64 u) := by rw [← hwq]; exact hc'
      rw [hwq]
      have Hwq := Lib.hid hwq
      clear hc hc' hwq
      have hm0 : 0 < m := by omega
      have hi0 : i < n := by omega
      have Hm := Lib.hid hm
      clear hv hu hL hm hlt
      go_wp2_with fail
      go_quiet ((go_at_call 45; exact qsame HL.out _))
      go_wp2_with fail
      go_roundw
      case rel => exact ⟨m, (i : Int), by omega, rfl, by omega, _, by rw [← Hwq.out]; exact World.drewN_drewN _ _ _⟩
      case measure => simp [intOf] <;> omega
    · have hjj : j ≤ 0 := by omega
      clear hj
      go_wp2_with fail
      go_ret
      exact ⟨rfl, q, rfl⟩
end Go.Proofs.Ytkmnnfflibamnaa
