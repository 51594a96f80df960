/- Worst: treelayout's and the reference's; Bound. -/
import Derived.Test.YtdllpiekkbojgaaV3
import Derived.Test.YtdllpiekkbojgaaLays
namespace Go.Proofs.Ytdllpiekkbojgaa
open Go.RowKit Go.Maps

theorem up_mem : ∀ (u : Nat) (x : Int), x ∈ up u → 0 ≤ x ∧ x + 1 ≤ u := by
  intro u
  induction u using Nat.strongRecOn with
  | _ u ih =>
    intro x hx
    by_cases h : u = 0
    · subst h; simp [up_zero] at hx
    · rw [up_pos u (by omega)] at hx
      rcases List.mem_cons.1 hx with hx | hx
      · omega
      · have := ih (u / 2) (by omega) x hx; omega
theorem path_mem {h l : Nat} (h1 : 1 ≤ h) (hl : l < 2 ^ (h - 1)) : ∀ x ∈ pathL h l, 0 ≤ x ∧ x < cnt h := by
  intro x hx
  have := up_mem _ x (by simpa [pathL] using hx)
  have e : 2 ^ h = 2 * 2 ^ (h - 1) := by rw [← Nat.pow_succ']; congr 1; omega
  unfold cnt
  omega
theorem up_length : ∀ (d u : Nat), 2 ^ d ≤ u → u < 2 ^ (d + 1) → (up u).length = d + 1 := by
  intro d
  induction d with
  | zero => intro u h1 h2; have : u = 1 := by omega
            subst this; rfl
  | succ d ih =>
    intro u h1 h2
    have e1 : 2 ^ (d + 1) = 2 * 2 ^ d := by rw [Nat.pow_succ']
    have e2 : 2 ^ (d + 1 + 1) = 2 * 2 ^ (d + 1) := by rw [Nat.pow_succ']
    have : 1 ≤ 2 ^ d := Nat.one_le_two_pow
    rw [up_pos u (by omega)]
    simp only [List.length_cons]
    rw [ih (u / 2) (by omega) (by omega)]
theorem path_length {h l : Nat} (h1 : 1 ≤ h) (hl : l < 2 ^ (h - 1)) : (pathL h l).length = h := by
  unfold pathL
  rw [List.length_reverse, up_length (h - 1) _ (by omega) (by rw [Nat.pow_succ]; omega)]
  omega

/-- The greatest number of blocks of the first k paths. -/
def worstK (kind : Int) (h : Nat) (s : Int) : Nat → Nat
  | 0 => 0
  | k + 1 => max (worstK kind h s k) (blocksN s ((pathL h k).map (getI (layS kind h))))
def worstS (kind : Int) (h : Nat) (s : Int) : Nat := worstK kind h s (2 ^ (h - 1))

set_option maxHeartbeats 1000000 in
theorem Worst_any (kind : Int) (h : Nat) (hi s : Int) (w : World) (hhi : hi = h) (h1 : 1 ≤ h) (h2 : h ≤ 16) (hk1 : 1 ≤ kind) (hk2 : kind ≤ 4) (hs : 1 ≤ s) :
    Calls Try.prog 18 #[.int .i64 kind, .int .i64 hi, .int .i64 s] w fun e w' => e = .returned (.tuple #[.int .i64 (worstS kind h s), .int .i64 0]) ∧ Fr F0 w w' := by
  subst hhi
  have hg : givenB kind h s = true := by unfold givenB; simp; omega
  obtain ⟨m, hm⟩ : ∃ m, m = 2 ^ (h - 1) := ⟨_, rfl⟩
  have hm1 : m ≤ 65536 := by
    have := Nat.pow_le_pow_right (n := 2) (by omega) (show h - 1 ≤ 16 by omega)
    rw [hm]; simpa using this
  have W1 : Hid (wrap64 ((2 : Int) ^ (h - 1)) = (m : Int)) := Lib.hid (by
    rw [show (2 : Int) ^ (h - 1) = ((m : Nat) : Int) by subst hm; simp]
    exact IntWalk.wrap64_in _ (by omega))
  have e1 : ((h : Int) - 1).toNat = h - 1 := by omega
  have Hm := Lib.hid hm
  clear hm
  go_enter Try.func18, Try.ntmps18
  go_wp2_with fail
  refine (given_any _ _ _ _).mono ?_; rintro e w' ⟨rfl, rfl⟩
  go_wp2_with fail
  refine (layout_any kind h _ _ rfl h1 h2).mono ?_; rintro e w1 ⟨a, c, rfl, hO, hF⟩
  have hR := hO.rd
  clear hO
  obtain ⟨wo, rfl⟩ : ∃ wo : World, wo = w1 := ⟨_, rfl⟩
  go_wp2_with fail
  simp only [W1.out]
  go_loopw [9, 24] (fun b i wr => ∃ k : Nat, k ≤ m ∧ i = .int .i64 k ∧ b = .int .i64 (worstK kind h s k) ∧ Fr F0 wo wr) (fun _ i _ => m - (intOf i).toNat)
  case atStart => exact ⟨0, by omega, rfl, rfl, Fr.refl _ _⟩
  case round =>
    obtain ⟨k, hk, rfl, rfl, hnx⟩ := hrel
    by_cases hlt : k < m
    · have hkm : k < 2 ^ (h - 1) := by rw [← Hm.out]; exact hlt
      replace hkm := Lib.hid hkm
      have hstep : Hid (worstK kind h s (k + 1) = max (worstK kind h s k) (blocksN s ((pathL h k).map (getI (layS kind h))))) := Lib.hid rfl
      generalize worstK kind h s k = q at *
      go_wp2_with fail
      refine (Path_any h k _ _ wr rfl rfl h1 h2 hkm.out).mono ?_; rintro e w2 ⟨a2, n2, c2, rfl, hO2, hF2⟩
      have hn2 : n2 = h := by rw [← hO2.lens, path_length h1 hkm.out]
      subst hn2
      have hR2 := hO2.rd
      replace hnx := hnx.trans0 hF2
      clear hO2
      go_wp2_with fail
      refine (at_any a a2 _ n2 c c2 (layS kind n2) (pathL n2 k) w2 (hR.fr0 hnx) hR2 (path_mem h1 hkm.out) (by omega)).mono ?_; rintro e w3 ⟨a3, c3, rfl, hO3, hF3⟩
      have hR3 := hO3.rd
      replace hnx := hnx.trans0 hF3
      clear hO3
      go_wp2_with fail
      refine (touched_any a3 n2 c3 _ s w3 hR3 hs (by omega)).mono ?_; rintro e w4 ⟨rfl, hF4⟩
      replace hnx := hnx.trans0 hF4
      generalize blocksN s ((pathL n2 k).map (getI (layS kind n2))) = r at *
      go_wp2_with fail
      go_roundw
      case rel => exact ⟨k + 1, by omega, by go_num, by rw [hstep.out]; first | rfl | (congr 1; omega) | (congr 1; simp; omega), hnx⟩
      case measure => simp [intOf]; omega
    · obtain rfl : m = k := by omega
      have E : Hid (worstS kind h s = worstK kind h s m) := Lib.hid (by rw [worstS, ← Hm.out])
      go_wp2_with fail
      go_ret2
      rw [E.out]
      exact ⟨rfl, hF.trans0 hnx⟩

end Go.Proofs.Ytdllpiekkbojgaa
