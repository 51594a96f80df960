/- Catalogs that are sorted; the two tests of Make. -/
import Derived.Test.YtglonedhcljdoaaCom7
namespace Go.Proofs.Ytglonedhcljdoaa
open Go.RowKit
attribute [local go_sem ↓] Go.wp_at_zero Go.wp_at_succ

theorem isNaN_any (x : Int) (w : World) : Calls Try.prog 34 #[.int .i64 x] w fun e w' => e = .returned (.bool false) ∧ w = w' := by
  have h : (x != x) = false := by simp
  go_enter Try.func34, Try.ntmps34
  go_wp2_with fail
  go_ret
  exact ⟨rfl, rfl⟩
theorem Less_any (x y : Int) (w : World) : Calls Try.prog 33 #[.int .i64 x, .int .i64 y] w fun e w' => e = .returned (.bool (decide (x < y))) ∧ w = w' := by
  go_enter Try.func33, Try.ntmps33
  go_wp2_with fail
  refine (isNaN_any x _).mono ?_; rintro e w' ⟨rfl, rfl⟩
  go_wp2_with fail
  go_ret
  exact ⟨rfl, rfl⟩
/-- From place k on the list does not descend. -/
def sortK (xs : List Int) (k : Nat) : Bool := (List.range (xs.length - 1)).all fun i => decide (i < k) || decide (xs.getD i 0 ≤ xs.getD (i + 1) 0)
theorem sortK_iff {xs : List Int} {k : Nat} : sortK xs k = true ↔ ∀ i, k ≤ i → i + 1 < xs.length → xs.getD i 0 ≤ xs.getD (i + 1) 0 := by
  unfold sortK
  simp only [List.all_eq_true, List.mem_range, Bool.or_eq_true, decide_eq_true_eq]
  constructor
  · intro h i h1 h2
    rcases h i (by omega) with h | h
    · omega
    · exact h
  · intro h i hi
    by_cases hk : i < k
    · exact .inl hk
    · exact .inr (h i (by omega) (by omega))
def sortB (xs : List Int) : Bool := sortK xs 0
set_option maxHeartbeats 1000000 in
theorem IsSorted_any (a : Option Addr) (n c : Nat) (xs : List Int) (w : World) (hr : Rd w a n (ints xs)) :
    Calls Try.prog 26 #[.slice a n c] w fun e w' => e = .returned (.bool (sortB xs)) ∧ Fr F0 w w' := by
  have hxl : xs.length = n := by simpa using hr.len
  have hm := hr.max
  have Hxl := Lib.hid hxl
  clear hxl
  go_enter Try.func26, Try.ntmps26
  go_wp2_with fail
  go_loopw [3] (fun i wr => ∃ (k : Int), -1 ≤ k ∧ k + 1 ≤ n ∧ (k = -1 → n = 0) ∧ i = .int .i64 k ∧ Hid (sortK xs k.toNat = true) ∧ Fr F0 w wr) (fun i _ => (intOf i).toNat)
  case atStart => exact ⟨(n : Int) - 1, by omega, by omega, by omega, by go_num, Lib.hid (sortK_iff.2 (fun i h1 h2 => by have := Hxl.out; omega)), Fr.refl _ _⟩
  case round =>
    obtain ⟨k, hk0, hk1, hkn, rfl, hS, hF⟩ := hrel
    by_cases hp : 0 < k
    · obtain ⟨m, rfl⟩ := Int.eq_ofNat_of_zero_le (show 0 ≤ k by omega)
      obtain ⟨j, hj⟩ : ∃ j : Nat, m = j + 1 := ⟨m - 1, by omega⟩
      obtain ⟨b, o, x, hab, hx, hc1⟩ := (hr.fr0 hF).ix (i := j) (by omega)
      obtain ⟨b', o', y, hab', hy, hc2⟩ := (hr.fr0 hF).ix (i := m) (by omega)
      rw [hab] at hab'
      injection hab' with hab'
      injection hab' with e1 e2
      subst e1 e2
      have gx : xs.getD j 0 = x := by simp [hx]
      have gy : xs.getD (j + 1) 0 = y := by rw [← hj]; simp [hy]
      subst hab
      have i1 : (0 : Int) ≤ (m : Int) := by omega
      have i2 : (m : Int) < (n : Int) := by omega
      have i3 : (0 : Int) ≤ (m : Int) - 1 := by omega
      have i3' : (1 : Int) ≤ (m : Int) := by omega
      have i4 : (m : Int) - 1 < (n : Int) := by omega
      have w1 : IntKind.i64.wrap ((m : Int) - 1) = (m : Int) - 1 := IntWalk.i64_in _ (by omega)
      have t1 : ((m : Int) - 1).toNat = j := by omega
      have hj2 : Hid (m = j + 1) := Lib.hid hj
      clear hj
      by_cases hlt : y < x
      · have E : Hid (sortB xs = false) := Lib.hid (by
          cases h : sortB xs with
          | false => rfl
          | true =>
            have := sortK_iff.1 h j (by omega) (by have := Hxl.out; have := hj2.out; omega)
            rw [gx, gy] at this; omega)
        have hd : decide (y < x) = true := by simpa using hlt
        replace hlt := Lib.hid hlt
        clear hx hy gx gy
        go_wp2_with fail
        go_region_held3 (fun w' => w'.cell? ⟨b, o + j, none⟩ = some (.int .i64 x) ∧ w'.cell? ⟨b, o + m, none⟩ = some (.int .i64 y)) (go_keep)
          ((go_at_call 33; refine (Less_any y x _).mono ?_; rintro e w9 ⟨rfl, rfl⟩; rw [hd]))
        go_wp2_with fail
        go_ret
        exact ⟨ret_bool E.out.symm, hF.drew⟩
      · have hd : decide (y < x) = false := by simpa using hlt
        have hS2 : Hid (sortK xs j = true) := Lib.hid (sortK_iff.2 (fun i h1 h2 => by
          by_cases hij : i = j
          · rw [hij, gx, gy]; omega
          · exact sortK_iff.1 hS.out i (by have := hj2.out; simp; omega) h2))
        replace hlt := Lib.hid hlt
        clear hx hy gx gy
        go_wp2_with fail
        go_region_held3 (fun w' => w'.cell? ⟨b, o + j, none⟩ = some (.int .i64 x) ∧ w'.cell? ⟨b, o + m, none⟩ = some (.int .i64 y)) (go_keep)
          ((go_at_call 33; refine (Less_any y x _).mono ?_; rintro e w9 ⟨rfl, rfl⟩; rw [hd]))
        clear w1
        go_wp2_with fail
        go_roundw
        case rel => exact ⟨(m : Int) - 1, by omega, by omega, by have := hj2.out; omega, by go_num, Lib.hid (by rw [t1]; exact hS2.out), hF.drew⟩
        case measure => simp [intOf]; omega
    · have E : Hid (sortB xs = true) := Lib.hid (by
        have h := hS.out
        have : k.toNat = 0 := by omega
        rw [this] at h; exact h)
      go_wp2_with fail
      go_ret
      exact ⟨ret_bool E.out.symm, hF⟩

end Go.Proofs.Ytglonedhcljdoaa
