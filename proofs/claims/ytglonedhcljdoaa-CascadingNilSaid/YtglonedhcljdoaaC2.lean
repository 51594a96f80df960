/- The two tests of Make over catalogs; the reference's Check. -/
import Derived.Test.YtglonedhcljdoaaC1
namespace Go.Proofs.Ytglonedhcljdoaa
open Go.RowKit
attribute [local go_sem ↓] Go.wp_at_zero Go.wp_at_succ

def longB (xs : List Int) : Bool := decide (1000 < xs.length)
theorem Make1_any (a : Option Addr) (n c : Nat) (xs : List Int) (w : World) (hr : Rd w a n (ints xs)) :
    Calls Try.prog 24 #[.slice a n c] w fun e w' => e = .returned (.bool (longB xs)) ∧ Fr F0 w w' := by
  have hxl : xs.length = n := by simpa using hr.len
  have hm := hr.max
  have E : Hid (longB xs = decide ((1000 : Int) < (n : Int))) := Lib.hid (by unfold longB; rw [hxl, Bool.eq_iff_iff]; simp; omega)
  clear hxl
  go_enter Try.func24, Try.ntmps24
  go_wp2_with fail
  go_ret
  exact ⟨ret_bool (by rw [E.out]), Fr.refl _ _⟩
def badB (xs : List Int) : Bool := !sortB xs || (decide (0 < xs.length) && (decide (xs.getD 0 0 < -1048576) || decide (1048576 < xs.getD (xs.length - 1) 0)))
set_option maxHeartbeats 1000000 in
theorem Make2_any (a : Option Addr) (n c : Nat) (xs : List Int) (w : World) (hr : Rd w a n (ints xs)) :
    Calls Try.prog 25 #[.slice a n c] w fun e w' => e = .returned (.bool (badB xs)) ∧ Fr F0 w w' := by
  have hxl : xs.length = n := by simpa using hr.len
  have hm := hr.max
  cases hs : sortB xs
  · have E : Hid (badB xs = true) := Lib.hid (by unfold badB; rw [hs]; rfl)
    replace hs := Lib.hid hs
    clear hxl
    go_enter Try.func25, Try.ntmps25
    go_wp2_with fail
    refine (IsSorted_any a n c xs _ hr).mono ?_; rintro e w1 ⟨rfl, F1⟩
    rw [hs.out]
    replace F1 := Lib.hid F1
    go_wp2_with fail
    go_ret
    exact ⟨ret_bool E.out.symm, F1.out⟩
  · by_cases h0 : n = 0
    · have E : Hid (badB xs = false) := Lib.hid (by unfold badB; rw [hs, hxl, h0]; rfl)
      replace hs := Lib.hid hs
      subst h0
      clear hxl
      go_enter Try.func25, Try.ntmps25
      go_wp2_with fail
      refine (IsSorted_any a 0 c xs _ hr).mono ?_; rintro e w1 ⟨rfl, F1⟩
      rw [hs.out]
      replace F1 := Lib.hid F1
      go_wp2_with fail
      go_ret
      exact ⟨ret_bool E.out.symm, F1.out⟩
    · obtain ⟨j, hj⟩ : ∃ j : Nat, n = j + 1 := ⟨n - 1, by omega⟩
      obtain ⟨b, o, x, hab, hx, hc1⟩ := hr.ix (i := 0) (by omega)
      obtain ⟨b', o', y, hab', hy, hc2⟩ := hr.ix (i := j) (by omega)
      rw [hab] at hab'
      injection hab' with hab'
      injection hab' with e1 e2
      subst e1 e2
      have gx : xs.getD 0 0 = x := by simp [hx]
      have gy : xs.getD (xs.length - 1) 0 = y := by rw [hxl, hj]; simp [hy]
      have E : Hid (badB xs = (decide (x < -1048576) || decide (1048576 < y))) := Lib.hid (by unfold badB; rw [hs, gx, gy, hxl, show decide (0 < n) = true by simp; omega]; simp)
      have hn0 : decide ((0 : Int) < (n : Int)) = true := by simp; omega
      have t1 : ((n : Int) - 1).toNat = j := by omega
      have t2 : (0 : Int) ≤ (n : Int) - 1 := by omega
      have t4 : (1 : Int) ≤ (n : Int) := by omega
      have t3 : 0 < n := by omega
      simp only [Nat.add_zero] at hc1
      replace hs := Lib.hid hs
      have hx1 : decide (x < -1048576) = true ∨ decide (x < -1048576) = false := by cases decide (x < -1048576) <;> simp
      have hy1 : decide (1048576 < y) = true ∨ decide (1048576 < y) = false := by cases decide (1048576 < y) <;> simp
      subst hab
      clear hx hy gx gy hxl hj h0
      rcases hx1 with hx1 | hx1
      · go_enter Try.func25, Try.ntmps25
        go_wp2_with fail
        refine (IsSorted_any _ n c xs _ hr).mono ?_; rintro e w1 ⟨rfl, F1⟩
        rw [hs.out]
        replace hc1 := F1.cell hc1 id
        replace hc2 := F1.cell hc2 id
        replace F1 := Lib.hid F1
        go_wp2_with fail
        go_ret
        exact ⟨ret_bool (by rw [E.out, hx1]; rfl), F1.out⟩
      · rcases hy1 with hy1 | hy1
        all_goals
          go_enter Try.func25, Try.ntmps25
          go_wp2_with fail
          refine (IsSorted_any _ n c xs _ hr).mono ?_; rintro e w1 ⟨rfl, F1⟩
          rw [hs.out]
          replace hc1 := F1.cell hc1 id
          replace hc2 := F1.cell hc2 id
          replace F1 := Lib.hid F1
          go_wp2_with fail
          go_ret
          exact ⟨ret_bool (by rw [E.out, hx1, hy1]; rfl), F1.out⟩

def idxR (f : List Int → Bool) (L : List (List Int)) : Int := if L.any f then ((L.findIdx f : Nat) : Int) else -1

set_option maxHeartbeats 1000000 in
theorem IndexFunc24_any (a : Option Addr) (n c : Nat) (R : List RowV) (w : World) (hr : ArgRows w a n c R) :
    Calls Try.prog 32 #[.slice a n c, .func (.func 24) #[] #[]] w fun e w' => e = .returned (.int .i64 (idxR longB (catL R))) ∧ Fr F0 w w' := by
  have hpl := hr.len
  have hm := hr.rd.max
  have Hpl := Lib.hid hpl
  clear hpl
  go_enter Try.func32, Try.ntmps32
  go_wp2_with fail
  go_loopw [8] (fun i wr => ∃ k : Nat, k ≤ n ∧ i = .int .i64 k ∧ Hid (((catL R).take k).any longB = false) ∧ Fr F0 w wr) (fun i _ => n - (intOf i).toNat)
  case atStart => exact ⟨0, by omega, rfl, Lib.hid (by simp), Fr.refl _ _⟩
  case round =>
    obtain ⟨k, hk, rfl, hno, hF⟩ := hrel
    by_cases hlt : k < n
    · obtain ⟨b, o, r, hb, hrk, d⟩ := (hr.fr0 hF).ix hlt
      have hrow := (hr.fr0 hF).row k r hrk
      have hx : (catL R)[k]? = some r.xs := by simp [catL, hrk]
      subst hb
      obtain ⟨ra, rn, rc, rxs⟩ := r
      simp only [RowV.val] at *
      have Hx := Lib.hid hx
      clear hx hrk
      go_wp2_with fail
      refine (Make1_any ra rn rc rxs _ hrow).mono ?_; rintro e w1 ⟨rfl, F1⟩
      replace hF := hF.trans0 F1
      clear F1
      cases hfx : longB rxs
      · have Hfx := Lib.hid hfx
        clear hfx
        go_wp2_with fail
        go_roundw
        case rel => exact ⟨k + 1, by omega, by go_num, Lib.hid (by rw [List.take_add_one, Hx.out, List.any_append, hno.out]; simpa using Hfx.out), hF⟩
        case measure => simp [intOf]; omega
      · have e : idxR longB (catL R) = k := by
          have hany : (catL R).any longB = true := List.any_eq_true.2 ⟨_, List.mem_of_getElem? Hx.out, hfx⟩
          unfold idxR
          rw [if_pos hany]
          have h1 : (catL R).findIdx longB = k := by
            have hlen : k < (catL R).length := (List.getElem?_eq_some_iff.1 Hx.out).1
            rw [List.findIdx_eq hlen]
            refine ⟨?_, fun j hj => ?_⟩
            · have := (List.getElem?_eq_some_iff.1 Hx.out).2
              rw [this]; exact hfx
            · have := hno.out
              rw [List.any_eq_false] at this
              have h2 := this ((catL R)[j]'(by omega)) (List.mem_take_iff_getElem.2 ⟨j, by omega, rfl⟩)
              simpa using h2
          rw [h1]
        have E := Lib.hid e
        clear hfx e
        replace hF := Lib.hid hF
        go_wp2_with fail
        go_ret
        exact ⟨ret_int E.out.symm, hF.out⟩
    · obtain rfl : n = k := by omega
      have e : idxR longB (catL R) = -1 := by
        have h := hno.out
        rw [List.take_of_length_le (by have := Hpl.out; simp [catL]; omega)] at h
        unfold idxR; rw [h]; rfl
      have E := Lib.hid e
      clear e
      go_wp2_with fail
      go_ret
      exact ⟨ret_int E.out.symm, hF⟩
theorem ContainsFunc24_any (a : Option Addr) (n c : Nat) (R : List RowV) (w : World) (hr : ArgRows w a n c R) :
    Calls Try.prog 23 #[.slice a n c, .func (.func 24) #[] #[]] w fun e w' => e = .returned (.bool ((catL R).any longB)) ∧ Fr F0 w w' := by
  have e : decide (0 ≤ idxR longB (catL R)) = (catL R).any longB := by
    unfold idxR; cases (catL R).any longB <;> simp
  have E := Lib.hid e
  clear e
  go_enter Try.func23, Try.ntmps23
  go_wp2_with fail
  refine (IndexFunc24_any a n c R w hr).mono ?_; rintro e w' ⟨rfl, F⟩
  go_wp2_with fail
  go_ret
  exact ⟨ret_bool E.out, F⟩

set_option maxHeartbeats 1000000 in
theorem IndexFunc25_any (a : Option Addr) (n c : Nat) (R : List RowV) (w : World) (hr : ArgRows w a n c R) :
    Calls Try.prog 32 #[.slice a n c, .func (.func 25) #[] #[]] w fun e w' => e = .returned (.int .i64 (idxR badB (catL R))) ∧ Fr F0 w w' := by
  have hpl := hr.len
  have hm := hr.rd.max
  have Hpl := Lib.hid hpl
  clear hpl
  go_enter Try.func32, Try.ntmps32
  go_wp2_with fail
  go_loopw [8] (fun i wr => ∃ k : Nat, k ≤ n ∧ i = .int .i64 k ∧ Hid (((catL R).take k).any badB = false) ∧ Fr F0 w wr) (fun i _ => n - (intOf i).toNat)
  case atStart => exact ⟨0, by omega, rfl, Lib.hid (by simp), Fr.refl _ _⟩
  case round =>
    obtain ⟨k, hk, rfl, hno, hF⟩ := hrel
    by_cases hlt : k < n
    · obtain ⟨b, o, r, hb, hrk, d⟩ := (hr.fr0 hF).ix hlt
      have hrow := (hr.fr0 hF).row k r hrk
      have hx : (catL R)[k]? = some r.xs := by simp [catL, hrk]
      subst hb
      obtain ⟨ra, rn, rc, rxs⟩ := r
      simp only [RowV.val] at *
      have Hx := Lib.hid hx
      clear hx hrk
      go_wp2_with fail
      refine (Make2_any ra rn rc rxs _ hrow).mono ?_; rintro e w1 ⟨rfl, F1⟩
      replace hF := hF.trans0 F1
      clear F1
      cases hfx : badB rxs
      · have Hfx := Lib.hid hfx
        clear hfx
        go_wp2_with fail
        go_roundw
        case rel => exact ⟨k + 1, by omega, by go_num, Lib.hid (by rw [List.take_add_one, Hx.out, List.any_append, hno.out]; simpa using Hfx.out), hF⟩
        case measure => simp [intOf]; omega
      · have e : idxR badB (catL R) = k := by
          have hany : (catL R).any badB = true := List.any_eq_true.2 ⟨_, List.mem_of_getElem? Hx.out, hfx⟩
          unfold idxR
          rw [if_pos hany]
          have h1 : (catL R).findIdx badB = k := by
            have hlen : k < (catL R).length := (List.getElem?_eq_some_iff.1 Hx.out).1
            rw [List.findIdx_eq hlen]
            refine ⟨?_, fun j hj => ?_⟩
            · have := (List.getElem?_eq_some_iff.1 Hx.out).2
              rw [this]; exact hfx
            · have := hno.out
              rw [List.any_eq_false] at this
              have h2 := this ((catL R)[j]'(by omega)) (List.mem_take_iff_getElem.2 ⟨j, by omega, rfl⟩)
              simpa using h2
          rw [h1]
        have E := Lib.hid e
        clear hfx e
        replace hF := Lib.hid hF
        go_wp2_with fail
        go_ret
        exact ⟨ret_int E.out.symm, hF.out⟩
    · obtain rfl : n = k := by omega
      have e : idxR badB (catL R) = -1 := by
        have h := hno.out
        rw [List.take_of_length_le (by have := Hpl.out; simp [catL]; omega)] at h
        unfold idxR; rw [h]; rfl
      have E := Lib.hid e
      clear e
      go_wp2_with fail
      go_ret
      exact ⟨ret_int E.out.symm, hF⟩
theorem ContainsFunc25_any (a : Option Addr) (n c : Nat) (R : List RowV) (w : World) (hr : ArgRows w a n c R) :
    Calls Try.prog 23 #[.slice a n c, .func (.func 25) #[] #[]] w fun e w' => e = .returned (.bool ((catL R).any badB)) ∧ Fr F0 w w' := by
  have e : decide (0 ≤ idxR badB (catL R)) = (catL R).any badB := by
    unfold idxR; cases (catL R).any badB <;> simp
  have E := Lib.hid e
  clear e
  go_enter Try.func23, Try.ntmps23
  go_wp2_with fail
  refine (IndexFunc25_any a n c R w hr).mono ?_; rintro e w' ⟨rfl, F⟩
  go_wp2_with fail
  go_ret
  exact ⟨ret_bool E.out, F⟩

end Go.Proofs.Ytglonedhcljdoaa
