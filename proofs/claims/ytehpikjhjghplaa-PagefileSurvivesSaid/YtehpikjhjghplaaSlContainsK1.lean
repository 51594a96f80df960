/- slices.IndexFunc, slices.ContainsFunc at ints and one closure without captured values. -/
import Derived.Test.YtehpikjhjghplaaSlContains0
namespace Go.Proofs.Ytehpikjhjghplaa
open Go.RowKit

theorem IndexFunc_k1 (f : Int → Bool) (a : Option Addr) (m c : Nat) (ps : List Int) (w : World) (hp : Rd w a m (ints ps))
    (hf : ∀ x, Calls Try.prog 34 #[.int .i64 x] w fun e w' => e = .returned (.bool (f x)) ∧ w = w') :
    Calls Try.prog 61 #[.slice a m c, .func (.func 34) #[] #[]] w fun e w' => e = .returned (.int .i64 (idxF f ps)) ∧ w = w' := by
  have hpl : ps.length = m := by simpa using hp.len
  have hm := hp.max
  have Hf := Lib.hid hf
  have Hpl := Lib.hid hpl
  clear hf hpl
  go_enter Try.func61, Try.ntmps61
  go_wp2_with fail
  go_loop [8] (fun i => ∃ k : Nat, k ≤ m ∧ i = .int .i64 k ∧ (ps.take k).any f = false) (fun i => m - (intOf i).toNat)
  case atStart => exact ⟨0, by omega, rfl, by simp⟩
  case round =>
    obtain ⟨k, hk, rfl, hno⟩ := hrel
    replace hno := Lib.hid hno
    by_cases hlt : k < m
    · have hpl := Hpl.out
      obtain ⟨x, hx⟩ : ∃ x, ps[k]? = some x := ⟨ps[k], by simp [hpl, hlt]⟩
      obtain ⟨b, o, rfl, hc⟩ := hp.cells (by omega)
      have d := hc k (.int .i64 x) (by simp [hx])
      have Hx := Lib.hid hx
      clear hc hx hpl
      go_wp2_with fail
      refine (Hf.out x).mono ?_; rintro e w' ⟨rfl, rfl⟩
      cases hfx : f x
      · have Hfx := Lib.hid hfx
        clear hfx
        go_wp2_with fail
        go_round
        case rel => exact ⟨k + 1, by omega, by go_num, by rw [List.take_add_one, Hx.out, List.any_append, hno.out]; simpa using Hfx.out⟩
        case measure => simp [intOf]; omega
      · have e : idxF f ps = k := by
          have hpl := Hpl.out
          have hx := Hx.out
          have hany : ps.any f = true := List.any_eq_true.2 ⟨x, List.mem_of_getElem? hx, hfx⟩
          unfold idxF
          rw [if_pos hany]
          have h1 : ps.findIdx f = k := by
            rw [List.findIdx_eq (by omega)]
            refine ⟨?_, fun j hj => ?_⟩
            · rw [List.getElem?_eq_getElem (by omega)] at hx
              injection hx with hx
              rw [hx]; exact hfx
            · have := hno.out
              rw [List.any_eq_false] at this
              have h2 := this (ps[j]'(by omega)) (List.mem_take_iff_getElem.2 ⟨j, by omega, rfl⟩)
              simpa using h2
          rw [h1]
        have E := Lib.hid e
        clear hfx e
        go_wp2_with fail
        go_ret
        rw [E.out]
        exact ⟨rfl, rfl⟩
    · obtain rfl : m = k := by omega
      have e : idxF f ps = -1 := by
        have h := hno.out
        rw [List.take_of_length_le (by rw [Hpl.out]; omega)] at h
        unfold idxF; rw [h]; rfl
      have E := Lib.hid e
      clear e
      go_wp2_with fail
      go_ret
      rw [E.out]
      exact ⟨rfl, rfl⟩
theorem ContainsFunc_k1 (f : Int → Bool) (a : Option Addr) (m c : Nat) (ps : List Int) (w : World) (hp : Rd w a m (ints ps))
    (hf : ∀ x, Calls Try.prog 34 #[.int .i64 x] w fun e w' => e = .returned (.bool (f x)) ∧ w = w') :
    Calls Try.prog 33 #[.slice a m c, .func (.func 34) #[] #[]] w fun e w' => e = .returned (.bool (ps.any f)) ∧ w = w' := by
  have e : decide (0 ≤ idxF f ps) = ps.any f := by
    unfold idxF; cases ps.any f <;> simp
  have E := Lib.hid e
  clear e
  go_enter Try.func33, Try.ntmps33
  go_wp2_with fail
  refine (IndexFunc_k1 f a m c ps w hp hf).mono ?_; rintro e w' ⟨rfl, rfl⟩
  go_wp2_with fail
  go_ret
  exact ⟨ret_bool E.out, rfl⟩


end Go.Proofs.Ytehpikjhjghplaa
