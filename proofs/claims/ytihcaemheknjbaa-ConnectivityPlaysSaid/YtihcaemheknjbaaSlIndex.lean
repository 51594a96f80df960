/- slices.Index at ints. -/
import Derived.Test.YtihcaemheknjbaaComAll
namespace Go.Proofs.Ytihcaemheknjbaa
open Go.RowKit

/-- slices.Index. -/
def idxI (l : List Int) (x : Int) : Int := if l.any (· == x) then ((l.findIdx (· == x) : Nat) : Int) else -1
theorem Index_any (a : Option Addr) (m c : Nat) (ps : List Int) (x : Int) (w : World) (hp : Rd w a m (ints ps)) :
    Calls Try.prog 54 #[.slice a m c, .int .i64 x] w fun e w' => e = .returned (.int .i64 (idxI ps x)) ∧ w = w' := by
  have hpl : ps.length = m := by simpa using hp.len
  have hm := hp.max
  have Hpl := Lib.hid hpl
  clear hpl
  go_enter Try.func54, Try.ntmps54
  go_wp2_with fail
  go_loop [8] (fun i => ∃ k : Nat, k ≤ m ∧ i = .int .i64 k ∧ Hid ((ps.take k).any (· == x) = false)) (fun i => m - (intOf i).toNat)
  case atStart => exact ⟨0, by omega, rfl, Lib.hid (by simp)⟩
  case round =>
    obtain ⟨k, hk, rfl, hno⟩ := hrel
    by_cases hlt : k < m
    · have hpl := Hpl.out
      obtain ⟨y, hy⟩ : ∃ y, ps[k]? = some y := ⟨ps[k], by simp [hpl, hlt]⟩
      obtain ⟨b, o, hb, hc⟩ := hp.cells (by omega)
      subst hb
      have d := hc k (.int .i64 y) (by simp [hy])
      have Hy := Lib.hid hy
      clear hc hy hpl
      by_cases hxy : x = y
      · subst hxy
        have e : idxI ps x = k := by
          have hpl := Hpl.out
          have hy := Hy.out
          have hany : ps.any (· == x) = true := List.any_eq_true.2 ⟨x, List.mem_of_getElem? hy, by simp⟩
          unfold idxI
          rw [if_pos hany]
          have h1 : ps.findIdx (· == x) = k := by
            rw [List.findIdx_eq (by omega)]
            refine ⟨?_, fun j hj => ?_⟩
            · rw [List.getElem?_eq_getElem (by omega)] at hy
              injection hy with hy
              rw [hy]; simp
            · have := hno.out
              rw [List.any_eq_false] at this
              have h2 := this (ps[j]'(by omega)) (List.mem_take_iff_getElem.2 ⟨j, by omega, rfl⟩)
              simpa using h2
          rw [h1]
        have E := Lib.hid e
        clear e
        go_wp2_with fail
        go_ret
        rw [E.out]
        exact ⟨rfl, rfl⟩
      · have hb : (x == y) = false := by simpa using hxy
        go_wp2_with fail
        go_round
        case rel => exact ⟨k + 1, by omega, by go_num, Lib.hid (by rw [List.take_add_one, Hy.out, List.any_append, hno.out]; simp; exact fun e => hxy e.symm)⟩
        case measure => simp [intOf]; omega
    · obtain rfl : m = k := by omega
      have e : idxI ps x = -1 := by
        have h := hno.out
        rw [List.take_of_length_le (by rw [Hpl.out]; omega)] at h
        unfold idxI; rw [h]; rfl
      have E := Lib.hid e
      clear e
      go_wp2_with fail
      go_ret
      rw [E.out]
      exact ⟨rfl, rfl⟩


end Go.Proofs.Ytihcaemheknjbaa
