/- slices.IndexFunc, slices.ContainsFunc at ints and one closure with a captured value. -/
import Derived.Test.YtfeokafjehpgnaaSlContains0
import Derived.Test.YtfeokafjehpgnaaW1
namespace Go.Proofs.Ytfeokafjehpgnaa
open Go.RowKit

theorem IndexFunc_k1 (cap : Value) (f : Int → Bool) (a : Option Addr) (m c : Nat) (ps : List Int) (w : World) (hp : Rd w a m (ints ps))
    (hf : ∀ x, Calls Try.prog 61 #[.int .i64 x, cap] w fun e w' => e = .returned (.bool (f x)) ∧ w = w') :
    Calls Try.prog 66 #[.slice a m c, .func (.func 61) #[] #[cap]] w fun e w' => e = .returned (.int .i64 (idxF f ps)) ∧ w = w' := by
  have hpl : ps.length = m := by simpa using hp.len
  have hm := hp.max
  have Hf := Lib.hid hf
  have Hpl := Lib.hid hpl
  clear hf hpl
  go_enter Try.func66, Try.ntmps66
  go_wp2_with fail
  go_loop [8] (fun i => ∃ k : Nat, k ≤ m ∧ i = .int .i64 k ∧ (ps.take k).any f = false) (fun i => m - (intOf i).toNat)
  case atStart => exact ⟨0, by omega, rfl, by simp⟩
  case round =>
    obtain ⟨k, hk, rfl, hno⟩ := hrel
    replace hno := Lib.hid hno
    by_cases hlt : k < m
    · have hpl := Hpl.out
      obtain ⟨x, hx⟩ : ∃ x, ps[k]? = some x := ⟨ps[k], by simp [hpl, hlt]⟩
      obtain ⟨b, o, rfl, hc⟩ := hp.cells (by omega)
      have d := hc k (.int .i64 x) (by simp [hx])
      have Hx := Lib.hid hx
      clear hc hx hpl
      go_wp2_with fail
      refine (Hf.out x).mono ?_; rintro e w' ⟨rfl, rfl⟩
      cases hfx : f x
      · have Hfx := Lib.hid hfx
        clear hfx
        go_wp2_with fail
        go_round
        case rel => exact ⟨k + 1, by omega, by go_num, by rw [List.take_add_one, Hx.out, List.any_append, hno.out]; simpa using Hfx.out⟩
        case measure => simp [intOf]; omega
      · have e : idxF f ps = k := by
          have hpl := Hpl.out
          have hx := Hx.out
          have hany : ps.any f = true := List.any_eq_true.2 ⟨x, List.mem_of_getElem? hx, hfx⟩
          unfold idxF
          rw [if_pos hany]
          have h1 : ps.findIdx f = k := by
            rw [List.findIdx_eq (by omega)]
            refine ⟨?_, fun j hj => ?_⟩
            · rw [List.getElem?_eq_getElem (by omega)] at hx
              injection hx with hx
              rw [hx]; exact hfx
            · have := hno.out
              rw [List.any_eq_false] at this
              have h2 := this (ps[j]'(by omega)) (List.mem_take_iff_getElem.2 ⟨j, by omega, rfl⟩)
              simpa using h2
          rw [h1]
        have E := Lib.hid e
        clear hfx e
        go_wp2_with fail
        go_ret
        rw [E.out]
        exact ⟨rfl, rfl⟩
    · obtain rfl : m = k := by omega
      have e : idxF f ps = -1 := by
        have h := hno.out
        rw [List.take_of_length_le (by rw [Hpl.out]; omega)] at h
        unfold idxF; rw [h]; rfl
      have E := Lib.hid e
      clear e
      go_wp2_with fail
      go_ret
      rw [E.out]
      exact ⟨rfl, rfl⟩
theorem ContainsFunc_k1 (cap : Value) (f : Int → Bool) (a : Option Addr) (m c : Nat) (ps : List Int) (w : World) (hp : Rd w a m (ints ps))
    (hf : ∀ x, Calls Try.prog 61 #[.int .i64 x, cap] w fun e w' => e = .returned (.bool (f x)) ∧ w = w') :
    Calls Try.prog 54 #[.slice a m c, .func (.func 61) #[] #[cap]] w fun e w' => e = .returned (.bool (ps.any f)) ∧ w = w' := by
  have e : decide (0 ≤ idxF f ps) = ps.any f := by
    unfold idxF; cases ps.any f <;> simp
  have E := Lib.hid e
  clear e
  go_enter Try.func54, Try.ntmps54
  go_wp2_with fail
  refine (IndexFunc_k1 cap f a m c ps w hp hf).mono ?_; rintro e w' ⟨rfl, rfl⟩
  go_wp2_with fail
  go_ret
  exact ⟨ret_bool E.out, rfl⟩


theorem Len_any (w : World) {f b n : Nat} {s : Int} {V : K.Vs} (h : FS w f b n s V) :
    Calls Try.prog 31 #[.pointer (some ⟨f, 0, none⟩)] w fun e w' => e = .returned (.int .i64 (n : Nat)) ∧ w = w' := by
  have hs := h.small
  have f0 := h.fb.cell (i := 0) rfl
  clear h
  go_enter Try.func31, Try.ntmps31
  go_wp2_with fail
  go_ret
  exact ⟨ret_int (by omega), rfl⟩
theorem Len_nil (w : World) : Calls Try.prog 31 #[.pointer none] w fun e w' => e = .returned (.int .i64 0) ∧ w = w' := by
  go_enter Try.func31, Try.ntmps31
  go_wp2_with fail
  go_ret
  exact ⟨rfl, rfl⟩
theorem Steps_any (w : World) {f b n : Nat} {s : Int} {V : K.Vs} (h : FS w f b n s V) :
    Calls Try.prog 34 #[.pointer (some ⟨f, 0, none⟩)] w fun e w' => e = .returned (.int .i64 s) ∧ w = w' := by
  have f0 := h.fb.cell (i := 1) rfl
  clear h
  go_enter Try.func34, Try.ntmps34
  go_wp2_with fail
  go_ret
  exact ⟨rfl, rfl⟩
theorem Steps_nil (w : World) : Calls Try.prog 34 #[.pointer none] w fun e w' => e = .returned (.int .i64 0) ∧ w = w' := by
  go_enter Try.func34, Try.ntmps34
  go_wp2_with fail
  go_ret
  exact ⟨rfl, rfl⟩
/-- No vertex. -/
def outB (n : Nat) (v : Int) : Bool := decide (v < 0) || decide ((n : Int) ≤ v)
theorem out_any (w : World) {f b n bx : Nat} {s : Int} {V : K.Vs} (h : FS w f b n s V) (ho : One w bx 26 (.pointer (some ⟨f, 0, none⟩))) (x : Int) :
    Calls Try.prog 61 #[.int .i64 x, .pointer (some ⟨bx, 0, none⟩)] w fun e w' => e = .returned (.bool (outB n x)) ∧ w = w' := by
  have o0 := ho.cell
  have H := Lib.hid h
  clear h ho
  by_cases h0 : x < 0
  · have e : outB n x = true := by simp [outB, h0]
    rw [e]
    go_enter Try.func61, Try.ntmps61
    go_wp2_with fail
    go_ret
    exact ⟨rfl, rfl⟩
  · have e : outB n x = decide ((n : Int) ≤ x) := by simp [outB, h0]
    rw [e]
    have E := Lib.hid e
    clear e
    go_enter Try.func61, Try.ntmps61
    go_wp2_with (go_at_call 31; refine (Len_any _ H.out).mono ?_; rintro e w1 ⟨rfl, rfl⟩)
    go_ret
    exact ⟨rfl, rfl⟩
set_option maxRecDepth 100000 in
theorem check_any (w : World) {f b n : Nat} {s : Int} {V : K.Vs} (h : FS w f b n s V) {a : Option Addr} {m c : Nat} {ps : List Int} (hp : Rd w a m (ints ps)) :
    Calls Try.prog 47 #[.pointer (some ⟨f, 0, none⟩), .slice a m c] w fun e w' => e = .returned (.int .i64 (if ps.any (outB n) then 2 else 0)) ∧ Fr F0 w w' := by
  have H := Lib.hid h
  have Hp := Lib.hid hp
  clear h hp
  cases hc : ps.any (outB n) with
  | true =>
    rw [if_pos rfl]
    have HC := Lib.hid hc
    clear hc
    go_enter Try.func47, Try.ntmps47
    go_wp2_with (go_at_call 54; refine (ContainsFunc_k1 _ (outB n) a m c ps _ (Hp.out.alloc _) (fun x => out_any _ (H.out.alloc _) (One.new _ _) x)).mono ?_; rintro e w1 ⟨rfl, rfl⟩; rw [HC.out])
    go_ret
    exact ⟨rfl, (Fr.refl _ _).alloc _⟩
  | false =>
    rw [if_neg Bool.false_ne_true]
    have HC := Lib.hid hc
    clear hc
    go_enter Try.func47, Try.ntmps47
    go_wp2_with (go_at_call 54; refine (ContainsFunc_k1 _ (outB n) a m c ps _ (Hp.out.alloc _) (fun x => out_any _ (H.out.alloc _) (One.new _ _) x)).mono ?_; rintro e w1 ⟨rfl, rfl⟩; rw [HC.out])
    go_ret
    exact ⟨rfl, (Fr.refl _ _).alloc _⟩
theorem check_nil (w : World) (a : Option Addr) (m c : Nat) :
    Calls Try.prog 47 #[.pointer none, .slice a m c] w fun e w' => e = .returned (.int .i64 1) ∧ Fr F0 w w' := by
  go_enter Try.func47, Try.ntmps47
  go_wp2_with fail
  go_ret
  exact ⟨rfl, (Fr.refl _ _).alloc _⟩
end Go.Proofs.Ytfeokafjehpgnaa
