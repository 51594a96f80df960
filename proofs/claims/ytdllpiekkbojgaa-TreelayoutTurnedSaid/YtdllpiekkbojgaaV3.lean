/- slices.ContainsFunc at the two closures; treelayout's Blocks. -/
import Derived.Test.YtdllpiekkbojgaaV2
namespace Go.Proofs.Ytdllpiekkbojgaa
open Go.RowKit Go.Maps

def badB (n : Nat) (x : Int) : Bool := decide (x < 0) || decide ((n : Int) ≤ x)
/-- A closure over the list's variable: is an integer no index? -/
theorem bad42 (b n c : Nat) (a : Option Addr) (x : Int) (w : World) (h : One w b 23 (.slice a n c)) :
    Calls Try.prog 42 #[.int .i64 x, .pointer (some ⟨b, 0, none⟩)] w fun e w' => e = .returned (.bool (badB n x)) ∧ w = w' := by
  have h1 := h.cell
  go_enter Try.func42, Try.ntmps42
  go_wp2
  all_goals go_ret
  all_goals refine ⟨ret_bool ?_, rfl⟩
  all_goals (unfold badB; first | rfl | (rw [Bool.eq_iff_iff]; done) | (rw [Bool.eq_iff_iff]; simp; done) | (rw [Bool.eq_iff_iff]; simp; omega))
theorem bad25 (b n c : Nat) (a : Option Addr) (x : Int) (w : World) (h : One w b 23 (.slice a n c)) :
    Calls Try.prog 25 #[.int .i64 x, .pointer (some ⟨b, 0, none⟩)] w fun e w' => e = .returned (.bool (badB n x)) ∧ w = w' := by
  have h1 := h.cell
  go_enter Try.func25, Try.ntmps25
  go_wp2
  all_goals go_ret
  all_goals refine ⟨ret_bool ?_, rfl⟩
  all_goals (unfold badB; first | rfl | (rw [Bool.eq_iff_iff]; done) | (rw [Bool.eq_iff_iff]; simp; done) | (rw [Bool.eq_iff_iff]; simp; omega))

/-- slices.IndexFunc: the first index at which f says yes, or -1. -/
def idxF (f : Int → Bool) (ps : List Int) : Int := if ps.any f then ((ps.findIdx f : Nat) : Int) else -1
theorem IndexFunc_42 (cv : Value) (f : Int → Bool) (a : Option Addr) (m c : Nat) (ps : List Int) (w : World) (hp : Rd w a m (ints ps))
    (hf : ∀ x, Calls Try.prog 42 #[.int .i64 x, cv] w fun e w' => e = .returned (.bool (f x)) ∧ w = w') :
    Calls Try.prog 43 #[.slice a m c, .func (.func 42) #[] #[cv]] w fun e w' => e = .returned (.int .i64 (idxF f ps)) ∧ w = w' := by
  have hpl : ps.length = m := by simpa using hp.len
  have hm := hp.max
  have Hf := Lib.hid hf
  have Hpl := Lib.hid hpl
  clear hf hpl
  go_enter Try.func43, Try.ntmps43
  go_wp2_with fail
  go_loop [8] (fun i => ∃ k : Nat, k ≤ m ∧ i = .int .i64 k ∧ (ps.take k).any f = false) (fun i => m - (intOf i).toNat)
  case atStart => exact ⟨0, by omega, rfl, by simp⟩
  case round =>
    obtain ⟨k, hk, rfl, hno⟩ := hrel
    replace hno := Lib.hid hno
    by_cases hlt : k < m
    · have hpl := Hpl.out
      obtain ⟨x, hx⟩ : ∃ x, ps[k]? = some x := ⟨ps[k], by simp [hpl, hlt]⟩
      obtain ⟨b, o, rfl, hc⟩ := hp.cells (by omega)
      have d := hc k (.int .i64 x) (by simp [hx])
      have Hx := Lib.hid hx
      clear hc hx hpl
      go_wp2_with fail
      refine (Hf.out x).mono ?_; rintro e w' ⟨rfl, rfl⟩
      cases hfx : f x
      · have Hfx := Lib.hid hfx
        clear hfx
        go_wp2_with fail
        go_round
        case rel => exact ⟨k + 1, by omega, by go_num, by rw [List.take_add_one, Hx.out, List.any_append, hno.out]; simpa using Hfx.out⟩
        case measure => simp [intOf]; omega
      · have e : idxF f ps = k := by
          have hpl := Hpl.out
          have hx := Hx.out
          have hany : ps.any f = true := List.any_eq_true.2 ⟨x, List.mem_of_getElem? hx, hfx⟩
          unfold idxF
          rw [if_pos hany]
          have h1 : ps.findIdx f = k := by
            rw [List.findIdx_eq (by omega)]
            refine ⟨?_, fun j hj => ?_⟩
            · rw [List.getElem?_eq_getElem (by omega)] at hx
              injection hx with hx
              rw [hx]; exact hfx
            · have := hno.out
              rw [List.any_eq_false] at this
              have h2 := this (ps[j]'(by omega)) (List.mem_take_iff_getElem.2 ⟨j, by omega, rfl⟩)
              simpa using h2
          rw [h1]
        have E := Lib.hid e
        clear hfx e
        go_wp2_with fail
        go_ret
        rw [E.out]
        exact ⟨rfl, rfl⟩
    · obtain rfl : m = k := by omega
      have e : idxF f ps = -1 := by
        have h := hno.out
        rw [List.take_of_length_le (by rw [Hpl.out]; omega)] at h
        unfold idxF; rw [h]; rfl
      have E := Lib.hid e
      clear e
      go_wp2_with fail
      go_ret
      rw [E.out]
      exact ⟨rfl, rfl⟩
theorem ContainsFunc_42 (cv : Value) (f : Int → Bool) (a : Option Addr) (m c : Nat) (ps : List Int) (w : World) (hp : Rd w a m (ints ps))
    (hf : ∀ x, Calls Try.prog 42 #[.int .i64 x, cv] w fun e w' => e = .returned (.bool (f x)) ∧ w = w') :
    Calls Try.prog 24 #[.slice a m c, .func (.func 42) #[] #[cv]] w fun e w' => e = .returned (.bool (ps.any f)) ∧ w = w' := by
  have e : decide (0 ≤ idxF f ps) = ps.any f := by
    unfold idxF; cases ps.any f <;> simp
  have E := Lib.hid e
  clear e
  go_enter Try.func24, Try.ntmps24
  go_wp2_with fail
  refine (IndexFunc_42 cv f a m c ps w hp hf).mono ?_; rintro e w' ⟨rfl, rfl⟩
  go_wp2_with fail
  go_ret
  exact ⟨ret_bool E.out, rfl⟩

theorem IndexFunc_25 (cv : Value) (f : Int → Bool) (a : Option Addr) (m c : Nat) (ps : List Int) (w : World) (hp : Rd w a m (ints ps))
    (hf : ∀ x, Calls Try.prog 25 #[.int .i64 x, cv] w fun e w' => e = .returned (.bool (f x)) ∧ w = w') :
    Calls Try.prog 43 #[.slice a m c, .func (.func 25) #[] #[cv]] w fun e w' => e = .returned (.int .i64 (idxF f ps)) ∧ w = w' := by
  have hpl : ps.length = m := by simpa using hp.len
  have hm := hp.max
  have Hf := Lib.hid hf
  have Hpl := Lib.hid hpl
  clear hf hpl
  go_enter Try.func43, Try.ntmps43
  go_wp2_with fail
  go_loop [8] (fun i => ∃ k : Nat, k ≤ m ∧ i = .int .i64 k ∧ (ps.take k).any f = false) (fun i => m - (intOf i).toNat)
  case atStart => exact ⟨0, by omega, rfl, by simp⟩
  case round =>
    obtain ⟨k, hk, rfl, hno⟩ := hrel
    replace hno := Lib.hid hno
    by_cases hlt : k < m
    · have hpl := Hpl.out
      obtain ⟨x, hx⟩ : ∃ x, ps[k]? = some x := ⟨ps[k], by simp [hpl, hlt]⟩
      obtain ⟨b, o, rfl, hc⟩ := hp.cells (by omega)
      have d := hc k (.int .i64 x) (by simp [hx])
      have Hx := Lib.hid hx
      clear hc hx hpl
      go_wp2_with fail
      refine (Hf.out x).mono ?_; rintro e w' ⟨rfl, rfl⟩
      cases hfx : f x
      · have Hfx := Lib.hid hfx
        clear hfx
        go_wp2_with fail
        go_round
        case rel => exact ⟨k + 1, by omega, by go_num, by rw [List.take_add_one, Hx.out, List.any_append, hno.out]; simpa using Hfx.out⟩
        case measure => simp [intOf]; omega
      · have e : idxF f ps = k := by
          have hpl := Hpl.out
          have hx := Hx.out
          have hany : ps.any f = true := List.any_eq_true.2 ⟨x, List.mem_of_getElem? hx, hfx⟩
          unfold idxF
          rw [if_pos hany]
          have h1 : ps.findIdx f = k := by
            rw [List.findIdx_eq (by omega)]
            refine ⟨?_, fun j hj => ?_⟩
            · rw [List.getElem?_eq_getElem (by omega)] at hx
              injection hx with hx
              rw [hx]; exact hfx
            · have := hno.out
              rw [List.any_eq_false] at this
              have h2 := this (ps[j]'(by omega)) (List.mem_take_iff_getElem.2 ⟨j, by omega, rfl⟩)
              simpa using h2
          rw [h1]
        have E := Lib.hid e
        clear hfx e
        go_wp2_with fail
        go_ret
        rw [E.out]
        exact ⟨rfl, rfl⟩
    · obtain rfl : m = k := by omega
      have e : idxF f ps = -1 := by
        have h := hno.out
        rw [List.take_of_length_le (by rw [Hpl.out]; omega)] at h
        unfold idxF; rw [h]; rfl
      have E := Lib.hid e
      clear e
      go_wp2_with fail
      go_ret
      rw [E.out]
      exact ⟨rfl, rfl⟩
theorem ContainsFunc_25 (cv : Value) (f : Int → Bool) (a : Option Addr) (m c : Nat) (ps : List Int) (w : World) (hp : Rd w a m (ints ps))
    (hf : ∀ x, Calls Try.prog 25 #[.int .i64 x, cv] w fun e w' => e = .returned (.bool (f x)) ∧ w = w') :
    Calls Try.prog 24 #[.slice a m c, .func (.func 25) #[] #[cv]] w fun e w' => e = .returned (.bool (ps.any f)) ∧ w = w' := by
  have e : decide (0 ≤ idxF f ps) = ps.any f := by
    unfold idxF; cases ps.any f <;> simp
  have E := Lib.hid e
  clear e
  go_enter Try.func24, Try.ntmps24
  go_wp2_with fail
  refine (IndexFunc_25 cv f a m c ps w hp hf).mono ?_; rintro e w' ⟨rfl, rfl⟩
  go_wp2_with fail
  go_ret
  exact ⟨ret_bool E.out, rfl⟩


/-- What Blocks returns. -/
def blocksS (l ps : List Int) (n : Nat) (s : Int) : Int × Int :=
  if s < 1 then (0, 2) else if invS l = none then (0, 1) else if ps.any (badB n) then (0, 2) else (((blocksN s (ps.map (getI l)) : Nat) : Int), 0)

set_option maxHeartbeats 1000000 in
theorem Blocks_any (a1 a2 : Option Addr) (n m c1 c2 : Nat) (l p : List Int) (s : Int) (w : World) (hl : Rd w a1 n (ints l)) (hp : Rd w a2 m (ints p)) (hm : m ≤ 1000000) :
    Calls Try.prog 22 #[.slice a1 n c1, .slice a2 m c2, .int .i64 s] w fun e w' => e = .returned (.tuple #[.int .i64 (blocksS l p n s).1, .int .i64 (blocksS l p n s).2]) ∧ Fr F0 w w' := by
  have hF0 : Fr F0 w (w.alloc (.cells #[.slice a1 n c1] 23)) := (Fr.refl _ _).alloc _
  by_cases hs : s < 1
  · have e : blocksS l p n s = (0, 2) := by unfold blocksS; rw [if_pos hs]
    have E := Lib.hid e
    have hs' : s ≤ 0 := by omega
    clear e hs
    go_enter Try.func22, Try.ntmps22
    go_wp2_with fail
    go_ret2
    rw [E.out]
    exact ⟨rfl, hF0⟩
  · have hs' : 0 < s := by omega
    have hone : One (w.alloc (.cells #[.slice a1 n c1] 23)) w.heap.size 23 (.slice a1 n c1) := One.new 23 _
    have Hs := Lib.hid hs
    clear hs
    go_enter Try.func22, Try.ntmps22
    go_wp2_with fail
    refine (inverse_any a1 n c1 l _ (hl.fr0 hF0)).mono ?_
    rintro e w1 (⟨a3, c3, out, rfl, h1, h2, h3⟩ | ⟨rfl, h1, h2⟩)
    · have hne : invS l ≠ none := by rw [h1]; simp
      replace hne := Lib.hid hne
      replace hone := hone.fr h3 (fun h => h)
      have hc := hone.cell
      have hF := hF0.trans0 h3
      clear h1 h2 h3
      go_wp2_with fail
      refine (ContainsFunc_42 _ (badB n) a2 m c2 p w1 (hp.fr0 hF) (fun x => bad42 _ n c1 a1 x w1 hone)).mono ?_; rintro e w2 ⟨rfl, rfl⟩
      by_cases hb : p.any (badB n) = true
      · have e : blocksS l p n s = (0, 2) := by unfold blocksS; rw [if_neg (show ¬ s < 1 by omega), if_neg hne.out, if_pos hb]
        have E := Lib.hid e
        rw [hb]
        clear e hb
        go_wp2_with fail
        go_ret2
        rw [E.out]
        exact ⟨rfl, hF⟩
      · have hb' : p.any (badB n) = false := by simpa using hb
        have e : blocksS l p n s = (((blocksN s (p.map (getI l)) : Nat) : Int), 0) := by unfold blocksS; rw [if_neg (show ¬ s < 1 by omega), if_neg hne.out, if_neg hb]
        have E := Lib.hid e
        have hall : ∀ x ∈ p, 0 ≤ x ∧ x < n := by
          intro x hx
          rw [List.any_eq_false] at hb'
          have := hb' x hx
          simp [badB] at this; omega
        replace hall := Lib.hid hall
        rw [hb']
        clear e hb hb'
        go_wp2_with fail
        refine (at_any a1 a2 n m c1 c2 l p w1 (hl.fr0 hF) (hp.fr0 hF) hall.out hm).mono ?_; rintro e w3 ⟨a4, c4, rfl, h4, h5⟩
        replace hF := hF.trans0 h5
        go_wp2_with fail
        refine (touched_any a4 m c4 _ s w3 h4.rd (by omega) hm).mono ?_; rintro e w4 ⟨rfl, h6⟩
        go_wp2_with fail
        go_ret2
        rw [E.out]
        exact ⟨rfl, hF.trans0 h6⟩
    · have e : blocksS l p n s = (0, 1) := by unfold blocksS; rw [if_neg (show ¬ s < 1 by omega), if_pos h1]
      have E := Lib.hid e
      clear e h1
      go_wp2_with fail
      go_ret2
      rw [E.out]
      exact ⟨rfl, hF0.trans0 h2⟩

end Go.Proofs.Ytdllpiekkbojgaa
