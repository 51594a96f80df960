/- short; Runs. -/
import Derived.Test.YtdphademoeofkaaS30
namespace Go.Proofs.Ytdphademoeofkaa
open Go.RowKit
attribute [local go_sem ↓] Go.wp_at_zero Go.wp_at_succ
def lng (x : Stp) : Bool := decide ((20 : Int) < (x.n : Int))
def idxS (xs : List Stp) : Int := if xs.any lng then ((xs.findIdx lng : Nat) : Int) else -1
set_option maxHeartbeats 1000000 in
theorem IndexS {w : World} {a : Option Addr} {n c : Nat} {xs : List Stp} (hA : ArgSs w a n c xs) (hn : n ≤ 100000) :
    Calls Try.prog 49 #[.slice a n c, .func (.func 34) #[] #[]] w fun e w' => e = .returned (.int .i64 (idxS xs)) ∧ Fr F0 w w' := by
  have HA := Lib.hid hA
  have Hl := Lib.hid hA.len
  clear hA
  go_enter Try.func49, Try.ntmps49
  go_wp2_with fail
  go_loopw [8] (fun i wr => ∃ k : Nat, k ≤ n ∧ i = .int .i64 k ∧ (xs.take k).any lng = false ∧ Fr F0 w wr) (fun i _ => n - (intOf i).toNat)
  case atStart => exact ⟨0, by omega, rfl, by simp, Fr.refl _ _⟩
  case round =>
    obtain ⟨k, hk, rfl, hno, hF⟩ := hrel
    replace hno := Lib.hid hno
    replace hF := Lib.hid hF
    by_cases hlt : k < n
    · obtain ⟨x, hx⟩ : ∃ x, xs[k]? = some x := ⟨_, List.getElem?_eq_getElem (by rw [Hl.out]; exact hlt)⟩
      obtain ⟨b, o, rfl, x0, x1, x2⟩ := (HA.out.fr0 hF.out).cells k x hx
      have Hx := Lib.hid hx
      clear hx
      go_wp2_with fail
      refine (long_any x wr).mono ?_
      rintro e w' ⟨rfl, F2⟩
      replace hF := Lib.hid (hF.out.trans0 F2)
      clear F2 x0 x1 x2
      cases hfx : lng x
      · have Hfx := Lib.hid hfx
        unfold lng at hfx
        go_wp2_with fail
        go_round
        case rel => exact ⟨k + 1, by omega, by go_num, by rw [List.take_add_one, Hx.out, List.any_append, hno.out]; simpa using Hfx.out, hF.out⟩
        case measure => simp [intOf]; omega
      · have e : idxS xs = k := by
          have hx := Hx.out
          have hpl := Hl.out
          have hany : xs.any lng = true := List.any_eq_true.2 ⟨x, List.mem_of_getElem? hx, hfx⟩
          unfold idxS
          rw [if_pos hany]
          have h1 : xs.findIdx lng = k := by
            rw [List.findIdx_eq (by omega)]
            refine ⟨?_, fun j hj => ?_⟩
            · rw [List.getElem?_eq_getElem (by omega)] at hx
              injection hx with hx
              rw [hx]; exact hfx
            · have := hno.out
              rw [List.any_eq_false] at this
              have h2 := this (xs[j]'(by omega)) (List.mem_take_iff_getElem.2 ⟨j, by omega, rfl⟩)
              simpa using h2
          rw [h1]
        have E := Lib.hid e
        unfold lng at hfx
        clear e
        go_wp2_with fail
        go_ret
        rw [E.out]
        exact ⟨rfl, hF.out⟩
    · obtain rfl : n = k := by omega
      have e : idxS xs = -1 := by
        have h := hno.out
        rw [List.take_of_length_le (by rw [Hl.out]; omega)] at h
        unfold idxS; rw [h]; rfl
      have E := Lib.hid e
      clear e
      go_wp2_with fail
      go_ret
      rw [E.out]
      exact ⟨rfl, hF.out⟩
theorem ContainsS {w : World} {a : Option Addr} {n c : Nat} {xs : List Stp} (hA : ArgSs w a n c xs) (hn : n ≤ 100000) :
    Calls Try.prog 33 #[.slice a n c, .func (.func 34) #[] #[]] w fun e w' => e = .returned (.bool (xs.any lng)) ∧ Fr F0 w w' := by
  have e : decide (0 ≤ idxS xs) = xs.any lng := by
    unfold idxS; cases xs.any lng <;> simp
  have E := Lib.hid e
  have H := Lib.hid (IndexS hA hn)
  clear e hA
  go_enter Try.func33, Try.ntmps33
  go_wp2_with fail
  refine H.out.mono ?_
  rintro e w' ⟨rfl, F1⟩
  go_wp2_with fail
  go_ret
  rw [← E.out]
  exact ⟨rfl, F1⟩
theorem short_any {w : World} {a : Option Addr} {n c : Nat} {xs : List Stp} (hA : ArgSs w a n c xs) : Calls Try.prog 18 #[.slice a n c] w fun e w' => e = .returned (.bool (decide (n ≤ 60) && !xs.any lng)) ∧ Fr F0 w w' := by
  by_cases h : n ≤ 60
  · have H := Lib.hid (ContainsS hA (by omega))
    have hd : decide (n ≤ 60) = true := decide_eq_true h
    rw [hd]
    clear hA
    go_enter Try.func18, Try.ntmps18
    go_wp2_with fail
    refine H.out.mono ?_
    rintro e w' ⟨rfl, F1⟩
    go_wp2_with fail
    go_ret
    exact ⟨by simp, F1⟩
  · have hd : decide (n ≤ 60) = false := decide_eq_false h
    rw [hd]
    clear hA
    go_enter Try.func18, Try.ntmps18
    go_wp2_with fail
    go_ret
    exact ⟨by simp, Fr.refl _ _⟩
/-- The heap and what is known of it, between two steps. -/
def RnS (w : World) (rate hb : Nat) (j : Nat) (s7 : Value) (wr : World) : Prop :=
  ∃ l a c ts own I T, s7 = .slice a l.length c ∧ Hp wr hb rate ts own I T ∧ KN rate l own ts I ∧ Ks wr a c l ∧ (∀ q, onBlk a q → ¬ T q ∧ w.heap.size ≤ q) ∧ (∀ q, T q → w.heap.size ≤ q) ∧ Fr F0 w wr ∧ l.length ≤ 20 * j ∧ (l.length = 0 → a = none ∧ c = 0)
theorem RnS.up {w w' wr : World} {rate hb j : Nat} {s7 : Value} (h : RnS w rate hb j s7 wr) (F : Fr F0 wr w') : RnS w rate hb j s7 w' := by
  obtain ⟨l, a, c, ts, own, I, T, h1, h2, h3, h4, h5, h6, h7, h8, h9⟩ := h
  exact ⟨l, a, c, ts, own, I, T, h1, h2.fr F (fun _ _ => id), h3, OwnW.fr0 h4 F, h5, h6, h7.trans0 F, h8, h9⟩
/-- Behind a step: looks. -/
theorem RnS.looks {w wr : World} {rate hb j : Nat} {s7 : Value} (h : RnS w rate hb j s7 wr) : Calls Try.prog 21 #[.pointer (some ⟨hb, 0, none⟩), s7, .int .i64 rate] wr fun e w' => e = .returned (.bool true) ∧ RnS w rate hb j s7 w' := by
  obtain ⟨l, a, c, ts, own, I, T, rfl, h2, h3, h4, h5, h6, h7, h8, h9⟩ := h
  refine (looks_any h2 h3 h4 (fun q hq => (h5 q hq).1)).mono ?_
  rintro e w' ⟨rfl, l', hl', hK, hKs, hF⟩
  exact ⟨rfl, l', a, c, ts, own, I, T, by rw [hl'], h2.fr hF (fun q hq e => (h5 q e).1 hq), hK, hKs, h5, h6, h7.trans hF (fun q hq e => by have := (h5 q e).2; omega), by rw [hl']; exact h8, by rw [hl']; exact h9⟩
theorem RnS.deleted {w wr : World} {rate hb j : Nat} {s7 : Value} (h : RnS w rate hb j s7 wr) : Calls Try.prog 19 #[.pointer (some ⟨hb, 0, none⟩), s7] wr fun e w' => e = .returned (.bool true) ∧ RnS w rate hb j s7 w' := by
  obtain ⟨l, a, c, ts, own, I, T, rfl, h2, h3, h4, h5, h6, h7, h8, h9⟩ := h
  refine (deleted_any h2 h3 h4 (fun q hq => (h5 q hq).1)).mono ?_
  rintro e w' ⟨rfl, l', ts', I', T', hl', hH, hK, hKs, hF, hT⟩
  have hs := h7.size
  refine ⟨rfl, l', a, c, ts', own, I', T', by rw [hl'], hH, hK, hKs, fun q hq => ⟨fun e => ?_, (h5 q hq).2⟩, fun q hq => ?_, h7.trans hF (fun q hq e => ?_), by rw [hl']; exact h8, by rw [hl']; exact h9⟩
  · rcases hT q e with e | e
    · exact (h5 q hq).1 e
    · have := (OwnW.blk h4 q hq).2; omega
  · rcases hT q hq with e | e
    · exact h6 q e
    · omega
  · rcases e with e | e
    · have := h6 q e; omega
    · have := (h5 q e).2; omega
theorem RnS.melded {w wr : World} {rate hb j : Nat} {s7 : Value} (h : RnS w rate hb j s7 wr) (hj : j < 60) {x : Stp} (hR : Rd wr x.a x.n (ints x.L)) (hn : x.n ≤ 20) :
    Calls Try.prog 20 #[.pointer (some ⟨hb, 0, none⟩), s7, .int .i64 rate, x.agg] wr fun e w' => ∃ s, e = .returned (.tuple #[s, .bool true]) ∧ RnS w rate hb (j + 1) s w' := by
  obtain ⟨l, a, c, ts, own, I, T, rfl, h2, h3, h4, h5, h6, h7, h8, h9⟩ := h
  refine (melded_any h2 h3 h4 (fun q hq => (h5 q hq).1) (by omega) h9 hR hn).mono ?_
  rintro e w' ⟨l', ts', own', I', T', a', c', rfl, hH, hK, hKs, hd, hF, hT, hl, hz⟩
  have hs := h7.size
  refine ⟨_, rfl, l', a', c', ts', own', I', T', rfl, hH, hK, hKs, fun q hq => ⟨(hd q hq).1, by have := (hd q hq).2; omega⟩, fun q hq => ?_, h7.trans hF (fun q hq e => by have := h6 q e; omega), by omega, hz⟩
  rcases hT q hq with e | e
  · exact h6 q e
  · omega
end Go.Proofs.Ytdphademoeofkaa
