/- Arguments that are slices of pairs; the test of all edges. -/
import Derived.Test.YtihcaemheknjbaaF13
import Derived.Test.YtihcaemheknjbaaF27
namespace Go.Proofs.Ytihcaemheknjbaa
open Go.RowKit
attribute [local go_sem ↓] Go.wp_at_zero Go.wp_at_succ
abbrev Pr := Int × Int
structure ArgP (w : World) (a : Option Addr) (n c : Nat) (l : List Pr) : Prop where
  cap : n ≤ c
  max : c ≤ 9223372036854775807
  len : l.length = n
  cells : ∀ i x, l[i]? = some x → ∃ b o, a = some ⟨b, o, none⟩ ∧ w.cell? ⟨b, o + i * 2, none⟩ = some (.int .i64 x.1) ∧ w.cell? ⟨b, o + i * 2 + 1, none⟩ = some (.int .i64 x.2)
theorem ArgP.fr0 {w w' : World} {a : Option Addr} {n c : Nat} {l : List Pr} (h : ArgP w a n c l) (f : Fr F0 w w') : ArgP w' a n c l :=
  ⟨h.cap, h.max, h.len, fun i x hx => by
    obtain ⟨b, o, ha, h1, h2⟩ := h.cells i x hx
    exact ⟨b, o, ha, f.cell h1 id, f.cell h2 id⟩⟩
def prL (R : Nat → Nat → Int) (n : Nat) : List Pr := (List.range n).map fun i => (R i 0, R i 1)
theorem argP_of {w : World} {a : Option Addr} {n c : Nat} {R : Nat → Nat → Int} (h : ArgSt w a n c [.i64, .i64] R) : ArgP w a n c (prL R n) := by
  refine ⟨h.cap, h.max, by unfold prL; simp, fun i x hx => ?_⟩
  have hi : i < n := by have := (List.getElem?_eq_some_iff.1 hx).1; unfold prL at this; simpa using this
  unfold prL at hx
  rw [List.getElem?_map, show (List.range n)[i]? = some i by rw [List.getElem?_eq_getElem (by simpa using hi)]; simp] at hx
  injection hx with hx
  subst hx
  obtain ⟨b, o, ha, hc⟩ := h.cells (by omega)
  refine ⟨b, o, ha, ?_, ?_⟩
  · have := (hc i 0 .i64 hi rfl).1; simpa using this
  · have := (hc i 1 .i64 hi rfl).1; rw [Nat.add_assoc]; simpa using this
/-- Both ends are vertices. -/
def inP (n : Int) (e : Pr) : Bool := decide (0 ≤ min e.1 e.2) && decide (max e.1 e.2 < n)
def natE (e : Pr) : Ed := (e.1.toNat, e.2.toNat)
theorem eds_len' (X : List Ed) : (eds X).length = X.length * 2 := by
  induction X with
  | nil => rfl
  | cons x X ih =>
    show ((eds X).length + 1 + 1) = (X.length + 1) * 2
    rw [ih]; omega
theorem inP_iff {n : Int} {e : Pr} : inP n e = true ↔ 0 ≤ e.1 ∧ 0 ≤ e.2 ∧ e.1 < n ∧ e.2 < n := by
  unfold inP
  rw [Bool.and_eq_true, decide_eq_true_iff, decide_eq_true_iff]
  omega
/-- Valid edges, read as edges. -/
theorem ArgP.rdz {w : World} {a : Option Addr} {m c : Nat} {l : List Pr} {n : Int} (h : ArgP w a m c l) (hl : ∀ e ∈ l, inP n e = true) : RdZ w 2 a m (eds (l.map natE)) := by
  refine ⟨by rw [eds_len', List.length_map, h.len], by have := h.cap; have := h.max; omega, fun hm => ?_⟩
  obtain ⟨b, o, ha, _⟩ := h.cells 0 (l[0]'(by rw [h.len]; exact hm)) (List.getElem?_eq_getElem _)
  refine ⟨b, o, ha, fun j u hu => ?_⟩
  have hj : j < (eds (l.map natE)).length := (List.getElem?_eq_some_iff.1 hu).1
  rw [eds_len', List.length_map] at hj
  obtain ⟨k, hjk⟩ : ∃ k, j = k * 2 ∨ j = k * 2 + 1 := ⟨j / 2, by omega⟩
  have hx : l[k]? = some (l[k]'(by omega)) := List.getElem?_eq_getElem _
  generalize l[k]'(by omega) = x at hx
  have hin := inP_iff.1 (hl x (List.mem_of_getElem? hx))
  obtain ⟨b', o', ha', c1, c2⟩ := h.cells _ x hx
  rw [ha] at ha'
  injection ha' with ha'
  injection ha' with e1 e2
  subst e1 e2
  have hm : (l.map natE)[k]? = some (natE x) := by rw [List.getElem?_map, hx]; rfl
  obtain ⟨g1, g2⟩ := eds_get hm
  rcases hjk with e | e
  · subst e
    rw [g1] at hu; injection hu with hu; subst hu
    rw [c1]; show some (Value.int .i64 x.1) = some (Value.int .i64 ((x.1.toNat : Nat) : Int)); rw [Int.toNat_of_nonneg hin.1]
  · subst e
    rw [g2] at hu; injection hu with hu; subst hu
    rw [← Nat.add_assoc, c2]; show some (Value.int .i64 x.2) = some (Value.int .i64 ((x.2.toNat : Nat) : Int)); rw [Int.toNat_of_nonneg hin.2.1]
set_option maxHeartbeats 1000000 in
theorem clo_any (x y n : Int) (q : Nat) (w : World) (h : w.cell? ⟨q, 0, none⟩ = some (.int .i64 n)) :
    Calls Try.prog 50 #[.agg #[.int .i64 x, .int .i64 y], .pointer (some ⟨q, 0, none⟩)] w fun e w' => e = .returned (.bool (!inP n (x, y))) ∧ Fr F0 w w' := by
  have hq : q < w.heap.size := World.block_lt_of_cell? _ _ h
  have F1 : Hid (Fr F0 w (w.alloc (.cells #[.int .i64 x, .int .i64 y] 62))) := Lib.hid ((Fr.refl _ _).alloc _)
  cases h1 : decide (min x y < 0) with
  | true =>
    have E : Hid ((!inP n (x, y)) = true) := Lib.hid (by have h1 := of_decide_eq_true h1; unfold inP; rw [show decide (0 ≤ min x y) = false from decide_eq_false (by omega)]; rfl)
    go_enter Try.func50, Try.ntmps50
    go_wp2_with fail
    go_ret
    exact ⟨ret_bool E.out.symm, F1.out⟩
  | false =>
    have E : Hid ((!inP n (x, y)) = decide (n ≤ max x y)) := Lib.hid (by
      have h1 := of_decide_eq_false h1
      unfold inP; rw [show decide (0 ≤ min x y) = true from decide_eq_true (by omega)]
      by_cases c : n ≤ max x y
      · rw [decide_eq_true c, show decide (max x y < n) = false from decide_eq_false (by omega)]; rfl
      · rw [decide_eq_false c, show decide (max x y < n) = true from decide_eq_true (by omega)]; rfl)
    have hq2 : (w.alloc (.cells #[.int .i64 x, .int .i64 y] 62)).cell? ⟨q, 0, none⟩ = some (.int .i64 n) := F1.out.cell h id
    go_enter Try.func50, Try.ntmps50
    go_wp2_with fail
    go_ret
    exact ⟨ret_bool E.out.symm, F1.out⟩
def idxP (n : Int) (l : List Pr) : Int := if l.any (fun e => !inP n e) then ((l.findIdx (fun e => !inP n e) : Nat) : Int) else -1
theorem idxP_hit {n : Int} {l : List Pr} {k : Nat} {x : Pr} (hx : l[k]? = some x) (h : (!inP n x) = true) (hno : (l.take k).any (fun e => !inP n e) = false) : idxP n l = k := by
  have hkl : k < l.length := (List.getElem?_eq_some_iff.1 hx).1
  have hany : l.any (fun e => !inP n e) = true := List.any_eq_true.2 ⟨x, List.mem_of_getElem? hx, h⟩
  unfold idxP
  rw [if_pos hany]
  have h1 : l.findIdx (fun e => !inP n e) = k := by
    rw [List.findIdx_eq hkl]
    refine ⟨?_, fun j hj => ?_⟩
    · rw [List.getElem?_eq_getElem hkl] at hx
      injection hx with hx
      rw [hx]; exact h
    · rw [List.any_eq_false] at hno
      have h2 := hno (l[j]'(by omega)) (List.mem_take_iff_getElem.2 ⟨j, by omega, rfl⟩)
      simpa using h2
  rw [h1]
set_option maxHeartbeats 1000000 in
theorem IndexFunc_any (n : Int) (q : Nat) (a : Option Addr) (m c : Nat) (l : List Pr) (w : World) (hp : ArgP w a m c l) (h : w.cell? ⟨q, 0, none⟩ = some (.int .i64 n)) :
    Calls Try.prog 57 #[.slice a m c, .func (.func 50) #[] #[.pointer (some ⟨q, 0, none⟩)]] w fun e w' => e = .returned (.int .i64 (idxP n l)) ∧ Fr F0 w w' := by
  have hdl := hp.len
  have hmax := hp.max
  have hcap := hp.cap
  have Hp := Lib.hid hp
  have Hh := Lib.hid h
  have Hdl := Lib.hid hdl
  clear hdl hp h
  go_enter Try.func57, Try.ntmps57
  go_wp2_with fail
  have F0' : Hid (Fr F0 w w) := Lib.hid (Fr.refl _ _)
  go_loopw [5, 8] (fun _ i w' => ∃ k : Nat, k ≤ m ∧ i = .int .i64 k ∧ Hid ((l.take k).any (fun e => !inP n e) = false) ∧ Hid (Fr F0 w w')) (fun _ i _ => m - (intOf i).toNat)
  case atStart => exact ⟨0, by omega, rfl, Lib.hid rfl, F0'⟩
  case round =>
    obtain ⟨k, hk, rfl, hno, FW⟩ := hrel
    by_cases hlt : k < m
    · obtain ⟨x, hx⟩ : ∃ x, l[k]? = some x := ⟨l[k]'(by rw [Hdl.out]; exact hlt), List.getElem?_eq_getElem _⟩
      obtain ⟨b, o, hb, c1, c2⟩ := (Hp.out.fr0 FW.out).cells k x hx
      subst hb
      have Hx := Lib.hid hx
      have hcall := fun wz (g : Fr F0 w wz) => clo_any x.1 x.2 n q wz (g.cell Hh.out id)
      clear hx
      cases hfx : (!inP n x) with
      | true =>
        have E : Hid (idxP n l = k) := Lib.hid (idxP_hit Hx.out hfx hno.out)
        have hfx2 : Hid ((!inP n (x.1, x.2)) = true) := Lib.hid hfx
        clear hfx
        go_wp2_with fail
        refine (hcall _ FW.out).mono ?_; rintro e w1 ⟨rfl, F1⟩
        rw [hfx2.out]
        have FX := Lib.hid (FW.out.trans0 F1)
        clear F1 hcall
        go_wp2_with fail
        go_ret
        exact ⟨ret_int E.out.symm, FX.out⟩
      | false =>
        have hfx2 : Hid ((!inP n (x.1, x.2)) = false) := Lib.hid hfx
        have hno2 : Hid ((l.take (k + 1)).any (fun e => !inP n e) = false) := Lib.hid (by
          rw [List.take_add_one, Hx.out, List.any_append, hno.out]
          show (false || ([x].any _)) = false
          simp only [List.any_cons, List.any_nil, Bool.or_false, Bool.false_or]
          exact hfx)
        clear hfx
        go_wp2_with fail
        refine (hcall _ FW.out).mono ?_; rintro e w1 ⟨rfl, F1⟩
        rw [hfx2.out]
        have FX := Lib.hid (FW.out.trans0 F1)
        clear F1 hcall
        go_wp2_with fail
        go_round
        case rel => exact ⟨k + 1, by omega, by go_num, hno2, FX⟩
        case measure => simp [intOf]; omega
    · obtain rfl : k = m := by omega
      have E : Hid (idxP n l = -1) := Lib.hid (by
        have h := hno.out
        rw [List.take_of_length_le (by have := Hdl.out; omega)] at h
        unfold idxP
        rw [h]; rfl)
      go_wp2_with fail
      go_ret
      exact ⟨ret_int E.out.symm, FW.out⟩
theorem ContainsFunc_any (n : Int) (q : Nat) (a : Option Addr) (m c : Nat) (l : List Pr) (w : World) (hp : ArgP w a m c l) (h : w.cell? ⟨q, 0, none⟩ = some (.int .i64 n)) :
    Calls Try.prog 49 #[.slice a m c, .func (.func 50) #[] #[.pointer (some ⟨q, 0, none⟩)]] w fun e w' => e = .returned (.bool (l.any (fun e => !inP n e))) ∧ Fr F0 w w' := by
  have e : decide (0 ≤ idxP n l) = l.any (fun e => !inP n e) := by
    unfold idxP; cases l.any (fun e => !inP n e) <;> simp
  have E := Lib.hid e
  clear e
  go_enter Try.func49, Try.ntmps49
  go_wp2_with fail
  refine (IndexFunc_any n q a m c l w hp h).mono ?_; rintro e w' ⟨rfl, F1⟩
  replace F1 := Lib.hid F1
  go_wp2_with fail
  go_ret
  exact ⟨ret_bool E.out, F1.out⟩
end Go.Proofs.Ytihcaemheknjbaa
