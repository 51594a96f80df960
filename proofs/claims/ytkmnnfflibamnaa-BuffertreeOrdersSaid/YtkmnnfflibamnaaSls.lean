/- Common texts of this seat, one behind another. -/
import Derived.Test.YtkmnnfflibamnaaComAll
/- slices.Equal at ints. -/
namespace Go.Proofs.Ytkmnnfflibamnaa
open Go.RowKit

/-- slices.Equal at ints. -/
theorem Equal_any (a1 a2 : Option Addr) (n m c1 c2 : Nat) (xs ys : List Int) (w : World) (hx : Rd w a1 n (ints xs)) (hy : Rd w a2 m (ints ys)) :
    Calls Try.prog 22 #[.slice a1 n c1, .slice a2 m c2] w fun e w' => e = .returned (.bool (decide (xs = ys))) ∧ ∃ q, w' = w.drewN q := by
  have hxl : xs.length = n := by simpa using hx.len
  have hyl : ys.length = m := by simpa using hy.len
  have hm1 := hx.max
  have hm2 := hy.max
  by_cases hnm : n = m
  · subst hnm
    have Hx := Lib.hid hxl
    have Hy := Lib.hid hyl
    clear hxl hyl
    have hne : (((n : Nat) : Int) != (n : Int)) = false := by simp
    go_enter Try.func22, Try.ntmps22
    go_wp2_with fail
    go_loopw [13] (fun i wr => ∃ k : Nat, k ≤ n ∧ i = .int .i64 k ∧ xs.take k = ys.take k ∧ ∃ q, wr = w.drewN q) (fun i _ => n - (intOf i).toNat)
    case atStart => exact ⟨0, by omega, rfl, by simp, 0, rfl⟩
    case round =>
      obtain ⟨k, hk, rfl, htk, q, rfl⟩ := hrel
      replace htk := Lib.hid htk
      by_cases hlt : k < n
      · have hxl := Hx.out
        have hyl := Hy.out
        obtain ⟨x, hxk⟩ : ∃ x, xs[k]? = some x := ⟨xs[k], by simp [hxl, hlt]⟩
        obtain ⟨y, hyk⟩ : ∃ y, ys[k]? = some y := ⟨ys[k], by simp [hyl, hlt]⟩
        obtain ⟨b1, o1, rfl, hc1⟩ := hx.cells (by omega)
        obtain ⟨b2, o2, rfl, hc2⟩ := hy.cells (by omega)
        have d1 := hc1 k (.int .i64 x) (by simp [hxk])
        have d2 := hc2 k (.int .i64 y) (by simp [hyk])
        have e : xs.take (k + 1) = ys.take (k + 1) ↔ x = y := by
          rw [List.take_add_one, List.take_add_one, htk.out, hxk, hyk]; simp
        have E := Lib.hid e
        clear hc1 hc2 hxk hyk e hxl hyl
        by_cases hxy : x = y
        · subst hxy
          have hb : (x != x) = false := by simp
          go_wp2_with fail
          go_quiet (fail)
          go_wp2_with fail
          go_roundw
          case rel => exact ⟨k + 1, by omega, by go_num, E.out.2 trivial, _, rfl⟩
          case measure => simp [intOf]; omega
        · have hb : (x != y) = true := by simp [hxy]
          go_wp2_with fail
          go_quiet (fail)
          go_wp2_with fail
          go_ret
          refine ⟨ret_bool ?_, _, World.drewN_drewN _ _ _⟩
          show false = _
          rw [Eq.comm, decide_eq_false_iff_not]
          intro h
          subst h
          exact hxy (E.out.1 rfl)
      · have hkm : k = n := by omega
        subst hkm
        go_wp2_with fail
        go_ret
        refine ⟨ret_bool ?_, _, rfl⟩
        show true = _
        have h := htk.out
        rw [List.take_of_length_le (by rw [Hx.out]; omega), List.take_of_length_le (by rw [Hy.out]; omega)] at h
        simp [h]
  · have hne : (((n : Nat) : Int) != (m : Int)) = true := by simp; omega
    have H : Hid (decide (xs = ys) = false) := Lib.hid (by simp; intro h; subst h; omega)
    clear hxl hyl
    go_enter Try.func22, Try.ntmps22
    go_wp2_with fail
    go_ret
    rw [H.out]
    exact ⟨rfl, 0, rfl⟩

end Go.Proofs.Ytkmnnfflibamnaa
/- slices.Clone at ints. -/
namespace Go.Proofs.Ytkmnnfflibamnaa
open Go.RowKit

theorem Clone_any (b o n c : Nat) (xs : List Int) (w : World) (hr : Rd w (some ⟨b, o, none⟩) n (ints xs)) (hn : 0 < n) (hn2 : n ≤ 1000000) :
    Calls Try.prog 20 #[.slice (some ⟨b, o, none⟩) n c] w fun e w' => ∃ a' c', e = .returned (.slice a' n c') ∧ Own w' w.heap.size 3 a' n c' (ints xs) ∧ Fr F0 w w' := by
  have hnil := fun (w : World) (a : Option Addr) (l c : Nat) => Lib.run_eql_slice_nil (P := Try.prog) w 36 3 a l c 0 0 Try.underlying36
  have hO : Own (w.alloc (.cells (#[] : Array Value) 3)) w.heap.size 3 (some ⟨w.heap.size, 0, none⟩) 0 0 (ints []) := Own.lit [] 0 rfl (by omega) (by omega)
  have hF : Fr F0 w (w.alloc (.cells (#[] : Array Value) 3)) := (Fr.refl _ _).alloc _
  obtain ⟨b', o', he, hc⟩ := (hr.fr0 hF).cells hn
  injection he with he; injection he with he1 he2; subst he1 he2
  have hl : (ints xs).length = n := hr.len
  replace hO := Lib.hid hO
  replace hF := Lib.hid hF
  replace hc := Lib.hid hc
  have Hl := Lib.hid hl
  clear hl
  go_enter Try.func20, Try.ntmps20
  go_wp2_with (at_builtin; refine wpAppAll E3 hO.out Hl.out hc.out (oneCell_ints xs) (by omega) (by omega) (by simp) hn rfl rfl ?_; intro a' c' w' own' fr')
  go_ret
  refine ⟨a', c', rfl, by simpa using own', hF.out.trans fr' (fun k hk hs => ?_)⟩
  have := (onBlk_some _ _ _ _).1 hs
  omega


end Go.Proofs.Ytkmnnfflibamnaa
/- Any slice of ints cloned. -/
namespace Go.Proofs.Ytkmnnfflibamnaa
open Go.RowKit
attribute [local go_sem ↓] Go.wp_at_zero Go.wp_at_succ
theorem Clone_all {a : Option Addr} {n c : Nat} {xs : List Int} {w : World} (hr : Rd w a n (ints xs)) (hn2 : n ≤ 1000000) :
    Calls Try.prog 20 #[.slice a n c] w fun e w' => ∃ a' c', e = .returned (.slice a' n c') ∧ Own w' w.heap.size 3 a' n c' (ints xs) ∧ Fr F0 w w' := by
  by_cases h0 : n = 0
  · subst h0
    have hx : xs = [] := by have := hr.len; simpa using this
    subst hx
    have hnil := fun (w : World) (a : Option Addr) (l c : Nat) => Lib.run_eql_slice_nil (P := Try.prog) w 36 3 a l c 0 0 Try.underlying36
    cases a with
    | none =>
      clear hr
      go_enter Try.func20, Try.ntmps20
      go_wp2_with fail
      go_ret
      exact ⟨none, 0, rfl, Own.nil _ _ _, Fr.refl _ _⟩
    | some ad =>
      have hO : Own (w.alloc (.cells (#[] : Array Value) 3)) w.heap.size 3 (some ⟨w.heap.size, 0, none⟩) 0 0 (ints []) := Own.lit [] 0 rfl (by omega) (by omega)
      have hF : Fr F0 w (w.alloc (.cells (#[] : Array Value) 3)) := (Fr.refl _ _).alloc _
      replace hO := Lib.hid hO
      have hR := Lib.hid (hr.fr0 hF)
      replace hF := Lib.hid hF
      clear hr
      go_enter Try.func20, Try.ntmps20
      go_wp2_with (at_builtin; refine wpAppRd E3 hO.out hR.out (oneCell_ints []) (by omega) (by omega) (by simp) 0 rfl rfl rfl ?_; intro a' c' w' own' fr' at')
      go_ret
      refine ⟨a', c', rfl, by simpa using own', hF.out.trans fr' (fun k hk hs => ?_)⟩
      have := (onBlk_some _ _ _ _).1 hs
      omega
  · obtain ⟨b, o, rfl, _⟩ := hr.cells (by omega)
    exact Clone_any b o n c xs w hr (by omega) hn2
end Go.Proofs.Ytkmnnfflibamnaa
