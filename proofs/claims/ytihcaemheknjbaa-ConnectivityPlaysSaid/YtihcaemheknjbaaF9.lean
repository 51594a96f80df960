/- The reference: Vertices, In, Singles, Union, Count. -/
import Derived.Test.YtihcaemheknjbaaF8
namespace Go.Proofs.Ytihcaemheknjbaa
open Go.RowKit
attribute [local go_sem ↓] Go.wp_at_zero Go.wp_at_succ
theorem Vertices_any (n : Int) (w : World) : Calls Try.prog 43 #[.int .i64 n] w fun e w' => e = .returned (.bool (decide (1 ≤ n) && decide (n ≤ 1000))) ∧ w = w' := by
  by_cases c : 1 ≤ n
  · have E : Hid ((decide (1 ≤ n) && decide (n ≤ 1000)) = decide (n ≤ 1000)) := Lib.hid (by simp [c])
    go_enter Try.func43, Try.ntmps43
    go_wp2_with fail
    go_ret
    exact ⟨ret_bool E.out.symm, rfl⟩
  · have E : Hid ((decide (1 ≤ n) && decide (n ≤ 1000)) = false) := Lib.hid (by simp [c])
    go_enter Try.func43, Try.ntmps43
    go_wp2_with fail
    go_ret
    exact ⟨ret_bool E.out.symm, rfl⟩
theorem In_any (n v : Int) (w : World) : Calls Try.prog 27 #[.int .i64 n, .int .i64 v] w fun e w' => e = .returned (.bool (decide (0 ≤ v) && decide (v < n))) ∧ w = w' := by
  by_cases c : 0 ≤ v
  · have E : Hid ((decide (0 ≤ v) && decide (v < n)) = decide (v < n)) := Lib.hid (by simp [c])
    go_enter Try.func27, Try.ntmps27
    go_wp2_with fail
    go_ret
    exact ⟨ret_bool E.out.symm, rfl⟩
  · have E : Hid ((decide (0 ≤ v) && decide (v < n)) = false) := Lib.hid (by simp [c])
    go_enter Try.func27, Try.ntmps27
    go_wp2_with fail
    go_ret
    exact ⟨ret_bool E.out.symm, rfl⟩
/-- A new row of naturals as result. -/
def SlR (w : World) (l : List Nat) (e : Ending) (w' : World) : Prop := ∃ a c, e = .returned (.slice a l.length c) ∧ Own w' w.heap.size 3 a l.length c (nv l) ∧ Fr F0 w w'
set_option maxHeartbeats 1000000 in
theorem Singles_any (n : Nat) (w : World) (hn : n ≤ 1000) : Calls Try.prog 26 #[.int .i64 n] w (SlR w (List.range n)) := by
  go_enter Try.func26, Try.ntmps26
  go_wp2_with fail
  go_loopw [3, 4] (fun s3 s4 wr => ∃ (i : Nat) (a : Option Addr) (c : Nat), i ≤ n ∧ s4 = .int .i64 i ∧ s3 = .slice a i c ∧ Hid (Own wr w.heap.size 3 a i c (nv (List.range i)) ∧ Fr F0 w wr)) (fun _ s4 _ => n - (intOf s4).toNat)
  case atStart => exact ⟨0, _, _, Nat.zero_le _, rfl, rfl, Lib.hid ⟨Own.lit [] 0 rfl (Nat.le_refl _) (by omega), (Fr.refl _ _).alloc _⟩⟩
  case round =>
    obtain ⟨i, a, c, hi, rfl, rfl, H⟩ := hrel
    by_cases hlt : i < n
    · go_wp2_with (at_builtin; refine wpApp1 E3 H.out.1 (by omega) (by omega) H.out.2.size (u := .int .i64 (i : Int)) rfl rfl rfl ?_; intro a' c' w' own' fr'; have HO := Lib.hid own'; have HF := Lib.hid (H.out.2.trans fr' (fun k hk h1 => by have := (H.out.1.blk k h1).1; omega)); clear own' fr')
      go_roundw
      case rel => exact ⟨i + 1, a', c', by omega, by go_num, rfl, Lib.hid ⟨by rw [List.range_succ, nv_app]; exact HO.out, HF.out⟩⟩
      case measure => simp [intOf]; omega
    · obtain rfl : i = n := by omega
      go_wp2_with fail
      go_ret
      unfold SlR
      rw [List.length_range]
      exact ⟨a, c, rfl, H.out.1, H.out.2⟩
/-- A row that is read: its cells. -/
theorem Rd.nvix {w : World} {a : Option Addr} {n : Nat} {l : List Nat} (h : Rd w a n (nv l)) {i : Nat} (hi : i < n) : ∃ b o x, a = some ⟨b, o, none⟩ ∧ l[i]? = some x ∧ w.cell? ⟨b, o + i, none⟩ = some (.int .i64 (x : Int)) := by
  have hl := h.len
  rw [nv_len] at hl
  obtain ⟨b, o, ha, hc⟩ := h.cells (by omega)
  have hx : l[i]? = some l[i] := List.getElem?_eq_getElem _
  exact ⟨b, o, l[i], ha, hx, hc i _ (nv_get hx)⟩
theorem take_snoc {α : Type} {l : List α} {i : Nat} {x : α} (h : l[i]? = some x) : l.take (i + 1) = l.take i ++ [x] := by
  rw [List.take_add_one, h]; rfl
set_option maxHeartbeats 4000000 in
theorem refUnion_any {w : World} {a : Option Addr} {n c : Nat} {p : List Nat} {v u : Nat} (h : Rd w a n (nv p)) (hn : n ≤ 1000) (hv : v < n) (hu : u < n) : Calls Try.prog 28 #[.slice a n c, .int .i64 v, .int .i64 u] w (SlR w (joinP p v u)) := by
  obtain ⟨b, o, x, rfl, hx, cx⟩ := h.nvix hv
  obtain ⟨b0, o0, y, hab, hy, cy⟩ := h.nvix hu
  obtain ⟨rfl, rfl⟩ : b = b0 ∧ o = o0 := by injection hab with hab; injection hab with h1 h2; exact ⟨h1, h2⟩
  have HL : Hid (p.length = n) := Lib.hid (by have := h.len; rwa [nv_len] at this)
  have HR := Lib.hid h
  have hv' : (v : Int) < (n : Int) := by omega
  have hu' : (u : Int) < (n : Int) := by omega
  clear h hab
  by_cases hs : y < x
  · have hs' : decide (y < x) = true := decide_eq_true hs
    have HJ : Hid (joinP p v u = mrg y x p) := Lib.hid (by unfold joinP; rw [gd hx, gd hy]; congr 1 <;> omega)
    clear hx hy hv hu
    go_enter Try.func28, Try.ntmps28
    go_wp2_with fail
    go_quiet (fail)
    clear cx cy
    go_wp2_with fail
    clear hs
    go_loopw [9, 10] (fun s9 s10 wr => ∃ (i : Nat) (a' : Option Addr) (c' : Nat), i ≤ n ∧ s10 = .int .i64 i ∧ s9 = .slice a' i c' ∧ Hid (Own wr w.heap.size 3 a' i c' (nv ((mrg y x p).take i)) ∧ Fr F0 w wr)) (fun _ s10 _ => n - (intOf s10).toNat)
    case atStart => exact ⟨0, _, _, Nat.zero_le _, rfl, rfl, Lib.hid ⟨Own.lit [] 0 rfl (Nat.le_refl _) (by omega), ((Fr.refl _ _).drewN nq).alloc _⟩⟩
    case round =>
      obtain ⟨i, a', c', hi, rfl, rfl, H⟩ := hrel
      by_cases hlt : i < n
      · obtain ⟨b0, o0, z, hab, hz, cz⟩ := (HR.out.fr0 H.out.2).nvix hlt
        obtain ⟨rfl, rfl⟩ : b = b0 ∧ o = o0 := by injection hab with hab; injection hab with h1 h2; exact ⟨h1, h2⟩
        have HZ := Lib.hid hz
        have hm : (mrg y x p)[i]? = some (if z = x then y else z) := by rw [mrg_get, hz]; rfl
        have HM := Lib.hid hm
        clear hz hm hab
        by_cases e : z = x
        · have be : ((z : Int) == (x : Int)) = true := by simp; omega
          have HE : Hid ((if z = x then y else z) = y) := Lib.hid (if_pos e)
          clear e
          go_wp2_with (at_builtin; refine wpApp1 E3 H.out.1 (by omega) (by omega) H.out.2.size (u := .int .i64 (y : Int)) rfl rfl rfl ?_; intro a'' c'' w' own' fr'; have HO := Lib.hid own'; have HF := Lib.hid (H.out.2.trans fr' (fun k hk h1 => by have := (H.out.1.blk k h1).1; omega)); clear own' fr')
          go_roundw
          case rel => exact ⟨i + 1, a'', c'', by omega, by go_num, rfl, Lib.hid ⟨by rw [take_snoc HM.out, nv_app, HE.out]; exact HO.out, HF.out⟩⟩
          case measure => simp [intOf]; omega
        · have be : ((z : Int) == (x : Int)) = false := by simp; omega
          have HE : Hid ((if z = x then y else z) = z) := Lib.hid (if_neg e)
          clear e
          go_wp2_with (at_builtin; refine wpApp1 E3 H.out.1 (by omega) (by omega) H.out.2.size (u := .int .i64 (z : Int)) rfl rfl rfl ?_; intro a'' c'' w' own' fr'; have HO := Lib.hid own'; have HF := Lib.hid (H.out.2.trans fr' (fun k hk h1 => by have := (H.out.1.blk k h1).1; omega)); clear own' fr')
          go_roundw
          case rel => exact ⟨i + 1, a'', c'', by omega, by go_num, rfl, Lib.hid ⟨by rw [take_snoc HM.out, nv_app, HE.out]; exact HO.out, HF.out⟩⟩
          case measure => simp [intOf]; omega
      · obtain rfl : n = i := by omega
        go_wp2_with fail
        go_ret
        unfold SlR
        have hl : (mrg y x p).length = n := by rw [← HJ.out, joinP_len, HL.out]
        rw [HJ.out, hl]
        have h1 := H.out.1
        rw [List.take_of_length_le (by omega)] at h1
        exact ⟨a', c', rfl, h1, H.out.2⟩
  · have hs' : decide (y < x) = false := decide_eq_false hs
    have HJ : Hid (joinP p v u = mrg x y p) := Lib.hid (by unfold joinP; rw [gd hx, gd hy]; congr 1 <;> omega)
    clear hx hy hv hu
    go_enter Try.func28, Try.ntmps28
    go_wp2_with fail
    go_quiet (fail)
    clear cx cy
    go_wp2_with fail
    clear hs
    go_loopw [9, 10] (fun s9 s10 wr => ∃ (i : Nat) (a' : Option Addr) (c' : Nat), i ≤ n ∧ s10 = .int .i64 i ∧ s9 = .slice a' i c' ∧ Hid (Own wr w.heap.size 3 a' i c' (nv ((mrg x y p).take i)) ∧ Fr F0 w wr)) (fun _ s10 _ => n - (intOf s10).toNat)
    case atStart => exact ⟨0, _, _, Nat.zero_le _, rfl, rfl, Lib.hid ⟨Own.lit [] 0 rfl (Nat.le_refl _) (by omega), ((Fr.refl _ _).drewN nq).alloc _⟩⟩
    case round =>
      obtain ⟨i, a', c', hi, rfl, rfl, H⟩ := hrel
      by_cases hlt : i < n
      · obtain ⟨b0, o0, z, hab, hz, cz⟩ := (HR.out.fr0 H.out.2).nvix hlt
        obtain ⟨rfl, rfl⟩ : b = b0 ∧ o = o0 := by injection hab with hab; injection hab with h1 h2; exact ⟨h1, h2⟩
        have HZ := Lib.hid hz
        have hm : (mrg x y p)[i]? = some (if z = y then x else z) := by rw [mrg_get, hz]; rfl
        have HM := Lib.hid hm
        clear hz hm hab
        by_cases e : z = y
        · have be : ((z : Int) == (y : Int)) = true := by simp; omega
          have HE : Hid ((if z = y then x else z) = x) := Lib.hid (if_pos e)
          clear e
          go_wp2_with (at_builtin; refine wpApp1 E3 H.out.1 (by omega) (by omega) H.out.2.size (u := .int .i64 (x : Int)) rfl rfl rfl ?_; intro a'' c'' w' own' fr'; have HO := Lib.hid own'; have HF := Lib.hid (H.out.2.trans fr' (fun k hk h1 => by have := (H.out.1.blk k h1).1; omega)); clear own' fr')
          go_roundw
          case rel => exact ⟨i + 1, a'', c'', by omega, by go_num, rfl, Lib.hid ⟨by rw [take_snoc HM.out, nv_app, HE.out]; exact HO.out, HF.out⟩⟩
          case measure => simp [intOf]; omega
        · have be : ((z : Int) == (y : Int)) = false := by simp; omega
          have HE : Hid ((if z = y then x else z) = z) := Lib.hid (if_neg e)
          clear e
          go_wp2_with (at_builtin; refine wpApp1 E3 H.out.1 (by omega) (by omega) H.out.2.size (u := .int .i64 (z : Int)) rfl rfl rfl ?_; intro a'' c'' w' own' fr'; have HO := Lib.hid own'; have HF := Lib.hid (H.out.2.trans fr' (fun k hk h1 => by have := (H.out.1.blk k h1).1; omega)); clear own' fr')
          go_roundw
          case rel => exact ⟨i + 1, a'', c'', by omega, by go_num, rfl, Lib.hid ⟨by rw [take_snoc HM.out, nv_app, HE.out]; exact HO.out, HF.out⟩⟩
          case measure => simp [intOf]; omega
      · obtain rfl : n = i := by omega
        go_wp2_with fail
        go_ret
        unfold SlR
        have hl : (mrg x y p).length = n := by rw [← HJ.out, joinP_len, HL.out]
        rw [HJ.out, hl]
        have h1 := H.out.1
        rw [List.take_of_length_le (by omega)] at h1
        exact ⟨a', c', rfl, h1, H.out.2⟩
set_option maxHeartbeats 1000000 in
theorem refCount_any {w : World} {a : Option Addr} {n c : Nat} {p : List Nat} (h : Rd w a n (nv p)) (hn : n ≤ 1000) : Calls Try.prog 30 #[.slice a n c] w fun e w' => e = .returned (.int .i64 (cntP p : Int)) ∧ w = w' := by
  have hl : p.length = n := by have := h.len; rwa [nv_len] at this
  have HE : Hid (cntP p = (List.range n).countP (fun i => p[i]? == some i)) := Lib.hid (by unfold cntP; rw [hl])
  have HR := Lib.hid h
  clear hl h
  go_enter Try.func30, Try.ntmps30
  go_wp2_with fail
  go_loop [3, 4] (fun s3 s4 => ∃ (i k : Nat), i ≤ n ∧ k ≤ i ∧ s4 = .int .i64 i ∧ s3 = .int .i64 k ∧ Hid (k = (List.range i).countP (fun i => p[i]? == some i))) (fun _ s4 => n - (intOf s4).toNat)
  case atStart => exact ⟨0, 0, Nat.zero_le _, Nat.le_refl _, rfl, rfl, Lib.hid rfl⟩
  case round =>
    obtain ⟨i, k, hi, hk, rfl, rfl, H⟩ := hrel
    by_cases hlt : i < n
    · obtain ⟨b0, o0, z, rfl, hz, cz⟩ := HR.out.nvix hlt
      have HZ := Lib.hid hz
      clear hz
      by_cases e : z = i
      · have be : ((z : Int) == (i : Int)) = true := by simp; omega
        have H2 : Hid (k + 1 = (List.range (i + 1)).countP (fun i => p[i]? == some i)) := Lib.hid (by rw [List.range_succ, List.countP_append, ← H.out, List.countP_singleton, HZ.out, e]; simp)
        clear e
        go_wp2_with fail
        go_round
        case rel => exact ⟨i + 1, k + 1, by omega, by omega, by go_num, by go_num, H2⟩
        case measure => simp [intOf]; omega
      · have be : ((z : Int) == (i : Int)) = false := by simp; omega
        have H2 : Hid (k = (List.range (i + 1)).countP (fun i => p[i]? == some i)) := Lib.hid (by rw [List.range_succ, List.countP_append, ← H.out, List.countP_singleton, HZ.out]; simp [e])
        clear e
        go_wp2_with fail
        go_round
        case rel => exact ⟨i + 1, k, by omega, by omega, by go_num, rfl, H2⟩
        case measure => simp [intOf]; omega
    · obtain rfl : n = i := by omega
      go_wp2_with fail
      go_ret
      exact ⟨ret_int (by rw [HE.out, ← H.out]), rfl⟩
end Go.Proofs.Ytihcaemheknjbaa
