/- slices.ContainsFunc over rows of bytes, for the closures of Commit and of many; the closures themselves. -/
import Derived.Test.YtehpikjhjghplaaB10
import Derived.Test.YtehpikjhjghplaaSlContains0
namespace Go.Proofs.Ytehpikjhjghplaa
open Go.RowKit
attribute [local go_sem ↓] Go.wp_at_zero Go.wp_at_succ
/-- The first row whose length f picks. -/
def idxR (f : Nat → Bool) (ds : List (List UInt8)) : Int := if ds.any (fun d => f d.length) then ((ds.findIdx (fun d => f d.length) : Nat) : Int) else -1
theorem idxR_hit {f : Nat → Bool} {ds : List (List UInt8)} {k : Nat} {d : List UInt8} (h : ds[k]? = some d) (hf : f d.length = true) (ht : (ds.take k).any (fun d => f d.length) = false) : idxR f ds = k := by
  have hk := (List.getElem?_eq_some_iff.1 h).1
  unfold idxR
  rw [if_pos (List.any_eq_true.2 ⟨d, List.mem_of_getElem? h, hf⟩)]
  congr 1
  rw [List.findIdx_eq hk]
  refine ⟨by rw [List.getElem?_eq_getElem hk] at h; injection h with h; rw [h]; exact hf, fun j hj => ?_⟩
  have := List.any_eq_false.1 ht (ds[j]'(by omega)) (List.mem_take_iff_getElem.2 ⟨j, by omega, rfl⟩)
  simpa using this
theorem Commit1_any (ar : Option Addr) (nn cr : Nat) (pg : Int) (x : Nat) (w : World) (h : w.cell? ⟨x, 0, none⟩ = some (.int .i64 pg)) :
    Calls Try.prog 47 #[.slice ar nn cr, .pointer (some ⟨x, 0, none⟩)] w fun e w' => e = .returned (.bool (decide (¬ (nn : Int) = pg))) ∧ w = w' := by
  by_cases he : (nn : Int) = pg
  · have d : ((nn : Int) != pg) = false := by simpa using he
    have E : Hid (decide (¬ (nn : Int) = pg) = false) := Lib.hid (by simpa using he)
    rw [E.out]
    clear he
    go_enter Try.func47, Try.ntmps47
    go_wp2_with fail
    go_ret
    exact ⟨rfl, rfl⟩
  · have d : ((nn : Int) != pg) = true := by simpa using he
    have E : Hid (decide (¬ (nn : Int) = pg) = true) := Lib.hid (by simpa using he)
    rw [E.out]
    clear he
    go_enter Try.func47, Try.ntmps47
    go_wp2_with fail
    go_ret
    exact ⟨rfl, rfl⟩
theorem many1_any (ar : Option Addr) (nn cr : Nat) (w : World) : Calls Try.prog 46 #[.slice ar nn cr] w fun e w' => e = .returned (.bool (decide ((300 : Int) < nn))) ∧ w = w' := by
  go_enter Try.func46, Try.ntmps46
  go_wp2_with fail
  go_ret
  exact ⟨rfl, rfl⟩
def inP (z : Int) : Bool := decide (z < 0) || decide (1000 ≤ z)
theorem Commit2_any (z : Int) (w : World) : Calls Try.prog 48 #[.int .i64 z] w fun e w' => e = .returned (.bool (inP z)) ∧ w = w' := by
  by_cases h : z < 0
  · have E : Hid (inP z = true) := Lib.hid (by unfold inP; simp [h])
    go_enter Try.func48, Try.ntmps48
    go_wp2_with fail
    go_ret
    exact ⟨ret_bool E.out.symm, rfl⟩
  · have E : Hid (inP z = decide (1000 ≤ z)) := Lib.hid (by unfold inP; simp [h])
    go_enter Try.func48, Try.ntmps48
    go_wp2_with fail
    go_ret
    exact ⟨ret_bool E.out.symm, rfl⟩
set_option maxHeartbeats 1000000 in
theorem IndexFunc_c1 (x : Nat) (f : Nat → Bool) (a : Option Addr) (m c : Nat) (vs : List Value) (ds : List (List UInt8)) (S : Nat → Prop) (w : World) (hp : Rd w a m vs) (hR : RowsM w S vs ds)
    (hf : ∀ ar nn cr, Calls Try.prog 47 #[.slice ar nn cr, .pointer (some ⟨x, 0, none⟩)] w fun e w' => e = .returned (.bool (f nn)) ∧ w = w') :
    Calls Try.prog 62 #[.slice a m c, .func (.func 47) #[] #[.pointer (some ⟨x, 0, none⟩)]] w fun e w' => e = .returned (.int .i64 (idxR f ds)) ∧ w = w' := by
  have hdl : ds.length = m := by rw [← hR.len, hp.len]
  have hmax := hp.max
  have Hf := Lib.hid hf
  have Hp := Lib.hid hp
  have HR := Lib.hid hR
  have Hdl := Lib.hid hdl
  clear hf hdl hp hR
  go_enter Try.func62, Try.ntmps62
  go_wp2_with fail
  go_loop [5, 8] (fun _ i => ∃ k : Nat, k ≤ m ∧ i = .int .i64 k ∧ Hid ((ds.take k).any (fun d => f d.length) = false)) (fun _ i => m - (intOf i).toNat)
  case atStart => exact ⟨0, by omega, rfl, Lib.hid rfl⟩
  case round =>
    obtain ⟨k, hk, rfl, hno⟩ := hrel
    by_cases hlt : k < m
    · obtain ⟨b, o, ar, cr, d, hb, hdk, dc, _⟩ := rows_ix Hp.out HR.out hlt
      subst hb
      obtain ⟨nn, hnn⟩ : ∃ nn, nn = d.length := ⟨_, rfl⟩
      rw [← hnn] at dc
      have Hnn := Lib.hid hnn
      have Hdk := Lib.hid hdk
      have hcall := Hf.out ar nn cr
      clear hnn hdk
      cases hfx : f nn with
      | true =>
        rw [hfx] at hcall
        have E : Hid (idxR f ds = k) := Lib.hid (idxR_hit Hdk.out (by rw [← Hnn.out]; exact hfx) hno.out)
        clear hfx
        go_wp2_with fail
        refine hcall.mono ?_; rintro e w' ⟨rfl, rfl⟩
        go_wp2_with fail
        go_ret
        exact ⟨ret_int E.out.symm, rfl⟩
      | false =>
        rw [hfx] at hcall
        have hno2 : Hid ((ds.take (k + 1)).any (fun d => f d.length) = false) := Lib.hid (by
          rw [List.take_add_one, Hdk.out, List.any_append, hno.out]
          show (false || ([d].any _)) = false
          simp only [List.any_cons, List.any_nil, Bool.or_false, Bool.false_or]
          rw [← Hnn.out]; exact hfx)
        clear hfx
        go_wp2_with fail
        refine hcall.mono ?_; rintro e w' ⟨rfl, rfl⟩
        go_wp2_with fail
        go_round
        case rel => exact ⟨k + 1, by omega, by go_num, hno2⟩
        case measure => simp [intOf]; omega
    · obtain rfl : k = m := by omega
      have E : Hid (idxR f ds = -1) := Lib.hid (by
        have h := hno.out
        rw [List.take_of_length_le (by have := Hdl.out; omega)] at h
        unfold idxR
        rw [h]; rfl)
      go_wp2_with fail
      go_ret
      exact ⟨ret_int E.out.symm, rfl⟩
theorem ContainsFunc_c1 (x : Nat) (f : Nat → Bool) (a : Option Addr) (m c : Nat) (vs : List Value) (ds : List (List UInt8)) (S : Nat → Prop) (w : World) (hp : Rd w a m vs) (hR : RowsM w S vs ds)
    (hf : ∀ ar nn cr, Calls Try.prog 47 #[.slice ar nn cr, .pointer (some ⟨x, 0, none⟩)] w fun e w' => e = .returned (.bool (f nn)) ∧ w = w') :
    Calls Try.prog 35 #[.slice a m c, .func (.func 47) #[] #[.pointer (some ⟨x, 0, none⟩)]] w fun e w' => e = .returned (.bool (ds.any (fun d => f d.length))) ∧ w = w' := by
  have e : decide (0 ≤ idxR f ds) = ds.any (fun d => f d.length) := by
    unfold idxR; cases ds.any (fun d => f d.length) <;> simp
  have E := Lib.hid e
  clear e
  go_enter Try.func35, Try.ntmps35
  go_wp2_with fail
  refine (IndexFunc_c1 x f a m c vs ds S w hp hR hf).mono ?_; rintro e w' ⟨rfl, rfl⟩
  go_wp2_with fail
  go_ret
  exact ⟨ret_bool E.out, rfl⟩
set_option maxHeartbeats 1000000 in
theorem IndexFunc_m1 (f : Nat → Bool) (a : Option Addr) (m c : Nat) (vs : List Value) (ds : List (List UInt8)) (S : Nat → Prop) (w : World) (hp : Rd w a m vs) (hR : RowsM w S vs ds)
    (hf : ∀ ar nn cr, Calls Try.prog 46 #[.slice ar nn cr] w fun e w' => e = .returned (.bool (f nn)) ∧ w = w') :
    Calls Try.prog 62 #[.slice a m c, .func (.func 46) #[] #[]] w fun e w' => e = .returned (.int .i64 (idxR f ds)) ∧ w = w' := by
  have hdl : ds.length = m := by rw [← hR.len, hp.len]
  have hmax := hp.max
  have Hf := Lib.hid hf
  have Hp := Lib.hid hp
  have HR := Lib.hid hR
  have Hdl := Lib.hid hdl
  clear hf hdl hp hR
  go_enter Try.func62, Try.ntmps62
  go_wp2_with fail
  go_loop [5, 8] (fun _ i => ∃ k : Nat, k ≤ m ∧ i = .int .i64 k ∧ Hid ((ds.take k).any (fun d => f d.length) = false)) (fun _ i => m - (intOf i).toNat)
  case atStart => exact ⟨0, by omega, rfl, Lib.hid rfl⟩
  case round =>
    obtain ⟨k, hk, rfl, hno⟩ := hrel
    by_cases hlt : k < m
    · obtain ⟨b, o, ar, cr, d, hb, hdk, dc, _⟩ := rows_ix Hp.out HR.out hlt
      subst hb
      obtain ⟨nn, hnn⟩ : ∃ nn, nn = d.length := ⟨_, rfl⟩
      rw [← hnn] at dc
      have Hnn := Lib.hid hnn
      have Hdk := Lib.hid hdk
      have hcall := Hf.out ar nn cr
      clear hnn hdk
      cases hfx : f nn with
      | true =>
        rw [hfx] at hcall
        have E : Hid (idxR f ds = k) := Lib.hid (idxR_hit Hdk.out (by rw [← Hnn.out]; exact hfx) hno.out)
        clear hfx
        go_wp2_with fail
        refine hcall.mono ?_; rintro e w' ⟨rfl, rfl⟩
        go_wp2_with fail
        go_ret
        exact ⟨ret_int E.out.symm, rfl⟩
      | false =>
        rw [hfx] at hcall
        have hno2 : Hid ((ds.take (k + 1)).any (fun d => f d.length) = false) := Lib.hid (by
          rw [List.take_add_one, Hdk.out, List.any_append, hno.out]
          show (false || ([d].any _)) = false
          simp only [List.any_cons, List.any_nil, Bool.or_false, Bool.false_or]
          rw [← Hnn.out]; exact hfx)
        clear hfx
        go_wp2_with fail
        refine hcall.mono ?_; rintro e w' ⟨rfl, rfl⟩
        go_wp2_with fail
        go_round
        case rel => exact ⟨k + 1, by omega, by go_num, hno2⟩
        case measure => simp [intOf]; omega
    · obtain rfl : k = m := by omega
      have E : Hid (idxR f ds = -1) := Lib.hid (by
        have h := hno.out
        rw [List.take_of_length_le (by have := Hdl.out; omega)] at h
        unfold idxR
        rw [h]; rfl)
      go_wp2_with fail
      go_ret
      exact ⟨ret_int E.out.symm, rfl⟩
theorem ContainsFunc_m1 (f : Nat → Bool) (a : Option Addr) (m c : Nat) (vs : List Value) (ds : List (List UInt8)) (S : Nat → Prop) (w : World) (hp : Rd w a m vs) (hR : RowsM w S vs ds)
    (hf : ∀ ar nn cr, Calls Try.prog 46 #[.slice ar nn cr] w fun e w' => e = .returned (.bool (f nn)) ∧ w = w') :
    Calls Try.prog 35 #[.slice a m c, .func (.func 46) #[] #[]] w fun e w' => e = .returned (.bool (ds.any (fun d => f d.length))) ∧ w = w' := by
  have e : decide (0 ≤ idxR f ds) = ds.any (fun d => f d.length) := by
    unfold idxR; cases ds.any (fun d => f d.length) <;> simp
  have E := Lib.hid e
  clear e
  go_enter Try.func35, Try.ntmps35
  go_wp2_with fail
  refine (IndexFunc_m1 f a m c vs ds S w hp hR hf).mono ?_; rintro e w' ⟨rfl, rfl⟩
  go_wp2_with fail
  go_ret
  exact ⟨ret_bool E.out, rfl⟩
end Go.Proofs.Ytehpikjhjghplaa
