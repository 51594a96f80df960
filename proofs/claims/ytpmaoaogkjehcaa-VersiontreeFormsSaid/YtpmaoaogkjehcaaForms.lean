/- VersiontreeForms: the walk. -/
import Derived.Test.YtpmaoaogkjehcaaX9
import Derived.Test.YtpmaoaogkjehcaaAgg1
namespace Go.Proofs.Ytpmaoaogkjehcaa
open Go.RowKit
attribute [local go_sem ↓] Go.wp_at_zero Go.wp_at_succ

set_option maxHeartbeats 2000000 in
theorem Forms_bad (a : Option Addr) (n c : Nat) (P : List Int) (v : Int) (w : World) (hr : Rd w a n (ints P)) (hc : n ≤ c) (hmany' : manyB n = false) (hvb : validB P = false) (hck : checkE P v = 1) :
    Calls Try.prog 3 #[VA a n c, .int .i64 v] w fun e w' => e = .returned (.bool true) ∧ Fr F0 w w' := by
  have hpl : P.length = n := by simpa using hr.len
  have hm := hr.max
  have hF : Fr F0 w (boxW w a n c) := (Fr.refl _ _).alloc _
  have hone : One (boxW w a n c) w.heap.size 24 (.slice a n c) := One.new 24 _
  have Hpl := Lib.hid hpl
  clear hpl
  have Hm := Lib.hid hmany'
  have Hck := Lib.hid hck
  have Hvb := Lib.hid hvb
  clear hmany' hck hvb
  go_enter Try.func3, Try.ntmps3
  go_wp2_with fail
  refine (awake_any _).mono ?_; rintro e w1 ⟨rfl, F1⟩
  replace hone := hone.fr F1 id
  replace hF := hF.trans0 F1
  have hcell := hone.cell
  clear F1
  go_wp2_with fail
  refine (many_any a n c _ hm).mono ?_; rintro e w2 ⟨rfl, F2⟩
  rw [Hm.out]
  replace hone := hone.fr F2 id
  replace hF := hF.trans0 F2
  have hcell := hone.cell
  clear F2
  go_wp2_with fail
  refine (Path_any a n c P v _ (hr.fr0 hF) hc).mono ?_; rintro e w3 ⟨a3, m3, c3, rfl, O3, F3⟩
  rw [Hck.out] at O3 ⊢
  have R3 := O3.rd
  replace hone := hone.fr F3 id
  replace hF := hF.trans0 F3
  have hcell := hone.cell
  replace R3 := Lib.hid R3
  clear F3 O3
  go_wp2_with fail
  refine (Children_any a n c P v _ (hr.fr0 hF) hc).mono ?_; rintro e w4 ⟨a4, m4, c4, rfl, O4, F4⟩
  rw [Hck.out] at O4 ⊢
  have R4 := O4.rd
  replace hone := hone.fr F4 id
  replace hF := hF.trans0 F4
  have hcell := hone.cell
  replace R4 := Lib.hid R4
  replace R3 := Lib.hid (R3.out.fr0 F4)
  clear F4 O4
  go_wp2_with fail
  refine (Euler_any a n c P _ (hr.fr0 hF) hc).mono ?_; rintro e w5 ⟨a5, m5, c5, rfl, O5, F5⟩
  rw [Hvb.out] at O5 ⊢
  have R5 := O5.rd
  replace hone := hone.fr F5 id
  replace hF := Lib.hid (hF.trans0 F5)
  have hcell := hone.cell
  replace R5 := Lib.hid R5
  replace R4 := Lib.hid (R4.out.fr0 F5)
  replace R3 := Lib.hid (R3.out.fr0 F5)
  clear F5 O5
  have z3 : m3 = 0 := by have h := R3.out.len; simp at h; exact h.symm
  have z4 : m4 = 0 := by have h := R4.out.len; simp at h; exact h.symm
  have z5 : m5 = 0 := by have h := R5.out.len; simp at h; exact h.symm
  subst z3 z4 z5
  go_wp2_with fail
  have hr9 := Lib.hid ((hr.fr0 hF.out).fr0 (Fr.refl F0 _).drew)
  have G9 := Lib.hid ((Fr.refl F0 w5).drew)
  go_region_held3 (fun w' => w'.cell? ⟨w.heap.size, 0, none⟩ = some (.slice a n c)) (go_keep)
    (first
      | (go_at_call 14; refine (Valid_any a n c P _ hr9.out hc).mono ?_; rintro e w9 ⟨rfl, F9⟩; rw [Hvb.out]; have G9 := Lib.hid (G9.out.trans0 F9); have hr9 := Lib.hid (hr9.out.fr0 F9); have hcell9 := (hone.fr G9.out id).cell; clear F9)
      | (go_at_call 15; refine (refValid_any a n c P _ hr9.out).mono ?_; rintro e w9 ⟨rfl, F9⟩; rw [Hvb.out]; have G9 := Lib.hid (G9.out.trans0 F9); have hr9 := Lib.hid (hr9.out.fr0 F9); have hcell9 := (hone.fr G9.out id).cell; clear F9))
  all_goals
    replace hr := Lib.hid hr9
    replace hone := hone.fr G9.out id
    replace hF := Lib.hid (hF.out.trans0 G9.out)
    replace R3 := Lib.hid (R3.out.fr0 G9.out)
    replace R4 := Lib.hid (R4.out.fr0 G9.out)
    replace R5 := Lib.hid (R5.out.fr0 G9.out)
    clear hr9 G9
    go_wp2_with fail
    refine (refValid_any a n c P _ hr.out.out).mono ?_; rintro e w10 ⟨rfl, F10⟩
    rw [Hvb.out]
    replace hr := hr.out.out.fr0 F10
    replace hone := hone.fr F10 id
    replace hF := hF.out.trans0 F10
    replace R3 := R3.out.fr0 F10
    replace R4 := R4.out.fr0 F10
    replace R5 := R5.out.fr0 F10
    have hcell := hone.cell
    clear F10
    replace hF := Lib.hid hF
    go_wp2_with fail
    go_ret
    exact ⟨rfl, hF.out⟩

set_option maxHeartbeats 2000000 in
theorem Forms_out (a : Option Addr) (n c : Nat) (P : List Int) (v : Int) (w : World) (hr : Rd w a n (ints P)) (hc : n ≤ c) (hmany' : manyB n = false) (hvb : validB P = true) (hck : checkE P v = 24) (his : isB n v = false) :
    Calls Try.prog 3 #[VA a n c, .int .i64 v] w fun e w' => e = .returned (.bool true) ∧ Fr F0 w w' := by
  have hpl : P.length = n := by simpa using hr.len
  have hm := hr.max
  have hF : Fr F0 w (boxW w a n c) := (Fr.refl _ _).alloc _
  have hone : One (boxW w a n c) w.heap.size 24 (.slice a n c) := One.new 24 _
  have Hpl := Lib.hid hpl
  clear hpl
  have Hm := Lib.hid hmany'
  have Hck := Lib.hid hck
  have Hvb := Lib.hid hvb
  have His := Lib.hid his
  clear his
  clear hmany' hck hvb
  go_enter Try.func3, Try.ntmps3
  go_wp2_with fail
  refine (awake_any _).mono ?_; rintro e w1 ⟨rfl, F1⟩
  replace hone := hone.fr F1 id
  replace hF := hF.trans0 F1
  have hcell := hone.cell
  clear F1
  go_wp2_with fail
  refine (many_any a n c _ hm).mono ?_; rintro e w2 ⟨rfl, F2⟩
  rw [Hm.out]
  replace hone := hone.fr F2 id
  replace hF := hF.trans0 F2
  have hcell := hone.cell
  clear F2
  go_wp2_with fail
  refine (Path_any a n c P v _ (hr.fr0 hF) hc).mono ?_; rintro e w3 ⟨a3, m3, c3, rfl, O3, F3⟩
  rw [Hck.out] at O3 ⊢
  have R3 := O3.rd
  replace hone := hone.fr F3 id
  replace hF := hF.trans0 F3
  have hcell := hone.cell
  replace R3 := Lib.hid R3
  clear F3 O3
  go_wp2_with fail
  refine (Children_any a n c P v _ (hr.fr0 hF) hc).mono ?_; rintro e w4 ⟨a4, m4, c4, rfl, O4, F4⟩
  rw [Hck.out] at O4 ⊢
  have R4 := O4.rd
  replace hone := hone.fr F4 id
  replace hF := hF.trans0 F4
  have hcell := hone.cell
  replace R4 := Lib.hid R4
  replace R3 := Lib.hid (R3.out.fr0 F4)
  clear F4 O4
  go_wp2_with fail
  refine (Euler_any a n c P _ (hr.fr0 hF) hc).mono ?_; rintro e w5 ⟨a5, m5, c5, rfl, O5, F5⟩
  rw [Hvb.out] at O5 ⊢
  have R5 := O5.rd
  replace hone := hone.fr F5 id
  replace hF := Lib.hid (hF.trans0 F5)
  have hcell := hone.cell
  replace R5 := Lib.hid R5
  replace R4 := Lib.hid (R4.out.fr0 F5)
  replace R3 := Lib.hid (R3.out.fr0 F5)
  clear F5 O5
  have z3 : m3 = 0 := by have h := R3.out.len; simp at h; exact h.symm
  have z4 : m4 = 0 := by have h := R4.out.len; simp at h; exact h.symm
  subst z3 z4
  go_wp2_with fail
  have hr9 := Lib.hid ((hr.fr0 hF.out).fr0 (Fr.refl F0 _).drew)
  have G9 := Lib.hid ((Fr.refl F0 w5).drew)
  go_region_held3 (fun w' => w'.cell? ⟨w.heap.size, 0, none⟩ = some (.slice a n c)) (go_keep)
    (first
      | (go_at_call 14; refine (Valid_any a n c P _ hr9.out hc).mono ?_; rintro e w9 ⟨rfl, F9⟩; rw [Hvb.out]; have G9 := Lib.hid (G9.out.trans0 F9); have hr9 := Lib.hid (hr9.out.fr0 F9); have hcell9 := (hone.fr G9.out id).cell; clear F9)
      | (go_at_call 15; refine (refValid_any a n c P _ hr9.out).mono ?_; rintro e w9 ⟨rfl, F9⟩; rw [Hvb.out]; have G9 := Lib.hid (G9.out.trans0 F9); have hr9 := Lib.hid (hr9.out.fr0 F9); have hcell9 := (hone.fr G9.out id).cell; clear F9))
  all_goals
    replace hr := Lib.hid hr9
    replace hone := hone.fr G9.out id
    replace hF := Lib.hid (hF.out.trans0 G9.out)
    replace R3 := Lib.hid (R3.out.fr0 G9.out)
    replace R4 := Lib.hid (R4.out.fr0 G9.out)
    replace R5 := Lib.hid (R5.out.fr0 G9.out)
    clear hr9 G9
    go_wp2_with fail
    refine (refValid_any a n c P _ hr.out.out).mono ?_; rintro e w10 ⟨rfl, F10⟩
    rw [Hvb.out]
    replace hr := hr.out.out.fr0 F10
    replace hone := hone.fr F10 id
    replace hF := hF.out.trans0 F10
    replace R3 := R3.out.fr0 F10
    replace R4 := R4.out.fr0 F10
    replace R5 := R5.out.fr0 F10
    have hcell := hone.cell
    clear F10
    go_wp2_with fail
    refine (refEuler_any a n c P _ hr Hvb.out).mono ?_; rintro e w11 ⟨a6, m6, c6, rfl, O6, F6⟩
    replace hr := hr.fr0 F6
    replace hone := hone.fr F6 id
    replace hF := hF.trans0 F6
    replace R3 := R3.fr0 F6
    replace R4 := R4.fr0 F6
    replace R5 := R5.fr0 F6
    have hcell := hone.cell
    have R6 := O6.rd
    clear F6 O6
    simp only [if_true] at R5
    go_wp2_with fail
    refine (Equal_any _ _ _ _ _ _ _ _ _ R5 R6).mono ?_; rintro e w12 ⟨rfl, q, rfl⟩
    rw [show decide (nats (tour P 0) = nats (tour P 0)) = true by simp]
    have F12 : Fr F0 w11 (w11.drewN q) := (Fr.refl _ _).drewN q
    replace hr := hr.fr0 F12
    replace hone := hone.fr F12 id
    replace hF := hF.trans0 F12
    replace R3 := R3.fr0 F12
    replace R4 := R4.fr0 F12
    have hcell := hone.cell
    clear F12 R5 R6
    go_wp2_with fail
    refine (Is_any a n c v _).mono ?_; rintro e w13 ⟨rfl, F13⟩
    rw [His.out]
    replace hr := hr.fr0 F13
    replace hone := hone.fr F13 id
    replace hF := hF.trans0 F13
    replace R3 := R3.fr0 F13
    replace R4 := R4.fr0 F13
    have hcell := hone.cell
    clear F13
    replace hF := Lib.hid hF
    go_wp2_with fail
    go_ret
    exact ⟨rfl, hF.out⟩

set_option maxHeartbeats 2000000 in
theorem Forms_ok (a : Option Addr) (n c : Nat) (P : List Int) (v : Int) (w : World) (hr : Rd w a n (ints P)) (hc : n ≤ c) (hmany' : manyB n = false) (hvb : validB P = true) (hck : checkE P v = 0) (his : isB n v = true) (hv0 : 0 ≤ v) (hv1 : v < n) :
    Calls Try.prog 3 #[VA a n c, .int .i64 v] w fun e w' => e = .returned (.bool true) ∧ Fr F0 w w' := by
  have hpl : P.length = n := by simpa using hr.len
  have hm := hr.max
  have hF : Fr F0 w (boxW w a n c) := (Fr.refl _ _).alloc _
  have hone : One (boxW w a n c) w.heap.size 24 (.slice a n c) := One.new 24 _
  have Hpl := Lib.hid hpl
  clear hpl
  have Hm := Lib.hid hmany'
  have Hck := Lib.hid hck
  have Hvb := Lib.hid hvb
  have His := Lib.hid his
  clear his
  have hn1 : Hid (n ≤ 1000) := Lib.hid (by have := (valid_len hvb).2.1; have := Hpl.out; omega)
  clear hmany' hck hvb
  go_enter Try.func3, Try.ntmps3
  go_wp2_with fail
  refine (awake_any _).mono ?_; rintro e w1 ⟨rfl, F1⟩
  replace hone := hone.fr F1 id
  replace hF := hF.trans0 F1
  have hcell := hone.cell
  clear F1
  go_wp2_with fail
  refine (many_any a n c _ hm).mono ?_; rintro e w2 ⟨rfl, F2⟩
  rw [Hm.out]
  replace hone := hone.fr F2 id
  replace hF := hF.trans0 F2
  have hcell := hone.cell
  clear F2
  go_wp2_with fail
  refine (Path_any a n c P v _ (hr.fr0 hF) hc).mono ?_; rintro e w3 ⟨a3, m3, c3, rfl, O3, F3⟩
  rw [Hck.out] at O3 ⊢
  have R3 := O3.rd
  replace hone := hone.fr F3 id
  replace hF := hF.trans0 F3
  have hcell := hone.cell
  replace R3 := Lib.hid R3
  clear F3 O3
  go_wp2_with fail
  refine (Children_any a n c P v _ (hr.fr0 hF) hc).mono ?_; rintro e w4 ⟨a4, m4, c4, rfl, O4, F4⟩
  rw [Hck.out] at O4 ⊢
  have R4 := O4.rd
  replace hone := hone.fr F4 id
  replace hF := hF.trans0 F4
  have hcell := hone.cell
  replace R4 := Lib.hid R4
  replace R3 := Lib.hid (R3.out.fr0 F4)
  clear F4 O4
  go_wp2_with fail
  refine (Euler_any a n c P _ (hr.fr0 hF) hc).mono ?_; rintro e w5 ⟨a5, m5, c5, rfl, O5, F5⟩
  rw [Hvb.out] at O5 ⊢
  have R5 := O5.rd
  replace hone := hone.fr F5 id
  replace hF := Lib.hid (hF.trans0 F5)
  have hcell := hone.cell
  replace R5 := Lib.hid R5
  replace R4 := Lib.hid (R4.out.fr0 F5)
  replace R3 := Lib.hid (R3.out.fr0 F5)
  clear F5 O5
  go_wp2_with fail
  have hr9 := Lib.hid ((hr.fr0 hF.out).fr0 (Fr.refl F0 _).drew)
  have G9 := Lib.hid ((Fr.refl F0 w5).drew)
  go_region_held3 (fun w' => w'.cell? ⟨w.heap.size, 0, none⟩ = some (.slice a n c)) (go_keep)
    (first
      | (go_at_call 14; refine (Valid_any a n c P _ hr9.out hc).mono ?_; rintro e w9 ⟨rfl, F9⟩; rw [Hvb.out]; have G9 := Lib.hid (G9.out.trans0 F9); have hr9 := Lib.hid (hr9.out.fr0 F9); have hcell9 := (hone.fr G9.out id).cell; clear F9)
      | (go_at_call 15; refine (refValid_any a n c P _ hr9.out).mono ?_; rintro e w9 ⟨rfl, F9⟩; rw [Hvb.out]; have G9 := Lib.hid (G9.out.trans0 F9); have hr9 := Lib.hid (hr9.out.fr0 F9); have hcell9 := (hone.fr G9.out id).cell; clear F9))
  all_goals
    replace hr := Lib.hid hr9
    replace hone := hone.fr G9.out id
    replace hF := Lib.hid (hF.out.trans0 G9.out)
    replace R3 := Lib.hid (R3.out.fr0 G9.out)
    replace R4 := Lib.hid (R4.out.fr0 G9.out)
    replace R5 := Lib.hid (R5.out.fr0 G9.out)
    clear hr9 G9
    go_wp2_with fail
    refine (refValid_any a n c P _ hr.out.out).mono ?_; rintro e w10 ⟨rfl, F10⟩
    rw [Hvb.out]
    replace hr := hr.out.out.fr0 F10
    replace hone := hone.fr F10 id
    replace hF := hF.out.trans0 F10
    replace R3 := R3.out.fr0 F10
    replace R4 := R4.out.fr0 F10
    replace R5 := R5.out.fr0 F10
    have hcell := hone.cell
    clear F10
    go_wp2_with fail
    refine (refEuler_any a n c P _ hr Hvb.out).mono ?_; rintro e w11 ⟨a6, m6, c6, rfl, O6, F6⟩
    replace hr := hr.fr0 F6
    replace hone := hone.fr F6 id
    replace hF := hF.trans0 F6
    replace R3 := R3.fr0 F6
    replace R4 := R4.fr0 F6
    replace R5 := R5.fr0 F6
    have hcell := hone.cell
    have R6 := O6.rd
    clear F6 O6
    simp only [if_true] at R5
    go_wp2_with fail
    refine (Equal_any _ _ _ _ _ _ _ _ _ R5 R6).mono ?_; rintro e w12 ⟨rfl, q, rfl⟩
    rw [show decide (nats (tour P 0) = nats (tour P 0)) = true by simp]
    have F12 : Fr F0 w11 (w11.drewN q) := (Fr.refl _ _).drewN q
    replace hr := hr.fr0 F12
    replace hone := hone.fr F12 id
    replace hF := hF.trans0 F12
    replace R3 := R3.fr0 F12
    replace R4 := R4.fr0 F12
    have hcell := hone.cell
    clear F12 R5 R6
    go_wp2_with fail
    refine (Is_any a n c v _).mono ?_; rintro e w13 ⟨rfl, F13⟩
    rw [His.out]
    replace hr := hr.fr0 F13
    replace hone := hone.fr F13 id
    replace hF := hF.trans0 F13
    replace R3 := R3.fr0 F13
    replace R4 := R4.fr0 F13
    have hcell := hone.cell
    clear F13
    go_wp2_with fail
    refine (refPath_any a n c P v _ hr Hvb.out hv0 hv1).mono ?_; rintro e w14 ⟨a7, m7, c7, rfl, O7, F7⟩
    replace hr := hr.fr0 F7
    replace hone := hone.fr F7 id
    replace hF := hF.trans0 F7
    replace R3 := R3.fr0 F7
    replace R4 := R4.fr0 F7
    have hcell := hone.cell
    have R7 := O7.rd
    clear F7 O7
    simp only [if_true] at R3 R4
    go_wp2_with fail
    refine (Equal_any _ _ _ _ _ _ _ _ _ R3 R7).mono ?_; rintro e w15 ⟨rfl, q, rfl⟩
    rw [show decide ((chain P v).reverse = (chain P v).reverse) = true by simp]
    have F12 : Fr F0 w14 (w14.drewN q) := (Fr.refl _ _).drewN q
    replace hr := hr.fr0 F12
    replace hone := hone.fr F12 id
    replace hF := hF.trans0 F12
    replace R4 := R4.fr0 F12
    have hcell := hone.cell
    clear F12 R3 R7
    go_wp2_with fail
    refine (refChildren_any a n c P v _ hr hn1.out).mono ?_; rintro e w16 ⟨a8, m8, c8, rfl, O8, F8⟩
    replace hF := hF.trans0 F8
    replace R4 := R4.fr0 F8
    have R8 := O8.rd
    clear F8 O8 hr hone
    go_wp2_with fail
    refine (Equal_any _ _ _ _ _ _ _ _ _ R4 R8).mono ?_; rintro e w17 ⟨rfl, q, rfl⟩
    rw [show decide (kids P v n = kids P v n) = true by simp]
    replace hF := Lib.hid (hF.drewN q)
    clear R4 R8
    go_wp2_with fail
    go_ret
    exact ⟨rfl, hF.out⟩

set_option maxHeartbeats 2000000 in
theorem Forms_many (a : Option Addr) (n c : Nat) (P : List Int) (v : Int) (w : World) (hr : Rd w a n (ints P)) (hmany : manyB n = true) :
    Calls Try.prog 3 #[VA a n c, .int .i64 v] w fun e w' => e = .returned (.bool true) ∧ Fr F0 w w' := by
  have hm := hr.max
  have hF : Fr F0 w (boxW w a n c) := (Fr.refl _ _).alloc _
  have hone : One (boxW w a n c) w.heap.size 24 (.slice a n c) := One.new 24 _
  have Hm := Lib.hid hmany
  clear hmany
  go_enter Try.func3, Try.ntmps3
  go_wp2_with fail
  refine (awake_any _).mono ?_; rintro e w1 ⟨rfl, F1⟩
  replace hone := hone.fr F1 id
  replace hF := hF.trans0 F1
  have hcell := hone.cell
  clear F1
  go_wp2_with fail
  refine (many_any a n c _ hm).mono ?_; rintro e w2 ⟨rfl, F2⟩
  rw [Hm.out]
  replace hF := Lib.hid (hF.trans0 F2)
  clear F2
  go_wp2_with fail
  go_ret
  exact ⟨rfl, hF.out⟩

theorem Forms_any (a : Option Addr) (n c : Nat) (P : List Int) (v : Int) (w : World) (hr : Rd w a n (ints P)) (hc : n ≤ c) :
    Calls Try.prog 3 #[VA a n c, .int .i64 v] w fun e w' => e = .returned (.bool true) ∧ Fr F0 w w' := by
  have hpl : P.length = n := by simpa using hr.len
  by_cases hmany : manyB n = true
  · exact Forms_many a n c P v w hr hmany
  · have hmany' : manyB n = false := by simpa using hmany
    by_cases hvb : validB P = true
    · by_cases his : isB n v = true
      · have h2 : 0 ≤ v ∧ v < n := by simpa [isB] using his
        exact Forms_ok a n c P v w hr hc hmany' hvb (by unfold checkE; rw [if_neg (by simp [hvb]), if_neg (by simp [hpl, his])]) his h2.1 h2.2
      · have his' : isB n v = false := by simpa using his
        exact Forms_out a n c P v w hr hc hmany' hvb (by unfold checkE; rw [if_neg (by simp [hvb]), if_pos (by simp [hpl, his'])]) his'
    · have hvb' : validB P = false := by simpa using hvb
      exact Forms_bad a n c P v w hr hc hmany' hvb' (by unfold checkE; rw [if_pos hvb'])

/-- .. as the law's argument comes. -/
theorem LForms_any (a : Option Addr) (n c : Nat) (P : List Int) (v : Int) (w : World) (h : ArgSl w a n c P) :
    Calls Try.prog 3 #[VA a n c, .int .i64 v] w fun e w' => e = .returned (.bool true) ∧ Fr F0 w w' := Forms_any a n c P v w h.rd h.cap

end Go.Proofs.Ytpmaoaogkjehcaa
