/- VersiontreeIndex: the walk. -/
import Derived.Test.YtpmaoaogkjehcaaX9
import Derived.Test.YtpmaoaogkjehcaaX5
import Derived.Test.YtpmaoaogkjehcaaAgg1
namespace Go.Proofs.Ytpmaoaogkjehcaa
open Go.RowKit
attribute [local go_sem ↓] Go.wp_at_zero Go.wp_at_succ

theorem Ind_skip (la : Option Addr) (ln lc : Nat) (a b : Int) (w : World) (hln : ln ≤ 9223372036854775807) (h : 60 < ln) :
    Calls Try.prog 5 #[.slice la ln lc, .int .i64 a, .int .i64 b] w fun e w' => e = .returned (.bool true) ∧ Fr F0 w w' := by
  have d1 : decide ((60 : Int) < (ln : Int)) = true := by simp; omega
  replace h := Lib.hid h
  go_enter Try.func5, Try.ntmps5
  go_wp2_with fail
  refine (awake_any _).mono ?_; rintro e w1 ⟨rfl, F1⟩
  go_wp2_with fail
  go_ret
  exact ⟨rfl, F1⟩
theorem fld24 (w : World) (a : Option Addr) (n c : Nat) : (Instr.field 24 (VA a n c) 0).run Try.prog w = .ok (.slice a n c) w := by kernel_rfl
theorem chain_len {P : List Int} {k : Nat} (hv : validB P = true) (hk : k < P.length) : (chain P k).length = dep P k + 1 := by
  have := chN_len hv hk
  unfold chN at this
  simpa using this

set_option maxRecDepth 100000 in
set_option maxHeartbeats 2000000 in
theorem Ind_out (la : Option Addr) (ln lc : Nat) (l : List Int) (a b : Int) (w : World) (hl : Rd w la ln (ints l)) (h1 : ln ≤ 60) (P : List Int) (hP : growP l = P) (ha : ¬ inB P a) :
    Calls Try.prog 5 #[.slice la ln lc, .int .i64 a, .int .i64 b] w fun e w' => e = .returned (.bool true) ∧ Fr F0 w w' := by
  have d1 : decide ((60 : Int) < (ln : Int)) = false := by simp; omega
  have h1h := Lib.hid h1
  have hv := Lib.hid (show validB P = true by rw [← hP]; exact growP_valid l)
  have HP := Lib.hid hP
  have ED : Hid (depE P a = (0, 24)) := Lib.hid (by unfold depE; exact if_neg ha)
  have EA : Hid (ancE P a b = (false, 24)) := Lib.hid (by unfold ancE; rw [if_neg (fun h => ha h.1)])
  have EC : Hid (comE P a b = (0, 24)) := Lib.hid (by unfold comE; rw [if_neg (fun h => ha h.1)])
  have EI : Hid (decide (inB P a) = false) := Lib.hid (by simpa using ha)
  clear ha
  clear h1 hP
  go_enter Try.func5, Try.ntmps5
  go_wp2_with fail
  refine (awake_any _).mono ?_; rintro e w1 ⟨rfl, F1⟩
  go_wp2_with fail
  refine (grown_any la ln lc l _ (hl.fr0 F1) h1h.out).mono ?_; rintro e w2 ⟨x, sa, c, va, n, c', rfl, HX, Rv, hc', hap, F2⟩
  rw [HP.out] at HX Rv
  have hpl : P.length = n := by simpa using Rv.len
  have hn1 : n ≤ 1000 := by have := (valid_len hv.out).2.1; omega
  have F := F1.trans0 F2
  have k8 : One (w2.alloc (.cells #[.slice va n c'] 24)) w2.heap.size 24 (.slice va n c') := One.new _ _
  have FA : Fr F0 w2 (w2.alloc (.cells #[.slice va n c'] 24)) := (Fr.refl _ _).alloc _
  replace HX := HX.fr0 FA
  replace Rv := Rv.fr0 FA
  replace F := Lib.hid (F.trans0 FA)
  obtain ⟨b8, hb8⟩ : ∃ b8, b8 = w2.heap.size := ⟨_, rfl⟩
  rw [← hb8] at k8
  have kc := k8.cell
  clear F1 F2 hap FA
  go_wp2_with fail
  simp only [← hb8]
  generalize hW : w2.alloc (.cells #[.slice va n c'] 24) = W at *
  clear hW hb8
  have Hpl := Lib.hid hpl
  have HXd := Lib.hid (HX.fr0 (Fr.refl F0 W).drew)
  have Rvd := Lib.hid (Rv.fr0 (Fr.refl F0 W).drew)
  have kd := Lib.hid (show One W.drew b8 24 (.slice va n c') from k8)
  have b0 : ((P.length : Int) != (n : Int)) = false := by rw [hpl]; simp
  have hfld := fld24
  clear hpl
  go_region_held3 (fun w' => w'.cell? ⟨b8, 0, none⟩ = some (.slice va n c')) (go_keep)
    (first
      | (go_at_call 22; refine (Len_any _ _ x sa c P HXd.out).mono ?_; rintro e w9 ⟨rfl, rfl⟩; rw [Hpl.out])
      | (go_at_call 27; refine (Tree_any _ _ x sa c P HXd.out (by rw [Hpl.out]; exact hn1)).mono ?_; rintro e w9 ⟨ta, tc, rfl, tO, F9⟩; rw [Hpl.out] at tO; rw [Hpl.out]; have tR := Lib.hid tO.rd; have Rv9 := Lib.hid (Rvd.out.fr0 F9); have kc9 := (kd.out.fr F9 id).cell; have F9h := Lib.hid F9; clear tO F9)
      | (go_at_call 16; refine (Equal_any _ _ _ _ _ _ _ _ _ tR.out Rv9.out).mono ?_; rintro e w10 ⟨rfl, q, rfl⟩; rw [show decide (P = P) = true by simp]))
  have G9 : Fr F0 W (w9.drewN q) := ((Fr.refl F0 W).drew.trans0 F9h.out).drewN q
  replace HX := HX.fr0 G9
  replace Rv := Rv.fr0 G9
  replace k8 := k8.fr G9 id
  replace F := F.out.trans0 G9
  have kc := k8.cell
  clear G9 kc9 HXd Rvd kd hfld
  generalize w9.drewN q = W9 at *
  go_wp2_with fail
  refine (Depth_any _ _ x sa c P HX a).mono ?_; rintro e w3 ⟨rfl, F3⟩
  rw [ED.out]
  replace HX := HX.fr0 F3
  replace Rv := Rv.fr0 F3
  replace k8 := k8.fr F3 id
  replace F := F.trans0 F3
  clear F3
  go_wp2_with fail
  refine (Ancestor_any _ _ x sa c P HX hv.out a b).mono ?_; rintro e w4 ⟨rfl, F3⟩
  rw [EA.out]
  replace HX := HX.fr0 F3
  replace Rv := Rv.fr0 F3
  replace k8 := k8.fr F3 id
  replace F := F.trans0 F3
  clear F3
  go_wp2_with fail
  refine (Common_any _ _ x sa c P HX hv.out a b).mono ?_; rintro e w5 ⟨rfl, F3⟩
  rw [EC.out]
  replace Rv := Rv.fr0 F3
  replace k8 := k8.fr F3 id
  replace F := F.trans0 F3
  have kc := k8.cell
  clear F3 HX
  go_wp2_with fail
  refine (Is_any va n c' a _).mono ?_; rintro e w6 ⟨rfl, F3⟩
  rw [isB_in Hpl.out, EI.out]
  replace Rv := Rv.fr0 F3
  replace k8 := k8.fr F3 id
  replace F := F.trans0 F3
  have kc := k8.cell
  clear F3
  replace F := Lib.hid F
  go_wp2_with fail
  go_ret
  exact ⟨rfl, F.out⟩

set_option maxRecDepth 100000 in
set_option maxHeartbeats 2000000 in
theorem Ind_half (la : Option Addr) (ln lc : Nat) (l : List Int) (a b : Int) (w : World) (hl : Rd w la ln (ints l)) (h1 : ln ≤ 60) (P : List Int) (hP : growP l = P) (ha : inB P a) (hb : ¬ inB P b) :
    Calls Try.prog 5 #[.slice la ln lc, .int .i64 a, .int .i64 b] w fun e w' => e = .returned (.bool true) ∧ Fr F0 w w' := by
  have d1 : decide ((60 : Int) < (ln : Int)) = false := by simp; omega
  have h1h := Lib.hid h1
  have hv := Lib.hid (show validB P = true by rw [← hP]; exact growP_valid l)
  have HP := Lib.hid hP
  have ED : Hid (depE P a = ((dep P a.toNat : Int), 0)) := Lib.hid (by unfold depE; exact if_pos ha)
  have EA : Hid (ancE P a b = (false, 24)) := Lib.hid (by unfold ancE; rw [if_neg (fun h => hb h.2)])
  have EC : Hid (comE P a b = (0, 24)) := Lib.hid (by unfold comE; rw [if_neg (fun h => hb h.2)])
  have EI : Hid (decide (inB P a) = true) := Lib.hid (by simpa using ha)
  have EJ : Hid (decide (inB P b) = false) := Lib.hid (by simpa using hb)
  obtain ⟨ha0, ha1⟩ := ha
  clear hb
  clear h1 hP
  go_enter Try.func5, Try.ntmps5
  go_wp2_with fail
  refine (awake_any _).mono ?_; rintro e w1 ⟨rfl, F1⟩
  go_wp2_with fail
  refine (grown_any la ln lc l _ (hl.fr0 F1) h1h.out).mono ?_; rintro e w2 ⟨x, sa, c, va, n, c', rfl, HX, Rv, hc', hap, F2⟩
  rw [HP.out] at HX Rv
  have hpl : P.length = n := by simpa using Rv.len
  have hn1 : n ≤ 1000 := by have := (valid_len hv.out).2.1; omega
  have F := F1.trans0 F2
  have k8 : One (w2.alloc (.cells #[.slice va n c'] 24)) w2.heap.size 24 (.slice va n c') := One.new _ _
  have FA : Fr F0 w2 (w2.alloc (.cells #[.slice va n c'] 24)) := (Fr.refl _ _).alloc _
  replace HX := HX.fr0 FA
  replace Rv := Rv.fr0 FA
  replace F := Lib.hid (F.trans0 FA)
  obtain ⟨b8, hb8⟩ : ∃ b8, b8 = w2.heap.size := ⟨_, rfl⟩
  rw [← hb8] at k8
  have kc := k8.cell
  clear F1 F2 hap FA
  go_wp2_with fail
  simp only [← hb8]
  generalize hW : w2.alloc (.cells #[.slice va n c'] 24) = W at *
  clear hW hb8
  have Hpl := Lib.hid hpl
  have HXd := Lib.hid (HX.fr0 (Fr.refl F0 W).drew)
  have Rvd := Lib.hid (Rv.fr0 (Fr.refl F0 W).drew)
  have kd := Lib.hid (show One W.drew b8 24 (.slice va n c') from k8)
  have b0 : ((P.length : Int) != (n : Int)) = false := by rw [hpl]; simp
  have hfld := fld24
  clear hpl
  go_region_held3 (fun w' => w'.cell? ⟨b8, 0, none⟩ = some (.slice va n c')) (go_keep)
    (first
      | (go_at_call 22; refine (Len_any _ _ x sa c P HXd.out).mono ?_; rintro e w9 ⟨rfl, rfl⟩; rw [Hpl.out])
      | (go_at_call 27; refine (Tree_any _ _ x sa c P HXd.out (by rw [Hpl.out]; exact hn1)).mono ?_; rintro e w9 ⟨ta, tc, rfl, tO, F9⟩; rw [Hpl.out] at tO; rw [Hpl.out]; have tR := Lib.hid tO.rd; have Rv9 := Lib.hid (Rvd.out.fr0 F9); have kc9 := (kd.out.fr F9 id).cell; have F9h := Lib.hid F9; clear tO F9)
      | (go_at_call 16; refine (Equal_any _ _ _ _ _ _ _ _ _ tR.out Rv9.out).mono ?_; rintro e w10 ⟨rfl, q, rfl⟩; rw [show decide (P = P) = true by simp]))
  have G9 : Fr F0 W (w9.drewN q) := ((Fr.refl F0 W).drew.trans0 F9h.out).drewN q
  replace HX := HX.fr0 G9
  replace Rv := Rv.fr0 G9
  replace k8 := k8.fr G9 id
  replace F := F.out.trans0 G9
  have kc := k8.cell
  clear G9 kc9 HXd Rvd kd hfld
  generalize w9.drewN q = W9 at *
  go_wp2_with fail
  refine (Depth_any _ _ x sa c P HX a).mono ?_; rintro e w3 ⟨rfl, F3⟩
  rw [ED.out]
  replace HX := HX.fr0 F3
  replace Rv := Rv.fr0 F3
  replace k8 := k8.fr F3 id
  replace F := F.trans0 F3
  clear F3
  go_wp2_with fail
  refine (Ancestor_any _ _ x sa c P HX hv.out a b).mono ?_; rintro e w4 ⟨rfl, F3⟩
  rw [EA.out]
  replace HX := HX.fr0 F3
  replace Rv := Rv.fr0 F3
  replace k8 := k8.fr F3 id
  replace F := F.trans0 F3
  clear F3
  go_wp2_with fail
  refine (Common_any _ _ x sa c P HX hv.out a b).mono ?_; rintro e w5 ⟨rfl, F3⟩
  rw [EC.out]
  replace Rv := Rv.fr0 F3
  replace k8 := k8.fr F3 id
  replace F := F.trans0 F3
  have kc := k8.cell
  clear F3 HX
  go_wp2_with fail
  refine (Is_any va n c' a _).mono ?_; rintro e w6 ⟨rfl, F3⟩
  rw [isB_in Hpl.out, EI.out]
  replace Rv := Rv.fr0 F3
  replace k8 := k8.fr F3 id
  replace F := F.trans0 F3
  have kc := k8.cell
  clear F3
  go_wp2_with fail
  refine (refPath_any va n c' P a _ Rv hv.out ha0 (by have := Hpl.out; omega)).mono ?_; rintro e w7 ⟨pa, pm, pc, rfl, pO, F3⟩
  have hpm : pm = dep P a.toNat + 1 := by
    have h := pO.lens
    rw [List.length_reverse] at h
    rw [← h]
    have e := chain_len hv.out (k := a.toNat) (by have := Hpl.out; omega)
    rw [Int.toNat_of_nonneg ha0] at e
    exact e
  have bd : ((dep P a.toNat : Int) != (pm : Int) - 1) = false := by simp; omega
  have bp : pm ≤ 1000 := by have h1 := dep_le hv.out a.toNat (by have := Hpl.out; omega); have h2 := Hpl.out; omega
  replace Rv := Rv.fr0 F3
  replace k8 := k8.fr F3 id
  replace F := F.trans0 F3
  have kc := k8.cell
  clear F3 pO hpm
  go_wp2_with fail
  refine (Is_any va n c' b _).mono ?_; rintro e w8 ⟨rfl, F3⟩
  rw [isB_in Hpl.out, EJ.out]
  replace Rv := Rv.fr0 F3
  replace k8 := k8.fr F3 id
  replace F := F.trans0 F3
  have kc := k8.cell
  clear F3
  replace F := Lib.hid F
  go_wp2_with fail
  go_ret
  exact ⟨rfl, F.out⟩

set_option maxRecDepth 100000 in
set_option maxHeartbeats 2000000 in
theorem Ind_both (la : Option Addr) (ln lc : Nat) (l : List Int) (a b : Int) (w : World) (hl : Rd w la ln (ints l)) (h1 : ln ≤ 60) (P : List Int) (hP : growP l = P) (ha : inB P a) (hb : inB P b) :
    Calls Try.prog 5 #[.slice la ln lc, .int .i64 a, .int .i64 b] w fun e w' => e = .returned (.bool true) ∧ Fr F0 w w' := by
  have d1 : decide ((60 : Int) < (ln : Int)) = false := by simp; omega
  have h1h := Lib.hid h1
  have hv := Lib.hid (show validB P = true by rw [← hP]; exact growP_valid l)
  have HP := Lib.hid hP
  have ED : Hid (depE P a = ((dep P a.toNat : Int), 0)) := Lib.hid (by unfold depE; exact if_pos ha)
  have EA : Hid (ancE P a b = (decide (a.toNat ∈ chN P b.toNat), 0)) := Lib.hid (by unfold ancE; rw [if_pos ⟨ha, hb⟩])
  have EC : Hid (comE P a b = ((comV P a.toNat b.toNat : Int), 0)) := Lib.hid (by unfold comE; rw [if_pos ⟨ha, hb⟩])
  have EI : Hid (decide (inB P a) = true) := Lib.hid (by simpa using ha)
  have EJ : Hid (decide (inB P b) = true) := Lib.hid (by simpa using hb)
  obtain ⟨ha0, ha1⟩ := ha
  obtain ⟨hb0, hb1⟩ := hb
  clear h1 hP
  go_enter Try.func5, Try.ntmps5
  go_wp2_with fail
  refine (awake_any _).mono ?_; rintro e w1 ⟨rfl, F1⟩
  go_wp2_with fail
  refine (grown_any la ln lc l _ (hl.fr0 F1) h1h.out).mono ?_; rintro e w2 ⟨x, sa, c, va, n, c', rfl, HX, Rv, hc', hap, F2⟩
  rw [HP.out] at HX Rv
  have hpl : P.length = n := by simpa using Rv.len
  have hn1 : n ≤ 1000 := by have := (valid_len hv.out).2.1; omega
  have F := F1.trans0 F2
  have k8 : One (w2.alloc (.cells #[.slice va n c'] 24)) w2.heap.size 24 (.slice va n c') := One.new _ _
  have FA : Fr F0 w2 (w2.alloc (.cells #[.slice va n c'] 24)) := (Fr.refl _ _).alloc _
  replace HX := HX.fr0 FA
  replace Rv := Rv.fr0 FA
  replace F := Lib.hid (F.trans0 FA)
  obtain ⟨b8, hb8⟩ : ∃ b8, b8 = w2.heap.size := ⟨_, rfl⟩
  rw [← hb8] at k8
  have kc := k8.cell
  clear F1 F2 hap FA
  go_wp2_with fail
  simp only [← hb8]
  generalize hW : w2.alloc (.cells #[.slice va n c'] 24) = W at *
  clear hW hb8
  have Hpl := Lib.hid hpl
  have HXd := Lib.hid (HX.fr0 (Fr.refl F0 W).drew)
  have Rvd := Lib.hid (Rv.fr0 (Fr.refl F0 W).drew)
  have kd := Lib.hid (show One W.drew b8 24 (.slice va n c') from k8)
  have b0 : ((P.length : Int) != (n : Int)) = false := by rw [hpl]; simp
  have hfld := fld24
  clear hpl
  go_region_held3 (fun w' => w'.cell? ⟨b8, 0, none⟩ = some (.slice va n c')) (go_keep)
    (first
      | (go_at_call 22; refine (Len_any _ _ x sa c P HXd.out).mono ?_; rintro e w9 ⟨rfl, rfl⟩; rw [Hpl.out])
      | (go_at_call 27; refine (Tree_any _ _ x sa c P HXd.out (by rw [Hpl.out]; exact hn1)).mono ?_; rintro e w9 ⟨ta, tc, rfl, tO, F9⟩; rw [Hpl.out] at tO; rw [Hpl.out]; have tR := Lib.hid tO.rd; have Rv9 := Lib.hid (Rvd.out.fr0 F9); have kc9 := (kd.out.fr F9 id).cell; have F9h := Lib.hid F9; clear tO F9)
      | (go_at_call 16; refine (Equal_any _ _ _ _ _ _ _ _ _ tR.out Rv9.out).mono ?_; rintro e w10 ⟨rfl, q, rfl⟩; rw [show decide (P = P) = true by simp]))
  have G9 : Fr F0 W (w9.drewN q) := ((Fr.refl F0 W).drew.trans0 F9h.out).drewN q
  replace HX := HX.fr0 G9
  replace Rv := Rv.fr0 G9
  replace k8 := k8.fr G9 id
  replace F := F.out.trans0 G9
  have kc := k8.cell
  clear G9 kc9 HXd Rvd kd hfld
  generalize w9.drewN q = W9 at *
  go_wp2_with fail
  refine (Depth_any _ _ x sa c P HX a).mono ?_; rintro e w3 ⟨rfl, F3⟩
  rw [ED.out]
  replace HX := HX.fr0 F3
  replace Rv := Rv.fr0 F3
  replace k8 := k8.fr F3 id
  replace F := F.trans0 F3
  clear F3
  go_wp2_with fail
  refine (Ancestor_any _ _ x sa c P HX hv.out a b).mono ?_; rintro e w4 ⟨rfl, F3⟩
  rw [EA.out]
  replace HX := HX.fr0 F3
  replace Rv := Rv.fr0 F3
  replace k8 := k8.fr F3 id
  replace F := F.trans0 F3
  clear F3
  go_wp2_with fail
  refine (Common_any _ _ x sa c P HX hv.out a b).mono ?_; rintro e w5 ⟨rfl, F3⟩
  rw [EC.out]
  replace Rv := Rv.fr0 F3
  replace k8 := k8.fr F3 id
  replace F := F.trans0 F3
  have kc := k8.cell
  clear F3 HX
  go_wp2_with fail
  refine (Is_any va n c' a _).mono ?_; rintro e w6 ⟨rfl, F3⟩
  rw [isB_in Hpl.out, EI.out]
  replace Rv := Rv.fr0 F3
  replace k8 := k8.fr F3 id
  replace F := F.trans0 F3
  have kc := k8.cell
  clear F3
  go_wp2_with fail
  refine (refPath_any va n c' P a _ Rv hv.out ha0 (by have := Hpl.out; omega)).mono ?_; rintro e w7 ⟨pa, pm, pc, rfl, pO, F3⟩
  have hpm : pm = dep P a.toNat + 1 := by
    have h := pO.lens
    rw [List.length_reverse] at h
    rw [← h]
    have e := chain_len hv.out (k := a.toNat) (by have := Hpl.out; omega)
    rw [Int.toNat_of_nonneg ha0] at e
    exact e
  have bd : ((dep P a.toNat : Int) != (pm : Int) - 1) = false := by simp; omega
  have bp : pm ≤ 1000 := by have h1 := dep_le hv.out a.toNat (by have := Hpl.out; omega); have h2 := Hpl.out; omega
  replace Rv := Rv.fr0 F3
  replace k8 := k8.fr F3 id
  replace F := F.trans0 F3
  have kc := k8.cell
  clear F3 pO hpm
  go_wp2_with fail
  refine (Is_any va n c' b _).mono ?_; rintro e w8 ⟨rfl, F3⟩
  rw [isB_in Hpl.out, EJ.out]
  replace Rv := Rv.fr0 F3
  replace k8 := k8.fr F3 id
  replace F := F.trans0 F3
  have kc := k8.cell
  clear F3
  obtain ⟨i, rfl⟩ := Int.eq_ofNat_of_zero_le ha0
  obtain ⟨j, rfl⟩ := Int.eq_ofNat_of_zero_le hb0
  have hi : i < P.length := by omega
  have hj : j < P.length := by omega
  have hia : Hid (decide ((i : Int) ∈ chain P j) = decide ((i : Int).toNat ∈ chN P (j : Int).toNat)) := Lib.hid (by
    rw [Bool.eq_iff_iff, decide_eq_true_eq, decide_eq_true_eq]
    exact mem_chain hv.out hj)
  obtain ⟨bl, hbl⟩ : ∃ bl, bl = decide ((i : Int).toNat ∈ chN P (j : Int).toNat) := ⟨_, rfl⟩
  rw [← hbl] at hia ⊢
  replace hbl := Lib.hid hbl
  have bb : (bl == bl) = true := by simp
  have b3 : ((comV P i j : Int) == (comV P i j : Int)) = true := by simp
  go_wp2_with fail
  refine (refAncestor_any va n c' P _ Rv hv.out i j hj).mono ?_; rintro e w10 ⟨rfl, F3⟩
  rw [hia.out]
  replace Rv := Rv.fr0 F3
  replace k8 := k8.fr F3 id
  replace F := F.trans0 F3
  have kc := k8.cell
  clear F3
  go_wp2_with fail
  refine (refCommon_any va n c' P _ Rv hv.out i j hi hj).mono ?_; rintro e w11 ⟨rfl, F3⟩
  replace F := Lib.hid (F.trans0 F3)
  clear F3
  go_wp2_with fail
  go_ret
  exact ⟨rfl, F.out⟩

theorem LInd_any (la : Option Addr) (ln lc : Nat) (l : List Int) (a b : Int) (w : World) (hl : ArgSl w la ln lc l) :
    Calls Try.prog 5 #[.slice la ln lc, .int .i64 a, .int .i64 b] w fun e w' => e = .returned (.bool true) ∧ Fr F0 w w' := by
  by_cases h1 : 60 < ln
  · exact Ind_skip la ln lc a b w hl.rd.max h1
  · by_cases ha : inB (growP l) a
    · by_cases hb : inB (growP l) b
      · exact Ind_both la ln lc l a b w hl.rd (by omega) _ rfl ha hb
      · exact Ind_half la ln lc l a b w hl.rd (by omega) _ rfl ha hb
    · exact Ind_out la ln lc l a b w hl.rd (by omega) _ rfl ha

end Go.Proofs.Ytpmaoaogkjehcaa
