/- The examples of the chapter. -/
import Derived.Test.YtpmaoaogkjehcaaX8
import Derived.Test.YtpmaoaogkjehcaaV7
namespace Go.Proofs.Ytpmaoaogkjehcaa
open Go.RowKit

abbrev exT : List Int := [-1, 0, 0, 1, 1]
theorem exT_valid : validB exT = true := by decide +kernel
theorem exT_check : checkE exT 4 = 0 := by decide +kernel
theorem exT_path : (chain exT 4).reverse = [0, 1, 4] := by decide +kernel
theorem exT_tour : nats (tour exT 0) = [0, 1, 3, 3, 4, 4, 1, 2, 2, 0] := by decide +kernel
theorem exT_step : ∀ k, k < 4 → branP (exT.take (k + 1)) (exT.getD (k + 1) 0) = exT.take (k + 2) ∧ branE (exT.take (k + 1)) (exT.getD (k + 1) 0) = ((k : Int) + 1, 0) := by
  intro k hk
  match k, hk with
  | 0, _ => exact ⟨by decide +kernel, by decide +kernel⟩
  | 1, _ => exact ⟨by decide +kernel, by decide +kernel⟩
  | 2, _ => exact ⟨by decide +kernel, by decide +kernel⟩
  | 3, _ => exact ⟨by decide +kernel, by decide +kernel⟩
theorem exT_prefix : ∀ k, k ≤ 4 → validB (exT.take (k + 1)) = true := by
  intro k hk
  match k, hk with
  | 0, _ => decide +kernel
  | 1, _ => decide +kernel
  | 2, _ => decide +kernel
  | 3, _ => decide +kernel
  | 4, _ => decide +kernel
theorem exT_com : comE exT 3 4 = (1, 0) := by decide +kernel

set_option maxHeartbeats 2000000 in
theorem awake_any (w : World) : Calls Try.prog 9 #[] w fun e w' => e = .returned (.bool true) ∧ Fr F0 w w' := by
  have hO : Own (w.alloc (.cells #[.int .i64 (-1), .int .i64 0, .int .i64 0, .int .i64 1, .int .i64 1] 3)) w.heap.size 3 (some ⟨w.heap.size, 0, none⟩) 5 5 (ints exT) := by
    simpa using Own.lit (w := w) (B := w.heap.size) (T := 3) (ints exT) 5 rfl (by simp) (by omega)
  have hr0 := hO.rd
  have hF0 : Fr F0 w ((w.alloc (.cells #[.int .i64 (-1), .int .i64 0, .int .i64 0, .int .i64 1, .int .i64 1] 3)).alloc (.cells #[.slice (some ⟨w.heap.size, 0, none⟩) 5 5] 24)) := ((Fr.refl _ _).alloc _).alloc _
  have hr := hr0.fr0 (w' := (w.alloc (.cells #[.int .i64 (-1), .int .i64 0, .int .i64 0, .int .i64 1, .int .i64 1] 3)).alloc (.cells #[.slice (some ⟨w.heap.size, 0, none⟩) 5 5] 24)) ((Fr.refl _ _).alloc _)
  have hv : One ((w.alloc (.cells #[.int .i64 (-1), .int .i64 0, .int .i64 0, .int .i64 1, .int .i64 1] 3)).alloc (.cells #[.slice (some ⟨w.heap.size, 0, none⟩) 5 5] 24)) (w.heap.size + 1) 24 (.slice (some ⟨w.heap.size, 0, none⟩) 5 5) := by
    have h := One.new (w := w.alloc (.cells #[.int .i64 (-1), .int .i64 0, .int .i64 0, .int .i64 1, .int .i64 1] 3)) 24 (.slice (some ⟨w.heap.size, 0, none⟩) 5 5)
    simpa using h
  have hB : Hid (¬ onBlk (some ⟨w.heap.size, 0, none⟩) (w.heap.size + 1)) := Lib.hid (by rw [onBlk_some]; omega)
  replace hr := Lib.hid hr
  replace hF0 := Lib.hid hF0
  replace hv := Lib.hid hv
  clear hO hr0
  go_enter Try.func9, Try.ntmps9
  go_wp2_with fail
  refine (Path_any _ 5 5 exT 4 _ hr.out (by omega)).mono ?_; rintro e w1 ⟨a1, m1, c1, rfl, O1, F1⟩
  rw [exT_check] at O1 ⊢
  rw [if_pos rfl, exT_path] at O1
  replace hv := hv.out.fr F1 id
  replace hr := Lib.hid (hr.out.fr0 F1)
  replace hF0 := Lib.hid (hF0.out.trans0 F1)
  have R1 := Lib.hid O1.rd
  have hvc := hv.cell
  clear O1 F1
  go_wp2_with fail
  refine (Euler_any _ 5 5 exT _ hr.out (by omega)).mono ?_; rintro e w2 ⟨a2, m2, c2, rfl, O2, F2⟩
  rw [if_pos exT_valid, exT_tour] at O2
  rw [if_pos exT_valid]
  replace hv := hv.fr F2 id
  replace hr := Lib.hid (hr.out.fr0 F2)
  replace hF0 := Lib.hid (hF0.out.trans0 F2)
  replace R1 := Lib.hid (R1.out.fr0 F2)
  have R2 := Lib.hid O2.rd
  have hw2 := hv.lt
  clear O2 F2 hvc
  go_wp2_with fail
  refine (New_any _).mono ?_; rintro e w3 ⟨x, sa, c, rfl, HX, F3⟩
  have hxs := Lib.hid HX.from'
  have hsB := Lib.hid HX.own.blk
  replace hv := hv.fr F3 id
  replace hr := Lib.hid (hr.out.fr0 F3)
  replace hF0 := Lib.hid (hF0.out.trans0 F3)
  replace R1 := Lib.hid (R1.out.fr0 F3)
  replace R2 := Lib.hid (R2.out.fr0 F3)
  replace HX := Lib.hid HX
  clear F3
  go_wp2_with fail
  have L1 : Rd (w3.alloc (.cells #[.int .i64 0, .int .i64 1, .int .i64 4] 3)) (some ⟨w3.heap.size, 0, none⟩) 3 (ints [0, 1, 4]) := Own.rd (Own.lit (w := w3) (B := w3.heap.size) (T := 3) (ints [0, 1, 4]) 3 rfl (by omega) (by omega))
  refine (Equal_any _ _ _ _ _ _ _ _ _ (R1.out.alloc _) L1).mono ?_; rintro e w4 ⟨rfl, q, rfl⟩
  rw [show decide (([0, 1, 4] : List Int) = [0, 1, 4]) = true by simp]
  have F4 : Fr F0 w3 ((w3.alloc (.cells #[.int .i64 0, .int .i64 1, .int .i64 4] 3)).drewN q) := ((Fr.refl _ _).alloc _).drewN q
  generalize (w3.alloc (.cells #[.int .i64 0, .int .i64 1, .int .i64 4] 3)).drewN q = w4 at *
  replace hv := hv.fr F4 id
  replace hr := Lib.hid (hr.out.fr0 F4)
  replace hF0 := Lib.hid (hF0.out.trans0 F4)
  replace R2 := Lib.hid (R2.out.fr0 F4)
  replace HX := Lib.hid (HX.out.fr0 F4)
  clear F4 R1 L1
  go_wp2_with fail
  have L2 : Rd (w4.alloc (.cells #[.int .i64 0, .int .i64 1, .int .i64 3, .int .i64 3, .int .i64 4, .int .i64 4, .int .i64 1, .int .i64 2, .int .i64 2, .int .i64 0] 3)) (some ⟨w4.heap.size, 0, none⟩) 10 (ints [0, 1, 3, 3, 4, 4, 1, 2, 2, 0]) := Own.rd (Own.lit (w := w4) (B := w4.heap.size) (T := 3) (ints [0, 1, 3, 3, 4, 4, 1, 2, 2, 0]) 10 rfl (by omega) (by omega))
  refine (Equal_any _ _ _ _ _ _ _ _ _ (R2.out.alloc _) L2).mono ?_; rintro e w5 ⟨rfl, q, rfl⟩
  rw [show decide (([0, 1, 3, 3, 4, 4, 1, 2, 2, 0] : List Int) = [0, 1, 3, 3, 4, 4, 1, 2, 2, 0]) = true by simp]
  have F4 : Fr F0 w4 ((w4.alloc (.cells #[.int .i64 0, .int .i64 1, .int .i64 3, .int .i64 3, .int .i64 4, .int .i64 4, .int .i64 1, .int .i64 2, .int .i64 2, .int .i64 0] 3)).drewN q) := ((Fr.refl _ _).alloc _).drewN q
  generalize (w4.alloc (.cells #[.int .i64 0, .int .i64 1, .int .i64 3, .int .i64 3, .int .i64 4, .int .i64 4, .int .i64 1, .int .i64 2, .int .i64 2, .int .i64 0] 3)).drewN q = w5 at *
  replace hv := hv.fr F4 id
  replace hr := Lib.hid (hr.out.fr0 F4)
  replace hF0 := Lib.hid (hF0.out.trans0 F4)
  replace HX := Lib.hid (HX.out.fr0 F4)
  clear F4 R2 L2
  have hvc := hv.cell
  go_wp2_with fail
  obtain ⟨Bx, hBx⟩ : ∃ Bx, Bx = w2.heap.size := ⟨_, rfl⟩
  rw [← hBx] at HX hw2
  have hr1 := hr.out
  have hF1 := hF0.out
  have HX1 : IX w5 Bx x sa c (exT.take (0 + 1)) := HX.out
  clear hvc hv hBx
  go_loopw [52] (fun i wr => ∃ (k : Nat) (sa : Option Addr) (c : Nat), k ≤ 4 ∧ i = .int .i64 k ∧ IX wr Bx x sa c (exT.take (k + 1)) ∧ Rd wr (some ⟨w.heap.size, 0, none⟩) 5 (ints exT) ∧ Fr F0 w wr) (fun i _ => 4 - (intOf i).toNat)
  case atStart => exact ⟨0, sa, c, by omega, rfl, HX1, hr1, hF1⟩
  case round =>
    obtain ⟨k, sa, c, hk, rfl, HX, hr, hF⟩ := hrel
    by_cases hlt : k < 4
    · obtain ⟨e1, e2⟩ := exT_step k hlt
      have hv := Lib.hid (exT_prefix k hk)
      obtain ⟨g, o, p, hg, hp, hcell⟩ := hr.ix (i := k + 1) (by omega)
      injection hg with hg
      injection hg with hg1 hg2
      subst hg1 hg2
      have ep : exT.getD (k + 1) 0 = p := by rw [List.getD_eq_getElem?_getD, hp]; rfl
      rw [ep] at e1 e2
      have hcell2 : wr.cell? ⟨w.heap.size, 1 + k, none⟩ = some (.int .i64 p) := by rw [← hcell]; congr 2; omega
      have E1 := Lib.hid e1
      have E2 := Lib.hid e2
      have hne : (((k : Int) + 1) != ((k : Int) + 1)) = false := by simp
      have hsz := HX.from'
      have hxl := HX.one.lt
      obtain ⟨P, hP⟩ : ∃ P, P = exT.take (k + 1) := ⟨_, rfl⟩
      rw [← hP] at HX E1 E2 hv
      clear e1 e2 hp ep hP hcell
      go_wp2_with fail
      refine (Branch_any _ _ x sa c P HX (by omega) hv.out p).mono ?_; rintro e w6 ⟨sa1, c1, rfl, i1, f1, at1⟩
      rw [E2.out]
      rw [E1.out] at i1
      have hr6 := hr.fr f1 (fun j hj hs => by
        have h1 := (onBlk_some _ _ _ _).1 hj
        rcases hs with h2 | h2
        · omega
        · have := (HX.own.blk j h2).1; omega)
      have hF6 : Fr F0 w w6 := hF.trans f1 (fun j hj hs => by
        rcases hs with h2 | h2
        · omega
        · have := (HX.own.blk j h2).1; omega)
      replace i1 := Lib.hid i1
      clear f1 HX
      replace at1 := Lib.hid at1
      go_wp2_with fail
      go_roundw
      case rel => exact ⟨k + 1, sa1, c1, by omega, by go_num, i1.out, hr6, hF6⟩
      case measure => simp [intOf]; omega
    · obtain rfl : k = 4 := by omega
      have HX4 : IX wr Bx x sa c exT := HX
      replace hF := Lib.hid hF
      clear HX
      go_wp2_with fail
      refine (Common_any _ _ x sa c exT HX4 exT_valid 3 4).mono ?_; rintro e w6 ⟨rfl, F6⟩
      rw [exT_com]
      replace hF := Lib.hid (hF.out.trans0 F6)
      clear F6
      go_wp2_with fail
      go_ret
      exact ⟨rfl, hF.out⟩

end Go.Proofs.Ytpmaoaogkjehcaa
