/- awake: the examples. -/
import Derived.Test.YtihcaemheknjbaaF36
import Derived.Test.YtihcaemheknjbaaF34
import Derived.Test.YtihcaemheknjbaaF14
import Derived.Test.YtihcaemheknjbaaF16
import Derived.Test.YtihcaemheknjbaaSlEqual
namespace Go.Proofs.Ytihcaemheknjbaa
open Go.RowKit
attribute [local go_sem ↓] Go.wp_at_zero Go.wp_at_succ
def L0 : List Ev := [(1, 0, 1), (3, 0, 1), (2, 1, 0), (3, 0, 1)]
def B0 : List Pr := [(0, 1), (1, 2), (2, 1)]
theorem L0_read : readS 3 L0 = some [(0, 1, 0, 2)] := by kernel_rfl
theorem L0_A : refA 3 L0 4 = [true, false] := by kernel_rfl
theorem L0_C : refC 3 L0 4 = [2, 2, 3, 3] := by kernel_rfl
theorem L0_un : unS 4 [(0, 1, 0, 2)] = 1 := by kernel_rfl
theorem B0_e : brE 3 B0 = 0 := by decide
theorem B0_l : refB 3 (B0.map natE) = [0] := by kernel_rfl
theorem L0_arg {w : World} {g : Nat} (h : Blk w g 45 [.int .i64 1, .int .i64 0, .int .i64 1, .int .i64 3, .int .i64 0, .int .i64 1, .int .i64 2, .int .i64 1, .int .i64 0, .int .i64 3, .int .i64 0, .int .i64 1]) : ArgE w (some ⟨g, 0, none⟩) 4 4 L0 :=
  ⟨by omega, by omega, rfl, fun i x hx => by
    refine ⟨g, 0, rfl, ?_⟩
    match i, hx with
    | 0, hx => injection hx with hx; subst hx; exact ⟨h.cell (i := 0) rfl, h.cell (i := 1) rfl, h.cell (i := 2) rfl⟩
    | 1, hx => injection hx with hx; subst hx; exact ⟨h.cell (i := 3) rfl, h.cell (i := 4) rfl, h.cell (i := 5) rfl⟩
    | 2, hx => injection hx with hx; subst hx; exact ⟨h.cell (i := 6) rfl, h.cell (i := 7) rfl, h.cell (i := 8) rfl⟩
    | 3, hx => injection hx with hx; subst hx; exact ⟨h.cell (i := 9) rfl, h.cell (i := 10) rfl, h.cell (i := 11) rfl⟩
    | i + 4, hx => cases hx⟩
theorem B0_arg {w : World} {g : Nat} (h : Blk w g 62 [.int .i64 0, .int .i64 1, .int .i64 1, .int .i64 2, .int .i64 2, .int .i64 1]) : ArgP w (some ⟨g, 0, none⟩) 3 3 B0 :=
  ⟨by omega, by omega, rfl, fun i x hx => by
    refine ⟨g, 0, rfl, ?_⟩
    match i, hx with
    | 0, hx => injection hx with hx; subst hx; exact ⟨h.cell (i := 0) rfl, h.cell (i := 1) rfl⟩
    | 1, hx => injection hx with hx; subst hx; exact ⟨h.cell (i := 2) rfl, h.cell (i := 3) rfl⟩
    | 2, hx => injection hx with hx; subst hx; exact ⟨h.cell (i := 4) rfl, h.cell (i := 5) rfl⟩
    | i + 3, hx => cases hx⟩
theorem aw_I {w : World} {g : Nat} (h : ArgE w (some ⟨g, 0, none⟩) 4 4 L0) : Calls Try.prog 16 #[.int .i64 3, .slice (some ⟨g, 0, none⟩) 4 4] w fun e w' => ∃ a c, e = .returned (.tuple #[.slice a 1 c, .int .i64 0]) ∧ RdZ w' 4 a 1 (ivs [(0, 1, 0, 2)]) ∧ Fr F0 w w' := by
  refine (Intervals_any (n := 3) h).mono ?_
  rw [L0_read]
  rintro e w2 ⟨a2, c2, he, hV, F2⟩
  exact ⟨a2, c2, he, hV.rd, F2⟩
theorem aw_S {w : World} {g : Nat} (h : ArgE w (some ⟨g, 0, none⟩) 4 4 L0) : Calls Try.prog 11 #[.int .i64 3, .slice (some ⟨g, 0, none⟩) 4 4] w fun e w' => ∃ aA cA aC cC, e = .returned (.tuple #[.slice aA 2 cA, .slice aC 4 cC, .int .i64 0]) ∧ Rd w' aA 2 (bls [true, false]) ∧ Rd w' aC 4 (ints [2, 2, 3, 3]) ∧ Fr F0 w w' := by
  refine (Solve_ref (n := 3) h).mono ?_
  rw [L0_read]
  rintro e w3 ⟨aA, cA, aC, cC, he, hA, hC, F3⟩
  change e = .returned (.tuple #[.slice aA (refA 3 L0 4).length cA, .slice aC 4 cC, .int .i64 0]) at he
  change Rd w3 aA (refA 3 L0 4).length (bls (refA 3 L0 4)) at hA
  change Rd w3 aC 4 (nv (refC 3 L0 4)) at hC
  rw [L0_A] at he hA
  rw [L0_C] at hC
  exact ⟨aA, cA, aC, cC, he, hA, hC, F3⟩
theorem aw_U {w : World} {g : Nat} (h : ArgE w (some ⟨g, 0, none⟩) 4 4 L0) : Calls Try.prog 17 #[.int .i64 3, .slice (some ⟨g, 0, none⟩) 4 4] w fun e w' => e = .returned (.tuple #[.int .i64 1, .int .i64 0]) ∧ Fr F0 w w' := by
  refine (Unions_any (n := 3) h).mono ?_
  rw [L0_read]
  rintro e w3 ⟨he, F3⟩
  change e = .returned (.tuple #[.int .i64 (unS 4 [(0, 1, 0, 2)] : Int), .int .i64 0]) at he
  rw [L0_un] at he
  exact ⟨he, F3⟩
theorem aw_B {w : World} {g : Nat} (h : ArgP w (some ⟨g, 0, none⟩) 3 3 B0) : Calls Try.prog 34 #[.int .i64 3, .slice (some ⟨g, 0, none⟩) 3 3] w fun e w' => ∃ a c, e = .returned (.tuple #[.slice a 1 c, .int .i64 0]) ∧ Rd w' a 1 (ints [0]) ∧ Fr F0 w w' := by
  have hl : brL 3 B0 = [0] := by
    unfold brL; rw [if_pos B0_e]; exact B0_l
  refine (Bridges_any (n := 3) h).mono ?_
  unfold BrR
  rw [hl, B0_e]
  rintro e w3 ⟨a, c, he, hR, F3⟩
  exact ⟨a, c, he, hR, F3⟩
set_option maxRecDepth 100000 in
set_option maxHeartbeats 8000000 in
theorem awake_any (w : World) : Calls Try.prog 9 #[] w fun e w' => e = .returned (.bool true) ∧ Fr F0 w w' := by
  go_enter Try.func9, Try.ntmps9
  go_wp2_with fail
  obtain ⟨g, hg⟩ : ∃ b, b = w.heap.size := ⟨_, rfl⟩
  have BL := Blk.new w 45 [.int .i64 1, .int .i64 0, .int .i64 1, .int .i64 3, .int .i64 0, .int .i64 1, .int .i64 2, .int .i64 1, .int .i64 0, .int .i64 3, .int .i64 0, .int .i64 1]
  have F1 := (Fr.refl F0 w).alloc (.cells #[.int .i64 1, .int .i64 0, .int .i64 1, .int .i64 3, .int .i64 0, .int .i64 1, .int .i64 2, .int .i64 1, .int .i64 0, .int .i64 3, .int .i64 0, .int .i64 1] 45)
  obtain ⟨w1, hw1⟩ : ∃ W, W = w.alloc (.cells #[.int .i64 1, .int .i64 0, .int .i64 1, .int .i64 3, .int .i64 0, .int .i64 1, .int .i64 2, .int .i64 1, .int .i64 0, .int .i64 3, .int .i64 0, .int .i64 1] 45) := ⟨_, rfl⟩
  change Blk (w.alloc (.cells #[.int .i64 1, .int .i64 0, .int .i64 1, .int .i64 3, .int .i64 0, .int .i64 1, .int .i64 2, .int .i64 1, .int .i64 0, .int .i64 3, .int .i64 0, .int .i64 1] 45)) _ _ _ at BL
  rw [← hw1] at BL F1 ⊢
  rw [← hg] at BL ⊢
  have HA := Lib.hid (L0_arg BL)
  have HF1 := Lib.hid F1
  clear hw1 hg BL F1
  refine (aw_I HA.out).mono ?_
  rintro e w2 ⟨a2, c2, rfl, hV, F2⟩
  have HV := Lib.hid hV
  have HF2 := Lib.hid F2
  clear hV F2
  go_wp2_with fail
  refine (aw_S (HA.out.fr0 HF2.out)).mono ?_
  rintro e w3 ⟨aA, cA, aC, cC, rfl, hA, hC, F3⟩
  have HS := Lib.hid (And.intro hA hC)
  have HF3 := Lib.hid F3
  clear hA hC F3
  go_wp2_with fail
  refine (aw_U (HA.out.fr0 (HF2.out.trans0 HF3.out))).mono ?_
  rintro e w4 ⟨rfl, F4⟩
  have HF4 := Lib.hid F4
  clear F4
  go_wp2_with fail
  obtain ⟨gb, hg⟩ : ∃ b, b = w4.heap.size := ⟨_, rfl⟩
  have BL := Blk.new w4 62 [.int .i64 0, .int .i64 1, .int .i64 1, .int .i64 2, .int .i64 2, .int .i64 1]
  have F1 := (Fr.refl F0 w4).alloc (.cells #[.int .i64 0, .int .i64 1, .int .i64 1, .int .i64 2, .int .i64 2, .int .i64 1] 62)
  obtain ⟨w5, hw1⟩ : ∃ W, W = w4.alloc (.cells #[.int .i64 0, .int .i64 1, .int .i64 1, .int .i64 2, .int .i64 2, .int .i64 1] 62) := ⟨_, rfl⟩
  change Blk (w4.alloc (.cells #[.int .i64 0, .int .i64 1, .int .i64 1, .int .i64 2, .int .i64 2, .int .i64 1] 62)) _ _ _ at BL
  rw [← hw1] at BL F1 ⊢
  rw [← hg] at BL ⊢
  have HB := Lib.hid (B0_arg BL)
  have HF5 := Lib.hid F1
  clear hw1 hg BL F1
  refine (aw_B HB.out).mono ?_
  rintro e w6 ⟨a6, c6, rfl, hR, F6⟩
  have HR := Lib.hid hR
  have HF6 := Lib.hid F6
  clear hR F6
  have HF := Lib.hid (((((HF1.out.trans0 HF2.out).trans0 HF3.out).trans0 HF4.out).trans0 HF5.out).trans0 HF6.out)
  have HV6 := Lib.hid (HV.out.fr ((((HF3.out).trans0 HF4.out).trans0 HF5.out).trans0 HF6.out) (fun _ _ h => h))
  have HS6 := Lib.hid (And.intro (HS.out.1.fr (((HF4.out).trans0 HF5.out).trans0 HF6.out) (fun _ _ h => h)) (HS.out.2.fr (((HF4.out).trans0 HF5.out).trans0 HF6.out) (fun _ _ h => h)))
  clear HF1 HF2 HF3 HF4 HF5 HF6 HV HS HA HB
  go_wp2_with fail
  have R2 := rdZ_new w6 41 [.int .i64 0, .int .i64 1, .int .i64 0, .int .i64 2]
  have F1 := (Fr.refl F0 w6).alloc (.cells #[.int .i64 0, .int .i64 1, .int .i64 0, .int .i64 2] 41)
  change RdZ (w6.alloc (.cells #[.int .i64 0, .int .i64 1, .int .i64 0, .int .i64 2] 41)) 4 _ _ _ at R2
  obtain ⟨g', hg⟩ : ∃ b, b = w6.heap.size := ⟨_, rfl⟩
  obtain ⟨wx, hw1⟩ : ∃ W, W = w6.alloc (.cells #[.int .i64 0, .int .i64 1, .int .i64 0, .int .i64 2] 41) := ⟨_, rfl⟩
  rw [← hw1] at R2 F1 ⊢
  rw [← hg] at R2 ⊢
  refine (EqualV_any _ _ _ _ _ _ ([(0, 1, 0, 2)] : List Iv) ([(0, 1, 0, 2)] : List Iv) _ (HV6.out.fr F1 (fun _ _ h => h)) R2).mono ?_
  rw [decide_eq_true (show ([(0, 1, 0, 2)] : List Iv) = ([(0, 1, 0, 2)] : List Iv) from rfl)]
  rintro e w7 ⟨rfl, hq⟩
  have F2 : Fr F0 w6 w7 := by obtain ⟨q, rfl⟩ := hq; exact F1.drewN q
  clear hq F1 hw1 hg R2
  have HF7 := Lib.hid (HF.out.trans0 F2)
  clear HV6
  have HS7 := Lib.hid (And.intro (HS6.out.1.fr F2 (fun _ _ h => h)) (HS6.out.2.fr F2 (fun _ _ h => h)))
  clear HF
  have HR7 := Lib.hid (HR.out.fr F2 (fun _ _ h => h))
  clear HS6
  clear F2
  go_wp2_with fail
  have R2 := Own.rd (Own.lit (w := w7) (B := 0) (T := 4) [.bool true, .bool false] 2 rfl (Nat.zero_le _) (by omega))
  have F1 := (Fr.refl F0 w7).alloc (.cells #[.bool true, .bool false] 4)
  change Rd (w7.alloc (.cells #[.bool true, .bool false] 4)) _ _ _ at R2
  obtain ⟨g', hg⟩ : ∃ b, b = w7.heap.size := ⟨_, rfl⟩
  obtain ⟨wx, hw1⟩ : ∃ W, W = w7.alloc (.cells #[.bool true, .bool false] 4) := ⟨_, rfl⟩
  rw [← hw1] at R2 F1 ⊢
  rw [← hg] at R2 ⊢
  refine (EqualB_any _ _ _ _ _ _ ([true, false] : List Bool) ([true, false] : List Bool) _ (HS7.out.1.fr F1 (fun _ _ h => h)) R2).mono ?_
  rw [decide_eq_true (show ([true, false] : List Bool) = ([true, false] : List Bool) from rfl)]
  rintro e w8 ⟨rfl, hq⟩
  have F2 : Fr F0 w7 w8 := by obtain ⟨q, rfl⟩ := hq; exact F1.drewN q
  clear hq F1 hw1 hg R2
  have HF8 := Lib.hid (HF7.out.trans0 F2)
  clear HR
  have HS8 := Lib.hid (HS7.out.2.fr F2 (fun _ _ h => h))
  clear HF7
  have HR8 := Lib.hid (HR7.out.fr F2 (fun _ _ h => h))
  clear HS7
  clear F2
  go_wp2_with fail
  have R2 := Own.rd (Own.lit (w := w8) (B := 0) (T := 3) [.int .i64 2, .int .i64 2, .int .i64 3, .int .i64 3] 4 rfl (Nat.zero_le _) (by omega))
  have F1 := (Fr.refl F0 w8).alloc (.cells #[.int .i64 2, .int .i64 2, .int .i64 3, .int .i64 3] 3)
  change Rd (w8.alloc (.cells #[.int .i64 2, .int .i64 2, .int .i64 3, .int .i64 3] 3)) _ _ _ at R2
  obtain ⟨g', hg⟩ : ∃ b, b = w8.heap.size := ⟨_, rfl⟩
  obtain ⟨wx, hw1⟩ : ∃ W, W = w8.alloc (.cells #[.int .i64 2, .int .i64 2, .int .i64 3, .int .i64 3] 3) := ⟨_, rfl⟩
  rw [← hw1] at R2 F1 ⊢
  rw [← hg] at R2 ⊢
  refine (Equal_any _ _ _ _ _ _ ([2, 2, 3, 3] : List Int) ([2, 2, 3, 3] : List Int) _ (HS8.out.fr F1 (fun _ _ h => h)) R2).mono ?_
  rw [decide_eq_true (show ([2, 2, 3, 3] : List Int) = ([2, 2, 3, 3] : List Int) from rfl)]
  rintro e w9 ⟨rfl, hq⟩
  have F2 : Fr F0 w8 w9 := by obtain ⟨q, rfl⟩ := hq; exact F1.drewN q
  clear hq F1 hw1 hg R2
  have HF9 := Lib.hid (HF8.out.trans0 F2)
  clear HS8
  have HR9 := Lib.hid (HR8.out.fr F2 (fun _ _ h => h))
  clear HF8
  clear F2
  go_wp2_with fail
  have R2 := Own.rd (Own.lit (w := w9) (B := 0) (T := 3) [.int .i64 0] 1 rfl (Nat.zero_le _) (by omega))
  have F1 := (Fr.refl F0 w9).alloc (.cells #[.int .i64 0] 3)
  change Rd (w9.alloc (.cells #[.int .i64 0] 3)) _ _ _ at R2
  obtain ⟨g', hg⟩ : ∃ b, b = w9.heap.size := ⟨_, rfl⟩
  obtain ⟨wx, hw1⟩ : ∃ W, W = w9.alloc (.cells #[.int .i64 0] 3) := ⟨_, rfl⟩
  rw [← hw1] at R2 F1 ⊢
  rw [← hg] at R2 ⊢
  refine (Equal_any _ _ _ _ _ _ ([0] : List Int) ([0] : List Int) _ (HR9.out.fr F1 (fun _ _ h => h)) R2).mono ?_
  rw [decide_eq_true (show ([0] : List Int) = ([0] : List Int) from rfl)]
  rintro e w10 ⟨rfl, hq⟩
  have F2 : Fr F0 w9 w10 := by obtain ⟨q, rfl⟩ := hq; exact F1.drewN q
  clear hq F1 hw1 hg R2
  have HF10 := Lib.hid (HF9.out.trans0 F2)
  clear HR9
  clear F2
  go_wp2_with fail
  go_ret
  exact ⟨rfl, HF10.out⟩
end Go.Proofs.Ytihcaemheknjbaa
