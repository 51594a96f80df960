/- awake. -/
import Derived.Test.YtfeokafjehpgnaaU18
namespace Go.Proofs.Ytfeokafjehpgnaa
open Go.RowKit
attribute [local go_sem ↓] Go.wp_at_zero Go.wp_at_succ
def aP1 : Nat → Nat := fun y => if y = 2 then 1 else 0
def aP2 : Nat → Nat := fun y => if y = 3 then 1 else aP1 y
def aP3 : Nat → Nat := fun y => if y = 2 then 0 else if y = 1 then 2 else aP2 y
def aW : Nat → Int := wtN [5, 1, 4] 3
theorem aw12 : K.Way aP2 2 [1, 2] := .down (l := [1]) (by decide) (by decide) (.root (by decide) (by decide))
theorem aw13 : K.Way aP2 3 [1, 3] := .down (l := [1]) (by decide) (by decide) (.root (by decide) (by decide))
theorem aw3 : K.Way aP3 3 [2, 1, 3] := .down (l := [2, 1]) (by decide) (by decide) (.down (l := [2]) (by decide) (by decide) (.root (by decide) (by decide)))
section
variable {w : World} {f b : Nat} {s : Int}
theorem aLink1 (h : LF w f b 3 s (fun _ => 0) aW) (hs1 : 0 ≤ s) (hs2 : s ≤ 1000000) :
    Calls Try.prog 28 #[.pointer (some ⟨f, 0, none⟩), .int .i64 1, .int .i64 0] w fun e w' => e = .returned (.int .i64 0) ∧ Kp w w' f b 3 s 11400 aP1 aW :=
  Link_ok h hs1 (by omega) (v := 1) (u := 0) (by omega) (by omega) rfl (z := 1) ⟨[1], .root (by decide) rfl, rfl⟩ (by decide) (by decide) (fun z _ hz => by unfold aP1; rw [if_neg hz])
theorem aLink2 (h : LF w f b 3 s aP1 aW) (hs1 : 0 ≤ s) (hs2 : s ≤ 1000000) :
    Calls Try.prog 28 #[.pointer (some ⟨f, 0, none⟩), .int .i64 2, .int .i64 0] w fun e w' => e = .returned (.int .i64 0) ∧ Kp w w' f b 3 s 11400 aP2 aW :=
  Link_ok h hs1 (by omega) (v := 2) (u := 0) (by omega) (by omega) (by decide) (z := 1) ⟨[1], .root (by decide) (by decide), rfl⟩ (by decide) (by decide) (fun z _ hz => by unfold aP2; rw [if_neg hz])
theorem aSum (h : LF w f b 3 s aP2 aW) (hs1 : 0 ≤ s) (hs2 : s ≤ 1000000) :
    Calls Try.prog 13 #[.pointer (some ⟨f, 0, none⟩), .int .i64 1, .int .i64 2] w fun e w' => e = .returned (.tuple #[.int .i64 10, .int .i64 0]) ∧ Kp w w' f b 3 s 26600 aP2 aW :=
  Sum_ok h hs1 (by omega) (v := 1) (u := 2) (by omega) (by omega) aw12 rfl ⟨_, aw13, rfl⟩ (P1 := aP3) ⟨by decide, by decide, trivial⟩ (fun z _ hz => by unfold aP3; simp at hz; rw [if_neg hz.2, if_neg hz.1]) aw3
theorem aLeast (h : LF w f b 3 s aP2 aW) (hs1 : 0 ≤ s) (hs2 : s ≤ 1000000) :
    Calls Try.prog 14 #[.pointer (some ⟨f, 0, none⟩), .int .i64 1, .int .i64 2] w fun e w' => e = .returned (.tuple #[.int .i64 1, .int .i64 0]) ∧ Kp w w' f b 3 s 26600 aP2 aW :=
  Least_ok h hs1 (by omega) (v := 1) (u := 2) (by omega) (by omega) aw12 rfl ⟨_, aw13, rfl⟩ (P1 := aP3) ⟨by decide, by decide, trivial⟩ (fun z _ hz => by unfold aP3; simp at hz; rw [if_neg hz.2, if_neg hz.1]) aw3
theorem aCommon (h : LF w f b 3 s aP2 aW) (hs1 : 0 ≤ s) (hs2 : s ≤ 1000000) :
    Calls Try.prog 12 #[.pointer (some ⟨f, 0, none⟩), .int .i64 1, .int .i64 2] w fun e w' => e = .returned (.tuple #[.int .i64 0, .int .i64 0]) ∧ Kp w w' f b 3 s 15200 aP2 aW := by
  refine (Common_ok h hs1 (by omega) (v := 1) (u := 2) (by omega) (by omega) aw12 aw13 rfl).mono ?_
  rintro e w' ⟨c, rfl, ⟨o3, o4, oS, h1, h2, h3⟩, hk⟩
  have hc : c = 1 := by
    match o3 with
    | [] => simp at h1; exact h1.1.symm
    | [x] =>
      simp at h1 h2
      omega
    | x :: y :: o => simp at h1
  subst hc
  exact ⟨rfl, hk⟩
end
set_option maxRecDepth 100000 in
set_option maxHeartbeats 1000000 in
theorem awake_any (w : World) : Calls Try.prog 9 #[] w fun e w' => e = .returned (.bool true) ∧ Fr F0 w w' := by
  have hRd : Rd (w.alloc (.cells #[.int .i64 5, .int .i64 1, .int .i64 4] 3)) (some ⟨w.heap.size, 0, none⟩) 3 (ints [5, 1, 4]) := (Own.lit (w := w) (B := 0) (T := 3) [.int .i64 5, .int .i64 1, .int .i64 4] 3 rfl (Nat.zero_le _) (by omega)).rd
  have HR := Lib.hid hRd
  clear hRd
  go_enter Try.func9, Try.ntmps9
  go_wp2_with (first
    | (go_at_call 36; refine (New_ok _ HR.out (by decide) (by decide)).mono ?_; rintro e w1 ⟨f, b, rfl, L1, F1, hf1, hb1⟩; rw [size_alloc] at hf1 hb1; have FF := Lib.hid (((Fr.refl F0 w).alloc (.cells #[.int .i64 5, .int .i64 1, .int .i64 4] 3)).trans F1 (fun _ _ h => h)); replace L1 := Lib.hid L1; clear F1 HR)
    | (go_at_call 28; refine (aLink1 L1.out (by omega) (by omega)).mono ?_; rintro e w2 ⟨rfl, s2, p2, q2, L2, F2⟩; replace L2 := Lib.hid L2; replace FF := Lib.hid (FF.out.new0 F2 (fun k e => (by rcases e with e | e <;> omega))); clear F2 L1)
    | (go_at_call 28; refine (aLink2 L2.out (by omega) (by omega)).mono ?_; rintro e w3 ⟨rfl, s3, p3, q3, L3, F3⟩; replace L3 := Lib.hid L3; replace FF := Lib.hid (FF.out.new0 F3 (fun k e => (by rcases e with e | e <;> omega))); clear F3 L2)
    | (go_at_call 13; refine (aSum L3.out (by omega) (by omega)).mono ?_; rintro e w4 ⟨rfl, s4, p4, q4, L4, F4⟩; replace L4 := Lib.hid L4; replace FF := Lib.hid (FF.out.new0 F4 (fun k e => (by rcases e with e | e <;> omega))); clear F4 L3)
    | (go_at_call 14; refine (aLeast L4.out (by omega) (by omega)).mono ?_; rintro e w5 ⟨rfl, s5, p5, q5, L5, F5⟩; replace L5 := Lib.hid L5; replace FF := Lib.hid (FF.out.new0 F5 (fun k e => (by rcases e with e | e <;> omega))); clear F5 L4)
    | (go_at_call 12; refine (aCommon L5.out (by omega) (by omega)).mono ?_; rintro e w6 ⟨rfl, s6, p6, q6, L6, F6⟩; replace L6 := Lib.hid L6; replace FF := Lib.hid (FF.out.new0 F6 (fun k e => (by rcases e with e | e <;> omega))); clear F6 L5))
  go_ret
  exact ⟨rfl, FF.out⟩
end Go.Proofs.Ytfeokafjehpgnaa
