/- rotate: what lies in memory, its regions. -/
import Derived.Test.YtfeokafjehpgnaaW6
namespace Go.Proofs.Ytfeokafjehpgnaa
open Go.RowKit
attribute [local go_sem ↓] Go.wp_at_zero Go.wp_at_succ
noncomputable def rg65 (i : Nat) : Code := ((Try.f65.body).bind (rgIn i)).getD .skip
theorem nat_beq (a b : Nat) : ((a : Int) == (b : Int)) = decide (a = b) := by
  by_cases e : a = b
  · subst e; simp
  · have h : (a : Int) ≠ b := by omega
    rw [beq_eq_false_iff_ne.2 h]; simp [e]
def onFB (f b : Nat) (k : Nat) : Prop := k = f ∨ k = b
set_option maxRecDepth 100000 in
/-- The frame of rotate. -/
def RF (f x : Nat) (c4 c5 c6 : Value) (g : Nat → Value) : Act := ⟨#[.pointer (some ⟨f, 0, none⟩), .int .i64 x, g 2, g 3, c4, c5, c6, g 7, g 8, g 9, g 10, g 11, g 12, g 13, g 14, g 15, g 16, g 17, g 18, g 19, g 20, g 21, g 22, g 23, g 24, g 25, g 26, g 27, g 28, g 29, g 30, g 31, g 32, g 33, g 34, g 35, g 36, g 37, g 38, g 39, g 40, g 41, g 42, g 43, g 44, g 45, g 46, g 47, g 48, g 49, g 50, g 51, g 52, g 53, g 54, g 55, g 56, g 57, g 58, g 59, g 60, g 61, g 62, g 63, g 64, g 65, g 66, g 67, g 68, g 69, g 70, g 71, g 72, g 73, g 74, g 75, g 76, g 77, g 78, g 79, g 80, g 81, g 82, g 83, g 84, g 85, g 86, g 87, g 88, g 89, g 90, g 91, g 92, g 93, g 94, g 95, g 96, g 97, g 98, g 99, g 100, g 101, g 102, g 103, g 104, g 105, g 106, g 107, g 108, g 109, g 110, g 111, g 112, g 113, g 114, g 115, g 116, g 117, g 118, g 119, g 120, g 121, g 122, g 123, g 124, g 125, g 126, g 127, g 128, g 129, g 130, g 131, g 132, g 133, g 134, g 135, g 136, g 137, g 138, g 139, g 140, g 141, g 142, g 143, g 144, g 145, g 146, g 147, g 148, g 149], []⟩
/-- What a region of rotate leaves. -/
def RO (w : World) (f b n : Nat) (s : Int) (V : K.Vs) (x : Nat) (c4 c5 c6 : Value) (k : Nat) (c : Value) (a : Act) (D : World) : Prop := a = RF f x c4 c5 c6 (gOf a) ∧ (k ≠ 0 → gOf a k = c) ∧ FS D f b n s V ∧ Fr (onFB f b) w D
end Go.Proofs.Ytfeokafjehpgnaa
