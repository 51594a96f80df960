/- Parent: its regions. -/
import Derived.Test.YtfeokafjehpgnaaU6
namespace Go.Proofs.Ytfeokafjehpgnaa
open Go.RowKit
attribute [local go_sem ↓] Go.wp_at_zero Go.wp_at_succ
noncomputable def rg27 (i : Nat) : Code := ((Try.f27.body).bind (rgIn i)).getD .skip
set_option maxRecDepth 100000 in
/-- The frame of Parent. -/
def PaF (f : Nat) (c1 c4 c5 c6 c7 : Value) (g : Nat → Value) : Act := ⟨#[.pointer (some ⟨f, 0, none⟩), c1, g 2, g 3, c4, c5, c6, c7, g 8, g 9, g 10, g 11, g 12, g 13, g 14, g 15, g 16, g 17, g 18, g 19, g 20, g 21, g 22, g 23, g 24, g 25, g 26, g 27, g 28, g 29, g 30, g 31, g 32, g 33, g 34, g 35, g 36, g 37, g 38, g 39, g 40, g 41, g 42, g 43, g 44, g 45, g 46, g 47, g 48, g 49, g 50, g 51, g 52, g 53, g 54, g 55, g 56, g 57], []⟩
/-- What a region of Parent leaves. -/
def PaO (w : World) (f b n : Nat) (s : Int) (V : K.Vs) (c1 c4 c5 c6 c7 : Value) (k : Nat) (c : Value) (a : Act) (D : World) : Prop := a = PaF f c1 c4 c5 c6 c7 (gOf a) ∧ (k ≠ 0 → gOf a k = c) ∧ FS D f b n s V ∧ Fr (onFB f b) w D
theorem PaO.slot {w W : World} {f b n : Nat} {s : Int} {V : K.Vs} {c1 c4 c5 c6 c7 : Value} {k : Nat} {v : Value} {a : Act} (h : PaO w f b n s V c1 c4 c5 c6 c7 k v a W) (hk : k ≠ 0) : a.eval (.tmp k) = v := h.2.1 hk
theorem PaO.drop {w W : World} {f b n : Nat} {s : Int} {V : K.Vs} {c1 c4 c5 c6 c7 : Value} {k : Nat} {v : Value} {a : Act} (h : PaO w f b n s V c1 c4 c5 c6 c7 k v a W) : PaO w f b n s V c1 c4 c5 c6 c7 0 undef a W := ⟨h.1, fun h => absurd rfl h, h.2.2⟩
set_option maxRecDepth 100000 in
set_option maxHeartbeats 1000000 in
theorem pa_r9 {w W : World} {f b n : Nat} {s : Int} {V : K.Vs} {c1 c4 c5 c6 : Value} {x : Nat} {a : Act} (ha : a = PaF f c1 c4 c5 c6 (.int .i64 (x : Nat)) (gOf a)) (S : FS W f b n s V) (F : Fr (onFB f b) w W) (hx : x ≤ n) :
    (rg27 9).wp Try.prog (Exit.then (PaO w f b n s V c1 c4 c5 c6 (.int .i64 (x : Nat)) (41) (.bool (decide ((V x).right ≠ 0)))) fun _ _ _ => False) a W := by
  have hs := S.small
  have y0 := S.fb.cell (i := 0) rfl
  have y1 := S.c2 hx
  have bx : (x : Int) < (n : Int) + 1 := by omega
  have HS := Lib.hid S
  have HF := Lib.hid F
  clear S F
  rw [ha]
  clear ha
  generalize gOf a = gg
  unfold PaF
  conv => arg 2; whnf
  go_wp2_with fail
  refine (show PaO w f b n s V c1 c4 c5 c6 (.int .i64 (x : Nat)) (41) (.bool (decide ((V x).right ≠ 0))) _ _ from ⟨rfl, fun _ => ?_, HS.out, HF.out⟩)
  unfold gOf
  simp
  by_cases e : (V x).right = 0 <;> simp [e]

set_option maxRecDepth 100000 in
set_option maxHeartbeats 1000000 in
theorem pa_r11 {w W : World} {f b n : Nat} {s : Int} {V : K.Vs} {c1 c4 c5 c6 : Value} {x : Nat} {a : Act} (ha : a = PaF f c1 c4 c5 c6 (.int .i64 (x : Nat)) (gOf a)) (S : FS W f b n s V) (F : Fr (onFB f b) w W) (hx : x ≤ n) :
    (rg27 11).wp Try.prog (Exit.then (PaO w f b n s V c1 c4 c5 c6 (.int .i64 ((V x).right : Nat)) 0 undef) fun _ _ _ => False) a W := by
  have hs := S.small
  have y0 := S.fb.cell (i := 0) rfl
  have y1 := S.c2 hx
  have bqx : (x : Int) < (n : Int) + 1 := by omega
  have HS := Lib.hid S
  have HF := Lib.hid F
  clear S F
  rw [ha]
  clear ha
  generalize gOf a = gg
  unfold PaF
  conv => arg 2; whnf
  go_wp2_with fail
  refine (show PaO w f b n s V c1 c4 c5 c6 (.int .i64 ((V x).right : Nat)) 0 undef _ _ from ⟨rfl, fun h => absurd rfl h, HS.out, HF.out⟩)

set_option maxRecDepth 100000 in
set_option maxHeartbeats 1000000 in
theorem pa_r10 {w W : World} {f b n : Nat} {s : Int} {V : K.Vs} {c1 c4 c5 c6 : Value} {x : Nat} {a : Act} (ha : a = PaF f c1 c4 c5 c6 (.int .i64 (x : Nat)) (gOf a)) (S : FS W f b n s V) (F : Fr (onFB f b) w W) (g : GV n V) (hx : x ≤ n) (hx0 : x ≠ 0) :
    (rg27 10).wp Try.prog (Exit.then (PaO w f b n s (K.pushF V x) c1 c4 c5 c6 (.int .i64 (x : Nat)) 0 undef) fun _ _ _ => False) a W := by
  have hs := S.small
  have y0 := S.fb.cell (i := 0) rfl
  have HS := Lib.hid S
  have HF := Lib.hid F
  clear S F
  rw [ha]
  clear ha
  generalize gOf a = gg
  unfold PaF
  conv => arg 2; whnf
  go_wp2_with (go_at_call 52; refine (push_any _ HS.out g hx hx0).mono ?_; rintro e w1 ⟨rfl, hw1, F1⟩; replace hw1 := Lib.hid hw1; replace F1 := Lib.hid F1)
  refine (show PaO w f b n s (K.pushF V x) c1 c4 c5 c6 (.int .i64 (x : Nat)) 0 undef _ _ from ⟨rfl, fun h => absurd rfl h, hw1.out, HF.out.trans F1.out (fun k _ hk => .inr hk)⟩)

set_option maxRecDepth 100000 in
set_option maxHeartbeats 1000000 in
theorem pa_r12 {w W : World} {f b n : Nat} {s : Int} {V : K.Vs} {c1 c4 c5 c6 : Value} {x : Nat} {k N : Nat} {Vf : K.Vs} {a : Act} (ha : a = PaF f c1 c4 c5 c6 (.int .i64 (x : Nat)) (gOf a)) (S : FS W f b n s V) (F : Fr (onFB f b) w W) (g : GV n V) (hx : x ≤ n) (hx0 : x ≠ 0) (hsp : K.Splay (GV n) N V x k Vf) (hN : N ≤ 900) (hs1 : -4611686018427387904 ≤ s) (hs2 : s + k ≤ 4611686018427387904) :
    (rg27 12).wp Try.prog (Exit.then (PaO w f b n (s + k) (Vf) c1 c4 c5 c6 (.int .i64 (x : Nat)) 0 undef) fun _ _ _ => False) a W := by
  have hs := S.small
  have y0 := S.fb.cell (i := 0) rfl
  have HS := Lib.hid S
  have HF := Lib.hid F
  clear S F
  rw [ha]
  clear ha
  generalize gOf a = gg
  unfold PaF
  conv => arg 2; whnf
  go_wp2_with (go_at_call 53; refine (splay_any _ HS.out g hx hx0 hsp hN hs1 hs2).mono ?_; rintro e w1 ⟨rfl, hw1, F1⟩; replace hw1 := Lib.hid hw1; replace F1 := Lib.hid F1)
  refine (show PaO w f b n (s + k) (Vf) c1 c4 c5 c6 (.int .i64 (x : Nat)) 0 undef _ _ from ⟨rfl, fun h => absurd rfl h, hw1.out, HF.out.trans F1.out (fun k _ hk => hk)⟩)

set_option maxRecDepth 100000 in
set_option maxHeartbeats 1000000 in
theorem pa_r13 {w W : World} {f b n : Nat} {s : Int} {V : K.Vs} {c1 c4 c5 c6 : Value} {x : Nat} {a : Act} (ha : a = PaF f c1 c4 c5 c6 (.int .i64 (x : Nat)) (gOf a)) (S : FS W f b n s V) (F : Fr (onFB f b) w W) (hx : x ≤ n) (hx0 : x ≠ 0) :
    (rg27 13).wp Try.prog (Exit.then (PaO w f b n s V c1 (.int .i64 ((x : Int) - 1)) (.int .i64 0) c6 (.int .i64 (x : Nat)) 0 undef) fun _ _ _ => False) a W := by
  have hs := S.small
  have y0 := S.fb.cell (i := 0) rfl
  have HS := Lib.hid S
  have HF := Lib.hid F
  clear S F
  rw [ha]
  clear ha
  generalize gOf a = gg
  unfold PaF
  conv => arg 2; whnf
  go_wp2_with fail
  refine (show PaO w f b n s V c1 (.int .i64 ((x : Int) - 1)) (.int .i64 0) c6 (.int .i64 (x : Nat)) 0 undef _ _ from ⟨rfl, fun h => absurd rfl h, HS.out, HF.out⟩)
end Go.Proofs.Ytfeokafjehpgnaa
