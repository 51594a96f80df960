/- root: its regions. -/
import Derived.Test.YtfeokafjehpgnaaW17
namespace Go.Proofs.Ytfeokafjehpgnaa
open Go.RowKit
attribute [local go_sem ↓] Go.wp_at_zero Go.wp_at_succ
noncomputable def rg50 (i : Nat) : Code := ((Try.f50.body).bind (rgIn i)).getD .skip
set_option maxRecDepth 100000 in
/-- The frame of root. -/
def RoF (f : Nat) (c1 c4 : Value) (g : Nat → Value) : Act := ⟨#[.pointer (some ⟨f, 0, none⟩), c1, g 2, g 3, c4, g 5, g 6, g 7, g 8, g 9, g 10, g 11, g 12, g 13, g 14, g 15, g 16, g 17, g 18, g 19, g 20, g 21, g 22, g 23, g 24, g 25, g 26, g 27, g 28, g 29, g 30, g 31, g 32, g 33, g 34], []⟩
/-- What a region of root leaves. -/
def RoO (w : World) (f b n : Nat) (s : Int) (V : K.Vs) (c1 c4 : Value) (k : Nat) (c : Value) (a : Act) (D : World) : Prop := a = RoF f c1 c4 (gOf a) ∧ (k ≠ 0 → gOf a k = c) ∧ FS D f b n s V ∧ Fr (onFB f b) w D
theorem RoO.slot {w W : World} {f b n : Nat} {s : Int} {V : K.Vs} {c1 c4 : Value} {k : Nat} {v : Value} {a : Act} (h : RoO w f b n s V c1 c4 k v a W) (hk : k ≠ 0) : a.eval (.tmp k) = v := h.2.1 hk
theorem RoO.drop {w W : World} {f b n : Nat} {s : Int} {V : K.Vs} {c1 c4 : Value} {k : Nat} {v : Value} {a : Act} (h : RoO w f b n s V c1 c4 k v a W) : RoO w f b n s V c1 c4 0 undef a W := ⟨h.1, fun h => absurd rfl h, h.2.2⟩
set_option maxRecDepth 100000 in
set_option maxHeartbeats 1000000 in
theorem ro_r0 {w W : World} {f b n : Nat} {s : Int} {V : K.Vs} {c1 c4 : Value} {a : Act} (ha : a = RoF f c1 c4 (gOf a)) (S : FS W f b n s V) (F : Fr (onFB f b) w W) :
    (rg50 0).wp Try.prog (Exit.then (RoO w f b n s V c1 (.int .i64 (0 : Nat)) 0 undef) fun _ _ _ => False) a W := by
  have hs := S.small
  have y0 := S.fb.cell (i := 0) rfl
  have HS := Lib.hid S
  have HF := Lib.hid F
  clear S F
  rw [ha]
  clear ha
  generalize gOf a = gg
  unfold RoF
  conv => arg 2; whnf
  go_wp2_with fail
  refine (show RoO w f b n s V c1 (.int .i64 (0 : Nat)) 0 undef _ _ from ⟨rfl, fun h => absurd rfl h, HS.out, HF.out⟩)

set_option maxRecDepth 100000 in
set_option maxHeartbeats 1000000 in
theorem ro_r3 {w W : World} {f b n : Nat} {s : Int} {V : K.Vs} {c4 : Value} {x : Nat} {a : Act} (ha : a = RoF f (.int .i64 (x : Nat)) c4 (gOf a)) (S : FS W f b n s V) (F : Fr (onFB f b) w W) (hx : x ≤ n) :
    (rg50 3).wp Try.prog (Exit.then (RoO w f b n s V (.int .i64 (x : Nat)) c4 (19) (.bool (decide ((V x).left ≠ 0)))) fun _ _ _ => False) a W := by
  have hs := S.small
  have y0 := S.fb.cell (i := 0) rfl
  have y1 := S.c1 hx
  have bx : (x : Int) < (n : Int) + 1 := by omega
  have HS := Lib.hid S
  have HF := Lib.hid F
  clear S F
  rw [ha]
  clear ha
  generalize gOf a = gg
  unfold RoF
  conv => arg 2; whnf
  go_wp2_with fail
  refine (show RoO w f b n s V (.int .i64 (x : Nat)) c4 (19) (.bool (decide ((V x).left ≠ 0))) _ _ from ⟨rfl, fun _ => ?_, HS.out, HF.out⟩)
  unfold gOf
  simp
  by_cases e : (V x).left = 0 <;> simp [e]

set_option maxRecDepth 100000 in
set_option maxHeartbeats 1000000 in
theorem ro_r5 {w W : World} {f b n : Nat} {s : Int} {V : K.Vs} {c4 : Value} {x : Nat} {a : Act} (ha : a = RoF f (.int .i64 (x : Nat)) c4 (gOf a)) (S : FS W f b n s V) (F : Fr (onFB f b) w W) (hx : x ≤ n) :
    (rg50 5).wp Try.prog (Exit.then (RoO w f b n s V (.int .i64 ((V x).left : Nat)) c4 0 undef) fun _ _ _ => False) a W := by
  have hs := S.small
  have y0 := S.fb.cell (i := 0) rfl
  have y1 := S.c1 hx
  have bqx : (x : Int) < (n : Int) + 1 := by omega
  have HS := Lib.hid S
  have HF := Lib.hid F
  clear S F
  rw [ha]
  clear ha
  generalize gOf a = gg
  unfold RoF
  conv => arg 2; whnf
  go_wp2_with fail
  refine (show RoO w f b n s V (.int .i64 ((V x).left : Nat)) c4 0 undef _ _ from ⟨rfl, fun h => absurd rfl h, HS.out, HF.out⟩)

set_option maxRecDepth 100000 in
set_option maxHeartbeats 1000000 in
theorem ro_r2 {w W : World} {f b n : Nat} {s : Int} {V : K.Vs} {c4 : Value} {x : Nat} {a : Act} (ha : a = RoF f (.int .i64 (x : Nat)) c4 (gOf a)) (S : FS W f b n s V) (F : Fr (onFB f b) w W) (g : GV n V) (hx : x ≤ n) (hx0 : x ≠ 0) :
    (rg50 2).wp Try.prog (Exit.then (RoO w f b n s (K.pushF V x) (.int .i64 (x : Nat)) c4 0 undef) fun _ _ _ => False) a W := by
  have hs := S.small
  have y0 := S.fb.cell (i := 0) rfl
  have HS := Lib.hid S
  have HF := Lib.hid F
  clear S F
  rw [ha]
  clear ha
  generalize gOf a = gg
  unfold RoF
  conv => arg 2; whnf
  go_wp2_with (go_at_call 52; refine (push_any _ HS.out g hx hx0).mono ?_; rintro e w1 ⟨rfl, hw1, F1⟩; replace hw1 := Lib.hid hw1; replace F1 := Lib.hid F1)
  refine (show RoO w f b n s (K.pushF V x) (.int .i64 (x : Nat)) c4 0 undef _ _ from ⟨rfl, fun h => absurd rfl h, hw1.out, HF.out.trans F1.out (fun k _ hk => .inr hk)⟩)

set_option maxRecDepth 100000 in
set_option maxHeartbeats 1000000 in
theorem ro_r4 {w W : World} {f b n : Nat} {s : Int} {V : K.Vs} {c4 : Value} {x : Nat} {a : Act} (ha : a = RoF f (.int .i64 (x : Nat)) c4 (gOf a)) (S : FS W f b n s V) (F : Fr (onFB f b) w W) (g : GV n V) (hx : x ≤ n) (hx0 : x ≠ 0) :
    (rg50 4).wp Try.prog (Exit.then (RoO w f b n s (K.pushF V x) (.int .i64 (x : Nat)) c4 0 undef) fun _ _ _ => False) a W := by
  have hs := S.small
  have y0 := S.fb.cell (i := 0) rfl
  have HS := Lib.hid S
  have HF := Lib.hid F
  clear S F
  rw [ha]
  clear ha
  generalize gOf a = gg
  unfold RoF
  conv => arg 2; whnf
  go_wp2_with (go_at_call 52; refine (push_any _ HS.out g hx hx0).mono ?_; rintro e w1 ⟨rfl, hw1, F1⟩; replace hw1 := Lib.hid hw1; replace F1 := Lib.hid F1)
  refine (show RoO w f b n s (K.pushF V x) (.int .i64 (x : Nat)) c4 0 undef _ _ from ⟨rfl, fun h => absurd rfl h, hw1.out, HF.out.trans F1.out (fun k _ hk => .inr hk)⟩)

set_option maxRecDepth 100000 in
set_option maxHeartbeats 1000000 in
theorem ro_r6 {w W : World} {f b n : Nat} {s : Int} {V : K.Vs} {c4 : Value} {x : Nat} {k N : Nat} {Vf : K.Vs} {a : Act} (ha : a = RoF f (.int .i64 (x : Nat)) c4 (gOf a)) (S : FS W f b n s V) (F : Fr (onFB f b) w W) (g : GV n V) (hx : x ≤ n) (hx0 : x ≠ 0) (hsp : K.Splay (GV n) N V x k Vf) (hN : N ≤ 900) (hs1 : -4611686018427387904 ≤ s) (hs2 : s + k ≤ 4611686018427387904) :
    (rg50 6).wp Try.prog (Exit.then (RoO w f b n (s + k) (Vf) (.int .i64 (x : Nat)) c4 0 undef) fun _ _ _ => False) a W := by
  have hs := S.small
  have y0 := S.fb.cell (i := 0) rfl
  have HS := Lib.hid S
  have HF := Lib.hid F
  clear S F
  rw [ha]
  clear ha
  generalize gOf a = gg
  unfold RoF
  conv => arg 2; whnf
  go_wp2_with (go_at_call 53; refine (splay_any _ HS.out g hx hx0 hsp hN hs1 hs2).mono ?_; rintro e w1 ⟨rfl, hw1, F1⟩; replace hw1 := Lib.hid hw1; replace F1 := Lib.hid F1)
  refine (show RoO w f b n (s + k) (Vf) (.int .i64 (x : Nat)) c4 0 undef _ _ from ⟨rfl, fun h => absurd rfl h, hw1.out, HF.out.trans F1.out (fun k _ hk => hk)⟩)

set_option maxRecDepth 100000 in
set_option maxHeartbeats 1000000 in
theorem ro_r7 {w W : World} {f b n : Nat} {s : Int} {V : K.Vs} {c1 c4 : Value} {a : Act} (ha : a = RoF f c1 c4 (gOf a)) (S : FS W f b n s V) (F : Fr (onFB f b) w W) :
    (rg50 7).wp Try.prog (Exit.then (RoO w f b n s V c1 (c1) 0 undef) fun _ _ _ => False) a W := by
  have hs := S.small
  have y0 := S.fb.cell (i := 0) rfl
  have HS := Lib.hid S
  have HF := Lib.hid F
  clear S F
  rw [ha]
  clear ha
  generalize gOf a = gg
  unfold RoF
  conv => arg 2; whnf
  go_wp2_with fail
  refine (show RoO w f b n s V c1 (c1) 0 undef _ _ from ⟨rfl, fun h => absurd rfl h, HS.out, HF.out⟩)
end Go.Proofs.Ytfeokafjehpgnaa
