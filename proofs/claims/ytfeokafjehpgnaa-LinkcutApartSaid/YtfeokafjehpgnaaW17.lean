/- access: its regions. -/
import Derived.Test.YtfeokafjehpgnaaW16
namespace Go.Proofs.Ytfeokafjehpgnaa
open Go.RowKit
attribute [local go_sem ↓] Go.wp_at_zero Go.wp_at_succ
noncomputable def rg41 (i : Nat) : Code := ((Try.f41.body).bind (rgIn i)).getD .skip
set_option maxRecDepth 100000 in
/-- The frame of access. -/
def AcF (f : Nat) (c1 c4 c5 c6 : Value) (g : Nat → Value) : Act := ⟨#[.pointer (some ⟨f, 0, none⟩), c1, g 2, g 3, c4, c5, c6, g 7, g 8, g 9, g 10, g 11, g 12, g 13, g 14, g 15, g 16, g 17, g 18, g 19, g 20, g 21, g 22, g 23, g 24, g 25, g 26, g 27, g 28, g 29, g 30, g 31, g 32, g 33, g 34, g 35, g 36, g 37, g 38, g 39, g 40, g 41, g 42, g 43], []⟩
/-- What a region of access leaves. -/
def AcO (w : World) (f b n : Nat) (s : Int) (V : K.Vs) (c1 c4 c5 c6 : Value) (k : Nat) (c : Value) (a : Act) (D : World) : Prop := a = AcF f c1 c4 c5 c6 (gOf a) ∧ (k ≠ 0 → gOf a k = c) ∧ FS D f b n s V ∧ Fr (onFB f b) w D
theorem AcO.slot {w W : World} {f b n : Nat} {s : Int} {V : K.Vs} {c1 c4 c5 c6 : Value} {k : Nat} {v : Value} {a : Act} (h : AcO w f b n s V c1 c4 c5 c6 k v a W) (hk : k ≠ 0) : a.eval (.tmp k) = v := h.2.1 hk
theorem AcO.drop {w W : World} {f b n : Nat} {s : Int} {V : K.Vs} {c1 c4 c5 c6 : Value} {k : Nat} {v : Value} {a : Act} (h : AcO w f b n s V c1 c4 c5 c6 k v a W) : AcO w f b n s V c1 c4 c5 c6 0 undef a W := ⟨h.1, fun h => absurd rfl h, h.2.2⟩
set_option maxRecDepth 100000 in
set_option maxHeartbeats 1000000 in
theorem ac_r0 {w W : World} {f b n : Nat} {s : Int} {V : K.Vs} {c1 c4 c5 c6 : Value} {a : Act} (ha : a = AcF f c1 c4 c5 c6 (gOf a)) (S : FS W f b n s V) (F : Fr (onFB f b) w W) :
    (rg41 0).wp Try.prog (Exit.then (AcO w f b n s V c1 (.int .i64 (0 : Nat)) c5 c6 0 undef) fun _ _ _ => False) a W := by
  have hs := S.small
  have y0 := S.fb.cell (i := 0) rfl
  have HS := Lib.hid S
  have HF := Lib.hid F
  clear S F
  rw [ha]
  clear ha
  generalize gOf a = gg
  unfold AcF
  conv => arg 2; whnf
  go_wp2_with fail
  refine (show AcO w f b n s V c1 (.int .i64 (0 : Nat)) c5 c6 0 undef _ _ from ⟨rfl, fun h => absurd rfl h, HS.out, HF.out⟩)

set_option maxRecDepth 100000 in
set_option maxHeartbeats 1000000 in
theorem ac_r1 {w W : World} {f b n : Nat} {s : Int} {V : K.Vs} {c1 c4 c5 c6 : Value} {a : Act} (ha : a = AcF f c1 c4 c5 c6 (gOf a)) (S : FS W f b n s V) (F : Fr (onFB f b) w W) (hs1 : -4611686018427387904 ≤ s) (hs2 : s ≤ 4611686018427387904) :
    (rg41 1).wp Try.prog (Exit.then (AcO w f b n (s + 1) V c1 c4 c5 c6 0 undef) fun _ _ _ => False) a W := by
  have hs := S.small
  have y0 := S.fb.cell (i := 0) rfl
  have y1 := S.fb.cell (i := 1) rfl
  have z1 := S.fb.free 1
  have HS := Lib.hid S
  have HF := Lib.hid F
  clear S F
  rw [ha]
  clear ha
  generalize gOf a = gg
  unfold AcF
  conv => arg 2; whnf
  go_wp2_with fail
  refine (show AcO w f b n (s + 1) V c1 c4 c5 c6 0 undef _ _ from ⟨rfl, fun h => absurd rfl h, HS.out.step _, HF.out.setCell (p := ⟨f, 1, none⟩) (fun _ => .inl rfl) _⟩)

set_option maxRecDepth 100000 in
set_option maxHeartbeats 1000000 in
theorem ac_r2 {w W : World} {f b n : Nat} {s : Int} {V : K.Vs} {c1 c4 c5 c6 : Value} {a : Act} (ha : a = AcF f c1 c4 c5 c6 (gOf a)) (S : FS W f b n s V) (F : Fr (onFB f b) w W) :
    (rg41 2).wp Try.prog (Exit.then (AcO w f b n s V c1 c4 (.int .i64 (0 : Nat)) c6 0 undef) fun _ _ _ => False) a W := by
  have hs := S.small
  have y0 := S.fb.cell (i := 0) rfl
  have HS := Lib.hid S
  have HF := Lib.hid F
  clear S F
  rw [ha]
  clear ha
  generalize gOf a = gg
  unfold AcF
  conv => arg 2; whnf
  go_wp2_with fail
  refine (show AcO w f b n s V c1 c4 (.int .i64 (0 : Nat)) c6 0 undef _ _ from ⟨rfl, fun h => absurd rfl h, HS.out, HF.out⟩)

set_option maxRecDepth 100000 in
set_option maxHeartbeats 1000000 in
theorem ac_r3 {w W : World} {f b n : Nat} {s : Int} {V : K.Vs} {c1 c4 c5 c6 : Value} {a : Act} (ha : a = AcF f c1 c4 c5 c6 (gOf a)) (S : FS W f b n s V) (F : Fr (onFB f b) w W) :
    (rg41 3).wp Try.prog (Exit.then (AcO w f b n s V c1 c4 c5 (c1) 0 undef) fun _ _ _ => False) a W := by
  have hs := S.small
  have y0 := S.fb.cell (i := 0) rfl
  have HS := Lib.hid S
  have HF := Lib.hid F
  clear S F
  rw [ha]
  clear ha
  generalize gOf a = gg
  unfold AcF
  conv => arg 2; whnf
  go_wp2_with fail
  refine (show AcO w f b n s V c1 c4 c5 (c1) 0 undef _ _ from ⟨rfl, fun h => absurd rfl h, HS.out, HF.out⟩)

set_option maxRecDepth 100000 in
set_option maxHeartbeats 1000000 in
theorem ac_r4 {w W : World} {f b n : Nat} {s : Int} {V : K.Vs} {c1 c4 c5 : Value} {y : Nat} {a : Act} (ha : a = AcF f c1 c4 c5 (.int .i64 (y : Nat)) (gOf a)) (S : FS W f b n s V) (F : Fr (onFB f b) w W) :
    (rg41 4).wp Try.prog (Exit.then (AcO w f b n s V c1 c4 c5 (.int .i64 (y : Nat)) (16) (.bool (decide (y ≠ 0)))) fun _ _ _ => False) a W := by
  have hs := S.small
  have y0 := S.fb.cell (i := 0) rfl
  have HS := Lib.hid S
  have HF := Lib.hid F
  clear S F
  rw [ha]
  clear ha
  generalize gOf a = gg
  unfold AcF
  conv => arg 2; whnf
  go_wp2_with fail
  refine (show AcO w f b n s V c1 c4 c5 (.int .i64 (y : Nat)) (16) (.bool (decide (y ≠ 0))) _ _ from ⟨rfl, fun _ => ?_, HS.out, HF.out⟩)
  unfold gOf
  simp
  by_cases e : y = 0 <;> simp [e]

set_option maxRecDepth 100000 in
set_option maxHeartbeats 1000000 in
theorem ac_r6 {w W : World} {f b n : Nat} {s : Int} {V : K.Vs} {c1 c4 c5 : Value} {y : Nat} {k N : Nat} {Vf : K.Vs} {a : Act} (ha : a = AcF f c1 c4 c5 (.int .i64 (y : Nat)) (gOf a)) (S : FS W f b n s V) (F : Fr (onFB f b) w W) (g : GV n V) (hy : y ≤ n) (hy0 : y ≠ 0) (hsp : K.Splay (GV n) N V y k Vf) (hN : N ≤ 900) (hs1 : -4611686018427387904 ≤ s) (hs2 : s + k ≤ 4611686018427387904) :
    (rg41 6).wp Try.prog (Exit.then (AcO w f b n (s + k) (Vf) c1 c4 c5 (.int .i64 (y : Nat)) 0 undef) fun _ _ _ => False) a W := by
  have hs := S.small
  have y0 := S.fb.cell (i := 0) rfl
  have HS := Lib.hid S
  have HF := Lib.hid F
  clear S F
  rw [ha]
  clear ha
  generalize gOf a = gg
  unfold AcF
  conv => arg 2; whnf
  go_wp2_with (go_at_call 53; refine (splay_any _ HS.out g hy hy0 hsp hN hs1 hs2).mono ?_; rintro e w1 ⟨rfl, hw1, F1⟩; replace hw1 := Lib.hid hw1; replace F1 := Lib.hid F1)
  refine (show AcO w f b n (s + k) (Vf) c1 c4 c5 (.int .i64 (y : Nat)) 0 undef _ _ from ⟨rfl, fun h => absurd rfl h, hw1.out, HF.out.trans F1.out (fun k _ hk => hk)⟩)

set_option maxRecDepth 100000 in
set_option maxHeartbeats 1000000 in
theorem ac_r7 {w W : World} {f b n : Nat} {s : Int} {V : K.Vs} {c1 c4 : Value} {y l : Nat} {a : Act} (ha : a = AcF f c1 c4 (.int .i64 (l : Nat)) (.int .i64 (y : Nat)) (gOf a)) (S : FS W f b n s V) (F : Fr (onFB f b) w W) (hy : y ≤ n) (hl : l ≤ n) :
    (rg41 7).wp Try.prog (Exit.then (AcO w f b n s (K.put V y { V y with right := l }) c1 c4 (.int .i64 (l : Nat)) (.int .i64 (y : Nat)) 0 undef) fun _ _ _ => False) a W := by
  have hs := S.small
  have y0 := S.fb.cell (i := 0) rfl
  have y1 := S.c2 hy
  have z1 := S.free (y * 9 + 2)
  have bqy : (y : Int) < (n : Int) + 1 := by omega
  have HS := Lib.hid S
  have HF := Lib.hid F
  clear S F
  rw [ha]
  clear ha
  generalize gOf a = gg
  unfold AcF
  conv => arg 2; whnf
  go_wp2_with fail
  refine (show AcO w f b n s (K.put V y { V y with right := l }) c1 c4 (.int .i64 (l : Nat)) (.int .i64 (y : Nat)) 0 undef _ _ from ⟨rfl, fun h => absurd rfl h, ?_, HF.out.setCell (p := ⟨b, y * 9 + 2, none⟩) (fun _ => .inr rfl) _⟩)
  exact HS.out.putN hy (j := 2) (by omega) (.int .i64 (l : Nat)) (v := { V y with right := l }) (fld9 rfl rfl rfl rfl rfl rfl rfl rfl rfl)

set_option maxRecDepth 100000 in
set_option maxHeartbeats 1000000 in
theorem ac_r8 {w W : World} {f b n : Nat} {s : Int} {V : K.Vs} {c1 c4 c5 : Value} {y : Nat} {a : Act} (ha : a = AcF f c1 c4 c5 (.int .i64 (y : Nat)) (gOf a)) (S : FS W f b n s V) (F : Fr (onFB f b) w W) (g : BV n V) (hy : y ≤ n) :
    (rg41 8).wp Try.prog (Exit.then (AcO w f b n s (K.pullF V y) c1 c4 c5 (.int .i64 (y : Nat)) 0 undef) fun _ _ _ => False) a W := by
  have hs := S.small
  have y0 := S.fb.cell (i := 0) rfl
  have HS := Lib.hid S
  have HF := Lib.hid F
  clear S F
  rw [ha]
  clear ha
  generalize gOf a = gg
  unfold AcF
  conv => arg 2; whnf
  go_wp2_with (go_at_call 48; refine (pull_any _ HS.out g hy).mono ?_; rintro e w1 ⟨rfl, hw1, F1⟩; replace hw1 := Lib.hid hw1; replace F1 := Lib.hid F1)
  refine (show AcO w f b n s (K.pullF V y) c1 c4 c5 (.int .i64 (y : Nat)) 0 undef _ _ from ⟨rfl, fun h => absurd rfl h, hw1.out, HF.out.trans F1.out (fun k _ hk => .inr hk)⟩)

set_option maxRecDepth 100000 in
set_option maxHeartbeats 1000000 in
theorem ac_r9 {w W : World} {f b n : Nat} {s : Int} {V : K.Vs} {c1 c4 c5 c6 : Value} {a : Act} (ha : a = AcF f c1 c4 c5 c6 (gOf a)) (S : FS W f b n s V) (F : Fr (onFB f b) w W) :
    (rg41 9).wp Try.prog (Exit.then (AcO w f b n s V c1 c4 (c6) c6 0 undef) fun _ _ _ => False) a W := by
  have hs := S.small
  have y0 := S.fb.cell (i := 0) rfl
  have HS := Lib.hid S
  have HF := Lib.hid F
  clear S F
  rw [ha]
  clear ha
  generalize gOf a = gg
  unfold AcF
  conv => arg 2; whnf
  go_wp2_with fail
  refine (show AcO w f b n s V c1 c4 (c6) c6 0 undef _ _ from ⟨rfl, fun h => absurd rfl h, HS.out, HF.out⟩)

set_option maxRecDepth 100000 in
set_option maxHeartbeats 1000000 in
theorem ac_r5 {w W : World} {f b n : Nat} {s : Int} {V : K.Vs} {c1 c4 c5 : Value} {y : Nat} {a : Act} (ha : a = AcF f c1 c4 c5 (.int .i64 (y : Nat)) (gOf a)) (S : FS W f b n s V) (F : Fr (onFB f b) w W) (hy : y ≤ n) :
    (rg41 5).wp Try.prog (Exit.then (AcO w f b n s V c1 c4 c5 (.int .i64 ((V y).up : Nat)) 0 undef) fun _ _ _ => False) a W := by
  have hs := S.small
  have y0 := S.fb.cell (i := 0) rfl
  have y1 := S.c0 hy
  have bqy : (y : Int) < (n : Int) + 1 := by omega
  have HS := Lib.hid S
  have HF := Lib.hid F
  clear S F
  rw [ha]
  clear ha
  generalize gOf a = gg
  unfold AcF
  conv => arg 2; whnf
  go_wp2_with fail
  refine (show AcO w f b n s V c1 c4 c5 (.int .i64 ((V y).up : Nat)) 0 undef _ _ from ⟨rfl, fun h => absurd rfl h, HS.out, HF.out⟩)

set_option maxRecDepth 100000 in
set_option maxHeartbeats 1000000 in
theorem ac_r10 {w W : World} {f b n : Nat} {s : Int} {V : K.Vs} {c4 c5 c6 : Value} {x : Nat} {k N : Nat} {Vf : K.Vs} {a : Act} (ha : a = AcF f (.int .i64 (x : Nat)) c4 c5 c6 (gOf a)) (S : FS W f b n s V) (F : Fr (onFB f b) w W) (g : GV n V) (hx : x ≤ n) (hx0 : x ≠ 0) (hsp : K.Splay (GV n) N V x k Vf) (hN : N ≤ 900) (hs1 : -4611686018427387904 ≤ s) (hs2 : s + k ≤ 4611686018427387904) :
    (rg41 10).wp Try.prog (Exit.then (AcO w f b n (s + k) (Vf) (.int .i64 (x : Nat)) c4 c5 c6 0 undef) fun _ _ _ => False) a W := by
  have hs := S.small
  have y0 := S.fb.cell (i := 0) rfl
  have HS := Lib.hid S
  have HF := Lib.hid F
  clear S F
  rw [ha]
  clear ha
  generalize gOf a = gg
  unfold AcF
  conv => arg 2; whnf
  go_wp2_with (go_at_call 53; refine (splay_any _ HS.out g hx hx0 hsp hN hs1 hs2).mono ?_; rintro e w1 ⟨rfl, hw1, F1⟩; replace hw1 := Lib.hid hw1; replace F1 := Lib.hid F1)
  refine (show AcO w f b n (s + k) (Vf) (.int .i64 (x : Nat)) c4 c5 c6 0 undef _ _ from ⟨rfl, fun h => absurd rfl h, hw1.out, HF.out.trans F1.out (fun k _ hk => hk)⟩)

set_option maxRecDepth 100000 in
set_option maxHeartbeats 1000000 in
theorem ac_r11 {w W : World} {f b n : Nat} {s : Int} {V : K.Vs} {c1 c4 c5 c6 : Value} {a : Act} (ha : a = AcF f c1 c4 c5 c6 (gOf a)) (S : FS W f b n s V) (F : Fr (onFB f b) w W) :
    (rg41 11).wp Try.prog (Exit.then (AcO w f b n s V c1 (c5) c5 c6 0 undef) fun _ _ _ => False) a W := by
  have hs := S.small
  have y0 := S.fb.cell (i := 0) rfl
  have HS := Lib.hid S
  have HF := Lib.hid F
  clear S F
  rw [ha]
  clear ha
  generalize gOf a = gg
  unfold AcF
  conv => arg 2; whnf
  go_wp2_with fail
  refine (show AcO w f b n s V c1 (c5) c5 c6 0 undef _ _ from ⟨rfl, fun h => absurd rfl h, HS.out, HF.out⟩)
end Go.Proofs.Ytfeokafjehpgnaa
