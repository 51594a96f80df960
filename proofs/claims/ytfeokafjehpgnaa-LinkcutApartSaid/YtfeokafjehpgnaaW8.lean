/- rotate: its regions. -/
import Derived.Test.YtfeokafjehpgnaaW7
namespace Go.Proofs.Ytfeokafjehpgnaa
open Go.RowKit
attribute [local go_sem ↓] Go.wp_at_zero Go.wp_at_succ
set_option maxRecDepth 100000 in
set_option maxHeartbeats 1000000 in
theorem rot_r0 {w W : World} {f b n : Nat} {s : Int} {V : K.Vs} {x : Nat} {c4 c5 c6 : Value} {a : Act} (ha : a = RF f x c4 c5 c6 (gOf a)) (S : FS W f b n s V) (F : Fr (onFB f b) w W) (hx : x ≤ n) (hs1 : -4611686018427387904 ≤ s) (hs2 : s ≤ 4611686018427387904) :
    (rg65 0).wp Try.prog (Exit.then (RO w f b n (s + 1) (V) x (c4) (c5) (c6) 0 (undef)) fun _ _ _ => False) a W := by
  have hs := S.small
  have y0 := S.fb.cell (i := 0) rfl
  have bx : (x : Int) < (n : Int) + 1 := by omega
  have y1 := S.fb.cell (i := 1) rfl
  have z1 := S.fb.free 1
  have HS := Lib.hid S
  have HF := Lib.hid F
  clear S F
  rw [ha]
  clear ha
  generalize gOf a = gg
  unfold RF
  conv => arg 2; whnf
  go_wp2_with fail
  refine (show RO w f b n (s + 1) (V) x (c4) (c5) (c6) 0 (undef) _ _ from ⟨rfl, fun h => absurd rfl h, HS.out.step _, HF.out.setCell (p := ⟨f, 1, none⟩) (fun _ => .inl rfl) _⟩)

set_option maxRecDepth 100000 in
set_option maxHeartbeats 1000000 in
theorem rot_r1 {w W : World} {f b n : Nat} {s : Int} {V : K.Vs} {x : Nat} {c4 c5 c6 : Value} {a : Act} (ha : a = RF f x c4 c5 c6 (gOf a)) (S : FS W f b n s V) (F : Fr (onFB f b) w W) (hx : x ≤ n) :
    (rg65 1).wp Try.prog (Exit.then (RO w f b n (s) (V) x (.int .i64 ((V x).up : Nat)) (c5) (c6) 0 (undef)) fun _ _ _ => False) a W := by
  have hs := S.small
  have y0 := S.fb.cell (i := 0) rfl
  have bx : (x : Int) < (n : Int) + 1 := by omega
  have y1 := S.c0 hx
  have HS := Lib.hid S
  have HF := Lib.hid F
  clear S F
  rw [ha]
  clear ha
  generalize gOf a = gg
  unfold RF
  conv => arg 2; whnf
  go_wp2_with fail
  refine (show RO w f b n (s) (V) x (.int .i64 ((V x).up : Nat)) (c5) (c6) 0 (undef) _ _ from ⟨rfl, fun h => absurd rfl h, HS.out, HF.out⟩)

set_option maxRecDepth 100000 in
set_option maxHeartbeats 1000000 in
theorem rot_r2 {w W : World} {f b n : Nat} {s : Int} {V : K.Vs} {x : Nat} {c5 c6 : Value} {p : Nat} {a : Act} (ha : a = RF f x (.int .i64 (p : Nat)) c5 c6 (gOf a)) (S : FS W f b n s V) (F : Fr (onFB f b) w W) (hx : x ≤ n) (hp : p ≤ n) :
    (rg65 2).wp Try.prog (Exit.then (RO w f b n (s) (V) x (.int .i64 (p : Nat)) (.int .i64 ((V p).up : Nat)) (c6) 0 (undef)) fun _ _ _ => False) a W := by
  have hs := S.small
  have y0 := S.fb.cell (i := 0) rfl
  have bx : (x : Int) < (n : Int) + 1 := by omega
  have bp : (p : Int) < (n : Int) + 1 := by omega
  have y1 := S.c0 hp
  have HS := Lib.hid S
  have HF := Lib.hid F
  clear S F
  rw [ha]
  clear ha
  generalize gOf a = gg
  unfold RF
  conv => arg 2; whnf
  go_wp2_with fail
  refine (show RO w f b n (s) (V) x (.int .i64 (p : Nat)) (.int .i64 ((V p).up : Nat)) (c6) 0 (undef) _ _ from ⟨rfl, fun h => absurd rfl h, HS.out, HF.out⟩)

set_option maxRecDepth 100000 in
set_option maxHeartbeats 1000000 in
theorem rot_r3 {w W : World} {f b n : Nat} {s : Int} {V : K.Vs} {x : Nat} {c5 c6 : Value} {p : Nat} {a : Act} (ha : a = RF f x (.int .i64 (p : Nat)) c5 c6 (gOf a)) (S : FS W f b n s V) (F : Fr (onFB f b) w W) (hx : x ≤ n) (hp : p ≤ n) (g : GV n V) :
    (rg65 3).wp Try.prog (Exit.then (RO w f b n (s) (V) x (.int .i64 (p : Nat)) (c5) (c6) 33 (.bool (!K.topB V p))) fun _ _ _ => False) a W := by
  have hs := S.small
  have y0 := S.fb.cell (i := 0) rfl
  have bx : (x : Int) < (n : Int) + 1 := by omega
  have bp : (p : Int) < (n : Int) + 1 := by omega
  have HS := Lib.hid S
  have HF := Lib.hid F
  clear S F
  rw [ha]
  clear ha
  generalize gOf a = gg
  unfold RF
  conv => arg 2; whnf
  go_wp2_with (go_at_call 63; refine (top_any _ HS.out g hp).mono ?_; rintro e w1 ⟨rfl, rfl⟩)
  refine (show RO w f b n (s) (V) x (.int .i64 (p : Nat)) (c5) (c6) 33 (.bool (!K.topB V p)) _ _ from ⟨rfl, fun _ => rfl, HS.out, HF.out⟩)

set_option maxRecDepth 100000 in
set_option maxHeartbeats 1000000 in
theorem rot_r4 {w W : World} {f b n : Nat} {s : Int} {V : K.Vs} {x : Nat} {c6 : Value} {p : Nat} {g : Nat} {a : Act} (ha : a = RF f x (.int .i64 (p : Nat)) (.int .i64 (g : Nat)) c6 (gOf a)) (S : FS W f b n s V) (F : Fr (onFB f b) w W) (hx : x ≤ n) (hp : p ≤ n) (hg : g ≤ n) :
    (rg65 4).wp Try.prog (Exit.then (RO w f b n (s) (V) x (.int .i64 (p : Nat)) (.int .i64 (g : Nat)) (c6) 43 (.bool (decide ((V g).left = p)))) fun _ _ _ => False) a W := by
  have hs := S.small
  have y0 := S.fb.cell (i := 0) rfl
  have bx : (x : Int) < (n : Int) + 1 := by omega
  have bp : (p : Int) < (n : Int) + 1 := by omega
  have bg : (g : Int) < (n : Int) + 1 := by omega
  have y1 := S.c1 hg
  have HS := Lib.hid S
  have HF := Lib.hid F
  clear S F
  rw [ha]
  clear ha
  generalize gOf a = gg
  unfold RF
  conv => arg 2; whnf
  go_wp2_with fail
  refine (show RO w f b n (s) (V) x (.int .i64 (p : Nat)) (.int .i64 (g : Nat)) (c6) 43 (.bool (decide ((V g).left = p))) _ _ from ⟨rfl, fun _ => ?_, HS.out, HF.out⟩)
  unfold gOf
  simp
  exact nat_beq _ _

set_option maxRecDepth 100000 in
set_option maxHeartbeats 1000000 in
theorem rot_r5 {w W : World} {f b n : Nat} {s : Int} {V : K.Vs} {x : Nat} {c6 : Value} {p : Nat} {g : Nat} {a : Act} (ha : a = RF f x (.int .i64 (p : Nat)) (.int .i64 (g : Nat)) c6 (gOf a)) (S : FS W f b n s V) (F : Fr (onFB f b) w W) (hx : x ≤ n) (hp : p ≤ n) (hg : g ≤ n) :
    (rg65 5).wp Try.prog (Exit.then (RO w f b n (s) (K.put V g { V g with left := x }) x (.int .i64 (p : Nat)) (.int .i64 (g : Nat)) (c6) 0 (undef)) fun _ _ _ => False) a W := by
  have hs := S.small
  have y0 := S.fb.cell (i := 0) rfl
  have bx : (x : Int) < (n : Int) + 1 := by omega
  have bp : (p : Int) < (n : Int) + 1 := by omega
  have bg : (g : Int) < (n : Int) + 1 := by omega
  have y1 := S.c1 hg
  have z1 := S.free (g * 9 + 1)
  have HS := Lib.hid S
  have HF := Lib.hid F
  clear S F
  rw [ha]
  clear ha
  generalize gOf a = gg
  unfold RF
  conv => arg 2; whnf
  go_wp2_with fail
  refine (show RO w f b n (s) (K.put V g { V g with left := x }) x (.int .i64 (p : Nat)) (.int .i64 (g : Nat)) (c6) 0 (undef) _ _ from ⟨rfl, fun h => absurd rfl h, ?_, HF.out.setCell (p := ⟨b, g * 9 + 1, none⟩) (fun _ => .inr rfl) _⟩)
  exact HS.out.putN hg (j := 1) (by omega) (.int .i64 (x : Nat)) (v := { V g with left := x }) (fld9 rfl rfl rfl rfl rfl rfl rfl rfl rfl)

set_option maxRecDepth 100000 in
set_option maxHeartbeats 1000000 in
theorem rot_r6 {w W : World} {f b n : Nat} {s : Int} {V : K.Vs} {x : Nat} {c6 : Value} {p : Nat} {g : Nat} {a : Act} (ha : a = RF f x (.int .i64 (p : Nat)) (.int .i64 (g : Nat)) c6 (gOf a)) (S : FS W f b n s V) (F : Fr (onFB f b) w W) (hx : x ≤ n) (hp : p ≤ n) (hg : g ≤ n) :
    (rg65 6).wp Try.prog (Exit.then (RO w f b n (s) (K.put V g { V g with right := x }) x (.int .i64 (p : Nat)) (.int .i64 (g : Nat)) (c6) 0 (undef)) fun _ _ _ => False) a W := by
  have hs := S.small
  have y0 := S.fb.cell (i := 0) rfl
  have bx : (x : Int) < (n : Int) + 1 := by omega
  have bp : (p : Int) < (n : Int) + 1 := by omega
  have bg : (g : Int) < (n : Int) + 1 := by omega
  have y1 := S.c2 hg
  have z1 := S.free (g * 9 + 2)
  have HS := Lib.hid S
  have HF := Lib.hid F
  clear S F
  rw [ha]
  clear ha
  generalize gOf a = gg
  unfold RF
  conv => arg 2; whnf
  go_wp2_with fail
  refine (show RO w f b n (s) (K.put V g { V g with right := x }) x (.int .i64 (p : Nat)) (.int .i64 (g : Nat)) (c6) 0 (undef) _ _ from ⟨rfl, fun h => absurd rfl h, ?_, HF.out.setCell (p := ⟨b, g * 9 + 2, none⟩) (fun _ => .inr rfl) _⟩)
  exact HS.out.putN hg (j := 2) (by omega) (.int .i64 (x : Nat)) (v := { V g with right := x }) (fld9 rfl rfl rfl rfl rfl rfl rfl rfl rfl)

set_option maxRecDepth 100000 in
set_option maxHeartbeats 1000000 in
theorem rot_r7 {w W : World} {f b n : Nat} {s : Int} {V : K.Vs} {x : Nat} {c4 c5 c6 : Value} {a : Act} (ha : a = RF f x c4 c5 c6 (gOf a)) (S : FS W f b n s V) (F : Fr (onFB f b) w W) (hx : x ≤ n) :
    (rg65 7).wp Try.prog (Exit.then (RO w f b n (s) (V) x (c4) (c5) (.int .i64 (0 : Nat)) 0 (undef)) fun _ _ _ => False) a W := by
  have hs := S.small
  have y0 := S.fb.cell (i := 0) rfl
  have bx : (x : Int) < (n : Int) + 1 := by omega
  have HS := Lib.hid S
  have HF := Lib.hid F
  clear S F
  rw [ha]
  clear ha
  generalize gOf a = gg
  unfold RF
  conv => arg 2; whnf
  go_wp2_with fail
  refine (show RO w f b n (s) (V) x (c4) (c5) (.int .i64 (0 : Nat)) 0 (undef) _ _ from ⟨rfl, fun h => absurd rfl h, HS.out, HF.out⟩)

set_option maxRecDepth 100000 in
set_option maxHeartbeats 1000000 in
theorem rot_r8 {w W : World} {f b n : Nat} {s : Int} {V : K.Vs} {x : Nat} {c5 c6 : Value} {p : Nat} {a : Act} (ha : a = RF f x (.int .i64 (p : Nat)) c5 c6 (gOf a)) (S : FS W f b n s V) (F : Fr (onFB f b) w W) (hx : x ≤ n) (hp : p ≤ n) :
    (rg65 8).wp Try.prog (Exit.then (RO w f b n (s) (V) x (.int .i64 (p : Nat)) (c5) (c6) 69 (.bool (decide ((V p).left = x)))) fun _ _ _ => False) a W := by
  have hs := S.small
  have y0 := S.fb.cell (i := 0) rfl
  have bx : (x : Int) < (n : Int) + 1 := by omega
  have bp : (p : Int) < (n : Int) + 1 := by omega
  have y1 := S.c1 hp
  have HS := Lib.hid S
  have HF := Lib.hid F
  clear S F
  rw [ha]
  clear ha
  generalize gOf a = gg
  unfold RF
  conv => arg 2; whnf
  go_wp2_with fail
  refine (show RO w f b n (s) (V) x (.int .i64 (p : Nat)) (c5) (c6) 69 (.bool (decide ((V p).left = x))) _ _ from ⟨rfl, fun _ => ?_, HS.out, HF.out⟩)
  unfold gOf
  simp
  exact nat_beq _ _

set_option maxRecDepth 100000 in
set_option maxHeartbeats 1000000 in
theorem rot_r9 {w W : World} {f b n : Nat} {s : Int} {V : K.Vs} {x : Nat} {c4 c5 c6 : Value} {a : Act} (ha : a = RF f x c4 c5 c6 (gOf a)) (S : FS W f b n s V) (F : Fr (onFB f b) w W) (hx : x ≤ n) :
    (rg65 9).wp Try.prog (Exit.then (RO w f b n (s) (V) x (c4) (c5) (.int .i64 ((V x).right : Nat)) 0 (undef)) fun _ _ _ => False) a W := by
  have hs := S.small
  have y0 := S.fb.cell (i := 0) rfl
  have bx : (x : Int) < (n : Int) + 1 := by omega
  have y1 := S.c2 hx
  have HS := Lib.hid S
  have HF := Lib.hid F
  clear S F
  rw [ha]
  clear ha
  generalize gOf a = gg
  unfold RF
  conv => arg 2; whnf
  go_wp2_with fail
  refine (show RO w f b n (s) (V) x (c4) (c5) (.int .i64 ((V x).right : Nat)) 0 (undef) _ _ from ⟨rfl, fun h => absurd rfl h, HS.out, HF.out⟩)

set_option maxRecDepth 100000 in
set_option maxHeartbeats 1000000 in
theorem rot_r11 {w W : World} {f b n : Nat} {s : Int} {V : K.Vs} {x : Nat} {c4 c5 c6 : Value} {a : Act} (ha : a = RF f x c4 c5 c6 (gOf a)) (S : FS W f b n s V) (F : Fr (onFB f b) w W) (hx : x ≤ n) :
    (rg65 11).wp Try.prog (Exit.then (RO w f b n (s) (V) x (c4) (c5) (.int .i64 ((V x).left : Nat)) 0 (undef)) fun _ _ _ => False) a W := by
  have hs := S.small
  have y0 := S.fb.cell (i := 0) rfl
  have bx : (x : Int) < (n : Int) + 1 := by omega
  have y1 := S.c1 hx
  have HS := Lib.hid S
  have HF := Lib.hid F
  clear S F
  rw [ha]
  clear ha
  generalize gOf a = gg
  unfold RF
  conv => arg 2; whnf
  go_wp2_with fail
  refine (show RO w f b n (s) (V) x (c4) (c5) (.int .i64 ((V x).left : Nat)) 0 (undef) _ _ from ⟨rfl, fun h => absurd rfl h, HS.out, HF.out⟩)

set_option maxRecDepth 100000 in
set_option maxHeartbeats 1000000 in
theorem rot_r10 {w W : World} {f b n : Nat} {s : Int} {V : K.Vs} {x : Nat} {c5 : Value} {p : Nat} {c : Nat} {a : Act} (ha : a = RF f x (.int .i64 (p : Nat)) c5 (.int .i64 (c : Nat)) (gOf a)) (S : FS W f b n s V) (F : Fr (onFB f b) w W) (hx : x ≤ n) (hp : p ≤ n) (hc : c ≤ n) :
    (rg65 10).wp Try.prog (Exit.then (RO w f b n (s) (K.put (K.put V p { V p with left := c }) x { (K.put V p { V p with left := c }) x with right := p }) x (.int .i64 (p : Nat)) (c5) (.int .i64 (c : Nat)) 0 (undef)) fun _ _ _ => False) a W := by
  have hs := S.small
  have y0 := S.fb.cell (i := 0) rfl
  have bx : (x : Int) < (n : Int) + 1 := by omega
  have bp : (p : Int) < (n : Int) + 1 := by omega
  have bc : (c : Int) < (n : Int) + 1 := by omega
  have y1 := S.c1 hp
  have z1 := S.free (p * 9 + 1)
  have y2 := S.c2 hx
  have z2 := S.free (x * 9 + 2)
  have HS := Lib.hid S
  have HF := Lib.hid F
  clear S F
  rw [ha]
  clear ha
  generalize gOf a = gg
  unfold RF
  conv => arg 2; whnf
  go_wp2_with fail
  go_region
  refine (show RO w f b n (s) (K.put (K.put V p { V p with left := c }) x { (K.put V p { V p with left := c }) x with right := p }) x (.int .i64 (p : Nat)) (c5) (.int .i64 (c : Nat)) 0 (undef) _ _ from ⟨rfl, fun h => absurd rfl h, ?_, ((HF.out.setCell (p := ⟨b, p * 9 + 1, none⟩) (fun _ => .inr rfl) _).setCell (p := ⟨b, x * 9 + 2, none⟩) (fun _ => .inr rfl) _).drew⟩)
  have h1 := HS.out.putN hp (j := 1) (by omega) (.int .i64 (c : Nat)) (v := { V p with left := c }) (fld9 rfl rfl rfl rfl rfl rfl rfl rfl rfl)
  exact (h1.putN hx (j := 2) (by omega) (.int .i64 (p : Nat)) (v := { (K.put V p { V p with left := c }) x with right := p }) (fld9 rfl rfl rfl rfl rfl rfl rfl rfl rfl)).drew

set_option maxRecDepth 100000 in
set_option maxHeartbeats 1000000 in
theorem rot_r12 {w W : World} {f b n : Nat} {s : Int} {V : K.Vs} {x : Nat} {c5 : Value} {p : Nat} {c : Nat} {a : Act} (ha : a = RF f x (.int .i64 (p : Nat)) c5 (.int .i64 (c : Nat)) (gOf a)) (S : FS W f b n s V) (F : Fr (onFB f b) w W) (hx : x ≤ n) (hp : p ≤ n) (hc : c ≤ n) :
    (rg65 12).wp Try.prog (Exit.then (RO w f b n (s) (K.put (K.put V p { V p with right := c }) x { (K.put V p { V p with right := c }) x with left := p }) x (.int .i64 (p : Nat)) (c5) (.int .i64 (c : Nat)) 0 (undef)) fun _ _ _ => False) a W := by
  have hs := S.small
  have y0 := S.fb.cell (i := 0) rfl
  have bx : (x : Int) < (n : Int) + 1 := by omega
  have bp : (p : Int) < (n : Int) + 1 := by omega
  have bc : (c : Int) < (n : Int) + 1 := by omega
  have y1 := S.c2 hp
  have z1 := S.free (p * 9 + 2)
  have y2 := S.c1 hx
  have z2 := S.free (x * 9 + 1)
  have HS := Lib.hid S
  have HF := Lib.hid F
  clear S F
  rw [ha]
  clear ha
  generalize gOf a = gg
  unfold RF
  conv => arg 2; whnf
  go_wp2_with fail
  go_region
  refine (show RO w f b n (s) (K.put (K.put V p { V p with right := c }) x { (K.put V p { V p with right := c }) x with left := p }) x (.int .i64 (p : Nat)) (c5) (.int .i64 (c : Nat)) 0 (undef) _ _ from ⟨rfl, fun h => absurd rfl h, ?_, ((HF.out.setCell (p := ⟨b, p * 9 + 2, none⟩) (fun _ => .inr rfl) _).setCell (p := ⟨b, x * 9 + 1, none⟩) (fun _ => .inr rfl) _).drew⟩)
  have h1 := HS.out.putN hp (j := 2) (by omega) (.int .i64 (c : Nat)) (v := { V p with right := c }) (fld9 rfl rfl rfl rfl rfl rfl rfl rfl rfl)
  exact (h1.putN hx (j := 1) (by omega) (.int .i64 (p : Nat)) (v := { (K.put V p { V p with right := c }) x with left := p }) (fld9 rfl rfl rfl rfl rfl rfl rfl rfl rfl)).drew

set_option maxRecDepth 100000 in
set_option maxHeartbeats 1000000 in
theorem rot_r13 {w W : World} {f b n : Nat} {s : Int} {V : K.Vs} {x : Nat} {c4 c5 : Value} {c : Nat} {a : Act} (ha : a = RF f x c4 c5 (.int .i64 (c : Nat)) (gOf a)) (S : FS W f b n s V) (F : Fr (onFB f b) w W) (hx : x ≤ n) :
    (rg65 13).wp Try.prog (Exit.then (RO w f b n (s) (V) x (c4) (c5) (.int .i64 (c : Nat)) 119 (.bool (decide (c ≠ 0)))) fun _ _ _ => False) a W := by
  have hs := S.small
  have y0 := S.fb.cell (i := 0) rfl
  have bx : (x : Int) < (n : Int) + 1 := by omega
  have HS := Lib.hid S
  have HF := Lib.hid F
  clear S F
  rw [ha]
  clear ha
  generalize gOf a = gg
  unfold RF
  conv => arg 2; whnf
  go_wp2_with fail
  refine (show RO w f b n (s) (V) x (c4) (c5) (.int .i64 (c : Nat)) 119 (.bool (decide (c ≠ 0))) _ _ from ⟨rfl, fun _ => ?_, HS.out, HF.out⟩)
  unfold gOf
  simp
  by_cases e : c = 0 <;> simp [e]

set_option maxRecDepth 100000 in
set_option maxHeartbeats 1000000 in
theorem rot_r14 {w W : World} {f b n : Nat} {s : Int} {V : K.Vs} {x : Nat} {c5 : Value} {p : Nat} {c : Nat} {a : Act} (ha : a = RF f x (.int .i64 (p : Nat)) c5 (.int .i64 (c : Nat)) (gOf a)) (S : FS W f b n s V) (F : Fr (onFB f b) w W) (hx : x ≤ n) (hc : c ≤ n) :
    (rg65 14).wp Try.prog (Exit.then (RO w f b n (s) (K.setUp V c p) x (.int .i64 (p : Nat)) (c5) (.int .i64 (c : Nat)) 0 (undef)) fun _ _ _ => False) a W := by
  have hs := S.small
  have y0 := S.fb.cell (i := 0) rfl
  have bx : (x : Int) < (n : Int) + 1 := by omega
  have bc : (c : Int) < (n : Int) + 1 := by omega
  have y1 := S.c0 hc
  have z1 := S.free (c * 9)
  have HS := Lib.hid S
  have HF := Lib.hid F
  clear S F
  rw [ha]
  clear ha
  generalize gOf a = gg
  unfold RF
  conv => arg 2; whnf
  go_wp2_with fail
  refine (show RO w f b n (s) (K.setUp V c p) x (.int .i64 (p : Nat)) (c5) (.int .i64 (c : Nat)) 0 (undef) _ _ from ⟨rfl, fun h => absurd rfl h, ?_, HF.out.setCell (p := ⟨b, c * 9, none⟩) (fun _ => .inr rfl) _⟩)
  exact HS.out.putN hc (j := 0) (by omega) (.int .i64 (p : Nat)) (v := { V c with up := p }) (fld9 rfl rfl rfl rfl rfl rfl rfl rfl rfl)

set_option maxRecDepth 100000 in
set_option maxHeartbeats 1000000 in
theorem rot_r15 {w W : World} {f b n : Nat} {s : Int} {V : K.Vs} {x : Nat} {c6 : Value} {p : Nat} {g : Nat} {a : Act} (ha : a = RF f x (.int .i64 (p : Nat)) (.int .i64 (g : Nat)) c6 (gOf a)) (S : FS W f b n s V) (F : Fr (onFB f b) w W) (hx : x ≤ n) (hp : p ≤ n) (hpx : p ≠ x) :
    (rg65 15).wp Try.prog (Exit.then (RO w f b n (s) (K.setUp (K.setUp V p x) x g) x (.int .i64 (p : Nat)) (.int .i64 (g : Nat)) (c6) 0 (undef)) fun _ _ _ => False) a W := by
  have hs := S.small
  have y0 := S.fb.cell (i := 0) rfl
  have bx : (x : Int) < (n : Int) + 1 := by omega
  have bp : (p : Int) < (n : Int) + 1 := by omega
  have hpx' := Ne.symm hpx
  have y1 := S.c0 hp
  have z1 := S.free (p * 9)
  have y2 := S.c0 hx
  have z2 := S.free (x * 9)
  have HS := Lib.hid S
  have HF := Lib.hid F
  clear S F
  rw [ha]
  clear ha
  generalize gOf a = gg
  unfold RF
  conv => arg 2; whnf
  go_wp2_with fail
  go_region
  refine (show RO w f b n (s) (K.setUp (K.setUp V p x) x g) x (.int .i64 (p : Nat)) (.int .i64 (g : Nat)) (c6) 0 (undef) _ _ from ⟨rfl, fun h => absurd rfl h, ?_, ((HF.out.setCell (p := ⟨b, p * 9, none⟩) (fun _ => .inr rfl) _).setCell (p := ⟨b, x * 9, none⟩) (fun _ => .inr rfl) _).drew⟩)
  have h1 := HS.out.putN hp (j := 0) (by omega) (.int .i64 (x : Nat)) (v := { V p with up := x }) (fld9 rfl rfl rfl rfl rfl rfl rfl rfl rfl)
  exact (h1.putN hx (j := 0) (by omega) (.int .i64 (g : Nat)) (v := { (K.setUp V p x) x with up := g }) (fld9 rfl rfl rfl rfl rfl rfl rfl rfl rfl)).drew

set_option maxRecDepth 100000 in
set_option maxHeartbeats 1000000 in
theorem rot_r16 {w W : World} {f b n : Nat} {s : Int} {V : K.Vs} {x : Nat} {c5 c6 : Value} {p : Nat} {a : Act} (ha : a = RF f x (.int .i64 (p : Nat)) c5 c6 (gOf a)) (S : FS W f b n s V) (F : Fr (onFB f b) w W) (hx : x ≤ n) (hp : p ≤ n) (g : BV n V) :
    (rg65 16).wp Try.prog (Exit.then (RO w f b n (s) (K.pullF V p) x (.int .i64 (p : Nat)) (c5) (c6) 0 (undef)) fun _ _ _ => False) a W := by
  have hs := S.small
  have y0 := S.fb.cell (i := 0) rfl
  have bx : (x : Int) < (n : Int) + 1 := by omega
  have bp : (p : Int) < (n : Int) + 1 := by omega
  have HS := Lib.hid S
  have HF := Lib.hid F
  clear S F
  rw [ha]
  clear ha
  generalize gOf a = gg
  unfold RF
  conv => arg 2; whnf
  go_wp2_with (go_at_call 48; refine (pull_any _ HS.out g hp).mono ?_; rintro e w1 ⟨rfl, hw1, F1⟩; replace hw1 := Lib.hid hw1; replace F1 := Lib.hid F1)
  refine (show RO w f b n (s) (K.pullF V p) x (.int .i64 (p : Nat)) (c5) (c6) 0 (undef) _ _ from ⟨rfl, fun h => absurd rfl h, hw1.out, HF.out.trans F1.out (fun k _ hk => .inr hk)⟩)

set_option maxRecDepth 100000 in
set_option maxHeartbeats 1000000 in
theorem rot_r17 {w W : World} {f b n : Nat} {s : Int} {V : K.Vs} {x : Nat} {c4 c5 c6 : Value} {a : Act} (ha : a = RF f x c4 c5 c6 (gOf a)) (S : FS W f b n s V) (F : Fr (onFB f b) w W) (hx : x ≤ n) (g : BV n V) :
    (rg65 17).wp Try.prog (Exit.then (RO w f b n (s) (K.pullF V x) x (c4) (c5) (c6) 0 (undef)) fun _ _ _ => False) a W := by
  have hs := S.small
  have y0 := S.fb.cell (i := 0) rfl
  have bx : (x : Int) < (n : Int) + 1 := by omega
  have HS := Lib.hid S
  have HF := Lib.hid F
  clear S F
  rw [ha]
  clear ha
  generalize gOf a = gg
  unfold RF
  conv => arg 2; whnf
  go_wp2_with (go_at_call 48; refine (pull_any _ HS.out g hx).mono ?_; rintro e w1 ⟨rfl, hw1, F1⟩; replace hw1 := Lib.hid hw1; replace F1 := Lib.hid F1)
  refine (show RO w f b n (s) (K.pullF V x) x (c4) (c5) (c6) 0 (undef) _ _ from ⟨rfl, fun h => absurd rfl h, hw1.out, HF.out.trans F1.out (fun k _ hk => .inr hk)⟩)
end Go.Proofs.Ytfeokafjehpgnaa
