/- pull: its regions. -/
import Derived.Test.YtfeokafjehpgnaaW3
namespace Go.Proofs.Ytfeokafjehpgnaa
open Go.RowKit
set_option maxRecDepth 100000 in
set_option maxHeartbeats 1000000 in
theorem pull_r3 {w W : World} {p q f b n : Nat} {s : Int} {V : K.Vs} {l r x : Nat} {v : K.Vx} {a : Act} (ha : a = PF f x b p q (gOf a)) (S : St w W p q f b n s V l r x v) (hx : x ≤ n) {v2 : K.Vx} (hv2 : v2 = { v with first := x, last := x }) :
    (rg48 3).wp Try.prog (Exit.then (PO w p q f b n s V l r x v2 0 (undef)) fun _ _ _ => False) a W := by
  have hs := S.fs.small
  replace hv2 := Lib.hid hv2
  have z7 := S.fs.free (x * 9 + 7)
  have z8 := S.fs.free (x * 9 + 8)
  have y7 := S.fs.c7 hx
  have y8 := S.fs.c8 hx
  rw [K.put_same] at y7 y8
  have HS := Lib.hid S
  clear S
  rw [ha]
  clear ha
  generalize gOf a = g
  unfold PF
  conv => arg 2; whnf
  go_wp2_with fail
  refine ⟨rfl, fun h => absurd rfl h, ?_⟩
  rw [hv2.out]
  exact (HS.out.put hx (j := 7) (by omega) (.int .i64 (x : Nat)) (v' := { v with first := x }) (fld9 rfl rfl rfl rfl rfl rfl rfl rfl rfl)).put hx (j := 8) (by omega) (.int .i64 (x : Nat)) (v' := { v with first := x, last := x }) (fld9 rfl rfl rfl rfl rfl rfl rfl rfl rfl)
set_option maxRecDepth 100000 in
set_option maxHeartbeats 1000000 in
theorem pull_r4 {w W : World} {p q f b n : Nat} {s : Int} {V : K.Vs} {l r x : Nat} {v : K.Vx} {a : Act} (ha : a = PF f x b p q (gOf a)) (S : St w W p q f b n s V l r x v) (hx : x ≤ n) (hv : v.left = l) {v2 : K.Vx} (hv2 : v2 = v) :
    (rg48 4).wp Try.prog (Exit.then (PO w p q f b n s V l r x v2 67 (.bool (decide (l ≠ 0)))) fun _ _ _ => False) a W := by
  have hs := S.fs.small
  replace hv2 := Lib.hid hv2
  have y := S.fs.c1 hx
  rw [K.put_same, hv] at y
  have HS := Lib.hid S
  clear S
  rw [ha]
  clear ha
  generalize gOf a = g
  unfold PF
  conv => arg 2; whnf
  go_wp2_with fail
  rw [hv2.out]
  refine ⟨rfl, fun _ => ?_, HS.out⟩
  unfold gOf
  simp
  by_cases e : l = 0 <;> simp [e]
set_option maxRecDepth 100000 in
set_option maxHeartbeats 1000000 in
theorem pull_r9 {w W : World} {p q f b n : Nat} {s : Int} {V : K.Vs} {l r x : Nat} {v : K.Vx} {a : Act} (ha : a = PF f x b p q (gOf a)) (S : St w W p q f b n s V l r x v) (hx : x ≤ n) (hv : v.right = r) {v2 : K.Vx} (hv2 : v2 = v) :
    (rg48 9).wp Try.prog (Exit.then (PO w p q f b n s V l r x v2 124 (.bool (decide (r ≠ 0)))) fun _ _ _ => False) a W := by
  have hs := S.fs.small
  replace hv2 := Lib.hid hv2
  have y := S.fs.c2 hx
  rw [K.put_same, hv] at y
  have HS := Lib.hid S
  clear S
  rw [ha]
  clear ha
  generalize gOf a = g
  unfold PF
  conv => arg 2; whnf
  go_wp2_with fail
  rw [hv2.out]
  refine ⟨rfl, fun _ => ?_, HS.out⟩
  unfold gOf
  simp
  by_cases e : r = 0 <;> simp [e]
set_option maxRecDepth 100000 in
set_option maxHeartbeats 1000000 in
theorem pull_r5 {w W : World} {p q f b n : Nat} {s : Int} {V : K.Vs} {l r x : Nat} {v : K.Vx} {a : Act} (ha : a = PF f x b p q (gOf a)) (S : St w W p q f b n s V l r x v) (hx : x ≤ n) (hvw : v.weight = (V x).weight) (h1 : (V l).first ≤ n) (h2 : v.first ≤ n) {v2 : K.Vx} (hv2 : v2 = v) :
    (rg48 5).wp Try.prog (Exit.then (PO w p q f b n s V l r x v2 88 (.bool (decide ((V (V l).first).weight ≤ (V v.first).weight)))) fun _ _ _ => False) a W := by
  have hs := S.fs.small
  replace hv2 := Lib.hid hv2
  have y0 := S.fs.fb.cell (i := 0) rfl
  have y7 := S.fs.c7 hx
  rw [K.put_same] at y7
  have y1 := S.bp.cell (i := 7) rfl
  have y2 := S.c4 (z := (V l).first) hvw h1
  have y3 := S.c4 (z := v.first) hvw h2
  generalize (V (V l).first).weight = wa at *
  generalize (V v.first).weight = wb at *
  have HS := Lib.hid S
  clear S
  rw [ha]
  clear ha
  generalize gOf a = g
  unfold PF
  conv => arg 2; whnf
  clear hvw
  generalize (V l).first = fl at *
  generalize v.first = fi at *
  have b1 : (fl : Int) < (n : Int) + 1 := by omega
  have b2 : (fi : Int) < (n : Int) + 1 := by omega
  go_quiet (fail)
  rw [hv2.out]
  refine ⟨rfl, fun _ => ?_, HS.out.drewN _⟩
  unfold gOf
  simp
set_option maxRecDepth 100000 in
set_option maxHeartbeats 1000000 in
theorem pull_r7 {w W : World} {p q f b n : Nat} {s : Int} {V : K.Vs} {l r x : Nat} {v : K.Vx} {a : Act} (ha : a = PF f x b p q (gOf a)) (S : St w W p q f b n s V l r x v) (hx : x ≤ n) (hvw : v.weight = (V x).weight) (h1 : (V l).last ≤ n) (h2 : v.last ≤ n) {v2 : K.Vx} (hv2 : v2 = v) :
    (rg48 7).wp Try.prog (Exit.then (PO w p q f b n s V l r x v2 114 (.bool (decide ((V (V l).last).weight < (V v.last).weight)))) fun _ _ _ => False) a W := by
  have hs := S.fs.small
  replace hv2 := Lib.hid hv2
  have y0 := S.fs.fb.cell (i := 0) rfl
  have y7 := S.fs.c8 hx
  rw [K.put_same] at y7
  have y1 := S.bp.cell (i := 8) rfl
  have y2 := S.c4 (z := (V l).last) hvw h1
  have y3 := S.c4 (z := v.last) hvw h2
  generalize (V (V l).last).weight = wa at *
  generalize (V v.last).weight = wb at *
  have HS := Lib.hid S
  clear S
  rw [ha]
  clear ha
  generalize gOf a = g
  unfold PF
  conv => arg 2; whnf
  clear hvw
  generalize (V l).last = fl at *
  generalize v.last = fi at *
  have b1 : (fl : Int) < (n : Int) + 1 := by omega
  have b2 : (fi : Int) < (n : Int) + 1 := by omega
  go_quiet (fail)
  rw [hv2.out]
  refine ⟨rfl, fun _ => ?_, HS.out.drewN _⟩
  unfold gOf
  simp
set_option maxRecDepth 100000 in
set_option maxHeartbeats 1000000 in
theorem pull_r10 {w W : World} {p q f b n : Nat} {s : Int} {V : K.Vs} {l r x : Nat} {v : K.Vx} {a : Act} (ha : a = PF f x b p q (gOf a)) (S : St w W p q f b n s V l r x v) (hx : x ≤ n) (hvw : v.weight = (V x).weight) (h1 : (V r).first ≤ n) (h2 : v.first ≤ n) {v2 : K.Vx} (hv2 : v2 = v) :
    (rg48 10).wp Try.prog (Exit.then (PO w p q f b n s V l r x v2 145 (.bool (decide ((V (V r).first).weight < (V v.first).weight)))) fun _ _ _ => False) a W := by
  have hs := S.fs.small
  replace hv2 := Lib.hid hv2
  have y0 := S.fs.fb.cell (i := 0) rfl
  have y7 := S.fs.c7 hx
  rw [K.put_same] at y7
  have y1 := S.bq.cell (i := 7) rfl
  have y2 := S.c4 (z := (V r).first) hvw h1
  have y3 := S.c4 (z := v.first) hvw h2
  generalize (V (V r).first).weight = wa at *
  generalize (V v.first).weight = wb at *
  have HS := Lib.hid S
  clear S
  rw [ha]
  clear ha
  generalize gOf a = g
  unfold PF
  conv => arg 2; whnf
  clear hvw
  generalize (V r).first = fl at *
  generalize v.first = fi at *
  have b1 : (fl : Int) < (n : Int) + 1 := by omega
  have b2 : (fi : Int) < (n : Int) + 1 := by omega
  go_quiet (fail)
  rw [hv2.out]
  refine ⟨rfl, fun _ => ?_, HS.out.drewN _⟩
  unfold gOf
  simp
set_option maxRecDepth 100000 in
set_option maxHeartbeats 1000000 in
theorem pull_r12 {w W : World} {p q f b n : Nat} {s : Int} {V : K.Vs} {l r x : Nat} {v : K.Vx} {a : Act} (ha : a = PF f x b p q (gOf a)) (S : St w W p q f b n s V l r x v) (hx : x ≤ n) (hvw : v.weight = (V x).weight) (h1 : (V r).last ≤ n) (h2 : v.last ≤ n) {v2 : K.Vx} (hv2 : v2 = v) :
    (rg48 12).wp Try.prog (Exit.then (PO w p q f b n s V l r x v2 171 (.bool (decide ((V (V r).last).weight ≤ (V v.last).weight)))) fun _ _ _ => False) a W := by
  have hs := S.fs.small
  replace hv2 := Lib.hid hv2
  have y0 := S.fs.fb.cell (i := 0) rfl
  have y7 := S.fs.c8 hx
  rw [K.put_same] at y7
  have y1 := S.bq.cell (i := 8) rfl
  have y2 := S.c4 (z := (V r).last) hvw h1
  have y3 := S.c4 (z := v.last) hvw h2
  generalize (V (V r).last).weight = wa at *
  generalize (V v.last).weight = wb at *
  have HS := Lib.hid S
  clear S
  rw [ha]
  clear ha
  generalize gOf a = g
  unfold PF
  conv => arg 2; whnf
  clear hvw
  generalize (V r).last = fl at *
  generalize v.last = fi at *
  have b1 : (fl : Int) < (n : Int) + 1 := by omega
  have b2 : (fi : Int) < (n : Int) + 1 := by omega
  go_quiet (fail)
  rw [hv2.out]
  refine ⟨rfl, fun _ => ?_, HS.out.drewN _⟩
  unfold gOf
  simp
set_option maxRecDepth 100000 in
set_option maxHeartbeats 1000000 in
theorem pull_r6 {w W : World} {p q f b n : Nat} {s : Int} {V : K.Vs} {l r x : Nat} {v : K.Vx} {a : Act} (ha : a = PF f x b p q (gOf a)) (S : St w W p q f b n s V l r x v) (hx : x ≤ n) {v2 : K.Vx} (hv2 : v2 = { v with first := (V l).first }) :
    (rg48 6).wp Try.prog (Exit.then (PO w p q f b n s V l r x v2 0 (undef)) fun _ _ _ => False) a W := by
  have hs := S.fs.small
  replace hv2 := Lib.hid hv2
  have y1 := S.bp.cell (i := 7) rfl
  have z7 := S.fs.free (x * 9 + 7)
  have y7 := S.fs.c7 hx
  rw [K.put_same] at y7
  have HS := Lib.hid S
  clear S
  rw [ha]
  clear ha
  generalize gOf a = g
  unfold PF
  conv => arg 2; whnf
  go_wp2_with fail
  refine ⟨rfl, fun h => absurd rfl h, ?_⟩
  rw [hv2.out]
  exact HS.out.put hx (j := 7) (by omega) (.int .i64 ((V l).first : Nat)) (v' := { v with first := (V l).first }) (fld9 rfl rfl rfl rfl rfl rfl rfl rfl rfl)
set_option maxRecDepth 100000 in
set_option maxHeartbeats 1000000 in
theorem pull_r8 {w W : World} {p q f b n : Nat} {s : Int} {V : K.Vs} {l r x : Nat} {v : K.Vx} {a : Act} (ha : a = PF f x b p q (gOf a)) (S : St w W p q f b n s V l r x v) (hx : x ≤ n) {v2 : K.Vx} (hv2 : v2 = { v with last := (V l).last }) :
    (rg48 8).wp Try.prog (Exit.then (PO w p q f b n s V l r x v2 0 (undef)) fun _ _ _ => False) a W := by
  have hs := S.fs.small
  replace hv2 := Lib.hid hv2
  have y1 := S.bp.cell (i := 8) rfl
  have z7 := S.fs.free (x * 9 + 8)
  have y7 := S.fs.c8 hx
  rw [K.put_same] at y7
  have HS := Lib.hid S
  clear S
  rw [ha]
  clear ha
  generalize gOf a = g
  unfold PF
  conv => arg 2; whnf
  go_wp2_with fail
  refine ⟨rfl, fun h => absurd rfl h, ?_⟩
  rw [hv2.out]
  exact HS.out.put hx (j := 8) (by omega) (.int .i64 ((V l).last : Nat)) (v' := { v with last := (V l).last }) (fld9 rfl rfl rfl rfl rfl rfl rfl rfl rfl)
set_option maxRecDepth 100000 in
set_option maxHeartbeats 1000000 in
theorem pull_r11 {w W : World} {p q f b n : Nat} {s : Int} {V : K.Vs} {l r x : Nat} {v : K.Vx} {a : Act} (ha : a = PF f x b p q (gOf a)) (S : St w W p q f b n s V l r x v) (hx : x ≤ n) {v2 : K.Vx} (hv2 : v2 = { v with first := (V r).first }) :
    (rg48 11).wp Try.prog (Exit.then (PO w p q f b n s V l r x v2 0 (undef)) fun _ _ _ => False) a W := by
  have hs := S.fs.small
  replace hv2 := Lib.hid hv2
  have y1 := S.bq.cell (i := 7) rfl
  have z7 := S.fs.free (x * 9 + 7)
  have y7 := S.fs.c7 hx
  rw [K.put_same] at y7
  have HS := Lib.hid S
  clear S
  rw [ha]
  clear ha
  generalize gOf a = g
  unfold PF
  conv => arg 2; whnf
  go_wp2_with fail
  refine ⟨rfl, fun h => absurd rfl h, ?_⟩
  rw [hv2.out]
  exact HS.out.put hx (j := 7) (by omega) (.int .i64 ((V r).first : Nat)) (v' := { v with first := (V r).first }) (fld9 rfl rfl rfl rfl rfl rfl rfl rfl rfl)
set_option maxRecDepth 100000 in
set_option maxHeartbeats 1000000 in
theorem pull_r13 {w W : World} {p q f b n : Nat} {s : Int} {V : K.Vs} {l r x : Nat} {v : K.Vx} {a : Act} (ha : a = PF f x b p q (gOf a)) (S : St w W p q f b n s V l r x v) (hx : x ≤ n) {v2 : K.Vx} (hv2 : v2 = { v with last := (V r).last }) :
    (rg48 13).wp Try.prog (Exit.then (PO w p q f b n s V l r x v2 0 (undef)) fun _ _ _ => False) a W := by
  have hs := S.fs.small
  replace hv2 := Lib.hid hv2
  have y1 := S.bq.cell (i := 8) rfl
  have z7 := S.fs.free (x * 9 + 8)
  have y7 := S.fs.c8 hx
  rw [K.put_same] at y7
  have HS := Lib.hid S
  clear S
  rw [ha]
  clear ha
  generalize gOf a = g
  unfold PF
  conv => arg 2; whnf
  go_wp2_with fail
  refine ⟨rfl, fun h => absurd rfl h, ?_⟩
  rw [hv2.out]
  exact HS.out.put hx (j := 8) (by omega) (.int .i64 ((V r).last : Nat)) (v' := { v with last := (V r).last }) (fld9 rfl rfl rfl rfl rfl rfl rfl rfl rfl)
set_option maxRecDepth 100000 in
set_option maxHeartbeats 1000000 in
theorem pull_r2 {w W : World} {p q f b n : Nat} {s : Int} {V : K.Vs} {l r x : Nat} {v : K.Vx} {a : Act} (ha : a = PF f x b p q (gOf a)) (S : St w W p q f b n s V l r x v) (hx : x ≤ n) (hv : v = V x) (ul : -1099511627776 ≤ (V l).sum ∧ (V l).sum ≤ 1099511627776) (ur : -1099511627776 ≤ (V r).sum ∧ (V r).sum ≤ 1099511627776) (uw : -1048576 ≤ (V x).weight ∧ (V x).weight ≤ 1048576) (vl : (V l).size ≤ n) (vr : (V r).size ≤ n) {v2 : K.Vx} (hv2 : v2 = { V x with sum := (V l).sum + (V x).weight + (V r).sum, size := (V l).size + 1 + (V r).size }) :
    (rg48 2).wp Try.prog (Exit.then (PO w p q f b n s V l r x v2 0 (undef)) fun _ _ _ => False) a W := by
  have hs := S.fs.small
  replace hv2 := Lib.hid hv2
  subst hv
  have g4 := S.fs.c4 hx
  have g5 := S.fs.c5 hx
  have g6 := S.fs.c6 hx
  rw [K.put_same] at g4 g5 g6
  have p5 := S.bp.cell (i := 5) rfl
  have p6 := S.bp.cell (i := 6) rfl
  have q5 := S.bq.cell (i := 5) rfl
  have q6 := S.bq.cell (i := 6) rfl
  have z5 := S.fs.free (x * 9 + 5)
  have z6 := S.fs.free (x * 9 + 6)
  have HS := Lib.hid S
  clear S
  rw [ha]
  clear ha
  generalize gOf a = g
  unfold PF
  conv => arg 2; whnf
  generalize hsl : (V l).sum = sl at *
  generalize hsr : (V r).sum = sr at *
  generalize hwx : (V x).weight = wx at *
  generalize hzl : (V l).size = zl at *
  generalize hzr : (V r).size = zr at *
  have HE := Lib.hid (And.intro hsl (And.intro hsr (And.intro hwx (And.intro hzl hzr))))
  clear hsl hsr hwx hzl hzr
  go_wp2_with fail
  go_region
  obtain ⟨e1, e2, e3, e4, e5⟩ := HE.out
  subst e1
  subst e2
  subst e3
  subst e4
  subst e5
  refine (show PO w p q f b n s V l r x v2 0 undef _ _ from ⟨rfl, fun h => absurd rfl h, ?_⟩)
  rw [hv2.out]
  have T1 := HS.out.put hx (j := 5) (by omega) (.int .i64 ((V l).sum + (V x).weight + (V r).sum)) (v' := { V x with sum := (V l).sum + (V x).weight + (V r).sum }) (fld9 rfl rfl rfl rfl rfl rfl rfl rfl rfl)
  exact (T1.put hx (j := 6) (by omega) (.int .i64 (((V l).size : Int) + 1 + (V r).size)) (v' := { V x with sum := (V l).sum + (V x).weight + (V r).sum, size := (V l).size + 1 + (V r).size }) (fld9 rfl rfl rfl rfl rfl rfl (by simp [fld]) rfl rfl)).drew
end Go.Proofs.Ytfeokafjehpgnaa
