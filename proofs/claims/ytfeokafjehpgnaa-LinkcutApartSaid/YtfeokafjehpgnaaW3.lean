/- pull: what lies in memory. -/
import Derived.Test.YtfeokafjehpgnaaW2
import Derived.BigRegion
import Derived.BigQuiet
namespace Go.Proofs.Ytfeokafjehpgnaa
open Go.RowKit
def rgIn (i : Nat) : Code → Option Code
  | .region j ops d => if j = i then some (.region j ops d) else none
  | .seq a b => (rgIn i a).or (rgIn i b)
  | .block _ c => rgIn i c
  | .loop c => rgIn i c
  | .cond _ a b => (rgIn i a).or (rgIn i b)
  | .scope c => rgIn i c
  | .rangeFunc _ _ a b => (rgIn i a).or (rgIn i b)
  | _ => none
noncomputable def rg48 (i : Nat) : Code := ((Try.f48.body).bind (rgIn i)).getD .skip
def nine (v : K.Vx) : List Value := [.int .i64 (v.up : Nat), .int .i64 (v.left : Nat), .int .i64 (v.right : Nat), .bool v.turned, .int .i64 v.weight, .int .i64 v.sum, .int .i64 (v.size : Nat), .int .i64 (v.first : Nat), .int .i64 (v.last : Nat)]
/-- The forest, and two copies of vertices. -/
structure Two (w W : World) (p q f b n : Nat) (s : Int) (V : K.Vs) (l r : Nat) : Prop where
  fs : FS W f b n s V
  fr : Fr F0 w W
  bp : Blk W p 66 (nine (V l))
  bq : Blk W q 66 (nine (V r))
  pq : p ≠ q
  hp : w.heap.size ≤ p
  hq : w.heap.size ≤ q
/-- Under way: the forest, two copies, and what lies at x. -/
structure St (w W : World) (p q f b n : Nat) (s : Int) (V : K.Vs) (l r x : Nat) (v : K.Vx) : Prop where
  fs : FS W f b n s (K.put V x v)
  fr : Fr (onB b) w W
  bp : Blk W p 66 (nine (V l))
  bq : Blk W q 66 (nine (V r))
  hp : p ≠ b
  hq : q ≠ b
theorem put_self (V : K.Vs) (x : Nat) : K.put V x (V x) = V := by
  funext y
  by_cases e : y = x
  · rw [e, K.put_same]
  · rw [K.put_other e]
theorem Two.st {w W : World} {p q f b n : Nat} {s : Int} {V : K.Vs} {l r x : Nat} (h : Two w W p q f b n s V l r) (hb : b < w.heap.size) : St w W p q f b n s V l r x (V x) :=
  ⟨by rw [put_self]; exact h.fs, h.fr.mono (fun _ _ h => h.elim), h.bp, h.bq, by have := h.hp; omega, by have := h.hq; omega⟩
section
variable {w W : World} {p q f b n : Nat} {s : Int} {V : K.Vs} {l r x : Nat} {v : K.Vx}
theorem St.put (h : St w W p q f b n s V l r x v) {j : Nat} (hx : x ≤ n) (hj : j < 9) (u : Value) {v' : K.Vx} (hv : ∀ i, i < 9 → fld v' i = if i = j then u else fld v i) : St w (W.setCell ⟨b, x * 9 + j, none⟩ u) p q f b n s V l r x v' :=
  ⟨h.fs.more hx hj u hv, h.fr.setB _ _, h.bp.other h.hp _, h.bq.other h.hq _, h.hp, h.hq⟩
theorem St.c4 (h : St w W p q f b n s V l r x v) {z : Nat} (hv : v.weight = (V x).weight) (hz : z ≤ n) : W.cell? ⟨b, z * 9 + 4, none⟩ = some (.int .i64 (V z).weight) := by
  have h1 := h.fs.c4 hz
  by_cases e : z = x
  · rw [e, K.put_same, hv] at h1; rw [e]; exact h1
  · rw [K.put_other e] at h1; exact h1
theorem St.drewN (h : St w W p q f b n s V l r x v) (k : Nat) : St w (W.drewN k) p q f b n s V l r x v := ⟨h.fs.fr0 (Fr.refl _ _ |>.drewN k), h.fr.drewN k, h.bp, h.bq, h.hp, h.hq⟩
theorem St.toD {D : World} {k : Nat} (h : St w W p q f b n s V l r x v) (hD : World.drewN W k = D) : St w D p q f b n s V l r x v := hD ▸ h.drewN k
theorem St.drew (h : St w W p q f b n s V l r x v) : St w W.drew p q f b n s V l r x v := ⟨h.fs.drew, h.fr.drew, h.bp, h.bq, h.hp, h.hq⟩
end
set_option maxRecDepth 100000 in
/-- The frame of pull. -/
def PF (f x b p q : Nat) (g : Nat → Value) : Act := ⟨#[.pointer (some ⟨f, 0, none⟩), .int .i64 x, g 2, g 3, .pointer (some ⟨b, x * 9, none⟩), .pointer (some ⟨p, 0, none⟩), .pointer (some ⟨q, 0, none⟩), g 7, g 8, g 9, g 10, g 11, g 12, g 13, g 14, g 15, g 16, g 17, g 18, g 19, g 20, g 21, g 22, g 23, g 24, g 25, g 26, g 27, g 28, g 29, g 30, g 31, g 32, g 33, g 34, g 35, g 36, g 37, g 38, g 39, g 40, g 41, g 42, g 43, g 44, g 45, g 46, g 47, g 48, g 49, g 50, g 51, g 52, g 53, g 54, g 55, g 56, g 57, g 58, g 59, g 60, g 61, g 62, g 63, g 64, g 65, g 66, g 67, g 68, g 69, g 70, g 71, g 72, g 73, g 74, g 75, g 76, g 77, g 78, g 79, g 80, g 81, g 82, g 83, g 84, g 85, g 86, g 87, g 88, g 89, g 90, g 91, g 92, g 93, g 94, g 95, g 96, g 97, g 98, g 99, g 100, g 101, g 102, g 103, g 104, g 105, g 106, g 107, g 108, g 109, g 110, g 111, g 112, g 113, g 114, g 115, g 116, g 117, g 118, g 119, g 120, g 121, g 122, g 123, g 124, g 125, g 126, g 127, g 128, g 129, g 130, g 131, g 132, g 133, g 134, g 135, g 136, g 137, g 138, g 139, g 140, g 141, g 142, g 143, g 144, g 145, g 146, g 147, g 148, g 149, g 150, g 151, g 152, g 153, g 154, g 155, g 156, g 157, g 158, g 159, g 160, g 161, g 162, g 163, g 164, g 165, g 166, g 167, g 168, g 169, g 170, g 171, g 172, g 173, g 174, g 175, g 176], []⟩
set_option maxRecDepth 100000 in
def PI (f x b : Nat) (g : Nat → Value) : Act := ⟨#[.pointer (some ⟨f, 0, none⟩), .int .i64 x, g 2, g 3, .pointer (some ⟨b, x * 9, none⟩), g 5, g 6, g 7, g 8, g 9, g 10, g 11, g 12, g 13, g 14, g 15, g 16, g 17, g 18, g 19, g 20, g 21, g 22, g 23, g 24, g 25, g 26, g 27, g 28, g 29, g 30, g 31, g 32, g 33, g 34, g 35, g 36, g 37, g 38, g 39, g 40, g 41, g 42, g 43, g 44, g 45, g 46, g 47, g 48, g 49, g 50, g 51, g 52, g 53, g 54, g 55, g 56, g 57, g 58, g 59, g 60, g 61, g 62, g 63, g 64, g 65, g 66, g 67, g 68, g 69, g 70, g 71, g 72, g 73, g 74, g 75, g 76, g 77, g 78, g 79, g 80, g 81, g 82, g 83, g 84, g 85, g 86, g 87, g 88, g 89, g 90, g 91, g 92, g 93, g 94, g 95, g 96, g 97, g 98, g 99, g 100, g 101, g 102, g 103, g 104, g 105, g 106, g 107, g 108, g 109, g 110, g 111, g 112, g 113, g 114, g 115, g 116, g 117, g 118, g 119, g 120, g 121, g 122, g 123, g 124, g 125, g 126, g 127, g 128, g 129, g 130, g 131, g 132, g 133, g 134, g 135, g 136, g 137, g 138, g 139, g 140, g 141, g 142, g 143, g 144, g 145, g 146, g 147, g 148, g 149, g 150, g 151, g 152, g 153, g 154, g 155, g 156, g 157, g 158, g 159, g 160, g 161, g 162, g 163, g 164, g 165, g 166, g 167, g 168, g 169, g 170, g 171, g 172, g 173, g 174, g 175, g 176], []⟩
def gOf (a : Act) : Nat → Value := fun i => a.tmps.getD i undef
/-- What a region of pull leaves: the frame, slot k, the memory. -/
def PO (w : World) (p q f b n : Nat) (s : Int) (V : K.Vs) (l r x : Nat) (v : K.Vx) (k : Nat) (c : Value) (a : Act) (D : World) : Prop := a = PF f x b p q (gOf a) ∧ (k ≠ 0 → gOf a k = c) ∧ St w D p q f b n s V l r x v
theorem wp_step {P : Program} {c : Code} {R : Act → World → Prop} {Q : Exit → Act → World → Prop} {a : Act} {w : World} (h : c.wp P (Exit.then R fun _ _ _ => False) a w) (hQ : ∀ a w, R a w → Q .normal a w) : c.wp P Q a w := by
  refine wp_mono h (fun e a w he => ?_)
  cases e with
  | normal => exact hQ a w he
  | _ => exact he.elim
theorem two_lr {w : World} {f b n : Nat} {s : Int} {V : K.Vs} {l r x : Nat} (h : FS w f b n s V) : St w (((w.alloc (.cells (nine (V l)).toArray 66)).alloc (.cells (nine (V r)).toArray 66)).drew) w.heap.size (w.heap.size + 1) f b n s V l r x (V x) := by
  have F1 : Fr F0 w ((w.alloc (.cells (nine (V l)).toArray 66)).alloc (.cells (nine (V r)).toArray 66)) := ((Fr.refl F0 w).alloc _).alloc _
  have hb := h.ltb
  refine ⟨by rw [put_self]; exact (h.fr0 F1).drew, (F1.mono (fun _ _ h => h.elim)).drew, (Blk.new w 66 (nine (V l))).alloc _, ?_, by omega, by omega⟩
  have := Blk.new (w.alloc (.cells (nine (V l)).toArray 66)) 66 (nine (V r))
  rw [size_alloc] at this
  exact this
theorem two_rl {w : World} {f b n : Nat} {s : Int} {V : K.Vs} {l r x : Nat} (h : FS w f b n s V) : St w (((w.alloc (.cells (nine (V r)).toArray 66)).alloc (.cells (nine (V l)).toArray 66)).drew) (w.heap.size + 1) w.heap.size f b n s V l r x (V x) := by
  have T := two_lr (l := r) (r := l) (x := x) h
  exact ⟨T.fs, T.fr, T.bq, T.bp, T.hq, T.hp⟩
theorem St.to {w W : World} {p q f b n : Nat} {s : Int} {V : K.Vs} {l r x : Nat} {v v' : K.Vx} (h : St w W p q f b n s V l r x v) (e : v = v') : St w W p q f b n s V l r x v' := e ▸ h
end Go.Proofs.Ytfeokafjehpgnaa
