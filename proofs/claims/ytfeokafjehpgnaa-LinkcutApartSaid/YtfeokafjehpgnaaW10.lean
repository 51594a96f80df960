/- splay: what lies in memory. -/
import Derived.Test.YtfeokafjehpgnaaW9
namespace Go.Proofs.Ytfeokafjehpgnaa
open Go.RowKit
attribute [local go_sem ↓] Go.wp_at_zero Go.wp_at_succ
noncomputable def rg53 (i : Nat) : Code := ((Try.f53.body).bind (rgIn i)).getD .skip
set_option maxRecDepth 100000 in
/-- The frame of splay. -/
def SF (f x : Nat) (c2 c4 c5 c7 c8 c9 : Value) (ds : List Deferred) (g : Nat → Value) : Act := ⟨#[.pointer (some ⟨f, 0, none⟩), .int .i64 x, c2, g 3, c4, c5, g 6, c7, c8, c9, g 10, g 11, g 12, g 13, g 14, g 15, g 16, g 17, g 18, g 19, g 20, g 21, g 22, g 23, g 24, g 25, g 26, g 27, g 28, g 29, g 30, g 31, g 32, g 33, g 34, g 35, g 36, g 37, g 38, g 39, g 40, g 41, g 42, g 43, g 44, g 45, g 46, g 47, g 48, g 49, g 50, g 51, g 52, g 53, g 54, g 55, g 56, g 57, g 58, g 59, g 60, g 61, g 62, g 63, g 64, g 65, g 66, g 67, g 68, g 69, g 70, g 71, g 72, g 73, g 74, g 75, g 76, g 77, g 78, g 79, g 80, g 81, g 82, g 83, g 84, g 85, g 86, g 87, g 88, g 89], ds⟩
def nats (vs : List Nat) : List Value := vs.map fun y => .int .i64 (y : Nat)
/-- Under way in splay. -/
structure SS (w W : World) (f b n : Nat) (s : Int) (V : K.Vs) (bx : Nat) (pa : Option Addr) (pn pc : Nat) (vs : List Nat) (Ds : List Nat) : Prop where
  fs : FS W f b n s V
  fr : Fr (onFB f b) w W
  one : One W bx 26 (.pointer (some ⟨f, 0, none⟩))
  hbx : w.heap.size ≤ bx
  path : Own W w.heap.size 3 pa pn pc (nats vs)
  ap : ∀ k, onBlk pa k → k ≠ bx
  hf : f < w.heap.size
  hb : b < w.heap.size
  dq : ∀ d ∈ Ds, w.heap.size ≤ d ∧ W.heap[d]? = some (.deferred (some []))
section
variable {w W W' : World} {f b n : Nat} {s s' : Int} {V V' : K.Vs} {bx : Nat} {pa : Option Addr} {pn pc : Nat} {vs Ds : List Nat}
theorem SS.on (h : SS w W f b n s V bx pa pn pc vs Ds) (S : FS W' f b n s' V') (F : Fr (onFB f b) W W') : SS w W' f b n s' V' bx pa pn pc vs Ds := by
  have h1 := h.hf
  have h2 := h.hb
  have h3 := h.hbx
  refine ⟨S, h.fr.trans F (fun _ _ h => h), h.one.fr F ?_, h.hbx, h.path.fr F ?_, h.ap, h.hf, h.hb, fun d hd => ?_⟩
  · rintro (e | e) <;> omega
  · intro k hk
    have := (h.path.blk k hk).1
    rintro (e | e) <;> omega
  · obtain ⟨k1, k2⟩ := h.dq d hd
    exact ⟨k1, (F.block d (lt_of_block k2) (by rintro (e | e) <;> omega)).trans k2⟩
theorem SS.drewN (h : SS w W f b n s V bx pa pn pc vs Ds) (k : Nat) : SS w (W.drewN k) f b n s V bx pa pn pc vs Ds :=
  h.on (h.fs.fr0 ((Fr.refl _ _).drewN k)) ((Fr.refl _ _).drewN k)
theorem SS.app {a' : Option Addr} {c' y : Nat} (h : SS w W f b n s V bx pa pn pc vs []) (O : Own W' w.heap.size 3 a' (pn + 1) c' (nats vs ++ [.int .i64 (y : Nat)])) (F : Fr (onBlk pa) W W') (hat : ∀ k, onBlk a' k → onBlk pa k ∨ W.heap.size ≤ k) : SS w W' f b n s V bx a' (pn + 1) c' (vs ++ [y]) [] := by
  have h1 := h.hf
  have h2 := h.hb
  have h3 := h.hbx
  have nf : ¬ onBlk pa f := fun e => by have := (h.path.blk f e).1; omega
  have nb : ¬ onBlk pa b := fun e => by have := (h.path.blk b e).1; omega
  refine ⟨h.fs.fr F nf nb, ⟨F.os.trans h.fr.os, F.tape.trans h.fr.tape, F.output.trans h.fr.output, Nat.le_trans h.fr.size F.size, fun k hk hn => ?_⟩, h.one.fr F (fun e => h.ap _ e rfl), h.hbx, ?_, ?_, h.hf, h.hb, fun d hd => by cases hd⟩
  · refine (F.block k (Nat.lt_of_lt_of_le hk h.fr.size) (fun e => ?_)).trans (h.fr.block k hk hn)
    have := (h.path.blk k e).1
    omega
  · unfold nats
    rw [List.map_append]
    exact O
  · intro k hk
    rcases hat k hk with e | e
    · exact h.ap k e
    · have := h.one.lt
      omega
end
/-- What a region of splay leaves. -/
def SO (w : World) (f b n : Nat) (s : Int) (V : K.Vs) (x bx : Nat) (pa : Option Addr) (pn pc : Nat) (vs Ds : List Nat) (c5 c7 c8 c9 : Value) (ds : List Deferred) (k : Nat) (c : Value) (a : Act) (D : World) : Prop := a = SF f x (.pointer (some ⟨bx, 0, none⟩)) (.slice pa pn pc) c5 c7 c8 c9 ds (gOf a) ∧ (k ≠ 0 → gOf a k = c) ∧ SS w D f b n s V bx pa pn pc vs Ds
end Go.Proofs.Ytfeokafjehpgnaa
