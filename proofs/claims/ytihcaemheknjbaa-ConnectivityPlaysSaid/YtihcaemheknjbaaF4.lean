/- NewForest: what lies in memory in the region of three appends. -/
import Derived.Test.YtihcaemheknjbaaF2
import Derived.Test.YtihcaemheknjbaaComAll
import Derived.BigQuiet
namespace Go.Proofs.Ytihcaemheknjbaa
open Go.RowKit
attribute [local go_sem ↓] Go.wp_at_zero Go.wp_at_succ
/-- A forest that is being made: three rows, their blocks apart. -/
structure A3 (w0 wc : World) (x : Nat) (V : List Value) (ab an ap : Option Addr) (n1 n2 n3 c1 c2 c3 : Nat) (vb vn vp : List Value) : Prop where
  kx : Blk wc x 94 V
  ob : Own wc w0.heap.size 3 ab n1 c1 vb
  on : Own wc w0.heap.size 3 an n2 c2 vn
  op : Own wc w0.heap.size 3 ap n3 c3 vp
  p1 : Apart ab an
  p2 : Apart ab ap
  p3 : Apart an ap
  q1 : ¬ onBlk ab x
  q2 : ¬ onBlk an x
  q3 : ¬ onBlk ap x
  fr : Fr F0 w0 wc
  bx : w0.heap.size ≤ x
structure Lit1 (wc : World) (ab an ap : Option Addr) (g : Nat) (v : Value) : Prop where
  rd : Rd wc (some ⟨g, 0, none⟩) 1 [v]
  lt : g < wc.heap.size
  nb : ¬ onBlk ab g
  nn : ¬ onBlk an g
  np : ¬ onBlk ap g
section
variable {w0 wc w' : World} {x : Nat} {V : List Value} {ab an ap a' : Option Addr} {n1 n2 n3 c1 c2 c3 c' : Nat} {vb vn vp : List Value} {v u : Value} {g : Nat}
theorem A3.alloc (h : A3 w0 wc x V ab an ap n1 n2 n3 c1 c2 c3 vb vn vp) (o : Obj) : A3 w0 (wc.alloc o) x V ab an ap n1 n2 n3 c1 c2 c3 vb vn vp :=
  { h with kx := h.kx.alloc o, ob := h.ob.alloc o, on := h.on.alloc o, op := h.op.alloc o, fr := h.fr.alloc o }
theorem A3.drew (h : A3 w0 wc x V ab an ap n1 n2 n3 c1 c2 c3 vb vn vp) : A3 w0 wc.drew x V ab an ap n1 n2 n3 c1 c2 c3 vb vn vp :=
  { h with kx := h.kx.drew, ob := h.ob.drew, on := h.on.drew, op := h.op.drew, fr := h.fr.drew }
theorem A3.lit (h : A3 w0 wc x V ab an ap n1 n2 n3 c1 c2 c3 vb vn vp) (v : Value) : Lit1 (wc.alloc (.cells #[v] 3)) ab an ap wc.heap.size v :=
  ⟨Own.rd (Own.lit (w := wc) (B := wc.heap.size) (T := 3) [v] 1 rfl (Nat.le_refl _) (by omega)), by simp, fun hk => by have := (h.ob.blk _ hk).2; omega, fun hk => by have := (h.on.blk _ hk).2; omega, fun hk => by have := (h.op.blk _ hk).2; omega⟩
theorem Lit1.alloc (h : Lit1 wc ab an ap g v) (o : Obj) : Lit1 (wc.alloc o) ab an ap g v := ⟨h.rd.alloc o, by simp; have := h.lt; omega, h.nb, h.nn, h.np⟩
theorem A3.size (h : A3 w0 wc x V ab an ap n1 n2 n3 c1 c2 c3 vb vn vp) : w0.heap.size ≤ wc.heap.size := h.fr.size
theorem A3.appB (h : A3 w0 wc x V ab an ap n1 n2 n3 c1 c2 c3 vb vn vp) (own' : Own w' w0.heap.size 3 a' (n1 + 1) c' (vb ++ [u])) (F : Fr (onBlk ab) wc w') (at' : ∀ k, onBlk a' k → onBlk ab k ∨ wc.heap.size ≤ k) : A3 w0 w' x V a' an ap (n1 + 1) n2 n3 c' c2 c3 (vb ++ [u]) vn vp :=
  ⟨h.kx.fr F h.q1, own', h.on.fr F (h.p1.symm), h.op.fr F (h.p2.symm), (Apart.app h.p1 at' (fun k hk => (h.on.blk k hk).2)), (Apart.app h.p2 at' (fun k hk => (h.op.blk k hk).2)), h.p3, fun hk => (at' x hk).elim h.q1 (fun h1 => by have := h.kx.lt; omega), h.q2, h.q3, h.fr.trans F (fun k hk h1 => by have := (h.ob.blk k h1).1; omega), h.bx⟩
theorem Lit1.appB (h : Lit1 wc ab an ap g v) (F : Fr (onBlk ab) wc w') (at' : ∀ k, onBlk a' k → onBlk ab k ∨ wc.heap.size ≤ k) : Lit1 w' a' an ap g v :=
  ⟨h.rd.fr F (fun k hk => by rw [(onBlk_some _ _ _ _).1 hk]; exact h.nb), Nat.lt_of_lt_of_le h.lt F.size, fun hk => (at' _ hk).elim h.nb (fun h1 => by have := h.lt; omega), h.nn, h.np⟩
theorem A3.appN (h : A3 w0 wc x V ab an ap n1 n2 n3 c1 c2 c3 vb vn vp) (own' : Own w' w0.heap.size 3 a' (n2 + 1) c' (vn ++ [u])) (F : Fr (onBlk an) wc w') (at' : ∀ k, onBlk a' k → onBlk an k ∨ wc.heap.size ≤ k) : A3 w0 w' x V ab a' ap n1 (n2 + 1) n3 c1 c' c3 vb (vn ++ [u]) vp :=
  ⟨h.kx.fr F h.q2, h.ob.fr F (h.p1), own', h.op.fr F (h.p3.symm), (Apart.app h.p1.symm at' (fun k hk => (h.ob.blk k hk).2)).symm, h.p2, (Apart.app h.p3 at' (fun k hk => (h.op.blk k hk).2)), h.q1, fun hk => (at' x hk).elim h.q2 (fun h1 => by have := h.kx.lt; omega), h.q3, h.fr.trans F (fun k hk h1 => by have := (h.on.blk k h1).1; omega), h.bx⟩
theorem Lit1.appN (h : Lit1 wc ab an ap g v) (F : Fr (onBlk an) wc w') (at' : ∀ k, onBlk a' k → onBlk an k ∨ wc.heap.size ≤ k) : Lit1 w' ab a' ap g v :=
  ⟨h.rd.fr F (fun k hk => by rw [(onBlk_some _ _ _ _).1 hk]; exact h.nn), Nat.lt_of_lt_of_le h.lt F.size, h.nb, fun hk => (at' _ hk).elim h.nn (fun h1 => by have := h.lt; omega), h.np⟩
theorem A3.appP (h : A3 w0 wc x V ab an ap n1 n2 n3 c1 c2 c3 vb vn vp) (own' : Own w' w0.heap.size 3 a' (n3 + 1) c' (vp ++ [u])) (F : Fr (onBlk ap) wc w') (at' : ∀ k, onBlk a' k → onBlk ap k ∨ wc.heap.size ≤ k) : A3 w0 w' x V ab an a' n1 n2 (n3 + 1) c1 c2 c' vb vn (vp ++ [u]) :=
  ⟨h.kx.fr F h.q3, h.ob.fr F (h.p2), h.on.fr F (h.p3), own', h.p1, (Apart.app h.p2.symm at' (fun k hk => (h.ob.blk k hk).2)).symm, (Apart.app h.p3.symm at' (fun k hk => (h.on.blk k hk).2)).symm, h.q1, h.q2, fun hk => (at' x hk).elim h.q3 (fun h1 => by have := h.kx.lt; omega), h.fr.trans F (fun k hk h1 => by have := (h.op.blk k h1).1; omega), h.bx⟩
theorem Lit1.appP (h : Lit1 wc ab an ap g v) (F : Fr (onBlk ap) wc w') (at' : ∀ k, onBlk a' k → onBlk ap k ∨ wc.heap.size ≤ k) : Lit1 w' ab an a' g v :=
  ⟨h.rd.fr F (fun k hk => by rw [(onBlk_some _ _ _ _).1 hk]; exact h.np), Nat.lt_of_lt_of_le h.lt F.size, h.nb, h.nn, fun hk => (at' _ hk).elim h.np (fun h1 => by have := h.lt; omega)⟩
/-- The three rows are stored. -/
theorem A3.store {cb cn cp m1 m2 m3 : Nat} {b0 n0 p0 z : Value} (h : A3 w0 wc x [b0, n0, p0, z, .slice none 0 0] ab an ap m1 m2 m3 cb cn cp vb vn vp) (u0 u1 u2 : Value) :
    A3 w0 (((wc.setCell ⟨x, 0, none⟩ u0).setCell ⟨x, 1, none⟩ u1).setCell ⟨x, 2, none⟩ u2) x [u0, u1, u2, z, .slice none 0 0] ab an ap m1 m2 m3 cb cn cp vb vn vp := by
  have F : Fr (onB x) wc (((wc.setCell ⟨x, 0, none⟩ u0).setCell ⟨x, 1, none⟩ u1).setCell ⟨x, 2, none⟩ u2) := (((Fr.refl (onB x) wc).setB 0 u0).setB 1 u1).setB 2 u2
  refine ⟨((h.kx.set 0 u0).set 1 u1).set 2 u2, h.ob.fr F ?_, h.on.fr F ?_, h.op.fr F ?_, h.p1, h.p2, h.p3, h.q1, h.q2, h.q3, h.fr.trans F (fun k hk (e : k = x) => by have := h.bx; omega), h.bx⟩
  · exact fun k hk (e : k = x) => h.q1 (e ▸ hk)
  · exact fun k hk (e : k = x) => h.q2 (e ▸ hk)
  · exact fun k hk (e : k = x) => h.q3 (e ▸ hk)
end
end Go.Proofs.Ytihcaemheknjbaa
