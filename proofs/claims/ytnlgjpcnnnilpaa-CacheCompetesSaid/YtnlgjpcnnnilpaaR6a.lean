/- Touch: a miss where there is room: the state in the region of three appends. -/
import Derived.Test.YtnlgjpcnnnilpaaR5
import Derived.Test.YtnlgjpcnnnilpaaCom10
namespace Go.Proofs.Ytnlgjpcnnnilpaa
open Go.RowKit

structure A3 (w0 wc : World) (B x bm gb gn gp cb cn cp s m mi : Nat) (ab an ap : Option Addr) (nb nn np c1 c2 c3 : Nat) (vb vn vp : List Value) : Prop where
  kx : wc.heap[x]? = some (.cells (cacheV m mi bm gb gn gp cb cn cp s) 52 (0, 0))
  ob : Own wc B 3 ab nb c1 vb
  on : Own wc B 3 an nn c2 vn
  op : Own wc B 3 ap np c3 vp
  p1 : Apart ab an
  p2 : Apart ab ap
  p3 : Apart an ap
  q : ∀ k, onBlk ab k ∨ onBlk an k ∨ onBlk ap k → k ≠ x ∧ k ≠ bm
  nw : ∀ k, onBlk ab k ∨ onBlk an k ∨ onBlk ap k → (k = gb ∨ k = gn ∨ k = gp) ∨ w0.heap.size ≤ k
  fr : Fr (on5 x bm gb gn gp) w0 wc
  xl : x < w0.heap.size
  ml : bm < w0.heap.size
  bw : B ≤ w0.heap.size
  mb : wc.heap[bm]? = w0.heap[bm]?
theorem MapV.of_heap {w wc : World} {e : TypeId} {b n : Nat} {f : Int → Option Value} (h : MapV w e b n f) (hb : wc.heap[b]? = w.heap[b]?) : MapV wc e b n f := by
  obtain ⟨D, ⟨es, clock, h1, r⟩, r2⟩ := h.ex
  exact ⟨D, ⟨es, clock, hb.trans h1, r⟩, r2⟩
structure Lit1 (wc : World) (ab an ap : Option Addr) (g : Nat) (v : Value) : Prop where
  rd : Rd wc (some ⟨g, 0, none⟩) 1 [v]
  lt : g < wc.heap.size
  nb : ¬ onBlk ab g
  nn : ¬ onBlk an g
  np : ¬ onBlk ap g
section
variable {w0 wc w' : World} {B x bm gb gn gp cb cn cp s m mi : Nat} {ab an ap a' : Option Addr} {nb nn np c1 c2 c3 c' : Nat} {vb vn vp : List Value} {v u : Value} {g : Nat}
theorem A3.alloc (h : A3 w0 wc B x bm gb gn gp cb cn cp s m mi ab an ap nb nn np c1 c2 c3 vb vn vp) (o : Obj) : A3 w0 (wc.alloc o) B x bm gb gn gp cb cn cp s m mi ab an ap nb nn np c1 c2 c3 vb vn vp :=
  ⟨(Below.heap_alloc _ _ _ (lt_of_block h.kx)).trans h.kx, h.ob.alloc o, h.on.alloc o, h.op.alloc o, h.p1, h.p2, h.p3, h.q, h.nw, h.fr.alloc o, h.xl, h.ml, h.bw, (Below.heap_alloc _ _ _ (Nat.lt_of_lt_of_le h.ml h.fr.size)).trans h.mb⟩
theorem A3.drew (h : A3 w0 wc B x bm gb gn gp cb cn cp s m mi ab an ap nb nn np c1 c2 c3 vb vn vp) : A3 w0 wc.drew B x bm gb gn gp cb cn cp s m mi ab an ap nb nn np c1 c2 c3 vb vn vp :=
  ⟨h.kx, h.ob, h.on, h.op, h.p1, h.p2, h.p3, h.q, h.nw, h.fr.drew, h.xl, h.ml, h.bw, h.mb⟩
theorem A3.lit (h : A3 w0 wc B x bm gb gn gp cb cn cp s m mi ab an ap nb nn np c1 c2 c3 vb vn vp) (v : Value) : Lit1 (wc.alloc (.cells #[v] 3)) ab an ap wc.heap.size v :=
  ⟨Own.rd (Own.lit (w := wc) (B := wc.heap.size) (T := 3) [v] 1 rfl (Nat.le_refl _) (by omega)), by simp, fun hk => by have := (h.ob.blk _ hk).2; omega, fun hk => by have := (h.on.blk _ hk).2; omega, fun hk => by have := (h.op.blk _ hk).2; omega⟩
theorem Lit1.alloc (h : Lit1 wc ab an ap g v) (o : Obj) : Lit1 (wc.alloc o) ab an ap g v := ⟨h.rd.alloc o, by simp; have := h.lt; omega, h.nb, h.nn, h.np⟩
theorem A3.size (h : A3 w0 wc B x bm gb gn gp cb cn cp s m mi ab an ap nb nn np c1 c2 c3 vb vn vp) : B ≤ wc.heap.size := Nat.le_trans h.bw h.fr.size
theorem A3.held (h : A3 w0 wc B x bm gb gn gp cb cn cp s m mi ab an ap nb nn np c1 c2 c3 vb vn vp) : wc.cell? ⟨x, 3, none⟩ = some (.slice (some ⟨gb, 0, none⟩) (s + 1) cb) ∧ wc.cell? ⟨x, 4, none⟩ = some (.slice (some ⟨gn, 0, none⟩) (s + 1) cn) ∧ wc.cell? ⟨x, 5, none⟩ = some (.slice (some ⟨gp, 0, none⟩) (s + 1) cp) := by
  obtain ⟨_, _, _, k3, k4, k5⟩ := six_cells h.kx
  exact ⟨k3, k4, k5⟩
theorem A3.appB (h : A3 w0 wc B x bm gb gn gp cb cn cp s m mi ab an ap nb nn np c1 c2 c3 vb vn vp) (own' : Own w' B 3 a' (nb + 1) c' (vb ++ [u])) (F : Fr (onBlk ab) wc w') (at' : ∀ k, onBlk a' k → onBlk ab k ∨ wc.heap.size ≤ k) : A3 w0 w' B x bm gb gn gp cb cn cp s m mi a' an ap (nb + 1) nn np c' c2 c3 (vb ++ [u]) vn vp := by
  refine ⟨(F.block x (lt_of_block h.kx) (fun hk => (h.q x (.inl hk)).1 rfl)).trans h.kx, own', h.on.fr F (h.p1.symm), h.op.fr F (h.p2.symm), (Apart.app h.p1 at' (fun k hk => (h.on.blk k hk).2)), (Apart.app h.p2 at' (fun k hk => (h.op.blk k hk).2)), h.p3, fun k hk => ?_, fun k hk => ?_, h.fr.trans F (fun k hk h1 => ?_), h.xl, h.ml, h.bw, (F.block bm (Nat.lt_of_lt_of_le h.ml h.fr.size) (fun hk => (h.q bm (.inl hk)).2 rfl)).trans h.mb⟩
  · rcases hk with hk | hk | hk
    · rcases at' k hk with h1 | h1
      · exact h.q k (.inl h1)
      · exact ⟨fun e => by have := h.xl; have := h.fr.size; omega, fun e => by have := h.ml; have := h.fr.size; omega⟩
    · exact h.q k (.inr (.inl hk))
    · exact h.q k (.inr (.inr hk))
  · rcases hk with hk | hk | hk
    · rcases at' k hk with h1 | h1
      · exact h.nw k (.inl h1)
      · exact .inr (by have := h.fr.size; omega)
    · exact h.nw k (.inr (.inl hk))
    · exact h.nw k (.inr (.inr hk))
  · rcases h.nw k (.inl h1) with h2 | h2
    · rcases h2 with h2 | h2 | h2
      · exact .inr (.inr (.inl h2))
      · exact .inr (.inr (.inr (.inl h2)))
      · exact .inr (.inr (.inr (.inr h2)))
    · omega
theorem Lit1.appB (h : Lit1 wc ab an ap g v) (F : Fr (onBlk ab) wc w') (at' : ∀ k, onBlk a' k → onBlk ab k ∨ wc.heap.size ≤ k) : Lit1 w' a' an ap g v :=
  ⟨h.rd.fr F (fun k hk => by rw [(onBlk_some _ _ _ _).1 hk]; exact h.nb), Nat.lt_of_lt_of_le h.lt F.size, fun hk => (at' _ hk).elim h.nb (fun h1 => by have := h.lt; omega), h.nn, h.np⟩
theorem A3.appN (h : A3 w0 wc B x bm gb gn gp cb cn cp s m mi ab an ap nb nn np c1 c2 c3 vb vn vp) (own' : Own w' B 3 a' (nn + 1) c' (vn ++ [u])) (F : Fr (onBlk an) wc w') (at' : ∀ k, onBlk a' k → onBlk an k ∨ wc.heap.size ≤ k) : A3 w0 w' B x bm gb gn gp cb cn cp s m mi ab a' ap nb (nn + 1) np c1 c' c3 vb (vn ++ [u]) vp := by
  refine ⟨(F.block x (lt_of_block h.kx) (fun hk => (h.q x (.inr (.inl hk))).1 rfl)).trans h.kx, h.ob.fr F (h.p1), own', h.op.fr F (h.p3.symm), (Apart.app h.p1.symm at' (fun k hk => (h.ob.blk k hk).2)).symm, h.p2, (Apart.app h.p3 at' (fun k hk => (h.op.blk k hk).2)), fun k hk => ?_, fun k hk => ?_, h.fr.trans F (fun k hk h1 => ?_), h.xl, h.ml, h.bw, (F.block bm (Nat.lt_of_lt_of_le h.ml h.fr.size) (fun hk => (h.q bm (.inr (.inl hk))).2 rfl)).trans h.mb⟩
  · rcases hk with hk | hk | hk
    · exact h.q k (.inl hk)
    · rcases at' k hk with h1 | h1
      · exact h.q k (.inr (.inl h1))
      · exact ⟨fun e => by have := h.xl; have := h.fr.size; omega, fun e => by have := h.ml; have := h.fr.size; omega⟩
    · exact h.q k (.inr (.inr hk))
  · rcases hk with hk | hk | hk
    · exact h.nw k (.inl hk)
    · rcases at' k hk with h1 | h1
      · exact h.nw k (.inr (.inl h1))
      · exact .inr (by have := h.fr.size; omega)
    · exact h.nw k (.inr (.inr hk))
  · rcases h.nw k (.inr (.inl h1)) with h2 | h2
    · rcases h2 with h2 | h2 | h2
      · exact .inr (.inr (.inl h2))
      · exact .inr (.inr (.inr (.inl h2)))
      · exact .inr (.inr (.inr (.inr h2)))
    · omega
theorem Lit1.appN (h : Lit1 wc ab an ap g v) (F : Fr (onBlk an) wc w') (at' : ∀ k, onBlk a' k → onBlk an k ∨ wc.heap.size ≤ k) : Lit1 w' ab a' ap g v :=
  ⟨h.rd.fr F (fun k hk => by rw [(onBlk_some _ _ _ _).1 hk]; exact h.nn), Nat.lt_of_lt_of_le h.lt F.size, h.nb, fun hk => (at' _ hk).elim h.nn (fun h1 => by have := h.lt; omega), h.np⟩
theorem A3.appP (h : A3 w0 wc B x bm gb gn gp cb cn cp s m mi ab an ap nb nn np c1 c2 c3 vb vn vp) (own' : Own w' B 3 a' (np + 1) c' (vp ++ [u])) (F : Fr (onBlk ap) wc w') (at' : ∀ k, onBlk a' k → onBlk ap k ∨ wc.heap.size ≤ k) : A3 w0 w' B x bm gb gn gp cb cn cp s m mi ab an a' nb nn (np + 1) c1 c2 c' vb vn (vp ++ [u]) := by
  refine ⟨(F.block x (lt_of_block h.kx) (fun hk => (h.q x (.inr (.inr hk))).1 rfl)).trans h.kx, h.ob.fr F (h.p2), h.on.fr F (h.p3), own', h.p1, (Apart.app h.p2.symm at' (fun k hk => (h.ob.blk k hk).2)).symm, (Apart.app h.p3.symm at' (fun k hk => (h.on.blk k hk).2)).symm, fun k hk => ?_, fun k hk => ?_, h.fr.trans F (fun k hk h1 => ?_), h.xl, h.ml, h.bw, (F.block bm (Nat.lt_of_lt_of_le h.ml h.fr.size) (fun hk => (h.q bm (.inr (.inr hk))).2 rfl)).trans h.mb⟩
  · rcases hk with hk | hk | hk
    · exact h.q k (.inl hk)
    · exact h.q k (.inr (.inl hk))
    · rcases at' k hk with h1 | h1
      · exact h.q k (.inr (.inr h1))
      · exact ⟨fun e => by have := h.xl; have := h.fr.size; omega, fun e => by have := h.ml; have := h.fr.size; omega⟩
  · rcases hk with hk | hk | hk
    · exact h.nw k (.inl hk)
    · exact h.nw k (.inr (.inl hk))
    · rcases at' k hk with h1 | h1
      · exact h.nw k (.inr (.inr h1))
      · exact .inr (by have := h.fr.size; omega)
  · rcases h.nw k (.inr (.inr h1)) with h2 | h2
    · rcases h2 with h2 | h2 | h2
      · exact .inr (.inr (.inl h2))
      · exact .inr (.inr (.inr (.inl h2)))
      · exact .inr (.inr (.inr (.inr h2)))
    · omega
theorem Lit1.appP (h : Lit1 wc ab an ap g v) (F : Fr (onBlk ap) wc w') (at' : ∀ k, onBlk a' k → onBlk ap k ∨ wc.heap.size ≤ k) : Lit1 w' ab an a' g v :=
  ⟨h.rd.fr F (fun k hk => by rw [(onBlk_some _ _ _ _).1 hk]; exact h.np), Nat.lt_of_lt_of_le h.lt F.size, h.nb, h.nn, fun hk => (at' _ hk).elim h.np (fun h1 => by have := h.lt; omega)⟩
end
end Go.Proofs.Ytnlgjpcnnnilpaa
