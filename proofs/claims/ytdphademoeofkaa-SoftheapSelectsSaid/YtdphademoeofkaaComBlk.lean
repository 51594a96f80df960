/- Blocks that are known whole. -/
import Derived.Test.YtdphademoeofkaaCom9
namespace Go.Proofs.Ytdphademoeofkaa
open Go.RowKit
theorem size_alloc (w : World) (o : Obj) : (w.alloc o).heap.size = w.heap.size + 1 := by simp
/-- A block, known whole. -/
abbrev Blk (w : World) (b T : Nat) (vs : List Value) : Prop := w.heap[b]? = some (.cells vs.toArray T (0, 0))
section
variable {w w' : World} {b T : Nat} {vs : List Value}
theorem Blk.lt (h : Blk w b T vs) : b < w.heap.size := lt_of_block h
theorem Blk.cell (h : Blk w b T vs) {i : Nat} {u : Value} (hu : vs[i]? = some u) : w.cell? ⟨b, i, none⟩ = some u := by
  rw [cell_of_row w b i vs.toArray T (0, 0) h]; simpa using hu
theorem Blk.free (h : Blk w b T vs) (i : Nat) : w.frozen? ⟨b, i, none⟩ = false := by simp [World.frozen?, h]
theorem Blk.set (h : Blk w b T vs) (i : Nat) (u : Value) : Blk (w.setCell ⟨b, i, none⟩ u) b T (vs.set i u) := by
  unfold Blk
  rw [heap_setCell_same h]
  simp
theorem Blk.fr {S : Nat → Prop} (h : Blk w b T vs) (f : Fr S w w') (hS : ¬ S b) : Blk w' b T vs := (f.block b h.lt hS).trans h
theorem Blk.other (h : Blk w b T vs) {p : Addr} (hp : b ≠ p.block) (u : Value) : Blk (w.setCell p u) b T vs := (Below.heap_setCell _ _ _ _ hp).trans h
theorem Blk.alloc (h : Blk w b T vs) (o : Obj) : Blk (w.alloc o) b T vs := (Below.heap_alloc _ _ _ h.lt).trans h
theorem Blk.drew (h : Blk w b T vs) : Blk w.drew b T vs := h
theorem Blk.new (w : World) (T : Nat) (vs : List Value) : Blk (w.alloc (.cells vs.toArray T)) w.heap.size T vs := by show (w.heap.push _)[w.heap.size]? = _; simp
end
end Go.Proofs.Ytdphademoeofkaa
