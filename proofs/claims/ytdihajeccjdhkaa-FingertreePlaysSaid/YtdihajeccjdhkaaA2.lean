/- Trees in memory; what a node knows of itself. -/
import Derived.Test.YtdihajeccjdhkaaA1
import Derived.Test.YtdihajeccjdhkaaCom8
import Derived.Test.YtdihajeccjdhkaaCom10
import Derived.Lib.MinMax
namespace Go.Proofs.Ytdihajeccjdhkaa
open Go.RowKit
attribute [local go_sem ↓] Go.wp_at_zero Go.wp_at_succ
theorem size_alloc (w : World) (o : Obj) : (w.alloc o).heap.size = w.heap.size + 1 := by simp
/-- A block, known whole. -/
abbrev Blk (w : World) (b T : Nat) (vs : List Value) : Prop := w.heap[b]? = some (.cells vs.toArray T (0, 0))
section
variable {w w' : World} {b T : Nat} {vs : List Value}
theorem Blk.lt (h : Blk w b T vs) : b < w.heap.size := lt_of_block h
theorem Blk.cell (h : Blk w b T vs) {i : Nat} {u : Value} (hu : vs[i]? = some u) : w.cell? ⟨b, i, none⟩ = some u := by
  rw [cell_of_row w b i vs.toArray T (0, 0) h]; simpa using hu
theorem Blk.free (h : Blk w b T vs) (i : Nat) : w.frozen? ⟨b, i, none⟩ = false := by simp [World.frozen?, h]
theorem Blk.set (h : Blk w b T vs) (i : Nat) (u : Value) : Blk (w.setCell ⟨b, i, none⟩ u) b T (vs.set i u) := by
  unfold Blk
  rw [heap_setCell_same h]
  simp
theorem Blk.fr {S : Nat → Prop} (h : Blk w b T vs) (f : Fr S w w') (hS : ¬ S b) : Blk w' b T vs := (f.block b h.lt hS).trans h
theorem Blk.other (h : Blk w b T vs) {p : Addr} (hp : b ≠ p.block) (u : Value) : Blk (w.setCell p u) b T vs := (Below.heap_setCell _ _ _ _ hp).trans h
theorem Blk.alloc (h : Blk w b T vs) (o : Obj) : Blk (w.alloc o) b T vs := (Below.heap_alloc _ _ _ h.lt).trans h
theorem Blk.new (w : World) (T : Nat) (vs : List Value) : Blk (w.alloc (.cells vs.toArray T)) w.heap.size T vs := by show (w.heap.push _)[w.heap.size]? = _; simp
end
abbrev ptr (p : Option Addr) : Value := .pointer p
/-- The cells of a block, from its head. -/
def NdC (w : World) (b : Nat) (vs : List Value) : Prop := (∃ arr fr, w.heap[b]? = some (.cells arr 70 fr)) ∧ ∀ i u, vs[i]? = some u → w.cell? ⟨b, i, none⟩ = some u
theorem NdC.fr {S : Nat → Prop} {w w' : World} {b : Nat} {vs : List Value} (h : NdC w b vs) (f : Fr S w w') (hS : ¬ S b) : NdC w' b vs := ⟨by obtain ⟨⟨arr, fr, h1⟩, _⟩ := h; exact ⟨arr, fr, (f.block b (Array.getElem?_eq_some_iff.1 h1).1 hS).trans h1⟩, fun i u hu => f.cell (h.2 i u hu) hS⟩
theorem NdC.cell {w : World} {b : Nat} {vs : List Value} (h : NdC w b vs) {i : Nat} {u : Value} (hu : vs[i]? = some u) : w.cell? ⟨b, i, none⟩ = some u := h.2 i u hu
def ndV (l : Tr) (x : Int) (r : Tr) (pl pr : Option Addr) : List Value :=
  [ptr pl, ptr pr, .int .i64 x, .int .i64 ((Tr.nd l x r).len : Nat), .int .i64 ((Tr.nd l x r).ht : Nat), .int .i64 (Tr.nd l x r).sum, .int .i64 (Tr.nd l x r).best]
/-- A tree lies in memory. -/
def TM (w : World) : Tr → Option Addr → Prop
  | .nil, p => p = none
  | .nd l x r, p => ∃ b pl pr, p = some ⟨b, 0, none⟩ ∧ NdC w b (ndV l x r pl pr) ∧ TM w l pl ∧ TM w r pr
theorem TM.fr0 {w w' : World} (f : Fr F0 w w') : ∀ {t : Tr} {p : Option Addr}, TM w t p → TM w' t p
  | .nil, _, h => h
  | .nd _ _ _, _, ⟨b, pl, pr, h1, h2, h3, h4⟩ => ⟨b, pl, pr, h1, h2.fr f id, TM.fr0 f h3, TM.fr0 f h4⟩
theorem TM.ptr0 {w : World} {t : Tr} {p : Option Addr} (h : TM w t p) : p = none ↔ t = .nil := by
  cases t with
  | nil => exact ⟨fun _ => rfl, fun _ => h⟩
  | nd l x r => obtain ⟨b, pl, pr, h1, _⟩ := h; subst h1; simp
theorem len_any {t : Tr} {p : Option Addr} {w : World} (h : TM w t p) : Calls Try.prog 40 #[.pointer p] w fun e w' => e = .returned (.int .i64 t.len) ∧ w = w' := by
  cases t with
  | nil =>
    obtain rfl : p = none := h
    rw [Tr.len_nil]
    go_enter Try.func40, Try.ntmps40
    go_wp2_with fail
    go_ret
    exact ⟨rfl, rfl⟩
  | nd l x r =>
    obtain ⟨b, pl, pr, rfl, hc, _, _⟩ := h
    have x3 := hc.cell (i := 3) rfl
    generalize (Tr.nd l x r).len = n at *
    clear hc
    go_enter Try.func40, Try.ntmps40
    go_wp2_with fail
    go_ret
    exact ⟨rfl, rfl⟩
theorem height_any {t : Tr} {p : Option Addr} {w : World} (h : TM w t p) : Calls Try.prog 50 #[.pointer p] w fun e w' => e = .returned (.int .i64 t.ht) ∧ w = w' := by
  cases t with
  | nil =>
    obtain rfl : p = none := h
    go_enter Try.func50, Try.ntmps50
    go_wp2_with fail
    go_ret
    exact ⟨rfl, rfl⟩
  | nd l x r =>
    obtain ⟨b, pl, pr, rfl, hc, _, _⟩ := h
    have x3 := hc.cell (i := 4) rfl
    generalize (Tr.nd l x r).ht = n at *
    clear hc
    go_enter Try.func50, Try.ntmps50
    go_wp2_with fail
    go_ret
    exact ⟨rfl, rfl⟩
theorem total_any {t : Tr} {p : Option Addr} {w : World} (h : TM w t p) : Calls Try.prog 42 #[.pointer p] w fun e w' => e = .returned (.int .i64 t.sum) ∧ w = w' := by
  cases t with
  | nil =>
    obtain rfl : p = none := h
    rw [Tr.sum_nil]
    go_enter Try.func42, Try.ntmps42
    go_wp2_with fail
    go_ret
    exact ⟨rfl, rfl⟩
  | nd l x r =>
    obtain ⟨b, pl, pr, rfl, hc, _, _⟩ := h
    have x3 := hc.cell (i := 5) rfl
    generalize (Tr.nd l x r).sum = n at *
    clear hc
    go_enter Try.func42, Try.ntmps42
    go_wp2_with fail
    go_ret
    exact ⟨rfl, rfl⟩
end Go.Proofs.Ytdihajeccjdhkaa
