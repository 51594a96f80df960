/- The forest in memory; top. -/
import Derived.Test.YtfeokafjehpgnaaK1
import Derived.Test.YtfeokafjehpgnaaCom10
namespace Go.Proofs.Ytfeokafjehpgnaa
open Go.RowKit
attribute [local go_sem ↓] Go.wp_at_zero Go.wp_at_succ
theorem size_alloc (w : World) (o : Obj) : (w.alloc o).heap.size = w.heap.size + 1 := by simp
/-- A block, known whole. -/
abbrev Blk (w : World) (b T : Nat) (vs : List Value) : Prop := w.heap[b]? = some (.cells vs.toArray T (0, 0))
section
variable {w w' : World} {b T : Nat} {vs : List Value}
theorem Blk.lt (h : Blk w b T vs) : b < w.heap.size := lt_of_block h
theorem Blk.cell (h : Blk w b T vs) {i : Nat} {u : Value} (hu : vs[i]? = some u) : w.cell? ⟨b, i, none⟩ = some u := by
  rw [cell_of_row w b i vs.toArray T (0, 0) h]; simpa using hu
theorem Blk.free (h : Blk w b T vs) (i : Nat) : w.frozen? ⟨b, i, none⟩ = false := by simp [World.frozen?, h]
theorem Blk.set (h : Blk w b T vs) (i : Nat) (u : Value) : Blk (w.setCell ⟨b, i, none⟩ u) b T (vs.set i u) := by
  unfold Blk
  rw [heap_setCell_same h]
  simp
theorem Blk.fr {S : Nat → Prop} (h : Blk w b T vs) (f : Fr S w w') (hS : ¬ S b) : Blk w' b T vs := (f.block b h.lt hS).trans h
theorem Blk.other (h : Blk w b T vs) {p : Addr} (hp : b ≠ p.block) (u : Value) : Blk (w.setCell p u) b T vs := (Below.heap_setCell _ _ _ _ hp).trans h
theorem Blk.alloc (h : Blk w b T vs) (o : Obj) : Blk (w.alloc o) b T vs := (Below.heap_alloc _ _ _ h.lt).trans h
theorem Blk.new (w : World) (T : Nat) (vs : List Value) : Blk (w.alloc (.cells vs.toArray T)) w.heap.size T vs := by show (w.heap.push _)[w.heap.size]? = _; simp
end
/-- The cells of a vertex. -/
def fld (v : K.Vx) : Nat → Value
  | 0 => .int .i64 (v.up : Nat)
  | 1 => .int .i64 (v.left : Nat)
  | 2 => .int .i64 (v.right : Nat)
  | 3 => .bool v.turned
  | 4 => .int .i64 v.weight
  | 5 => .int .i64 v.sum
  | 6 => .int .i64 (v.size : Nat)
  | 7 => .int .i64 (v.first : Nat)
  | _ => .int .i64 (v.last : Nat)
/-- A forest lies at f, its vertices at b. -/
structure FS (w : World) (f b n : Nat) (s : Int) (V : K.Vs) : Prop where
  fb : Blk w f 72 [.slice (some ⟨b, 0, none⟩) (n + 1) (n + 1), .int .i64 s]
  vb : ∃ arr T, w.heap[b]? = some (.cells arr T (0, 0))
  ne : f ≠ b
  cells : ∀ x j, x ≤ n → j < 9 → w.cell? ⟨b, x * 9 + j, none⟩ = some (fld (V x) j)
  small : n ≤ 60
section
variable {w w' : World} {f b n : Nat} {s : Int} {V : K.Vs}
theorem FS.ltb (h : FS w f b n s V) : b < w.heap.size := by obtain ⟨_, _, h⟩ := h.vb; exact lt_of_block h
theorem FS.free (h : FS w f b n s V) (j : Nat) : w.frozen? ⟨b, j, none⟩ = false := by obtain ⟨_, _, h⟩ := h.vb; simp [World.frozen?, h]
theorem FS.fr {S : Nat → Prop} (h : FS w f b n s V) (hf : Fr S w w') (h1 : ¬ S f) (h2 : ¬ S b) : FS w' f b n s V :=
  ⟨h.fb.fr hf h1, by obtain ⟨arr, T, h3⟩ := h.vb; exact ⟨arr, T, (hf.block b h.ltb h2).trans h3⟩, h.ne, fun x j hx hj => hf.cell (h.cells x j hx hj) h2, h.small⟩
theorem FS.fr0 (h : FS w f b n s V) (hf : Fr F0 w w') : FS w' f b n s V := h.fr hf id id
theorem FS.alloc (h : FS w f b n s V) (o : Obj) : FS (w.alloc o) f b n s V := h.fr0 ((Fr.refl _ _).alloc o)
theorem FS.drew (h : FS w f b n s V) : FS w.drew f b n s V := h.fr0 (Fr.refl _ _).drew
/-- A cell of a vertex is written. -/
theorem FS.put (h : FS w f b n s V) {x j : Nat} (hx : x ≤ n) (hj : j < 9) (u : Value) {V' : K.Vs} (hv : ∀ i, i < 9 → fld (V' x) i = if i = j then u else fld (V x) i) (ho : ∀ y, y ≠ x → V' y = V y) : FS (w.setCell ⟨b, x * 9 + j, none⟩ u) f b n s V' := by
  refine ⟨h.fb.other (p := ⟨b, x * 9 + j, none⟩) h.ne u, ?_, h.ne, fun y i hy hi => ?_, h.small⟩
  · obtain ⟨arr, T, h3⟩ := h.vb
    exact ⟨_, T, heap_setCell_same h3 u⟩
  · by_cases e : y = x
    · subst e
      rw [hv i hi]
      by_cases e2 : i = j
      · subst e2
        rw [if_pos rfl]
        exact World.cell?_setCell_same' _ _ _ (by rw [h.cells y i hy hi]; rfl)
      · rw [if_neg e2, World.cell?_setCell_other _ _ _ _ (fun e => by have := congrArg Addr.off e; simp at this; omega)]
        exact h.cells y i hy hi
    · rw [ho y e, World.cell?_setCell_other _ _ _ _ (fun e => by have := congrArg Addr.off e; simp at this; omega)]
      exact h.cells y i hy hi
theorem FS.putN (h : FS w f b n s V) {x j : Nat} (hx : x ≤ n) (hj : j < 9) (u : Value) {v : K.Vx} (hv : ∀ i, i < 9 → fld v i = if i = j then u else fld (V x) i) : FS (w.setCell ⟨b, x * 9 + j, none⟩ u) f b n s (K.put V x v) :=
  h.put hx hj u (by rw [K.put_same]; exact hv) (fun _ hy => K.put_other hy)
/-- The steps. -/
theorem FS.step (h : FS w f b n s V) (t : Int) : FS (w.setCell ⟨f, 1, none⟩ (.int .i64 t)) f b n t V :=
  ⟨h.fb.set 1 _, by obtain ⟨arr, T, h3⟩ := h.vb; exact ⟨arr, T, (Below.heap_setCell _ _ _ _ (Ne.symm h.ne)).trans h3⟩, h.ne, fun x j hx hj => by rw [World.cell?_setCell_far _ _ _ _ h.ne]; exact h.cells x j hx hj, h.small⟩
theorem FS.c0 (h : FS w f b n s V) {x : Nat} (hx : x ≤ n) : w.cell? ⟨b, x * 9, none⟩ = some (.int .i64 ((V x).up : Nat)) := h.cells x 0 hx (by omega)
theorem FS.c1 (h : FS w f b n s V) {x : Nat} (hx : x ≤ n) : w.cell? ⟨b, x * 9 + 1, none⟩ = some (.int .i64 ((V x).left : Nat)) := h.cells x 1 hx (by omega)
theorem FS.c2 (h : FS w f b n s V) {x : Nat} (hx : x ≤ n) : w.cell? ⟨b, x * 9 + 2, none⟩ = some (.int .i64 ((V x).right : Nat)) := h.cells x 2 hx (by omega)
theorem FS.c3 (h : FS w f b n s V) {x : Nat} (hx : x ≤ n) : w.cell? ⟨b, x * 9 + 3, none⟩ = some (.bool (V x).turned) := h.cells x 3 hx (by omega)
theorem FS.c4 (h : FS w f b n s V) {x : Nat} (hx : x ≤ n) : w.cell? ⟨b, x * 9 + 4, none⟩ = some (.int .i64 (V x).weight) := h.cells x 4 hx (by omega)
theorem FS.c5 (h : FS w f b n s V) {x : Nat} (hx : x ≤ n) : w.cell? ⟨b, x * 9 + 5, none⟩ = some (.int .i64 (V x).sum) := h.cells x 5 hx (by omega)
theorem FS.c6 (h : FS w f b n s V) {x : Nat} (hx : x ≤ n) : w.cell? ⟨b, x * 9 + 6, none⟩ = some (.int .i64 ((V x).size : Nat)) := h.cells x 6 hx (by omega)
theorem FS.c7 (h : FS w f b n s V) {x : Nat} (hx : x ≤ n) : w.cell? ⟨b, x * 9 + 7, none⟩ = some (.int .i64 ((V x).first : Nat)) := h.cells x 7 hx (by omega)
theorem FS.c8 (h : FS w f b n s V) {x : Nat} (hx : x ≤ n) : w.cell? ⟨b, x * 9 + 8, none⟩ = some (.int .i64 ((V x).last : Nat)) := h.cells x 8 hx (by omega)
end
/-- All lies within bounds. -/
structure GV (n : Nat) (V : K.Vs) : Prop where
  up : ∀ x, x ≤ n → (V x).up ≤ n
  left : ∀ x, x ≤ n → (V x).left ≤ n
  right : ∀ x, x ≤ n → (V x).right ≤ n
  first : ∀ x, x ≤ n → (V x).first ≤ n
  last : ∀ x, x ≤ n → (V x).last ≤ n
  size : ∀ x, x ≤ n → (V x).size ≤ n
  sum : ∀ x, x ≤ n → -1099511627776 ≤ (V x).sum ∧ (V x).sum ≤ 1099511627776
  weight : ∀ x, x ≤ n → -1048576 ≤ (V x).weight ∧ (V x).weight ≤ 1048576
  nl : ∀ x, x ≠ 0 → x ≤ n → (V x).left ≠ x
  nr : ∀ x, x ≠ 0 → x ≤ n → (V x).right ≠ x
theorem top_any (w : World) {f b n : Nat} {s : Int} {V : K.Vs} (h : FS w f b n s V) (g : GV n V) {x : Nat} (hx : x ≤ n) :
    Calls Try.prog 63 #[.pointer (some ⟨f, 0, none⟩), .int .i64 x] w fun e w' => e = .returned (.bool (K.topB V x)) ∧ w = w' := by
  have f0 := h.fb.cell (i := 0) rfl
  have hs := h.small
  have hu := g.up x hx
  have x0 := h.c0 hx
  have x1 := h.c1 hu
  have x2 := h.c2 hu
  have hT : K.topB V x = (decide ((V x).up = 0) || (decide ((V (V x).up).left ≠ x) && decide ((V (V x).up).right ≠ x))) := rfl
  rw [hT]
  clear hT g h
  generalize (V (V x).up).left = l at *
  generalize (V (V x).up).right = r at *
  generalize (V x).up = u at *
  by_cases h0 : u = 0
  · subst h0
    rw [show (decide ((0 : Nat) = 0) || (decide (l ≠ x) && decide (r ≠ x))) = true by simp]
    go_enter Try.func63, Try.ntmps63
    go_wp2_with fail
    go_ret
    exact ⟨rfl, rfl⟩
  · by_cases h1 : l = x
    · subst h1
      rw [show (decide (u = 0) || (decide (l ≠ l) && decide (r ≠ l))) = false by simp [h0]]
      go_enter Try.func63, Try.ntmps63
      go_wp2_with fail
      go_ret
      exact ⟨ret_bool (by simp [h0]), rfl⟩
    · by_cases h2 : r = x
      · subst h2
        rw [show (decide (u = 0) || (decide (l ≠ r) && decide (r ≠ r))) = false by simp [h0]]
        go_enter Try.func63, Try.ntmps63
        go_wp2_with fail
        go_ret
        exact ⟨ret_bool (by simp [h0]), rfl⟩
      · rw [show (decide (u = 0) || (decide (l ≠ x) && decide (r ≠ x))) = true by simp [h0, h1, h2]]
        go_enter Try.func63, Try.ntmps63
        go_wp2_with fail
        go_ret
        exact ⟨ret_bool (by simp [h0]; omega), rfl⟩
end Go.Proofs.Ytfeokafjehpgnaa
