/- A slice of slices of ints: rows. -/
import Derived.Test.YtglonedhcljdoaaCom4
import Derived.Deep.AppendLies
namespace Go.Proofs.Ytglonedhcljdoaa
open Go.RowKit

structure RowV where
  a : Option Addr
  n : Nat
  c : Nat
  xs : List Int
abbrev RowV.val (r : RowV) : Value := .slice r.a r.n r.c

/-- The rows lie in a block that the call owns, each in its own block, apart. -/
structure Grid (w : World) (B g T n c : Nat) (R : List RowV) : Prop where
  own : Own w B T (some ⟨g, 0, none⟩) n c (R.map RowV.val)
  row : ∀ (j : Nat) (r : RowV), R[j]? = some r → Own w B 3 r.a r.n r.c (ints r.xs)
  apart : ∀ (j k : Nat) (r s : RowV), j ≠ k → R[j]? = some r → R[k]? = some s → Apart r.a s.a
  off : ∀ (j : Nat) (r : RowV), R[j]? = some r → ¬ onBlk r.a g
theorem Grid.fr {w w' : World} {B g T n c : Nat} {R : List RowV} (h : Grid w B g T n c R) {S : Nat → Prop} (f : Fr S w w') (h1 : ¬ S g) (h2 : ∀ (j : Nat) (r : RowV), R[j]? = some r → ∀ k, onBlk r.a k → ¬ S k) : Grid w' B g T n c R :=
  ⟨h.own.fr f (fun k hk => by have := (onBlk_some _ _ _ _).1 hk; subst this; exact h1), fun j r hr => (h.row j r hr).fr f (h2 j r hr), h.apart, h.off⟩
theorem Grid.fr0 {w w' : World} {B g T n c : Nat} {R : List RowV} (h : Grid w B g T n c R) (f : Fr F0 w w') : Grid w' B g T n c R := h.fr f id (fun _ _ _ _ _ => id)
theorem Grid.len {w : World} {B g T n c : Nat} {R : List RowV} (h : Grid w B g T n c R) : R.length = n := by simpa using h.own.len
theorem Grid.made {w : World} {B T : Nat} (n : Nat) (hB : B ≤ w.heap.size) (hmax : n ≤ 9223372036854775807) :
    Grid (w.alloc (.cells (Array.replicate n (.slice none 0 0)) T)) B w.heap.size T n n (List.replicate n ⟨none, 0, 0, []⟩) := by
  have hget : ∀ {j : Nat} {r : RowV}, (List.replicate n (⟨none, 0, 0, []⟩ : RowV))[j]? = some r → r = ⟨none, 0, 0, []⟩ := by
    intro j r h
    exact (List.mem_replicate.1 (List.mem_of_getElem? h)).2
  refine ⟨?_, ?_, ?_, ?_⟩
  · have h := Own.made (w := w) (B := B) (T := T) (z := .slice none 0 0) n hB hmax
    simpa using h
  · intro j r h; rw [hget h]; exact Own.nil _ _ _
  · intro j k r s _ h _; rw [hget h]; exact none_apart _
  · intro j r h; rw [hget h]; exact onBlk_none _
/-- One row is exchanged for what an append (w to w1) made of it, and laid in its place. -/
theorem Grid.put {w w1 : World} {B g T n c i : Nat} {R : List RowV} (h : Grid w B g T n c R) {r r' : RowV} (hr : R[i]? = some r)
    (own' : Own w1 B 3 r'.a r'.n r'.c (ints r'.xs)) (fr : Fr (onBlk r.a) w w1) (at' : ∀ k, onBlk r'.a k → onBlk r.a k ∨ w.heap.size ≤ k) :
    Grid (w1.setCell ⟨g, i, none⟩ r'.val) B g T n c (R.set i r') := by
  have hgl : g < w.heap.size := (h.own.blk g ((onBlk_some _ _ _ _).2 rfl)).2
  have hoff' : ¬ onBlk r'.a g := fun hk => (at' g hk).elim (h.off i r hr) (fun h1 => by omega)
  have hil : i < R.length := (List.getElem?_eq_some_iff.1 hr).1
  have hget : ∀ {j : Nat} {s : RowV}, (R.set i r')[j]? = some s → (j = i ∧ s = r') ∨ (j ≠ i ∧ R[j]? = some s) := by
    intro j s hs
    rw [List.getElem?_set] at hs
    split at hs
    · rename_i he
      injection hs with hs
      exact .inl ⟨he.symm, hs.symm⟩
    · rename_i he
      exact .inr ⟨fun e => he e.symm, hs⟩
  refine ⟨?_, ?_, ?_, ?_⟩
  · have h1 := (h.own.fr fr (fun k hk => by have := (onBlk_some _ _ _ _).1 hk; subst this; exact h.off i r hr)).set (i := i) r'.val
    rwa [← List.map_set] at h1
  · intro j s hs
    rcases hget hs with ⟨rfl, rfl⟩ | ⟨hj, hs⟩
    · exact own'.other (p := ⟨g, _, none⟩) hoff' _
    · exact ((h.row j s hs).fr fr (h.apart j i s r hj hs hr)).other (p := ⟨g, i, none⟩) (h.off j s hs) _
  · have key : ∀ (j : Nat) (s : RowV), j ≠ i → R[j]? = some s → Apart r'.a s.a := fun j s hj hs =>
      Apart.app (w := w) (h.apart i j r s (fun e => hj e.symm) hr hs) at' (fun k hk => ((h.row j s hs).blk k hk).2)
    intro j k s t hjk hs ht
    rcases hget hs with ⟨e1, e2⟩ | ⟨hj, hs'⟩
    · subst e2
      rcases hget ht with ⟨e3, _⟩ | ⟨hk, ht'⟩
      · exact absurd (e1.trans e3.symm) hjk
      · exact key k t hk ht'
    · rcases hget ht with ⟨e1, e2⟩ | ⟨hk, ht'⟩
      · subst e2
        exact (key j s hj hs').symm
      · exact h.apart j k s t hjk hs' ht'
  · intro j s hs
    rcases hget hs with ⟨rfl, rfl⟩ | ⟨hj, hs⟩
    · exact hoff'
    · exact h.off j s hs

end Go.Proofs.Ytglonedhcljdoaa
