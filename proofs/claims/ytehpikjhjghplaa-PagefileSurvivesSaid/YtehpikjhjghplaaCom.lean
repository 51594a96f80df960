/- Common lemmas: frames of worlds, slices that are read, slices that a call owns, appending, making. -/
import Derived.Test.YtehpikjhjghplaaRows
import Derived.WalkKit
import Derived.WalkSpells
import Derived.WalkLawsBesides
import Derived.Deep.QuietTactic
import Derived.BigQuiet
import Derived.Lib.Hide
import Derived.Laws.EntriesVeiled
namespace Go.Proofs.Ytehpikjhjghplaa
open Go.RowKit

/-- Old blocks outside S are as they were. -/
structure Fr (S : Nat → Prop) (w w' : World) : Prop where
  os : w'.os = w.os
  tape : w'.tape = w.tape
  output : w'.output = w.output
  size : w.heap.size ≤ w'.heap.size
  block : ∀ k, k < w.heap.size → ¬ S k → w'.heap[k]? = w.heap[k]?

abbrev F0 : Nat → Prop := fun _ => False
def onBlk (a : Option Addr) : Nat → Prop := fun k => ∃ o s, a = some ⟨k, o, s⟩
theorem onBlk_none (k : Nat) : ¬ onBlk none k := by rintro ⟨o, s, h⟩; cases h
theorem onBlk_some (g o k : Nat) (s : Option Nat) : onBlk (some ⟨g, o, s⟩) k ↔ k = g := by
  constructor
  · rintro ⟨o', s', h⟩
    injection h with h
    injection h with h1
    exact h1.symm
  · rintro rfl; exact ⟨o, s, rfl⟩

theorem Fr.refl (S : Nat → Prop) (w : World) : Fr S w w := ⟨rfl, rfl, rfl, Nat.le_refl _, fun _ _ _ => rfl⟩
theorem Fr.mono {S S' : Nat → Prop} {w w' : World} (h : Fr S w w') (hS : ∀ k, k < w.heap.size → S k → S' k) : Fr S' w w' :=
  ⟨h.os, h.tape, h.output, h.size, fun k hk hn => h.block k hk (fun hs => hn (hS k hk hs))⟩
theorem Fr.trans {S S' : Nat → Prop} {w w1 w2 : World} (h : Fr S w w1) (h' : Fr S' w1 w2) (hS : ∀ k, k < w.heap.size → S' k → S k) : Fr S w w2 :=
  ⟨h'.os.trans h.os, h'.tape.trans h.tape, h'.output.trans h.output, Nat.le_trans h.size h'.size,
   fun k hk hn => (h'.block k (Nat.lt_of_lt_of_le hk h.size) (fun hs => hn (hS k hk hs))).trans (h.block k hk hn)⟩
theorem Fr.trans0 {S : Nat → Prop} {w w1 w2 : World} (h : Fr S w w1) (h' : Fr F0 w1 w2) : Fr S w w2 := h.trans h' (fun _ _ h => h.elim)
theorem Fr.drew {S : Nat → Prop} {w w1 : World} (h : Fr S w w1) : Fr S w w1.drew := ⟨h.os, h.tape, h.output, h.size, h.block⟩
theorem Fr.drewN {S : Nat → Prop} {w w1 : World} (h : Fr S w w1) (n : Nat) : Fr S w (w1.drewN n) := ⟨h.os, h.tape, h.output, h.size, h.block⟩
theorem Fr.alloc {S : Nat → Prop} {w w1 : World} (h : Fr S w w1) (o : Obj) : Fr S w (w1.alloc o) :=
  ⟨h.os, h.tape, h.output, Nat.le_trans h.size (by simp), fun k hk hn => (Below.heap_alloc _ _ _ (Nat.lt_of_lt_of_le hk h.size)).trans (h.block k hk hn)⟩
theorem Fr.setCell {S : Nat → Prop} {w w1 : World} (h : Fr S w w1) {p : Addr} (hp : p.block < w.heap.size → S p.block) (u : Value) : Fr S w (w1.setCell p u) :=
  ⟨h.os, h.tape, h.output, by simpa using h.size, fun k hk hn => by
    rw [Below.heap_setCell _ _ _ _ (fun e => hn (by subst e; exact hp hk))]; exact h.block k hk hn⟩
theorem Fr.setOn {g o : Nat} {s : Option Nat} {w w1 : World} (h : Fr (onBlk (some ⟨g, o, s⟩)) w w1) (v : Nat) (u : Value) : Fr (onBlk (some ⟨g, o, s⟩)) w (w1.setCell ⟨g, v, none⟩ u) :=
  Fr.setCell (p := ⟨g, v, none⟩) h (fun _ => (onBlk_some _ _ _ _).2 rfl) u
theorem Fr.of_grown {w w' : World} {v : Value} {a : Option Addr} {n c : Nat} (hv : v = .slice a n c) (hg : w.grownBy w' v.ownBlock) : Fr (onBlk a) w w' := by
  subst hv
  refine ⟨hg.os, hg.tape, hg.output, hg.size, fun k hk hn => hg.block k hk ?_⟩
  intro e
  cases a with
  | none => simp [Value.ownBlock] at e
  | some a => simp [Value.ownBlock] at e; exact hn ⟨a.off, a.spot, by rw [e]⟩
theorem Fr.of_grown0 {w w' : World} (hg : w.grownBy w' none) : Fr F0 w w' :=
  ⟨hg.os, hg.tape, hg.output, hg.size, fun k hk _ => hg.block k hk (by simp)⟩
theorem Fr.of_below {w w' : World} (h : Below w.heap.size w w') : Fr F0 w w' := ⟨h.os, h.tape, h.output, h.size, fun k hk _ => h.block k hk⟩
theorem Fr.below {w w' : World} (h : Fr F0 w w') : Below w.heap.size w w' := ⟨h.os, h.tape, h.output, h.size, fun k hk => h.block k hk id⟩
theorem Fr.cell {S : Nat → Prop} {w w' : World} (h : Fr S w w') {p : Addr} {v : Value} (hc : w.cell? p = some v) (hp : ¬ S p.block) : w'.cell? p = some v :=
  (World.cell?_of_block (h.block p.block (World.block_lt_of_cell? _ _ hc) hp)).trans hc
theorem Fr.frozen {S : Nat → Prop} {w w' : World} (h : Fr S w w') {p : Addr} (hb : p.block < w.heap.size) (hp : ¬ S p.block) : w'.frozen? p = w.frozen? p :=
  World.frozen?_of_block (h.block p.block hb hp)

/-- The slice with base a and length n reads as the cells vs. -/
structure Rd (w : World) (a : Option Addr) (n : Nat) (vs : List Value) : Prop where
  len : vs.length = n
  max : n ≤ 9223372036854775807
  cells : 0 < n → ∃ b o, a = some ⟨b, o, none⟩ ∧ ∀ i u, vs[i]? = some u → w.cell? ⟨b, o + i, none⟩ = some u

theorem Rd.nil (w : World) (a : Option Addr) : Rd w a 0 [] := ⟨rfl, by omega, fun h => absurd h (by omega)⟩
theorem Rd.fr {S : Nat → Prop} {w w' : World} {a : Option Addr} {n : Nat} {vs : List Value} (h : Rd w a n vs) (f : Fr S w w') (hS : ∀ k, onBlk a k → ¬ S k) : Rd w' a n vs :=
  ⟨h.len, h.max, fun hn => by
    obtain ⟨b, o, rfl, hc⟩ := h.cells hn
    exact ⟨b, o, rfl, fun i u hu => f.cell (hc i u hu) (hS b ((onBlk_some _ _ _ _).2 rfl))⟩⟩
theorem Rd.fr0 {w w' : World} {a : Option Addr} {n : Nat} {vs : List Value} (h : Rd w a n vs) (f : Fr F0 w w') : Rd w' a n vs := h.fr f (fun _ _ => id)
theorem Rd.lt {w : World} {a : Option Addr} {n : Nat} {vs : List Value} (h : Rd w a n vs) (hn : 0 < n) : ∀ k, onBlk a k → k < w.heap.size := by
  intro k hk
  obtain ⟨b, o, rfl, hc⟩ := h.cells hn
  have := (onBlk_some _ _ _ _).1 hk
  subst this
  have h1 := h.len
  exact World.block_lt_of_cell? _ _ (hc 0 (vs[0]'(by omega)) (by simp))

/-- A slice that the call owns: from the head of a block from B on. -/
abbrev Own (w : World) (B : Nat) (T : TypeId) (a : Option Addr) (n c : Nat) (vs : List Value) : Prop := w.ownsRow B T 1 (.slice a n c) n vs

theorem Own.rd {w : World} {B : Nat} {T : TypeId} {a : Option Addr} {n c : Nat} {vs : List Value} (h : Own w B T a n c vs) : Rd w a n vs := by
  obtain ⟨hl, h⟩ := h
  refine ⟨by omega, ?_, ?_⟩
  · rcases h with ⟨_, rfl⟩ | ⟨g, cap, cur, hv, _, _, h1, h2, _, _⟩
    · omega
    · have : cap ≤ 9223372036854775807 := h2
      omega
  · intro hn
    rcases h with ⟨_, rfl⟩ | ⟨g, cap, cur, hv, _, hh, h1, h2, h3, h4⟩
    · omega
    · injection hv with ha _ _
      refine ⟨g, 0, ha, fun i u hu => ?_⟩
      rw [Nat.zero_add, cell_of_row w g i cur T (0, 0) hh]
      rw [← h4, List.getElem?_take] at hu
      split at hu
      · simpa using hu
      · cases hu
theorem Own.len {w : World} {B : Nat} {T : TypeId} {a : Option Addr} {n c : Nat} {vs : List Value} (h : Own w B T a n c vs) : vs.length = n := by have := h.1; omega
theorem Own.nil (w : World) (B : Nat) (T : TypeId) : Own w B T none 0 0 [] := World.ownsRow_nil _ _ _ _
theorem Own.blk {w : World} {B : Nat} {T : TypeId} {a : Option Addr} {n c : Nat} {vs : List Value} (h : Own w B T a n c vs) : ∀ k, onBlk a k → B ≤ k ∧ k < w.heap.size := by
  rintro k ⟨o, s, rfl⟩
  exact h.lt k rfl
theorem Own.fr {S : Nat → Prop} {w w' : World} {B : Nat} {T : TypeId} {a : Option Addr} {n c : Nat} {vs : List Value} (h : Own w B T a n c vs) (f : Fr S w w') (hS : ∀ k, onBlk a k → ¬ S k) : Own w' B T a n c vs := by
  refine ⟨h.1, ?_⟩
  rcases h.2 with hn | ⟨g, cap, cur, hv, hb, hgg, rest⟩
  · exact .inl hn
  · refine .inr ⟨g, cap, cur, hv, hb, ?_, rest⟩
    rw [f.block g (Array.getElem?_eq_some_iff.1 hgg).1 (hS g ?_)]
    · exact hgg
    · injection hv with ha _ _
      rw [ha, onBlk_some]
theorem Own.fr0 {w w' : World} {B : Nat} {T : TypeId} {a : Option Addr} {n c : Nat} {vs : List Value} (h : Own w B T a n c vs) (f : Fr F0 w w') : Own w' B T a n c vs := h.fr f (fun _ _ => id)
theorem Own.mono {w : World} {B B' : Nat} {T : TypeId} {a : Option Addr} {n c : Nat} {vs : List Value} (h : Own w B T a n c vs) (hB : B' ≤ B) : Own w B' T a n c vs := by
  refine ⟨h.1, ?_⟩
  rcases h.2 with hn | ⟨g, cap, cur, hv, hb, rest⟩
  · exact .inl hn
  · exact .inr ⟨g, cap, cur, hv, by omega, rest⟩
/-- Where there is an element: the block, and that its cells can be read and written. -/
theorem Own.at {w : World} {B : Nat} {T : TypeId} {a : Option Addr} {n c : Nat} {vs : List Value} (h : Own w B T a n c vs) (hn : 0 < n) :
    ∃ g, a = some ⟨g, 0, none⟩ ∧ B ≤ g ∧ g < w.heap.size ∧ (∀ i u, vs[i]? = some u → w.cell? ⟨g, i, none⟩ = some u) ∧ (∀ i, w.frozen? ⟨g, i, none⟩ = false) := by
  rcases h.2 with ⟨_, rfl⟩ | ⟨g, cap, cur, hv, hb, hh, h1, h2, h3, h4⟩
  · omega
  · injection hv with ha _ _
    refine ⟨g, ha, hb, (Array.getElem?_eq_some_iff.1 hh).1, fun i u hu => ?_, fun i => by simp [World.frozen?, hh]⟩
    rw [cell_of_row w g i cur T (0, 0) hh]
    rw [← h4, List.getElem?_take] at hu
    split at hu
    · simpa using hu
    · cases hu
theorem heap_setCell_same {w : World} {g i : Nat} {cur : Array Value} {T : TypeId} {f : Nat × Nat} (h : w.heap[g]? = some (.cells cur T f)) (u : Value) :
    (w.setCell ⟨g, i, none⟩ u).heap[g]? = some (.cells (cur.setIfInBounds i u) T f) := by
  have hlt : g < w.heap.size := (Array.getElem?_eq_some_iff.1 h).1
  have h' : w.heap[g] = .cells cur T f := by simpa [Array.getElem?_eq_getElem hlt] using h
  show (w.heap.modify g _)[g]? = _
  rw [Array.getElem?_eq_getElem (by simpa using hlt), Array.getElem_modify_self, h']
  rfl
theorem Own.set {w : World} {B : Nat} {T : TypeId} {g n c i : Nat} {vs : List Value} (h : Own w B T (some ⟨g, 0, none⟩) n c vs) (u : Value) :
    Own (w.setCell ⟨g, i, none⟩ u) B T (some ⟨g, 0, none⟩) n c (vs.set i u) := by
  refine ⟨by simpa using h.1, ?_⟩
  rcases h.2 with ⟨hv, _⟩ | ⟨g', cap, cur, hv, hb, hh, h1, h2, h3, h4⟩
  · cases hv
  · injection hv with ha hn hc
    injection ha with ha
    injection ha with ha
    subst ha
    refine .inr ⟨g, cap, cur.setIfInBounds i u, by rw [hc], hb, heap_setCell_same hh u, h1, h2, by simpa using h3, ?_⟩
    rw [Array.toList_setIfInBounds, ← h4, List.take_set]
/-- A store elsewhere. -/
theorem Own.other {w : World} {B : Nat} {T : TypeId} {a : Option Addr} {n c : Nat} {vs : List Value} (h : Own w B T a n c vs) {p : Addr} (hp : ¬ onBlk a p.block) (u : Value) : Own (w.setCell p u) B T a n c vs :=
  h.fr (S := fun k => k = p.block) (Fr.setCell (S := fun k => k = p.block) (Fr.refl _ w) (fun _ => rfl) u) (fun _ hk e => hp (e ▸ hk))
theorem Rd.other {w : World} {a : Option Addr} {n : Nat} {vs : List Value} (h : Rd w a n vs) {p : Addr} (hp : ¬ onBlk a p.block) (u : Value) : Rd (w.setCell p u) a n vs :=
  h.fr (S := fun k => k = p.block) (Fr.setCell (S := fun k => k = p.block) (Fr.refl _ w) (fun _ => rfl) u) (fun _ hk e => hp (e ▸ hk))
theorem Own.alloc {w : World} {B : Nat} {T : TypeId} {a : Option Addr} {n c : Nat} {vs : List Value} (h : Own w B T a n c vs) (o : Obj) : Own (w.alloc o) B T a n c vs := h.fr0 ((Fr.refl _ _).alloc o)
theorem Rd.alloc {w : World} {a : Option Addr} {n : Nat} {vs : List Value} (h : Rd w a n vs) (o : Obj) : Rd (w.alloc o) a n vs := h.fr0 ((Fr.refl _ _).alloc o)

/-- What the table says of an element type of one cell. -/
def Elem1 (P : Program) (t T : TypeId) (z : Value) (bytes : Nat) : Prop :=
  P.underlying t = some (.slice T) ∧ (P.info? T).map (fun i => (i.zero, i.size, i.bytes)) = some (some z, 1, bytes) ∧ z.cells.size = 1

/-- 'append(s, u)': s owned, u one cell. -/
theorem wpApp1 {P : Program} {w : World} {t T : TypeId} {z : Value} {bytes : Nat} (E : Elem1 P t T z bytes) {a : Option Addr} {n c B : Nat} {vs : List Value} (own : Own w B T a n c vs)
    (hlen : (n + 1) * bytes ≤ 140737488355328) (hmax : n + 1 ≤ 9223372036854775807) (hB : B ≤ w.heap.size) {u : Value} (hu : u.oneCell' = true)
    {ops : Array Oper} {rest : List Oper} {act : Act} {Q : Exit → Act → World → Prop} {dst : Option Tmp} {ty : TypeId} {pos : String} {after : Array Edge} {s x : Operand}
    (hs : act.eval s = .slice a n c) (hx : act.eval x = .slice (some ⟨w.heap.size, 0, none⟩) 1 1)
    (K : ∀ a' c' w', Own w' B T a' (n + 1) c' (vs ++ [u]) → Fr (onBlk a) w w' → wpList P ops Q rest (act.put dst (.slice a' (n + 1) c')) w') :
    wpList P ops Q ({ dst, op := .call { callee := .builtin .append, args := #[s, x], argTypes := #[t, t] }, type := ty, pos, after, guard := none } :: rest) act (w.alloc (.cells #[u] T)) := by
  obtain ⟨E1, E2, E3⟩ := E
  obtain ⟨i0, hi, hz0, hz1, hz2⟩ := info_parts E2
  refine wpList_append_own (w := w.alloc (.cells #[u] T)) rfl s x t rfl B T i0 z 1 bytes E1 hi hz0 hz1 hz2 E3 (by decide) (.slice a n c) n vs hs (Own.alloc own _) ⟨w.heap.size, 0, none⟩ 1 1 [u] hx rfl ?_ ?_ (by unfold maxLen; omega) hlen (by simp; omega) ?_
  · intro j u' hj
    match j, hj with
    | 0, hj => simp at hj; subst hj; simp [Addr.add]
  · intro u' hu'; simp at hu'; subst hu'; exact hu
  · intro v' w' hown hg hnil
    rcases hown.2 with ⟨_, hn⟩ | ⟨g, cap, cur, hv, r⟩
    · omega
    · subst hv
      exact K _ _ _ hown (Fr.trans0 (S := onBlk a) (w := w) (w1 := w) (Fr.refl _ _) (Fr.refl _ _) |>.trans (Fr.trans ((Fr.refl (onBlk a) w).alloc _) (Fr.of_grown rfl hg) (fun _ _ h => h)) (fun _ _ h => h))

/-- 'make([]T, n)': a fact for the walk. -/
theorem run_mk {P : Program} {t T : TypeId} {z : Value} {bytes : Nat} (E : Elem1 P t T z bytes) (hz : z.cells = #[z]) (n : Nat) (hlen : bytes * n ≤ 281474976710656) (hmax : n ≤ 9223372036854775807) (w : World) :
    (Instr.makeSlice t (.int .i64 n) (.int .i64 n)).run P w = .ok (.slice (some ⟨w.heap.size, 0, none⟩) n n) (w.alloc (.cells (Array.replicate n z) T)) := by
  obtain ⟨E1, E2, E3⟩ := E
  obtain ⟨i0, hi, hz0, hz1, hz2⟩ := info_parts E2
  have hb : (i0.bytes : Int) * (n : Int) ≤ 281474976710656 := by
    have h : ((bytes * n : Nat) : Int) ≤ 281474976710656 := by omega
    rw [hz2]
    rwa [Int.natCast_mul] at h
  have h := run_make (P := P) w t T i0 z E1 hi hz0 .i64 .i64 n n (by omega) (by omega) hb (by omega)
  rw [h, hz1, hz]
  have e : madeCells #[z] ((n : Int).toNat * 1) = Array.replicate n z := by
    simp [madeCells]
    apply Array.ext <;> simp [Nat.mod_one]
  rw [e]; simp
theorem Own.made {w : World} {B : Nat} {T : TypeId} {z : Value} (n : Nat) (hB : B ≤ w.heap.size) (hmax : n ≤ 9223372036854775807) :
    Own (w.alloc (.cells (Array.replicate n z) T)) B T (some ⟨w.heap.size, 0, none⟩) n n (List.replicate n z) := by
  have e1 : (List.replicate n z).length = n * 1 := by rw [List.length_replicate, Nat.mul_one]
  have e2 : (Array.replicate n z).size = n * 1 := by rw [Array.size_replicate, Nat.mul_one]
  have e3 : (Array.replicate n z).toList.take (n * 1) = List.replicate n z := by rw [Array.toList_replicate, Nat.mul_one, List.take_of_length_le (by rw [List.length_replicate]; exact Nat.le_refl _)]
  exact ⟨e1, .inr ⟨w.heap.size, n, Array.replicate n z, rfl, hB, heap_alloc_new _ _, Nat.le_refl _, hmax, e2, e3⟩⟩

theorem Own.lit {w : World} {B : Nat} {T : TypeId} (vs : List Value) (n : Nat) (hn : vs.length = n) (hB : B ≤ w.heap.size) (hmax : n ≤ 9223372036854775807) :
    Own (w.alloc (.cells vs.toArray T)) B T (some ⟨w.heap.size, 0, none⟩) n n vs := by
  subst hn
  exact ⟨by rw [Nat.mul_one], .inr ⟨w.heap.size, vs.length, vs.toArray, rfl, hB, heap_alloc_new _ _, Nat.le_refl _, hmax, by simp, by simp⟩⟩

/-- A call of a function value that a slot holds, without a way through every kind of callee. -/
def callVal (v : Value) (args : Array Value) : Sem Next := do
  let d ← Deferred.ofValue v args
  invoke d.target d.args
@[go_sem ↓] theorem execOp_call_tmp (a : Act) (dst : Option Tmp) (t : Nat) (xs : Array Operand) (ats : Array TypeId) (ty : TypeId) (pos : String) (after : Array Edge) (guard : Option (Nat × Bool)) :
    execOp a.eval { dst, op := .call { callee := .value (.tmp t), args := xs, argTypes := ats }, type := ty, pos, after, guard } = callVal (a.eval (.tmp t)) (xs.map a.eval) := by
  simp [execOp, resolve, callVal]
@[go_sem ↓] theorem callVal_func (f : FuncId) (first cap args : Array Value) : callVal (.func (.func f) first cap) args = callFunc f (first ++ args ++ cap) := by
  simp [callVal, invoke, Deferred.ofValue]

/-- A block of one cell. -/
abbrev One (w : World) (b : Nat) (T : TypeId) (v : Value) : Prop := w.heap[b]? = some (.cells #[v] T (0, 0))
theorem One.lt {w : World} {b : Nat} {T : TypeId} {v : Value} (h : One w b T v) : b < w.heap.size := lt_of_block h
theorem One.cell {w : World} {b : Nat} {T : TypeId} {v : Value} (h : One w b T v) : w.cell? ⟨b, 0, none⟩ = some v := cell_of_one h
theorem One.free {w : World} {b : Nat} {T : TypeId} {v : Value} (h : One w b T v) : w.frozen? ⟨b, 0, none⟩ = false := free_of_one h
theorem One.fr {S : Nat → Prop} {w w' : World} {b : Nat} {T : TypeId} {v : Value} (h : One w b T v) (f : Fr S w w') (hS : ¬ S b) : One w' b T v := (f.block b h.lt hS).trans h
theorem One.set {w : World} {b : Nat} {T : TypeId} {v : Value} (h : One w b T v) (u : Value) : One (w.setCell ⟨b, 0, none⟩ u) b T u := one_setCell h
theorem One.other {w : World} {b : Nat} {T : TypeId} {v : Value} (h : One w b T v) {p : Addr} (hp : b ≠ p.block) (u : Value) : One (w.setCell p u) b T v := (Below.heap_setCell _ _ _ _ hp).trans h
theorem One.alloc {w : World} {b : Nat} {T : TypeId} {v : Value} (h : One w b T v) (o : Obj) : One (w.alloc o) b T v := (Below.heap_alloc _ _ _ h.lt).trans h
theorem Own.drew {w : World} {B : Nat} {T : TypeId} {a : Option Addr} {n c : Nat} {vs : List Value} (h : Own w B T a n c vs) : Own w.drew B T a n c vs := h
theorem One.new {w : World} (T : TypeId) (v : Value) : One (w.alloc (.cells #[v] T)) w.heap.size T v := by show (w.heap.push _)[w.heap.size]? = _; simp

/-- What a law is told of a slice of ints that came in. -/
structure ArgInts (w : World) (a : Option Addr) (n : Nat) (zs : List Int) : Prop where
  rd : Rd w a n (zs.map (Value.int .i64))
  wf : ∀ x ∈ zs, -9223372036854775808 ≤ x ∧ x ≤ 9223372036854775807
theorem argInts_nil (w : World) : ArgInts w none 0 [] := ⟨Rd.nil _ _, by simp⟩
theorem argInts_some {w : World} {x : Addr} {l c : Nat} {zs : List Int} (hl : l ≤ c) (hm : c ≤ maxLen) (hz : zs.length = c)
    (hcell : ∀ i, i < zs.length → w.cell? (x.add i) = some (.int .i64 (zs.getD i 0))) (hwz : ∀ n ∈ zs, (Lit.int .i64 n).wf = true) : ArgInts w (some x) l (zs.take l) := by
  refine ⟨⟨by simp; omega, by unfold maxLen at hm; omega, fun hn => ?_⟩, fun y hy => ?_⟩
  · have hsp : x.spot = none := by
      have h0 := hcell 0 (by omega)
      simp only [Addr.add, if_true, World.cell?] at h0
      split at h0
      · cases hs : x.spot with
        | none => rfl
        | some s => simp [hs] at h0
      · cases h0
    obtain ⟨b, o, s⟩ := x
    simp only at hsp
    subst hsp
    refine ⟨b, o, rfl, fun i u hu => ?_⟩
    have hi : i < l := by
      have := (List.getElem?_eq_some_iff.1 hu).1
      simp at this; omega
    have h := hcell i (by omega)
    rw [Addr.add_lit] at h
    rw [h]
    simp only [List.getElem?_map, List.getElem?_take, hi, if_true] at hu
    rw [List.getElem?_eq_getElem (by omega)] at hu
    simp at hu
    rw [← hu, List.getD_eq_getElem?_getD, List.getElem?_eq_getElem (by omega)]
    rfl
  · have h := hwz y (List.mem_of_mem_take hy)
    simp only [Lit.wf, Bool.and_eq_true, decide_eq_true_eq] at h
    have e1 : IntKind.i64.min = -9223372036854775808 := by decide
    have e2 : IntKind.i64.max = 9223372036854775807 := by decide
    rw [e1, e2] at h
    exact h

theorem ret_slice {a b : Option Addr} {n m c d : Nat} (h1 : a = b) (h2 : n = m) (h3 : c = d) : Ending.returned (.slice a n c) = .returned (.slice b m d) := by rw [h1, h2, h3]
theorem ret_int {k : IntKind} {a b : Int} (h : a = b) : Ending.returned (.int k a) = .returned (.int k b) := by rw [h]
theorem ret_bool {a b : Bool} (h : a = b) : Ending.returned (.bool a) = .returned (.bool b) := by rw [h]

end Go.Proofs.Ytehpikjhjghplaa
