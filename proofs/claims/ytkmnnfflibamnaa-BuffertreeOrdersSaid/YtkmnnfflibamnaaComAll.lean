/- Common texts of this seat, one behind another. -/
import Derived.Test.YtkmnnfflibamnaaRows
import Derived.WalkKit
import Derived.WalkSpells
import Derived.WalkLawsBesides
import Derived.Deep.QuietTactic
import Derived.BigQuiet
import Derived.Lib.Hide
import Derived.Laws.EntriesVeiled
import Derived.Maps.AppendAt
import Derived.Deep.AppendLies
import Derived.Deep.DrawnRows
import Derived.Deep.RegionHeld3
/- Common lemmas: frames of worlds, slices that are read, slices that a call owns, appending, making. -/
namespace Go.Proofs.Ytkmnnfflibamnaa
open Go.RowKit

/-- Old blocks outside S are as they were. -/
structure Fr (S : Nat → Prop) (w w' : World) : Prop where
  os : w'.os = w.os
  tape : w'.tape = w.tape
  output : w'.output = w.output
  size : w.heap.size ≤ w'.heap.size
  block : ∀ k, k < w.heap.size → ¬ S k → w'.heap[k]? = w.heap[k]?

abbrev F0 : Nat → Prop := fun _ => False
def onBlk (a : Option Addr) : Nat → Prop := fun k => ∃ o s, a = some ⟨k, o, s⟩
theorem onBlk_none (k : Nat) : ¬ onBlk none k := by rintro ⟨o, s, h⟩; cases h
theorem onBlk_some (g o k : Nat) (s : Option Nat) : onBlk (some ⟨g, o, s⟩) k ↔ k = g := by
  constructor
  · rintro ⟨o', s', h⟩
    injection h with h
    injection h with h1
    exact h1.symm
  · rintro rfl; exact ⟨o, s, rfl⟩

theorem Fr.refl (S : Nat → Prop) (w : World) : Fr S w w := ⟨rfl, rfl, rfl, Nat.le_refl _, fun _ _ _ => rfl⟩
theorem Fr.mono {S S' : Nat → Prop} {w w' : World} (h : Fr S w w') (hS : ∀ k, k < w.heap.size → S k → S' k) : Fr S' w w' :=
  ⟨h.os, h.tape, h.output, h.size, fun k hk hn => h.block k hk (fun hs => hn (hS k hk hs))⟩
theorem Fr.trans {S S' : Nat → Prop} {w w1 w2 : World} (h : Fr S w w1) (h' : Fr S' w1 w2) (hS : ∀ k, k < w.heap.size → S' k → S k) : Fr S w w2 :=
  ⟨h'.os.trans h.os, h'.tape.trans h.tape, h'.output.trans h.output, Nat.le_trans h.size h'.size,
   fun k hk hn => (h'.block k (Nat.lt_of_lt_of_le hk h.size) (fun hs => hn (hS k hk hs))).trans (h.block k hk hn)⟩
theorem Fr.trans0 {S : Nat → Prop} {w w1 w2 : World} (h : Fr S w w1) (h' : Fr F0 w1 w2) : Fr S w w2 := h.trans h' (fun _ _ h => h.elim)
theorem Fr.drew {S : Nat → Prop} {w w1 : World} (h : Fr S w w1) : Fr S w w1.drew := ⟨h.os, h.tape, h.output, h.size, h.block⟩
theorem Fr.drewN {S : Nat → Prop} {w w1 : World} (h : Fr S w w1) (n : Nat) : Fr S w (w1.drewN n) := ⟨h.os, h.tape, h.output, h.size, h.block⟩
theorem Fr.alloc {S : Nat → Prop} {w w1 : World} (h : Fr S w w1) (o : Obj) : Fr S w (w1.alloc o) :=
  ⟨h.os, h.tape, h.output, Nat.le_trans h.size (by simp), fun k hk hn => (Below.heap_alloc _ _ _ (Nat.lt_of_lt_of_le hk h.size)).trans (h.block k hk hn)⟩
theorem Fr.setCell {S : Nat → Prop} {w w1 : World} (h : Fr S w w1) {p : Addr} (hp : p.block < w.heap.size → S p.block) (u : Value) : Fr S w (w1.setCell p u) :=
  ⟨h.os, h.tape, h.output, by simpa using h.size, fun k hk hn => by
    rw [Below.heap_setCell _ _ _ _ (fun e => hn (by subst e; exact hp hk))]; exact h.block k hk hn⟩
theorem Fr.setOn {g o : Nat} {s : Option Nat} {w w1 : World} (h : Fr (onBlk (some ⟨g, o, s⟩)) w w1) (v : Nat) (u : Value) : Fr (onBlk (some ⟨g, o, s⟩)) w (w1.setCell ⟨g, v, none⟩ u) :=
  Fr.setCell (p := ⟨g, v, none⟩) h (fun _ => (onBlk_some _ _ _ _).2 rfl) u
theorem Fr.of_grown {w w' : World} {v : Value} {a : Option Addr} {n c : Nat} (hv : v = .slice a n c) (hg : w.grownBy w' v.ownBlock) : Fr (onBlk a) w w' := by
  subst hv
  refine ⟨hg.os, hg.tape, hg.output, hg.size, fun k hk hn => hg.block k hk ?_⟩
  intro e
  cases a with
  | none => simp [Value.ownBlock] at e
  | some a => simp [Value.ownBlock] at e; exact hn ⟨a.off, a.spot, by rw [e]⟩
theorem Fr.of_grown0 {w w' : World} (hg : w.grownBy w' none) : Fr F0 w w' :=
  ⟨hg.os, hg.tape, hg.output, hg.size, fun k hk _ => hg.block k hk (by simp)⟩
theorem Fr.of_below {w w' : World} (h : Below w.heap.size w w') : Fr F0 w w' := ⟨h.os, h.tape, h.output, h.size, fun k hk _ => h.block k hk⟩
theorem Fr.below {w w' : World} (h : Fr F0 w w') : Below w.heap.size w w' := ⟨h.os, h.tape, h.output, h.size, fun k hk => h.block k hk id⟩
theorem Fr.cell {S : Nat → Prop} {w w' : World} (h : Fr S w w') {p : Addr} {v : Value} (hc : w.cell? p = some v) (hp : ¬ S p.block) : w'.cell? p = some v :=
  (World.cell?_of_block (h.block p.block (World.block_lt_of_cell? _ _ hc) hp)).trans hc
theorem Fr.frozen {S : Nat → Prop} {w w' : World} (h : Fr S w w') {p : Addr} (hb : p.block < w.heap.size) (hp : ¬ S p.block) : w'.frozen? p = w.frozen? p :=
  World.frozen?_of_block (h.block p.block hb hp)

/-- The slice with base a and length n reads as the cells vs. -/
structure Rd (w : World) (a : Option Addr) (n : Nat) (vs : List Value) : Prop where
  len : vs.length = n
  max : n ≤ 9223372036854775807
  cells : 0 < n → ∃ b o, a = some ⟨b, o, none⟩ ∧ ∀ i u, vs[i]? = some u → w.cell? ⟨b, o + i, none⟩ = some u

theorem Rd.nil (w : World) (a : Option Addr) : Rd w a 0 [] := ⟨rfl, by omega, fun h => absurd h (by omega)⟩
theorem Rd.fr {S : Nat → Prop} {w w' : World} {a : Option Addr} {n : Nat} {vs : List Value} (h : Rd w a n vs) (f : Fr S w w') (hS : ∀ k, onBlk a k → ¬ S k) : Rd w' a n vs :=
  ⟨h.len, h.max, fun hn => by
    obtain ⟨b, o, rfl, hc⟩ := h.cells hn
    exact ⟨b, o, rfl, fun i u hu => f.cell (hc i u hu) (hS b ((onBlk_some _ _ _ _).2 rfl))⟩⟩
theorem Rd.fr0 {w w' : World} {a : Option Addr} {n : Nat} {vs : List Value} (h : Rd w a n vs) (f : Fr F0 w w') : Rd w' a n vs := h.fr f (fun _ _ => id)
theorem Rd.lt {w : World} {a : Option Addr} {n : Nat} {vs : List Value} (h : Rd w a n vs) (hn : 0 < n) : ∀ k, onBlk a k → k < w.heap.size := by
  intro k hk
  obtain ⟨b, o, rfl, hc⟩ := h.cells hn
  have := (onBlk_some _ _ _ _).1 hk
  subst this
  have h1 := h.len
  exact World.block_lt_of_cell? _ _ (hc 0 (vs[0]'(by omega)) (by simp))

/-- A slice that the call owns: from the head of a block from B on. -/
abbrev Own (w : World) (B : Nat) (T : TypeId) (a : Option Addr) (n c : Nat) (vs : List Value) : Prop := w.ownsRow B T 1 (.slice a n c) n vs

theorem Own.rd {w : World} {B : Nat} {T : TypeId} {a : Option Addr} {n c : Nat} {vs : List Value} (h : Own w B T a n c vs) : Rd w a n vs := by
  obtain ⟨hl, h⟩ := h
  refine ⟨by omega, ?_, ?_⟩
  · rcases h with ⟨_, rfl⟩ | ⟨g, cap, cur, hv, _, _, h1, h2, _, _⟩
    · omega
    · have : cap ≤ 9223372036854775807 := h2
      omega
  · intro hn
    rcases h with ⟨_, rfl⟩ | ⟨g, cap, cur, hv, _, hh, h1, h2, h3, h4⟩
    · omega
    · injection hv with ha _ _
      refine ⟨g, 0, ha, fun i u hu => ?_⟩
      rw [Nat.zero_add, cell_of_row w g i cur T (0, 0) hh]
      rw [← h4, List.getElem?_take] at hu
      split at hu
      · simpa using hu
      · cases hu
theorem Own.len {w : World} {B : Nat} {T : TypeId} {a : Option Addr} {n c : Nat} {vs : List Value} (h : Own w B T a n c vs) : vs.length = n := by have := h.1; omega
theorem Own.nil (w : World) (B : Nat) (T : TypeId) : Own w B T none 0 0 [] := World.ownsRow_nil _ _ _ _
theorem Own.blk {w : World} {B : Nat} {T : TypeId} {a : Option Addr} {n c : Nat} {vs : List Value} (h : Own w B T a n c vs) : ∀ k, onBlk a k → B ≤ k ∧ k < w.heap.size := by
  rintro k ⟨o, s, rfl⟩
  exact h.lt k rfl
theorem Own.fr {S : Nat → Prop} {w w' : World} {B : Nat} {T : TypeId} {a : Option Addr} {n c : Nat} {vs : List Value} (h : Own w B T a n c vs) (f : Fr S w w') (hS : ∀ k, onBlk a k → ¬ S k) : Own w' B T a n c vs := by
  refine ⟨h.1, ?_⟩
  rcases h.2 with hn | ⟨g, cap, cur, hv, hb, hgg, rest⟩
  · exact .inl hn
  · refine .inr ⟨g, cap, cur, hv, hb, ?_, rest⟩
    rw [f.block g (Array.getElem?_eq_some_iff.1 hgg).1 (hS g ?_)]
    · exact hgg
    · injection hv with ha _ _
      rw [ha, onBlk_some]
theorem Own.fr0 {w w' : World} {B : Nat} {T : TypeId} {a : Option Addr} {n c : Nat} {vs : List Value} (h : Own w B T a n c vs) (f : Fr F0 w w') : Own w' B T a n c vs := h.fr f (fun _ _ => id)
theorem Own.mono {w : World} {B B' : Nat} {T : TypeId} {a : Option Addr} {n c : Nat} {vs : List Value} (h : Own w B T a n c vs) (hB : B' ≤ B) : Own w B' T a n c vs := by
  refine ⟨h.1, ?_⟩
  rcases h.2 with hn | ⟨g, cap, cur, hv, hb, rest⟩
  · exact .inl hn
  · exact .inr ⟨g, cap, cur, hv, by omega, rest⟩
/-- Where there is an element: the block, and that its cells can be read and written. -/
theorem Own.at {w : World} {B : Nat} {T : TypeId} {a : Option Addr} {n c : Nat} {vs : List Value} (h : Own w B T a n c vs) (hn : 0 < n) :
    ∃ g, a = some ⟨g, 0, none⟩ ∧ B ≤ g ∧ g < w.heap.size ∧ (∀ i u, vs[i]? = some u → w.cell? ⟨g, i, none⟩ = some u) ∧ (∀ i, w.frozen? ⟨g, i, none⟩ = false) := by
  rcases h.2 with ⟨_, rfl⟩ | ⟨g, cap, cur, hv, hb, hh, h1, h2, h3, h4⟩
  · omega
  · injection hv with ha _ _
    refine ⟨g, ha, hb, (Array.getElem?_eq_some_iff.1 hh).1, fun i u hu => ?_, fun i => by simp [World.frozen?, hh]⟩
    rw [cell_of_row w g i cur T (0, 0) hh]
    rw [← h4, List.getElem?_take] at hu
    split at hu
    · simpa using hu
    · cases hu
theorem heap_setCell_same {w : World} {g i : Nat} {cur : Array Value} {T : TypeId} {f : Nat × Nat} (h : w.heap[g]? = some (.cells cur T f)) (u : Value) :
    (w.setCell ⟨g, i, none⟩ u).heap[g]? = some (.cells (cur.setIfInBounds i u) T f) := by
  have hlt : g < w.heap.size := (Array.getElem?_eq_some_iff.1 h).1
  have h' : w.heap[g] = .cells cur T f := by simpa [Array.getElem?_eq_getElem hlt] using h
  show (w.heap.modify g _)[g]? = _
  rw [Array.getElem?_eq_getElem (by simpa using hlt), Array.getElem_modify_self, h']
  rfl
theorem Own.set {w : World} {B : Nat} {T : TypeId} {g n c i : Nat} {vs : List Value} (h : Own w B T (some ⟨g, 0, none⟩) n c vs) (u : Value) :
    Own (w.setCell ⟨g, i, none⟩ u) B T (some ⟨g, 0, none⟩) n c (vs.set i u) := by
  refine ⟨by simpa using h.1, ?_⟩
  rcases h.2 with ⟨hv, _⟩ | ⟨g', cap, cur, hv, hb, hh, h1, h2, h3, h4⟩
  · cases hv
  · injection hv with ha hn hc
    injection ha with ha
    injection ha with ha
    subst ha
    refine .inr ⟨g, cap, cur.setIfInBounds i u, by rw [hc], hb, heap_setCell_same hh u, h1, h2, by simpa using h3, ?_⟩
    rw [Array.toList_setIfInBounds, ← h4, List.take_set]
/-- A store elsewhere. -/
theorem Own.other {w : World} {B : Nat} {T : TypeId} {a : Option Addr} {n c : Nat} {vs : List Value} (h : Own w B T a n c vs) {p : Addr} (hp : ¬ onBlk a p.block) (u : Value) : Own (w.setCell p u) B T a n c vs :=
  h.fr (S := fun k => k = p.block) (Fr.setCell (S := fun k => k = p.block) (Fr.refl _ w) (fun _ => rfl) u) (fun _ hk e => hp (e ▸ hk))
theorem Rd.other {w : World} {a : Option Addr} {n : Nat} {vs : List Value} (h : Rd w a n vs) {p : Addr} (hp : ¬ onBlk a p.block) (u : Value) : Rd (w.setCell p u) a n vs :=
  h.fr (S := fun k => k = p.block) (Fr.setCell (S := fun k => k = p.block) (Fr.refl _ w) (fun _ => rfl) u) (fun _ hk e => hp (e ▸ hk))
theorem Own.alloc {w : World} {B : Nat} {T : TypeId} {a : Option Addr} {n c : Nat} {vs : List Value} (h : Own w B T a n c vs) (o : Obj) : Own (w.alloc o) B T a n c vs := h.fr0 ((Fr.refl _ _).alloc o)
theorem Rd.alloc {w : World} {a : Option Addr} {n : Nat} {vs : List Value} (h : Rd w a n vs) (o : Obj) : Rd (w.alloc o) a n vs := h.fr0 ((Fr.refl _ _).alloc o)

/-- What the table says of an element type of one cell. -/
def Elem1 (P : Program) (t T : TypeId) (z : Value) (bytes : Nat) : Prop :=
  P.underlying t = some (.slice T) ∧ (P.info? T).map (fun i => (i.zero, i.size, i.bytes)) = some (some z, 1, bytes) ∧ z.cells.size = 1

/-- 'append(s, u)': s owned, u one cell. -/
theorem wpApp1 {P : Program} {w : World} {t T : TypeId} {z : Value} {bytes : Nat} (E : Elem1 P t T z bytes) {a : Option Addr} {n c B : Nat} {vs : List Value} (own : Own w B T a n c vs)
    (hlen : (n + 1) * bytes ≤ 140737488355328) (hmax : n + 1 ≤ 9223372036854775807) (hB : B ≤ w.heap.size) {u : Value} (hu : u.oneCell' = true)
    {ops : Array Oper} {rest : List Oper} {act : Act} {Q : Exit → Act → World → Prop} {dst : Option Tmp} {ty : TypeId} {pos : String} {after : Array Edge} {s x : Operand}
    (hs : act.eval s = .slice a n c) (hx : act.eval x = .slice (some ⟨w.heap.size, 0, none⟩) 1 1)
    (K : ∀ a' c' w', Own w' B T a' (n + 1) c' (vs ++ [u]) → Fr (onBlk a) w w' → wpList P ops Q rest (act.put dst (.slice a' (n + 1) c')) w') :
    wpList P ops Q ({ dst, op := .call { callee := .builtin .append, args := #[s, x], argTypes := #[t, t] }, type := ty, pos, after, guard := none } :: rest) act (w.alloc (.cells #[u] T)) := by
  obtain ⟨E1, E2, E3⟩ := E
  obtain ⟨i0, hi, hz0, hz1, hz2⟩ := info_parts E2
  refine wpList_append_own (w := w.alloc (.cells #[u] T)) rfl s x t rfl B T i0 z 1 bytes E1 hi hz0 hz1 hz2 E3 (by decide) (.slice a n c) n vs hs (Own.alloc own _) ⟨w.heap.size, 0, none⟩ 1 1 [u] hx rfl ?_ ?_ (by unfold maxLen; omega) hlen (by simp; omega) ?_
  · intro j u' hj
    match j, hj with
    | 0, hj => simp at hj; subst hj; simp [Addr.add]
  · intro u' hu'; simp at hu'; subst hu'; exact hu
  · intro v' w' hown hg hnil
    rcases hown.2 with ⟨_, hn⟩ | ⟨g, cap, cur, hv, r⟩
    · omega
    · subst hv
      exact K _ _ _ hown (Fr.trans0 (S := onBlk a) (w := w) (w1 := w) (Fr.refl _ _) (Fr.refl _ _) |>.trans (Fr.trans ((Fr.refl (onBlk a) w).alloc _) (Fr.of_grown rfl hg) (fun _ _ h => h)) (fun _ _ h => h))

/-- 'make([]T, n)': a fact for the walk. -/
theorem run_mk {P : Program} {t T : TypeId} {z : Value} {bytes : Nat} (E : Elem1 P t T z bytes) (hz : z.cells = #[z]) (n : Nat) (hlen : bytes * n ≤ 281474976710656) (hmax : n ≤ 9223372036854775807) (w : World) :
    (Instr.makeSlice t (.int .i64 n) (.int .i64 n)).run P w = .ok (.slice (some ⟨w.heap.size, 0, none⟩) n n) (w.alloc (.cells (Array.replicate n z) T)) := by
  obtain ⟨E1, E2, E3⟩ := E
  obtain ⟨i0, hi, hz0, hz1, hz2⟩ := info_parts E2
  have hb : (i0.bytes : Int) * (n : Int) ≤ 281474976710656 := by
    have h : ((bytes * n : Nat) : Int) ≤ 281474976710656 := by omega
    rw [hz2]
    rwa [Int.natCast_mul] at h
  have h := run_make (P := P) w t T i0 z E1 hi hz0 .i64 .i64 n n (by omega) (by omega) hb (by omega)
  rw [h, hz1, hz]
  have e : madeCells #[z] ((n : Int).toNat * 1) = Array.replicate n z := by
    simp [madeCells]
    apply Array.ext <;> simp [Nat.mod_one]
  rw [e]; simp
theorem Own.made {w : World} {B : Nat} {T : TypeId} {z : Value} (n : Nat) (hB : B ≤ w.heap.size) (hmax : n ≤ 9223372036854775807) :
    Own (w.alloc (.cells (Array.replicate n z) T)) B T (some ⟨w.heap.size, 0, none⟩) n n (List.replicate n z) := by
  have e1 : (List.replicate n z).length = n * 1 := by rw [List.length_replicate, Nat.mul_one]
  have e2 : (Array.replicate n z).size = n * 1 := by rw [Array.size_replicate, Nat.mul_one]
  have e3 : (Array.replicate n z).toList.take (n * 1) = List.replicate n z := by rw [Array.toList_replicate, Nat.mul_one, List.take_of_length_le (by rw [List.length_replicate]; exact Nat.le_refl _)]
  exact ⟨e1, .inr ⟨w.heap.size, n, Array.replicate n z, rfl, hB, heap_alloc_new _ _, Nat.le_refl _, hmax, e2, e3⟩⟩

theorem Own.lit {w : World} {B : Nat} {T : TypeId} (vs : List Value) (n : Nat) (hn : vs.length = n) (hB : B ≤ w.heap.size) (hmax : n ≤ 9223372036854775807) :
    Own (w.alloc (.cells vs.toArray T)) B T (some ⟨w.heap.size, 0, none⟩) n n vs := by
  subst hn
  exact ⟨by rw [Nat.mul_one], .inr ⟨w.heap.size, vs.length, vs.toArray, rfl, hB, heap_alloc_new _ _, Nat.le_refl _, hmax, by simp, by simp⟩⟩

/-- A call of a function value that a slot holds, without a way through every kind of callee. -/
def callVal (v : Value) (args : Array Value) : Sem Next := do
  let d ← Deferred.ofValue v args
  invoke d.target d.args
@[go_sem ↓] theorem execOp_call_tmp (a : Act) (dst : Option Tmp) (t : Nat) (xs : Array Operand) (ats : Array TypeId) (ty : TypeId) (pos : String) (after : Array Edge) (guard : Option (Nat × Bool)) :
    execOp a.eval { dst, op := .call { callee := .value (.tmp t), args := xs, argTypes := ats }, type := ty, pos, after, guard } = callVal (a.eval (.tmp t)) (xs.map a.eval) := by
  simp [execOp, resolve, callVal]
@[go_sem ↓] theorem callVal_func (f : FuncId) (first cap args : Array Value) : callVal (.func (.func f) first cap) args = callFunc f (first ++ args ++ cap) := by
  simp [callVal, invoke, Deferred.ofValue]

/-- A block of one cell. -/
abbrev One (w : World) (b : Nat) (T : TypeId) (v : Value) : Prop := w.heap[b]? = some (.cells #[v] T (0, 0))
theorem One.lt {w : World} {b : Nat} {T : TypeId} {v : Value} (h : One w b T v) : b < w.heap.size := lt_of_block h
theorem One.cell {w : World} {b : Nat} {T : TypeId} {v : Value} (h : One w b T v) : w.cell? ⟨b, 0, none⟩ = some v := cell_of_one h
theorem One.free {w : World} {b : Nat} {T : TypeId} {v : Value} (h : One w b T v) : w.frozen? ⟨b, 0, none⟩ = false := free_of_one h
theorem One.fr {S : Nat → Prop} {w w' : World} {b : Nat} {T : TypeId} {v : Value} (h : One w b T v) (f : Fr S w w') (hS : ¬ S b) : One w' b T v := (f.block b h.lt hS).trans h
theorem One.set {w : World} {b : Nat} {T : TypeId} {v : Value} (h : One w b T v) (u : Value) : One (w.setCell ⟨b, 0, none⟩ u) b T u := one_setCell h
theorem One.other {w : World} {b : Nat} {T : TypeId} {v : Value} (h : One w b T v) {p : Addr} (hp : b ≠ p.block) (u : Value) : One (w.setCell p u) b T v := (Below.heap_setCell _ _ _ _ hp).trans h
theorem One.alloc {w : World} {b : Nat} {T : TypeId} {v : Value} (h : One w b T v) (o : Obj) : One (w.alloc o) b T v := (Below.heap_alloc _ _ _ h.lt).trans h
theorem Own.drew {w : World} {B : Nat} {T : TypeId} {a : Option Addr} {n c : Nat} {vs : List Value} (h : Own w B T a n c vs) : Own w.drew B T a n c vs := h
theorem One.new {w : World} (T : TypeId) (v : Value) : One (w.alloc (.cells #[v] T)) w.heap.size T v := by show (w.heap.push _)[w.heap.size]? = _; simp

/-- What a law is told of a slice of ints that came in. -/
structure ArgInts (w : World) (a : Option Addr) (n : Nat) (zs : List Int) : Prop where
  rd : Rd w a n (zs.map (Value.int .i64))
  wf : ∀ x ∈ zs, -9223372036854775808 ≤ x ∧ x ≤ 9223372036854775807
theorem argInts_nil (w : World) : ArgInts w none 0 [] := ⟨Rd.nil _ _, by simp⟩
theorem argInts_some {w : World} {x : Addr} {l c : Nat} {zs : List Int} (hl : l ≤ c) (hm : c ≤ maxLen) (hz : zs.length = c)
    (hcell : ∀ i, i < zs.length → w.cell? (x.add i) = some (.int .i64 (zs.getD i 0))) (hwz : ∀ n ∈ zs, (Lit.int .i64 n).wf = true) : ArgInts w (some x) l (zs.take l) := by
  refine ⟨⟨by simp; omega, by unfold maxLen at hm; omega, fun hn => ?_⟩, fun y hy => ?_⟩
  · have hsp : x.spot = none := by
      have h0 := hcell 0 (by omega)
      simp only [Addr.add, if_true, World.cell?] at h0
      split at h0
      · cases hs : x.spot with
        | none => rfl
        | some s => simp [hs] at h0
      · cases h0
    obtain ⟨b, o, s⟩ := x
    simp only at hsp
    subst hsp
    refine ⟨b, o, rfl, fun i u hu => ?_⟩
    have hi : i < l := by
      have := (List.getElem?_eq_some_iff.1 hu).1
      simp at this; omega
    have h := hcell i (by omega)
    rw [Addr.add_lit] at h
    rw [h]
    simp only [List.getElem?_map, List.getElem?_take, hi, if_true] at hu
    rw [List.getElem?_eq_getElem (by omega)] at hu
    simp at hu
    rw [← hu, List.getD_eq_getElem?_getD, List.getElem?_eq_getElem (by omega)]
    rfl
  · have h := hwz y (List.mem_of_mem_take hy)
    simp only [Lit.wf, Bool.and_eq_true, decide_eq_true_eq] at h
    have e1 : IntKind.i64.min = -9223372036854775808 := by decide
    have e2 : IntKind.i64.max = 9223372036854775807 := by decide
    rw [e1, e2] at h
    exact h

theorem ret_slice {a b : Option Addr} {n m c d : Nat} (h1 : a = b) (h2 : n = m) (h3 : c = d) : Ending.returned (.slice a n c) = .returned (.slice b m d) := by rw [h1, h2, h3]
theorem ret_int {k : IntKind} {a b : Int} (h : a = b) : Ending.returned (.int k a) = .returned (.int k b) := by rw [h]
theorem ret_bool {a b : Bool} (h : a = b) : Ending.returned (.bool a) = .returned (.bool b) := by rw [h]

end Go.Proofs.Ytkmnnfflibamnaa
/- More common lemmas: a slice appended whole to one that the call owns. -/
namespace Go.Proofs.Ytkmnnfflibamnaa
open Go.RowKit

/-- 'append(s, x...)': s owned, x another slice with elements of one cell. -/
theorem wpAppAll {P : Program} {w : World} {t T : TypeId} {z : Value} {bytes : Nat} (E : Elem1 P t T z bytes) {a : Option Addr} {n c B : Nat} {vs : List Value} (own : Own w B T a n c vs)
    {b o m cx : Nat} {us : List Value} (hl : us.length = m) (hc : ∀ i u, us[i]? = some u → w.cell? ⟨b, o + i, none⟩ = some u) (h1 : ∀ u ∈ us, u.oneCell' = true)
    (hlen : (n + m) * bytes ≤ 140737488355328) (hmax : n + m ≤ 9223372036854775807) (hB : B ≤ w.heap.size) (hm : 0 < m)
    {ops : Array Oper} {rest : List Oper} {act : Act} {Q : Exit → Act → World → Prop} {dst : Option Tmp} {ty : TypeId} {pos : String} {after : Array Edge} {s x : Operand}
    (hs : act.eval s = .slice a n c) (hx : act.eval x = .slice (some ⟨b, o, none⟩) m cx)
    (K : ∀ a' c' w', Own w' B T a' (n + m) c' (vs ++ us) → Fr (onBlk a) w w' → wpList P ops Q rest (act.put dst (.slice a' (n + m) c')) w') :
    wpList P ops Q ({ dst, op := .call { callee := .builtin .append, args := #[s, x], argTypes := #[t, t] }, type := ty, pos, after, guard := none } :: rest) act w := by
  obtain ⟨E1, E2, E3⟩ := E
  obtain ⟨i0, hi, hz0, hz1, hz2⟩ := info_parts E2
  refine wpList_append_own (w := w) rfl s x t rfl B T i0 z 1 bytes E1 hi hz0 hz1 hz2 E3 (by decide) (.slice a n c) n vs hs own ⟨b, o, none⟩ m cx us hx (by omega) ?_ h1 (by unfold maxLen; omega) hlen hB ?_
  · intro j u hj
    rw [Addr.add_lit]
    exact hc j u hj
  · intro v' w' hown hg _
    rcases hown.2 with ⟨_, hn⟩ | ⟨g, cap, cur, hv, r⟩
    · omega
    · subst hv
      exact K _ _ _ hown (Fr.of_grown rfl hg)
theorem oneCell_ints (xs : List Int) : ∀ u ∈ xs.map (Value.int .i64), u.oneCell' = true := by
  intro u hu
  obtain ⟨_, _, rfl⟩ := List.mem_map.1 hu
  rfl

end Go.Proofs.Ytkmnnfflibamnaa
/- Slices whose elements take s cells each (structs). -/
namespace Go.Proofs.Ytkmnnfflibamnaa
open Go.RowKit

/-- The slice with base a and n elements of s cells reads as the cells vs. -/
structure RdZ (w : World) (s : Nat) (a : Option Addr) (n : Nat) (vs : List Value) : Prop where
  len : vs.length = n * s
  max : n ≤ 9223372036854775807
  cells : 0 < n → ∃ b o, a = some ⟨b, o, none⟩ ∧ ∀ i u, vs[i]? = some u → w.cell? ⟨b, o + i, none⟩ = some u
theorem RdZ.fr {S : Nat → Prop} {w w' : World} {s : Nat} {a : Option Addr} {n : Nat} {vs : List Value} (h : RdZ w s a n vs) (f : Fr S w w') (hS : ∀ k, onBlk a k → ¬ S k) : RdZ w' s a n vs :=
  ⟨h.len, h.max, fun hn => by
    obtain ⟨b, o, rfl, hc⟩ := h.cells hn
    exact ⟨b, o, rfl, fun i u hu => f.cell (hc i u hu) (hS b ((onBlk_some _ _ _ _).2 rfl))⟩⟩
theorem RdZ.fr0 {w w' : World} {s : Nat} {a : Option Addr} {n : Nat} {vs : List Value} (h : RdZ w s a n vs) (f : Fr F0 w w') : RdZ w' s a n vs := h.fr f (fun _ _ => id)

/-- .. that the call owns. -/
abbrev OwnZ (w : World) (B : Nat) (T : TypeId) (s : Nat) (a : Option Addr) (n c : Nat) (vs : List Value) : Prop := w.ownsRow B T s (.slice a n c) n vs
section
variable {w : World} {B : Nat} {T : TypeId} {s : Nat} {a : Option Addr} {n c : Nat} {vs : List Value}
theorem OwnZ.at (h : OwnZ w B T s a n c vs) (hn : 0 < n) :
    ∃ g, a = some ⟨g, 0, none⟩ ∧ B ≤ g ∧ g < w.heap.size ∧ (∀ i u, vs[i]? = some u → w.cell? ⟨g, i, none⟩ = some u) ∧ (∀ i, w.frozen? ⟨g, i, none⟩ = false) := by
  rcases h.2 with ⟨_, rfl⟩ | ⟨g, cap, cur, hv, hb, hh, h1, h2, h3, h4⟩
  · omega
  · injection hv with ha _ _
    refine ⟨g, ha, hb, (Array.getElem?_eq_some_iff.1 hh).1, fun i u hu => ?_, fun i => by simp [World.frozen?, hh]⟩
    rw [cell_of_row w g i cur T (0, 0) hh]
    rw [← h4, List.getElem?_take] at hu
    split at hu
    · simpa using hu
    · cases hu
theorem OwnZ.max (h : OwnZ w B T s a n c vs) : n ≤ 9223372036854775807 := by
  rcases h.2 with ⟨_, rfl⟩ | ⟨g, cap, cur, hv, _, _, h1, h2, _, _⟩
  · omega
  · have : cap ≤ 9223372036854775807 := h2
    omega
theorem OwnZ.rd (h : OwnZ w B T s a n c vs) : RdZ w s a n vs :=
  ⟨h.1, h.max, fun hn => by
    obtain ⟨g, hg, _, _, hc, _⟩ := h.at hn
    exact ⟨g, 0, hg, fun i u hu => by rw [Nat.zero_add]; exact hc i u hu⟩⟩
theorem OwnZ.nil (w : World) (B : Nat) (T : TypeId) (s : Nat) : OwnZ w B T s none 0 0 [] := World.ownsRow_nil _ _ _ _
theorem OwnZ.blk (h : OwnZ w B T s a n c vs) : ∀ k, onBlk a k → B ≤ k ∧ k < w.heap.size := by
  rintro k ⟨o, sp, rfl⟩
  exact h.lt k rfl
theorem OwnZ.fr {S : Nat → Prop} {w' : World} (h : OwnZ w B T s a n c vs) (f : Fr S w w') (hS : ∀ k, onBlk a k → ¬ S k) : OwnZ w' B T s a n c vs := by
  refine ⟨h.1, ?_⟩
  rcases h.2 with hn | ⟨g, cap, cur, hv, hb, hgg, rest⟩
  · exact .inl hn
  · refine .inr ⟨g, cap, cur, hv, hb, ?_, rest⟩
    rw [f.block g (Array.getElem?_eq_some_iff.1 hgg).1 (hS g ?_)]
    · exact hgg
    · injection hv with ha _ _
      rw [ha, onBlk_some]
theorem OwnZ.fr0 {w' : World} (h : OwnZ w B T s a n c vs) (f : Fr F0 w w') : OwnZ w' B T s a n c vs := h.fr f (fun _ _ => id)
theorem OwnZ.mono {B' : Nat} (h : OwnZ w B T s a n c vs) (hB : B' ≤ B) : OwnZ w B' T s a n c vs := by
  refine ⟨h.1, ?_⟩
  rcases h.2 with hn | ⟨g, cap, cur, hv, hb, rest⟩
  · exact .inl hn
  · exact .inr ⟨g, cap, cur, hv, by omega, rest⟩
theorem OwnZ.other (h : OwnZ w B T s a n c vs) {p : Addr} (hp : ¬ onBlk a p.block) (u : Value) : OwnZ (w.setCell p u) B T s a n c vs :=
  h.fr (S := fun k => k = p.block) (Fr.setCell (S := fun k => k = p.block) (Fr.refl _ w) (fun _ => rfl) u) (fun _ hk e => hp (e ▸ hk))
theorem OwnZ.alloc (h : OwnZ w B T s a n c vs) (o : Obj) : OwnZ (w.alloc o) B T s a n c vs := h.fr0 ((Fr.refl _ _).alloc o)
theorem OwnZ.set {g i : Nat} (h : OwnZ w B T s (some ⟨g, 0, none⟩) n c vs) (u : Value) :
    OwnZ (w.setCell ⟨g, i, none⟩ u) B T s (some ⟨g, 0, none⟩) n c (vs.set i u) := by
  refine ⟨by simpa using h.1, ?_⟩
  rcases h.2 with ⟨hv, _⟩ | ⟨g', cap, cur, hv, hb, hh, h1, h2, h3, h4⟩
  · cases hv
  · injection hv with ha hn hc
    injection ha with ha
    injection ha with ha
    subst ha
    refine .inr ⟨g, cap, cur.setIfInBounds i u, by rw [hc], hb, heap_setCell_same hh u, h1, h2, by simpa using h3, ?_⟩
    rw [Array.toList_setIfInBounds, ← h4, List.take_set]
theorem OwnZ.lit (vs : List Value) (n : Nat) (hn : vs.length = n * s) (hB : B ≤ w.heap.size) (hmax : n ≤ 9223372036854775807) :
    OwnZ (w.alloc (.cells vs.toArray T)) B T s (some ⟨w.heap.size, 0, none⟩) n n vs := by
  refine ⟨hn, .inr ⟨w.heap.size, n, vs.toArray, rfl, hB, heap_alloc_new _ _, Nat.le_refl _, hmax, by simpa using hn, ?_⟩⟩
  rw [← hn]
  simp
end

/-- What the table says of an element type of s cells. -/
def ElemZ (P : Program) (t T : TypeId) (z : Value) (s bytes : Nat) : Prop :=
  P.underlying t = some (.slice T) ∧ (P.info? T).map (fun i => (i.zero, i.size, i.bytes)) = some (some z, s, bytes) ∧ z.cells.size = s

/-- 'append(sl, x)' of one element of s cells. -/
theorem wpAppZ {P : Program} {w : World} {t T : TypeId} {z : Value} {s bytes : Nat} (E : ElemZ P t T z s bytes) (hs0 : 0 < s) {a : Option Addr} {n c B : Nat} {vs : List Value} (own : OwnZ w B T s a n c vs)
    {us : List Value} (hl : us.length = s) (h1 : ∀ u ∈ us, u.oneCell' = true)
    (hlen : (n + 1) * bytes ≤ 140737488355328) (hmax : n + 1 ≤ 9223372036854775807) (hB : B ≤ w.heap.size)
    {ops : Array Oper} {rest : List Oper} {act : Act} {Q : Exit → Act → World → Prop} {dst : Option Tmp} {ty : TypeId} {pos : String} {after : Array Edge} {sl x : Operand}
    (hs : act.eval sl = .slice a n c) (hx : act.eval x = .slice (some ⟨w.heap.size, 0, none⟩) 1 1)
    (K : ∀ a' c' w', OwnZ w' B T s a' (n + 1) c' (vs ++ us) → Fr (onBlk a) w w' → wpList P ops Q rest (act.put dst (.slice a' (n + 1) c')) w') :
    wpList P ops Q ({ dst, op := .call { callee := .builtin .append, args := #[sl, x], argTypes := #[t, t] }, type := ty, pos, after, guard := none } :: rest) act (w.alloc (.cells us.toArray T)) := by
  obtain ⟨E1, E2, E3⟩ := E
  obtain ⟨i0, hi, hz0, hz1, hz2⟩ := info_parts E2
  refine wpList_append_own (w := w.alloc (.cells us.toArray T)) rfl sl x t rfl B T i0 z s bytes E1 hi hz0 hz1 hz2 E3 hs0 (.slice a n c) n vs hs (OwnZ.alloc own _) ⟨w.heap.size, 0, none⟩ 1 1 us hx (by omega) ?_ h1 (by unfold maxLen; omega) hlen (by simp; omega) ?_
  · intro j u hj
    rw [Addr.add_lit, Nat.zero_add, World.cell?_alloc_new]
    simpa using hj
  · intro v' w' hown hg hnil
    rcases hown.2 with ⟨_, hn⟩ | ⟨g, cap, cur, hv, r⟩
    · omega
    · subst hv
      exact K _ _ _ hown (Fr.trans ((Fr.refl (onBlk a) w).alloc _) (Fr.of_grown rfl hg) (fun _ _ h => h))

/-- What a law is told of a slice of ints that came in, its capacity too. -/
structure ArgSl (w : World) (a : Option Addr) (n c : Nat) (zs : List Int) : Prop where
  rd : Rd w a n (zs.map (Value.int .i64))
  cap : n ≤ c
  wf : ∀ x ∈ zs, -9223372036854775808 ≤ x ∧ x ≤ 9223372036854775807
theorem argSl_nil (w : World) : ArgSl w none 0 0 [] := ⟨Rd.nil _ _, Nat.le_refl _, by simp⟩
theorem argSl_some {w : World} {x : Addr} {l c : Nat} {zs : List Int} (hl : l ≤ c) (hm : c ≤ maxLen) (hz : zs.length = c)
    (hcell : ∀ i, i < zs.length → w.cell? (x.add i) = some (.int .i64 (zs.getD i 0))) (hwz : ∀ n ∈ zs, (Lit.int .i64 n).wf = true) : ArgSl w (some x) l c (zs.take l) :=
  have h := argInts_some hl hm hz hcell hwz
  ⟨h.rd, hl, h.wf⟩

/-- The base of 's[k:]'. -/
def cutA (a : Option Addr) (c k : Nat) : Option Addr := if c = k then a else a.map (·.add (k * 1))
theorem cutA_some (b o c k : Nat) : cutA (some ⟨b, o, none⟩) c k = some ⟨b, if c = k then o else o + k, none⟩ := by
  unfold cutA
  split
  · rfl
  · simp [Addr.add_lit]
theorem onBlk_cut {a : Option Addr} {c k j : Nat} (h : onBlk (cutA a c k) j) : onBlk a j := by
  unfold cutA at h
  split at h
  · exact h
  · cases a with
    | none => exact h
    | some a =>
      obtain ⟨o, s, hh⟩ := h
      simp only [Option.map_some] at hh
      injection hh with hh
      refine ⟨a.off, a.spot, ?_⟩
      have : (a.add (k * 1)).block = a.block := by unfold Addr.add; split <;> rfl
      rw [hh] at this
      simp only at this
      rw [this]
theorem Rd.cut {w : World} {a : Option Addr} {n c : Nat} {vs : List Value} (h : Rd w a n vs) (hc : n ≤ c) {k r : Nat} (hk : n = k + r) : Rd w (cutA a c k) r (vs.drop k) := by
  have hr : r = n - k := by omega
  subst hr
  refine ⟨by simp [h.len], by have := h.max; omega, fun hn => ?_⟩
  obtain ⟨b, o, rfl, hcell⟩ := h.cells (by omega)
  rw [cutA_some, if_neg (by omega)]
  refine ⟨b, o + k, rfl, fun i u hu => ?_⟩
  rw [List.getElem?_drop] at hu
  rw [Nat.add_assoc]
  exact hcell (k + i) u hu
/-- 's[k:]', elements of one cell. -/
theorem wpCut {P : Program} {w : World} {t T : TypeId} {z : Value} {bytes : Nat} (E : Elem1 P t T z bytes) {a : Option Addr} {n c k r : Nat} (hkn : n = k + r)
    {ops : Array Oper} {rest : List Oper} {act : Act} {Q : Exit → Act → World → Prop} {dst : Option Tmp} {ty : TypeId} {pos : String} {after : Array Edge} {x lo : Operand}
    (hs : act.eval x = .slice a n c) (hlo : act.eval lo = .int .i64 (k : Int))
    (K : wpList P ops Q rest (act.put dst (.slice (cutA a c k) r (c - k))) w) :
    wpList P ops Q ({ dst, op := .slice t x (some lo) none none, type := ty, pos, after, guard := none } :: rest) act w := by
  obtain ⟨E1, E2, _⟩ := E
  obtain ⟨i0, hi, _, hz1, _⟩ := info_parts E2
  have hr : r = n - k := by omega
  subst hr
  refine wpList_plain rfl fun K' hK' => ?_
  have ht : P.underlying t = some (.slice (P.elem t)) := by simp [Program.elem, E1]
  have hel : P.elem t = T := by simp [Program.elem, E1]
  have hsz : (sizeOf T).run P w = .ok 1 w := by simp [sizeOf, typeInfo, hi, hz1]
  have hrun : (Instr.sliceAt t (.slice a n c) (some (.int .i64 (k : Int))) none none).run P w = .ok (.slice (cutA a c k) (n - k) (c - k)) w := by
    rw [run_sliceAt_slice _ _ _ _ _ _ ht, run_slice_l w t a n c ht .i64 k (by omega) (by omega), hel, hsz]
    simp [Result.andThen, sliced, cutA]
  unfold Oper.wp
  simp [execOp, hs, hlo, hrun, Result.andThen]
  exact hK' _ _ K

/-- Three integers as cells. -/
abbrev Tri := Int × Int × Int
def tri (xs : List Tri) : List Value := xs.flatMap fun x => [Value.int .i64 x.1, .int .i64 x.2.1, .int .i64 x.2.2]
theorem tri_length (xs : List Tri) : (tri xs).length = xs.length * 3 := by
  induction xs with
  | nil => rfl
  | cons x xs ih => simp only [tri, List.flatMap_cons, List.length_append, List.length_cons] at *; simp at *; omega
theorem tri_append (xs ys : List Tri) : tri (xs ++ ys) = tri xs ++ tri ys := by simp [tri]
theorem tri_get (xs : List Tri) (i : Nat) (x : Tri) (h : xs[i]? = some x) :
    (tri xs)[i * 3]? = some (.int .i64 x.1) ∧ (tri xs)[i * 3 + 1]? = some (.int .i64 x.2.1) ∧ (tri xs)[i * 3 + 2]? = some (.int .i64 x.2.2) := by
  induction xs generalizing i with
  | nil => simp at h
  | cons y xs ih =>
    have e : tri (y :: xs) = [Value.int .i64 y.1, .int .i64 y.2.1, .int .i64 y.2.2] ++ tri xs := by simp [tri]
    cases i with
    | zero => simp at h; subst h; rw [e]; exact ⟨rfl, rfl, rfl⟩
    | succ i =>
      simp at h
      obtain ⟨h1, h2, h3⟩ := ih i h
      rw [e, List.getElem?_append_right (by simp; omega), List.getElem?_append_right (by simp; omega), List.getElem?_append_right (by simp; omega)]
      simp only [List.length_cons, List.length_nil]
      refine ⟨?_, ?_, ?_⟩
      · rw [← h1]; congr 1; omega
      · rw [← h2]; congr 1; omega
      · rw [← h3]; congr 1; omega
theorem tri_oneCell (x : Tri) : ∀ u ∈ [Value.int .i64 x.1, .int .i64 x.2.1, .int .i64 x.2.2], u.oneCell' = true := by
  intro u hu; simp at hu; rcases hu with rfl | rfl | rfl <;> rfl

end Go.Proofs.Ytkmnnfflibamnaa
/- Slices of ints at this translation. -/
namespace Go.Proofs.Ytkmnnfflibamnaa
open Go.RowKit

abbrev ints (xs : List Int) : List Value := xs.map (Value.int .i64)
theorem E3 : Elem1 Try.prog 36 3 (.int .i64 0) 8 := ⟨by kernel_rfl, by kernel_rfl, rfl⟩
def onB (g : Nat) : Nat → Prop := fun k => k = g
theorem Fr.setB {g : Nat} {w w1 : World} (h : Fr (onB g) w w1) (v : Nat) (u : Value) : Fr (onB g) w (w1.setCell ⟨g, v, none⟩ u) := Fr.setCell (S := onB g) (p := ⟨g, v, none⟩) h (fun _ => rfl) u
theorem own_facts {w : World} {B T g n c : Nat} {xs : List Int} (h : Own w B T (some ⟨g, 0, none⟩) n c (ints xs)) {v : Nat} (hv : v < n) :
    (∃ y, w.cell? ⟨g, v, none⟩ = some (.int .i64 y) ∧ xs[v]? = some y) ∧ w.frozen? ⟨g, v, none⟩ = false := by
  have hl : xs.length = n := by simpa using h.len
  obtain ⟨g', hg, _, _, hc, hf⟩ := h.at (by omega)
  injection hg with hg
  injection hg with hg
  subst hg
  exact ⟨⟨xs[v], hc v _ (by simp), by simp⟩, hf v⟩

theorem Own.lens {w : World} {B T n c : Nat} {a : Option Addr} {xs : List Int} (h : Own w B T a n c (ints xs)) : xs.length = n := by simpa using h.len


def getI (l : List Int) (x : Int) : Int := l.getD x.toNat 0
theorem getI_in {l : List Int} {x : Int} (h0 : 0 ≤ x) (h1 : x < l.length) : getI l x ∈ l := by
  unfold getI
  rw [List.getD_eq_getElem?_getD, List.getElem?_eq_getElem (by omega)]
  exact List.getElem_mem _
theorem getI_nat {l : List Int} {i : Nat} (h : i < l.length) : getI l (i : Int) = l[i] := by simp [getI, h]
/-- Where there is an index: the cell. -/
theorem Rd.ix {w : World} {a : Option Addr} {n : Nat} {xs : List Int} (h : Rd w a n (ints xs)) {i : Nat} (hi : i < n) : ∃ b o x, a = some ⟨b, o, none⟩ ∧ xs[i]? = some x ∧ w.cell? ⟨b, o + i, none⟩ = some (.int .i64 x) := by
  have hl : xs.length = n := by simpa using h.len
  obtain ⟨b, o, ha, hc⟩ := h.cells (by omega)
  exact ⟨b, o, xs[i], ha, by simp, hc i _ (by simp)⟩

end Go.Proofs.Ytkmnnfflibamnaa
/- Two slices side by side: an append that says where; s[:k]; rows of slices. -/
namespace Go.Proofs.Ytkmnnfflibamnaa
open Go.RowKit

theorem Own.take {w : World} {B T : Nat} {a : Option Addr} {n c k : Nat} {vs : List Value} (h : Own w B T a n c vs) (hk : k ≤ n) : Own w B T a k c (vs.take k) := by
  have hl := h.len
  refine ⟨by rw [List.length_take]; omega, ?_⟩
  rcases h.2 with ⟨hv, rfl⟩ | ⟨g, cap, cur, hv, hb, hh, h1, h2, h3, h4⟩
  · refine .inl ⟨?_, by omega⟩
    have : k = 0 := by omega
    subst this; exact hv
  · injection hv with ha hn hc
    refine .inr ⟨g, cap, cur, by rw [ha, hc], hb, hh, by omega, h2, h3, ?_⟩
    rw [← h4, List.take_take]
    congr 1; omega

theorem Own.cap {w : World} {B T : Nat} {a : Option Addr} {n c : Nat} {vs : List Value} (h : Own w B T a n c vs) : n ≤ c := by
  rcases h.2 with ⟨hv, rfl⟩ | ⟨g, cap, cur, hv, hb, hh, h1, h2, h3, h4⟩
  · omega
  · injection hv with ha hn hc
    omega

/-- 'append(s, u)', and where the result lies. -/
theorem wpAppAt {P : Program} {w : World} {t T : TypeId} {z : Value} {bytes : Nat} (E : Elem1 P t T z bytes) {a : Option Addr} {n c B : Nat} {vs : List Value} (own : Own w B T a n c vs)
    (hlen : (n + 1) * bytes ≤ 140737488355328) (hmax : n + 1 ≤ 9223372036854775807) (hB : B ≤ w.heap.size) {u : Value} (hu : u.oneCell' = true)
    {ops : Array Oper} {rest : List Oper} {act : Act} {Q : Exit → Act → World → Prop} {dst : Option Tmp} {ty : TypeId} {pos : String} {after : Array Edge} {s x : Operand}
    (hs : act.eval s = .slice a n c) (hx : act.eval x = .slice (some ⟨w.heap.size, 0, none⟩) 1 1)
    (K : ∀ a' c' w', Own w' B T a' (n + 1) c' (vs ++ [u]) → Fr (onBlk a) w w' → (∀ k, onBlk a' k → onBlk a k ∨ w.heap.size ≤ k) → wpList P ops Q rest (act.put dst (.slice a' (n + 1) c')) w') :
    wpList P ops Q ({ dst, op := .call { callee := .builtin .append, args := #[s, x], argTypes := #[t, t] }, type := ty, pos, after, guard := none } :: rest) act (w.alloc (.cells #[u] T)) := by
  obtain ⟨E1, E2, E3⟩ := E
  obtain ⟨i0, hi, hz0, hz1, hz2⟩ := info_parts E2
  refine wpList_append_own_at (w := w.alloc (.cells #[u] T)) rfl s x t rfl B T i0 z 1 bytes E1 hi hz0 hz1 hz2 E3 (by decide) (.slice a n c) n vs hs (Own.alloc own _) ⟨w.heap.size, 0, none⟩ 1 1 [u] hx rfl (cell_one_new _ _ _) ?_ (by unfold maxLen; omega) hlen (by simp; omega) ?_
  · intro u' hu'; simp at hu'; subst hu'; exact hu
  · intro v' w' hown hg hnil hat
    rcases hown.2 with ⟨_, hn⟩ | ⟨g, cap, cur, hv, r⟩
    · omega
    · subst hv
      refine K _ _ _ hown (Fr.trans ((Fr.refl (onBlk a) w).alloc _) (Fr.of_grown rfl hg) (fun _ _ h => h)) ?_
      intro k hk
      have hk' := (onBlk_some _ _ _ _).1 hk
      subst hk'
      rcases hat with hat | hat
      · left
        cases a with
        | none => simp [Value.ownBlock] at hat
        | some a => simp [Value.ownBlock] at hat; exact ⟨a.off, a.spot, by rw [hat]⟩
      · right
        simp [Value.ownBlock] at hat
        omega

/-- Two slices in different blocks. -/
def Apart (a b : Option Addr) : Prop := ∀ k, onBlk a k → ¬ onBlk b k
theorem Apart.symm {a b : Option Addr} (h : Apart a b) : Apart b a := fun k hb ha => h k ha hb
theorem apart_none (a : Option Addr) : Apart a none := fun _ _ h => onBlk_none _ h
theorem none_apart (a : Option Addr) : Apart none a := fun _ h => absurd h (onBlk_none _)
/-- Behind an append to the first. -/
theorem Apart.app {w : World} {a a' b : Option Addr} (h : Apart a b) (hat : ∀ k, onBlk a' k → onBlk a k ∨ w.heap.size ≤ k) (hb : ∀ k, onBlk b k → k < w.heap.size) : Apart a' b :=
  fun k hk hbk => (hat k hk).elim (fun h1 => h k h1 hbk) (fun h1 => absurd (hb k hbk) (by omega))

end Go.Proofs.Ytkmnnfflibamnaa
/- A slice appended whole, nil or empty or not, in the words of Com; in a plain region and at a step of a region that draws. -/
namespace Go.Proofs.Ytkmnnfflibamnaa
open Go.RowKit

theorem runAppRd {P : Program} {w : World} {t T : TypeId} {z : Value} {bytes : Nat} (E : Elem1 P t T z bytes) {a : Option Addr} {n c B : Nat} {vs : List Value} (own : Own w B T a n c vs)
    {b : Option Addr} {m cx : Nat} {us : List Value} (hx : Rd w b m us) (h1 : ∀ u ∈ us, u.oneCell' = true)
    (hlen : (n + m) * bytes ≤ 140737488355328) (hmax : n + m ≤ 9223372036854775807) (hB : B ≤ w.heap.size) (ty : TypeId) :
    ∃ a' c' w', (Builtin.append_ #[t, t] ty #[.slice a n c, .slice b m cx]).run P w = .ok (.slice a' (n + m) c') w' ∧ Own w' B T a' (n + m) c' (vs ++ us) ∧ Fr (onBlk a) w w' ∧ (∀ k, onBlk a' k → onBlk a k ∨ w.heap.size ≤ k) := by
  obtain ⟨E1, E2, E3⟩ := E
  obtain ⟨i0, hi, hz0, hz1, hz2⟩ := info_parts E2
  have key : ∀ (v' w'), w'.ownsRow B T 1 v' (n + m) (vs ++ us) → w.grownBy w' (Value.slice a n c).ownBlock → (v'.ownBlock = (Value.slice a n c).ownBlock ∨ v'.ownBlock = some w.heap.size) →
      (v' = .slice none 0 0 → n + m = 0) →
      ∃ a' c', v' = .slice a' (n + m) c' ∧ Own w' B T a' (n + m) c' (vs ++ us) ∧ Fr (onBlk a) w w' ∧ (∀ k, onBlk a' k → onBlk a k ∨ w.heap.size ≤ k) := by
    intro v' w' ho hg hat hnil
    have hfr : Fr (onBlk a) w w' := Fr.of_grown rfl hg
    rcases ho.2 with ⟨hv, hn⟩ | ⟨g, cap, cur, hv, r⟩
    · refine ⟨none, 0, ?_, ?_, hfr, fun k hk => absurd hk (onBlk_none k)⟩
      · rw [hv, hn]
      · rw [hv] at ho; rw [hn] at ho ⊢; exact ho
    · subst hv
      refine ⟨_, _, rfl, ho, hfr, fun k hk => ?_⟩
      have hk' := (onBlk_some _ _ _ _).1 hk
      subst hk'
      rcases hat with hat | hat
      · left
        cases a with
        | none => simp [Value.ownBlock] at hat
        | some a => simp [Value.ownBlock] at hat; exact ⟨a.off, a.spot, by rw [hat]⟩
      · right
        simp [Value.ownBlock] at hat
        omega
  cases b with
  | none =>
    have hm : m = 0 := by
      rcases Nat.eq_zero_or_pos m with h0 | h0
      · exact h0
      · obtain ⟨_, _, h, _⟩ := hx.cells h0
        cases h
    subst hm
    have hu : us = [] := List.length_eq_zero_iff.1 hx.len
    subst hu
    refine ⟨a, c, w, ?_, by simpa using own, Fr.refl _ _, fun k hk => .inl hk⟩
    rcases own.2 with ⟨hv, hn⟩ | ⟨g, cap, cur, hv, _, _, hnc, _⟩
    · injection hv with e1 e2 e3
      subst e1 hn e3
      simp [Builtin.append_, run_underlying E1, sizeOf, typeInfo, hi, Builtin.lenOf, Builtin.firstCells]
    · injection hv with e1 e2 e3
      subst e1 e3
      simp [Builtin.append_, run_underlying E1, sizeOf, typeInfo, hi, Builtin.lenOf, Builtin.firstCells, hnc, storeCells]
  | some ad =>
    have hcells : ∀ j u, us[j]? = some u → w.cell? (ad.add j) = some u := by
      intro j u hu
      rcases Nat.eq_zero_or_pos m with h0 | h0
      · have : us = [] := List.length_eq_zero_iff.1 (by rw [hx.len]; exact h0)
        subst this; simp at hu
      · obtain ⟨g, o, h, hc⟩ := hx.cells h0
        injection h with h
        subst h
        rw [Addr.add_lit]; exact hc j u hu
    obtain ⟨v', w', hrun, h2, h3, h4, h5⟩ := run_append_own_at (P := P) w B t ty T i0 z 1 bytes E1 hi hz0 hz1 hz2 E3 (by decide) (.slice a n c) n vs own ad m cx us (by have := hx.len; omega) hcells h1 (by unfold maxLen; omega) hlen hB
    obtain ⟨a', c', hv, g1, g2, g3⟩ := key v' w' h2 h3 h5 (fun h => by have := h4.1 h; rcases own.2 with ⟨_, hn⟩ | ⟨g, cap, cur, hv, _⟩; · omega
                                                                       · rw [hv] at this; cases this.1)
    subst hv
    exact ⟨a', c', w', hrun, g1, g2, g3⟩

/-- 'append(s, x...)' in a plain region. -/
theorem wpAppRd {P : Program} {w : World} {t T : TypeId} {z : Value} {bytes : Nat} (E : Elem1 P t T z bytes) {a : Option Addr} {n c B : Nat} {vs : List Value} (own : Own w B T a n c vs)
    {b : Option Addr} {m cx : Nat} {us : List Value} (hr : Rd w b m us) (h1 : ∀ u ∈ us, u.oneCell' = true)
    (hlen : (n + m) * bytes ≤ 140737488355328) (hmax : n + m ≤ 9223372036854775807) (hB : B ≤ w.heap.size) (k : Nat) (hk : n + m = k)
    {ops : Array Oper} {rest : List Oper} {act : Act} {Q : Exit → Act → World → Prop} {dst : Option Tmp} {ty : TypeId} {pos : String} {after : Array Edge} {s x : Operand}
    (hs : act.eval s = .slice a n c) (hx : act.eval x = .slice b m cx)
    (K : ∀ a' c' w', Own w' B T a' k c' (vs ++ us) → Fr (onBlk a) w w' → (∀ k, onBlk a' k → onBlk a k ∨ w.heap.size ≤ k) → wpList P ops Q rest (act.put dst (.slice a' k c')) w') :
    wpList P ops Q ({ dst, op := .call { callee := .builtin .append, args := #[s, x], argTypes := #[t, t] }, type := ty, pos, after, guard := none } :: rest) act w := by
  subst hk
  refine wpList_plain rfl fun K' hK => ?_
  obtain ⟨a', c', w', hrun, g1, g2, g3⟩ := runAppRd E own hr h1 hlen hmax hB (cx := cx) ty
  unfold Oper.wp execOp
  simp only [resolve, invoke, builtin, Sem.run_bind, Sem.run_pure, Result.andThen_ok, List.map_toArray, List.map_cons, List.map_nil, hs, hx, hrun]
  exact hK _ _ (K a' c' w' g1 g2 g3)
/-- .. and at a step of a region that draws. -/
theorem stepAppRd {P : Program} {w : World} {t T : TypeId} {z : Value} {bytes : Nat} (E : Elem1 P t T z bytes) {a : Option Addr} {n c B : Nat} {vs : List Value}
    {b : Option Addr} {m cx : Nat} {us : List Value}
    {ops : Array Oper} {o : Oper} {act : Act} {K : Act → World → Prop} {Q : Exit → Act → World → Prop} {F : Prop} {s x : Operand} (hgd : o.guard = none)
    (ho : o.op = .call { callee := .builtin .append, args := #[s, x], argTypes := #[t, t] })
    (hs : act.eval s = .slice a n c) (hx : act.eval x = .slice b m cx) (own : Own w B T a n c vs) (hr : Rd w b m us) (h1 : ∀ u ∈ us, u.oneCell' = true)
    (hlen : (n + m) * bytes ≤ 140737488355328) (hmax : n + m ≤ 9223372036854775807) (hB : B ≤ w.heap.size) (k : Nat) (hk : n + m = k)
    (h : ∀ a' c' w', Own w' B T a' k c' (vs ++ us) → Fr (onBlk a) w w' → (∀ k, onBlk a' k → onBlk a k ∨ w.heap.size ≤ k) → K (act.put o.dst (.slice a' k c')) w') :
    if Region.wanted o (yielded ops act.tmps) = true then Oper.wp P o act w K Q else F := by
  subst hk
  have hw : Region.wanted o (yielded ops act.tmps) = true := by simp [Region.wanted, hgd]
  rw [if_pos hw]
  obtain ⟨a', c', w', hrun, g1, g2, g3⟩ := runAppRd E own hr h1 hlen hmax hB (cx := cx) o.type
  unfold Oper.wp execOp
  simp only [ho, resolve, invoke, builtin, Sem.run_bind, Sem.run_pure, Result.andThen_ok, List.map_toArray, List.map_cons, List.map_nil, hs, hx, hrun]
  exact h a' c' w' g1 g2 g3

end Go.Proofs.Ytkmnnfflibamnaa
/- A region that draws its order and whose LAST operation is a store into a cell that it has read: loads come first all the same, as long as the store has not come up. -/
namespace Go.Proofs.Ytkmnnfflibamnaa
open Go.RowKit

section
variable {P : Program} {ops : Array Oper} {Q : Exit → Act → World → Prop} {md : Region.Mode} {S : World → Prop} {s : Nat}

/-- S holds, or the last operation has come up. -/
def Ph (S : World → Prop) (s : Nat) (l : Array Bool) (w : World) : Prop := l.getD s false = true ∨ S w
/-- Whatever order is picked from here on, and S holds till the last operation. -/
def anyP (P : Program) (md : Region.Mode) (ops : Array Oper) (Q : Exit → Act → World → Prop) (S : World → Prop) (s : Nat) : Nat → Array Bool → Act → World → Prop
  | 0, l, a, w => Region.ready md ops l = [] ∧ Q .normal a w
  | n + 1, l, a, w => (Region.ready md ops l = [] → Q .normal a w) ∧
      ∀ j ∈ Region.ready md ops l, wpOp P ops Q j (fun a' w' => Ph S s (l.setIfInBounds j true) w' ∧ anyP P md ops Q S s n (l.setIfInBounds j true) a' w') a w
theorem anyP_any : ∀ (n : Nat) (l : Array Bool) (a : Act) (w : World), anyP P md ops Q S s n l a w → wpAny P md ops Q n l a w
  | 0, _, _, _, h => h
  | n + 1, _, _, _, h => ⟨h.1, fun j hj => wpOp_mono (fun a' w' h' => anyP_any n _ a' w' h'.2) (h.2 j hj)⟩
/-- It waits for number i. -/
def waits (md : Region.Mode) (o : Oper) (i : Nat) : Bool := o.after.toList.any fun e => Region.binds md e && e.on == i
theorem anyP_first {i : Nat} {oi os : Oper} {v : Value} (hi : ops[i]? = some oi) (hos : ops[s]? = some os) (hwt : waits md os i = true) (his : i ≠ s)
    (hsel : ∀ (j : Nat) (o : Oper) cs b, ops[j]? = some o → o.op ≠ .select cs b) (hQ : ∀ c a w, Q (.panic c) (a.put oi.dst v) w → Q (.panic c) a w) :
    ∀ (n : Nat) (l : Array Bool) (a : Act) (w : World),
      (∀ j oj, ops[j]? = some oj → j ≠ i → l.getD j true = false → (∀ e ∈ oj.after, Region.binds md e = true → e.on ≠ i) → oi.apart ops oj = true) →
      i ∈ Region.ready md ops l → l.getD s false = false → YieldsIf P ops S oi v a → S w →
      anyP P md ops Q S s n (l.setIfInBounds i true) (a.put oi.dst v) w → anyP P md ops Q S s (n + 1) l a w := by
  intro n
  induction n with
  | zero =>
    intro l a w _ hr hl hy hS H
    refine ⟨fun h => (by rw [h] at hr; cases hr), fun j hj => ?_⟩
    by_cases hji : j = i
    · subst hji; exact hy.wpOp hi hS ⟨.inr hS, H⟩
    · have := ready_mono hj hji
      rw [H.1] at this
      cases this
  | succ n ih =>
    intro l a w hfree hr hl hy hS H
    refine ⟨fun h => (by rw [h] at hr; cases hr), fun j hj => ?_⟩
    by_cases hji : j = i
    · subst hji; exact hy.wpOp hi hS ⟨.inr hS, H⟩
    · obtain ⟨hun, oj, hoj, hall⟩ := mem_ready.1 hj
      have hil := (mem_ready.1 hr).1
      have hout : ∀ (e : Nat), l.getD e false = true → e ≠ i := by
        intro e h1 h2
        subst h2
        rcases Nat.lt_or_ge e l.size with h3 | h3
        · simp [h3] at h1 hil; rw [hil] at h1; cases h1
        · simp [Array.getElem?_eq_none h3] at h1
      have hjs : j ≠ s := by
        intro h2
        subst h2
        rw [hos] at hoj
        injection hoj with hoj
        subst hoj
        unfold waits at hwt
        rw [List.any_eq_true] at hwt
        obtain ⟨e, he, hb⟩ := hwt
        simp only [Bool.and_eq_true, beq_iff_eq] at hb
        exact hout _ (hall e (by simpa using he) hb.1) hb.2
      have hnot : ∀ e ∈ oj.after, Region.binds md e = true → e.on ≠ i := fun e he hb => hout _ (hall e he hb)
      have h2 := wpOp_putIf hoj (hfree j oj hoj hji hun hnot) (fun cs b => hsel i oi cs b hi) (fun cs b => hsel j oj cs b hoj) hQ hy (H.2 j (ready_mono hj hji))
      have hl' : (l.setIfInBounds j true).getD s false = false := by rw [getD_set_ne false hjs]; exact hl
      refine wpOp_mono (fun a' w' h3 => ?_) h2
      obtain ⟨h4, h5, h6⟩ := h3
      have hS' : S w' := by
        rcases h5 with h5 | h5
        · rw [Array.setIfInBounds_comm _ _ (Ne.symm hji), getD_set_ne false his, hl'] at h5; cases h5
        · exact h5
      refine ⟨.inr hS', ih _ a' w' (fun k ok hk hki huk hno => ?_) (ready_mono hr (Ne.symm hji)) hl' h4 hS' ?_⟩
      · refine hfree k ok hk hki ?_ hno
        by_cases hjk : j = k
        · subst hjk; exact hun
        · rwa [getD_set_ne true hjk] at huk
      · rw [Array.setIfInBounds_comm _ _ hji]; exact h6

/-- Number i is taken first. -/
theorem anyP_take (i : Nat) {oi os : Oper} {v : Value} {n : Nat} {l : Array Bool} {a : Act} {w : World} (hi : ops[i]? = some oi) (hos : ops[s]? = some os)
    (hc : (waits md os i && (i != s) && Region.noSelect ops && Region.free md ops l i && (Region.ready md ops l).contains i && !(l.getD s false)) = true)
    (hQ : ∀ c a w, Q (.panic c) (a.put oi.dst v) w → Q (.panic c) a w) (hy : YieldsIf P ops S oi v a) (hS : S w)
    (h : anyP P md ops Q S s n (l.setIfInBounds i true) (a.put oi.dst v) w) : anyP P md ops Q S s (n + 1) l a w := by
  simp only [Bool.and_eq_true, bne_iff_ne, ne_eq, Bool.not_eq_true'] at hc
  obtain ⟨⟨⟨⟨⟨h1, h2⟩, h3⟩, h4⟩, h5⟩, h6⟩ := hc
  exact anyP_first hi hos h1 h2 (Region.noSelect_spec h3) hQ n l a w (Region.free_spec hi h4) (by simpa using h5) h6 hy hS h
/-- Number i alone may come up now. -/
theorem anyP_one (i : Nat) {oi : Oper} {n : Nat} {l : Array Bool} {a : Act} {w : World} (hr : Region.ready md ops l = [i]) (hi : ops[i]? = some oi)
    (h : ∀ K : Act → World → Prop, (∀ a' w', Ph S s (l.setIfInBounds i true) w' → anyP P md ops Q S s n (l.setIfInBounds i true) a' w' → K a' w') → if Region.wanted oi (yielded ops a.tmps) = true then Oper.wp P oi a w K Q else K (a.put oi.dst undef) w) :
    anyP P md ops Q S s (n + 1) l a w := by
  refine ⟨fun h0 => (by rw [hr] at h0; cases h0), fun j hj => ?_⟩
  rw [hr] at hj
  have : j = i := by simpa using hj
  subst this
  have h1 := h _ (fun a' w' h1 h2 => And.intro h1 h2)
  unfold wpOp
  simp only [hi]
  split
  · rename_i hw; rw [if_pos hw] at h1; exact .inl h1
  · rename_i hw; rw [if_neg hw] at h1; exact h1
theorem anyP_done {l : Array Bool} {a : Act} {w : World} (hr : Region.ready md ops l = []) (h : Q .normal a w) : ∀ n, anyP P md ops Q S s n l a w
  | 0 => ⟨hr, h⟩
  | _ + 1 => ⟨fun _ => h, by rw [hr]; simp⟩
/-- The beginning; the region must not panic. -/
theorem wp_region_last (s : Nat) (S : World → Prop) {id : Nat} {a : Act} {w : World} (hm : P.follows .mixedOrders = true)
    (h : anyP P .any ops (NoPanic Q) S s ops.size (Array.replicate ops.size false) a w.drew) : (Code.region id ops true).wp P Q a w :=
  wp_region_noPanic (wp_region_any hm (anyP_any _ _ _ _ h))
end

end Go.Proofs.Ytkmnnfflibamnaa
/- Cutting slices, as equations on the operation's run. -/
namespace Go.Proofs.Ytkmnnfflibamnaa
open Go.RowKit

theorem Rd.take {w : World} {a : Option Addr} {n : Nat} {vs : List Value} (h : Rd w a n vs) {k : Nat} (hk : k ≤ n) : Rd w a k (vs.take k) :=
  ⟨by rw [List.length_take, h.len]; omega, by have := h.max; omega, fun h0 => by
    obtain ⟨b, o, ha, hc⟩ := h.cells (by omega)
    refine ⟨b, o, ha, fun i u hu => hc i u ?_⟩
    rw [List.getElem?_take] at hu
    split at hu
    · exact hu
    · cases hu⟩
section
variable {P : Program} {t T : TypeId} {z : Value} {bytes : Nat}
theorem run_cutLo (E : Elem1 P t T z bytes) (w : World) (a : Option Addr) {n c k r : Nat} (hkn : n = k + r) {x : Int} (hx : x = (k : Int)) :
    (Instr.sliceAt t (.slice a n c) (some (.int .i64 x)) none none).run P w = .ok (.slice (cutA a c k) r (c - k)) w := by
  obtain ⟨E1, E2, _⟩ := E
  obtain ⟨i0, hi, _, hz1, _⟩ := info_parts E2
  have hr : r = n - k := by omega
  subst hr
  subst hx
  have ht : P.underlying t = some (.slice (P.elem t)) := by simp [Program.elem, E1]
  have hel : P.elem t = T := by simp [Program.elem, E1]
  have hsz : (sizeOf T).run P w = .ok 1 w := by simp [sizeOf, typeInfo, hi, hz1]
  rw [run_sliceAt_slice _ _ _ _ _ _ ht, run_slice_l w t a n c ht .i64 k (by omega) (by omega), hel, hsz]
  simp [Result.andThen, sliced, cutA]
theorem run_cutHi (E : Elem1 P t T z bytes) (w : World) (a : Option Addr) {n c k : Nat} (hk : k ≤ c) {x : Int} (hx : x = (k : Int)) :
    (Instr.sliceAt t (.slice a n c) none (some (.int .i64 x)) none).run P w = .ok (.slice (cutA a c 0) k c) w := by
  obtain ⟨E1, E2, _⟩ := E
  obtain ⟨i0, hi, _, hz1, _⟩ := info_parts E2
  subst hx
  have ht : P.underlying t = some (.slice (P.elem t)) := by simp [Program.elem, E1]
  have hel : P.elem t = T := by simp [Program.elem, E1]
  have hsz : (sizeOf T).run P w = .ok 1 w := by simp [sizeOf, typeInfo, hi, hz1]
  rw [run_sliceAt_slice _ _ _ _ _ _ ht, run_slice_h w t a n c ht .i64 k (by omega) (by omega), hel, hsz]
  simp [Result.andThen, sliced, cutA]
end
theorem Rd.cutHi {w : World} {a : Option Addr} {n c : Nat} {vs : List Value} (h : Rd w a n vs) (hc : n ≤ c) {k : Nat} (hk : k ≤ n) : Rd w (cutA a c 0) k (vs.take k) := by
  have h1 := (h.cut hc (k := 0) (r := n) (by omega)).take hk
  simpa using h1

end Go.Proofs.Ytkmnnfflibamnaa
/- More on regions in which a store hits a cell that the region has read (Com8): operations that look at no cell come first at any time; several operations that may come next. -/
namespace Go.Proofs.Ytkmnnfflibamnaa
open Go.RowKit

section
variable {P : Program} {ops : Array Oper} {Q : Exit → Act → World → Prop} {md : Region.Mode} {S : World → Prop} {s : Nat}

theorem Ph.set {l : Array Bool} {w : World} {i : Nat} (his : i ≠ s) : Ph S s (l.setIfInBounds i true) w ↔ Ph S s l w := by
  unfold Ph; rw [getD_set_ne false his]
theorem anyP_firstF {i : Nat} {oi : Oper} {v : Value} (hi : ops[i]? = some oi) (his : i ≠ s)
    (hsel : ∀ (j : Nat) (o : Oper) cs b, ops[j]? = some o → o.op ≠ .select cs b) (hQ : ∀ c a w, Q (.panic c) (a.put oi.dst v) w → Q (.panic c) a w) :
    ∀ (n : Nat) (l : Array Bool) (a : Act) (w : World),
      (∀ j oj, ops[j]? = some oj → j ≠ i → l.getD j true = false → (∀ e ∈ oj.after, Region.binds md e = true → e.on ≠ i) → oi.apart ops oj = true) →
      i ∈ Region.ready md ops l → YieldsIf P ops (fun _ => True) oi v a → Ph S s l w →
      anyP P md ops Q S s n (l.setIfInBounds i true) (a.put oi.dst v) w → anyP P md ops Q S s (n + 1) l a w := by
  intro n
  induction n with
  | zero =>
    intro l a w _ hr hy hS H
    refine ⟨fun h => (by rw [h] at hr; cases hr), fun j hj => ?_⟩
    by_cases hji : j = i
    · subst hji; exact hy.wpOp hi trivial ⟨(Ph.set his).2 hS, H⟩
    · have := ready_mono hj hji
      rw [H.1] at this
      cases this
  | succ n ih =>
    intro l a w hfree hr hy hS H
    refine ⟨fun h => (by rw [h] at hr; cases hr), fun j hj => ?_⟩
    by_cases hji : j = i
    · subst hji; exact hy.wpOp hi trivial ⟨(Ph.set his).2 hS, H⟩
    · obtain ⟨hun, oj, hoj, hall⟩ := mem_ready.1 hj
      have hil := (mem_ready.1 hr).1
      have hout : ∀ (e : Nat), l.getD e false = true → e ≠ i := by
        intro e h1 h2
        subst h2
        rcases Nat.lt_or_ge e l.size with h3 | h3
        · simp [h3] at h1 hil; rw [hil] at h1; cases h1
        · simp [Array.getElem?_eq_none h3] at h1
      have hnot : ∀ e ∈ oj.after, Region.binds md e = true → e.on ≠ i := fun e he hb => hout _ (hall e he hb)
      have h2 := wpOp_putIf hoj (hfree j oj hoj hji hun hnot) (fun cs b => hsel i oi cs b hi) (fun cs b => hsel j oj cs b hoj) hQ hy (H.2 j (ready_mono hj hji))
      refine wpOp_mono (fun a' w' h3 => ?_) h2
      obtain ⟨h4, h5, h6⟩ := h3
      have hS' : Ph S s (l.setIfInBounds j true) w' := by
        rw [Array.setIfInBounds_comm _ _ (Ne.symm hji)] at h5
        exact (Ph.set his).1 h5
      refine ⟨hS', ih _ a' w' (fun k ok hk hki huk hno => ?_) (ready_mono hr (Ne.symm hji)) h4 hS' ?_⟩
      · refine hfree k ok hk hki ?_ hno
        by_cases hjk : j = k
        · subst hjk; exact hun
        · rwa [getD_set_ne true hjk] at huk
      · rw [Array.setIfInBounds_comm _ _ hji]; exact h6
/-- Number i, which looks at no cell, is taken first. -/
theorem anyP_takeF (i : Nat) {oi : Oper} {v : Value} {n : Nat} {l : Array Bool} {a : Act} {w : World} (hi : ops[i]? = some oi)
    (hc : ((i != s) && Region.noSelect ops && Region.free md ops l i && (Region.ready md ops l).contains i) = true)
    (hQ : ∀ c a w, Q (.panic c) (a.put oi.dst v) w → Q (.panic c) a w) (hy : YieldsIf P ops (fun _ => True) oi v a) (hS : Ph S s l w)
    (h : anyP P md ops Q S s n (l.setIfInBounds i true) (a.put oi.dst v) w) : anyP P md ops Q S s (n + 1) l a w := by
  simp only [Bool.and_eq_true, bne_iff_ne, ne_eq] at hc
  obtain ⟨⟨⟨h2, h3⟩, h4⟩, h5⟩ := hc
  exact anyP_firstF hi h2 (Region.noSelect_spec h3) hQ n l a w (Region.free_spec hi h4) (by simpa using h5) hy hS h
/-- One of these may come up now. -/
theorem anyP_more (rs : List Nat) {n : Nat} {l : Array Bool} {a : Act} {w : World} (hr : Region.ready md ops l = rs) (h0 : rs ≠ [])
    (h : ∀ j ∈ rs, ∃ oi, ops[j]? = some oi ∧ ∀ K : Act → World → Prop, (∀ a' w', Ph S s (l.setIfInBounds j true) w' → anyP P md ops Q S s n (l.setIfInBounds j true) a' w' → K a' w') →
      if Region.wanted oi (yielded ops a.tmps) = true then Oper.wp P oi a w K Q else K (a.put oi.dst undef) w) : anyP P md ops Q S s (n + 1) l a w := by
  refine ⟨fun e => absurd (hr.symm.trans e) h0, fun j hj => ?_⟩
  rw [hr] at hj
  obtain ⟨oi, hi, hK⟩ := h j hj
  have h1 := hK _ (fun a' w' h1 h2 => And.intro h1 h2)
  unfold wpOp
  simp only [hi]
  split
  · rename_i hw; rw [if_pos hw] at h1; exact .inl h1
  · rename_i hw; rw [if_neg hw] at h1; exact h1
/-- What is shown once of the code behind a point, for all ways that come there. -/
theorem with_tail {n : Nat} {l : Array Bool} {a : Act} {w : World} (T : Array Oper → (Exit → Act → World → Prop) → (World → Prop) → Prop) (hT : T ops Q S) (h : T ops Q S → anyP P md ops Q S s n l a w) : anyP P md ops Q S s n l a w := h hT
end

end Go.Proofs.Ytkmnnfflibamnaa
/- Appending one element of several cells, and where the result lies. -/
namespace Go.Proofs.Ytkmnnfflibamnaa
open Go.RowKit
theorem wpAppZAt {P : Program} {w : World} {t T : TypeId} {z : Value} {s bytes : Nat} (E : ElemZ P t T z s bytes) (hs0 : 0 < s) {a : Option Addr} {n c B : Nat} {vs : List Value} (own : OwnZ w B T s a n c vs)
    {us : List Value} (hl : us.length = s) (h1 : ∀ u ∈ us, u.oneCell' = true)
    (hlen : (n + 1) * bytes ≤ 140737488355328) (hmax : n + 1 ≤ 9223372036854775807) (hB : B ≤ w.heap.size)
    {ops : Array Oper} {rest : List Oper} {act : Act} {Q : Exit → Act → World → Prop} {dst : Option Tmp} {ty : TypeId} {pos : String} {after : Array Edge} {sl x : Operand}
    (hs : act.eval sl = .slice a n c) (hx : act.eval x = .slice (some ⟨w.heap.size, 0, none⟩) 1 1)
    (K : ∀ a' c' w', OwnZ w' B T s a' (n + 1) c' (vs ++ us) → Fr (onBlk a) w w' → (∀ k, onBlk a' k → onBlk a k ∨ w.heap.size ≤ k) → wpList P ops Q rest (act.put dst (.slice a' (n + 1) c')) w') :
    wpList P ops Q ({ dst, op := .call { callee := .builtin .append, args := #[sl, x], argTypes := #[t, t] }, type := ty, pos, after, guard := none } :: rest) act (w.alloc (.cells us.toArray T)) := by
  obtain ⟨E1, E2, E3⟩ := E
  obtain ⟨i0, hi, hz0, hz1, hz2⟩ := info_parts E2
  obtain ⟨v', w', hrun, h2, h3, h4, h5⟩ := run_append_own_at (P := P) (w.alloc (.cells us.toArray T)) B t ty T i0 z s bytes E1 hi hz0 hz1 hz2 E3 hs0 (.slice a n c) n vs (OwnZ.alloc own _) ⟨w.heap.size, 0, none⟩ 1 1 us (by omega) (by
    intro j u hj
    rw [Addr.add_lit, Nat.zero_add, World.cell?_alloc_new]
    simpa using hj) h1 (by unfold maxLen; omega) hlen (by simp; omega)
  refine wpList_plain rfl fun K' hK => ?_
  unfold Oper.wp execOp
  simp only [resolve, invoke, builtin, Sem.run_bind, Sem.run_pure, Result.andThen_ok, List.map_toArray, List.map_cons, List.map_nil, hs, hx, hrun]
  rcases h2.2 with ⟨_, hn⟩ | ⟨g, cap, cur, hv, r⟩
  · omega
  · subst hv
    refine hK _ _ (K _ _ _ h2 (Fr.trans ((Fr.refl (onBlk a) w).alloc _) (Fr.of_grown rfl h3) (fun _ _ h => h)) ?_)
    intro k hk
    have hk' := (onBlk_some _ _ _ _).1 hk
    subst hk'
    rcases h5 with h5 | h5
    · left
      cases a with
      | none => simp [Value.ownBlock] at h5
      | some a => simp [Value.ownBlock] at h5; exact ⟨a.off, a.spot, by rw [h5]⟩
    · right
      simp [Value.ownBlock] at h5
      omega
end Go.Proofs.Ytkmnnfflibamnaa
/- Blocks that are known whole. -/
namespace Go.Proofs.Ytkmnnfflibamnaa
open Go.RowKit
theorem size_alloc (w : World) (o : Obj) : (w.alloc o).heap.size = w.heap.size + 1 := by simp
/-- A block, known whole. -/
abbrev Blk (w : World) (b T : Nat) (vs : List Value) : Prop := w.heap[b]? = some (.cells vs.toArray T (0, 0))
section
variable {w w' : World} {b T : Nat} {vs : List Value}
theorem Blk.lt (h : Blk w b T vs) : b < w.heap.size := lt_of_block h
theorem Blk.cell (h : Blk w b T vs) {i : Nat} {u : Value} (hu : vs[i]? = some u) : w.cell? ⟨b, i, none⟩ = some u := by
  rw [cell_of_row w b i vs.toArray T (0, 0) h]; simpa using hu
theorem Blk.free (h : Blk w b T vs) (i : Nat) : w.frozen? ⟨b, i, none⟩ = false := by simp [World.frozen?, h]
theorem Blk.set (h : Blk w b T vs) (i : Nat) (u : Value) : Blk (w.setCell ⟨b, i, none⟩ u) b T (vs.set i u) := by
  unfold Blk
  rw [heap_setCell_same h]
  simp
theorem Blk.fr {S : Nat → Prop} (h : Blk w b T vs) (f : Fr S w w') (hS : ¬ S b) : Blk w' b T vs := (f.block b h.lt hS).trans h
theorem Blk.other (h : Blk w b T vs) {p : Addr} (hp : b ≠ p.block) (u : Value) : Blk (w.setCell p u) b T vs := (Below.heap_setCell _ _ _ _ hp).trans h
theorem Blk.alloc (h : Blk w b T vs) (o : Obj) : Blk (w.alloc o) b T vs := (Below.heap_alloc _ _ _ h.lt).trans h
theorem Blk.drew (h : Blk w b T vs) : Blk w.drew b T vs := h
theorem Blk.new (w : World) (T : Nat) (vs : List Value) : Blk (w.alloc (.cells vs.toArray T)) w.heap.size T vs := by show (w.heap.push _)[w.heap.size]? = _; simp
end
end Go.Proofs.Ytkmnnfflibamnaa
/- Slices whose elements take s cells each: appended whole, cut. -/
namespace Go.Proofs.Ytkmnnfflibamnaa
open Go.RowKit
theorem runAppZ {P : Program} {w : World} {t T : TypeId} {z : Value} {s bytes : Nat} (E : ElemZ P t T z s bytes) (hs0 : 0 < s) {a : Option Addr} {n c B : Nat} {vs : List Value} (own : OwnZ w B T s a n c vs)
    {b : Option Addr} {m cx : Nat} {us : List Value} (hx : RdZ w s b m us) (h1 : ∀ u ∈ us, u.oneCell' = true)
    (hlen : (n + m) * bytes ≤ 140737488355328) (hmax : n + m ≤ 9223372036854775807) (hB : B ≤ w.heap.size) (ty : TypeId) :
    ∃ a' c' w', (Builtin.append_ #[t, t] ty #[.slice a n c, .slice b m cx]).run P w = .ok (.slice a' (n + m) c') w' ∧ OwnZ w' B T s a' (n + m) c' (vs ++ us) ∧ Fr (onBlk a) w w' ∧ (∀ k, onBlk a' k → onBlk a k ∨ w.heap.size ≤ k) := by
  obtain ⟨E1, E2, E3⟩ := E
  obtain ⟨i0, hi, hz0, hz1, hz2⟩ := info_parts E2
  have key : ∀ (v' w'), w'.ownsRow B T s v' (n + m) (vs ++ us) → w.grownBy w' (Value.slice a n c).ownBlock → (v'.ownBlock = (Value.slice a n c).ownBlock ∨ v'.ownBlock = some w.heap.size) →
      (v' = .slice none 0 0 → n + m = 0) →
      ∃ a' c', v' = .slice a' (n + m) c' ∧ OwnZ w' B T s a' (n + m) c' (vs ++ us) ∧ Fr (onBlk a) w w' ∧ (∀ k, onBlk a' k → onBlk a k ∨ w.heap.size ≤ k) := by
    intro v' w' ho hg hat hnil
    have hfr : Fr (onBlk a) w w' := Fr.of_grown rfl hg
    rcases ho.2 with ⟨hv, hn⟩ | ⟨g, cap, cur, hv, r⟩
    · refine ⟨none, 0, ?_, ?_, hfr, fun k hk => absurd hk (onBlk_none k)⟩
      · rw [hv, hn]
      · rw [hv] at ho; rw [hn] at ho ⊢; exact ho
    · subst hv
      refine ⟨_, _, rfl, ho, hfr, fun k hk => ?_⟩
      have hk' := (onBlk_some _ _ _ _).1 hk
      subst hk'
      rcases hat with hat | hat
      · left
        cases a with
        | none => simp [Value.ownBlock] at hat
        | some a => simp [Value.ownBlock] at hat; exact ⟨a.off, a.spot, by rw [hat]⟩
      · right
        simp [Value.ownBlock] at hat
        omega
  cases b with
  | none =>
    have hm : m = 0 := by
      rcases Nat.eq_zero_or_pos m with h0 | h0
      · exact h0
      · obtain ⟨_, _, h, _⟩ := hx.cells h0
        cases h
    subst hm
    have hu : us = [] := List.length_eq_zero_iff.1 (by rw [hx.len, Nat.zero_mul])
    subst hu
    refine ⟨a, c, w, ?_, by simpa using own, Fr.refl _ _, fun k hk => .inl hk⟩
    rcases own.2 with ⟨hv, hn⟩ | ⟨g, cap, cur, hv, _, _, hnc, _⟩
    · injection hv with e1 e2 e3
      subst e1 hn e3
      simp [Builtin.append_, run_underlying E1, sizeOf, typeInfo, hi, Builtin.lenOf, Builtin.firstCells]
    · injection hv with e1 e2 e3
      subst e1 e3
      simp [Builtin.append_, run_underlying E1, sizeOf, typeInfo, hi, Builtin.lenOf, Builtin.firstCells, hnc, storeCells]
  | some ad =>
    have hcells : ∀ j u, us[j]? = some u → w.cell? (ad.add j) = some u := by
      intro j u hu
      rcases Nat.eq_zero_or_pos m with h0 | h0
      · have : us = [] := List.length_eq_zero_iff.1 (by rw [hx.len, h0, Nat.zero_mul])
        subst this; simp at hu
      · obtain ⟨g, o, h, hc⟩ := hx.cells h0
        injection h with h
        subst h
        rw [Addr.add_lit]; exact hc j u hu
    obtain ⟨v', w', hrun, h2, h3, h4, h5⟩ := run_append_own_at (P := P) w B t ty T i0 z s bytes E1 hi hz0 hz1 hz2 E3 hs0 (.slice a n c) n vs own ad m cx us hx.len hcells h1 (by unfold maxLen; omega) hlen hB
    obtain ⟨a', c', hv, g1, g2, g3⟩ := key v' w' h2 h3 h5 (fun h => by
      have := h4.1 h
      rcases own.2 with ⟨_, hn⟩ | ⟨g, cap, cur, hv, _⟩
      · omega
      · rw [hv] at this; cases this.1)
    subst hv
    exact ⟨a', c', w', hrun, g1, g2, g3⟩
/-- 'append(s, x...)' in a plain region. -/
theorem wpAppRdZ {P : Program} {w : World} {t T : TypeId} {z : Value} {sz bytes : Nat} (E : ElemZ P t T z sz bytes) (hs0 : 0 < sz) {a : Option Addr} {n c B : Nat} {vs : List Value} (own : OwnZ w B T sz a n c vs)
    {b : Option Addr} {m cx : Nat} {us : List Value} (hr : RdZ w sz b m us) (h1 : ∀ u ∈ us, u.oneCell' = true)
    (hlen : (n + m) * bytes ≤ 140737488355328) (hmax : n + m ≤ 9223372036854775807) (hB : B ≤ w.heap.size) (k : Nat) (hk : n + m = k)
    {ops : Array Oper} {rest : List Oper} {act : Act} {Q : Exit → Act → World → Prop} {dst : Option Tmp} {ty : TypeId} {pos : String} {after : Array Edge} {s x : Operand}
    (hs : act.eval s = .slice a n c) (hx : act.eval x = .slice b m cx)
    (K : ∀ a' c' w', OwnZ w' B T sz a' k c' (vs ++ us) → Fr (onBlk a) w w' → (∀ k, onBlk a' k → onBlk a k ∨ w.heap.size ≤ k) → wpList P ops Q rest (act.put dst (.slice a' k c')) w') :
    wpList P ops Q ({ dst, op := .call { callee := .builtin .append, args := #[s, x], argTypes := #[t, t] }, type := ty, pos, after, guard := none } :: rest) act w := by
  subst hk
  refine wpList_plain rfl fun K' hK => ?_
  obtain ⟨a', c', w', hrun, g1, g2, g3⟩ := runAppZ E hs0 own hr h1 hlen hmax hB (cx := cx) ty
  unfold Oper.wp execOp
  simp only [resolve, invoke, builtin, Sem.run_bind, Sem.run_pure, Result.andThen_ok, List.map_toArray, List.map_cons, List.map_nil, hs, hx, hrun]
  exact hK _ _ (K a' c' w' g1 g2 g3)
/-- .. and at a step of a region that draws. -/
theorem stepAppZ {P : Program} {w : World} {t T : TypeId} {z : Value} {sz bytes : Nat} (E : ElemZ P t T z sz bytes) (hs0 : 0 < sz) {a : Option Addr} {n c B : Nat} {vs : List Value}
    {b : Option Addr} {m cx : Nat} {us : List Value}
    {ops : Array Oper} {o : Oper} {act : Act} {K : Act → World → Prop} {Q : Exit → Act → World → Prop} {F : Prop} {s x : Operand} (hgd : o.guard = none)
    (ho : o.op = .call { callee := .builtin .append, args := #[s, x], argTypes := #[t, t] })
    (hs : act.eval s = .slice a n c) (hx : act.eval x = .slice b m cx) (own : OwnZ w B T sz a n c vs) (hr : RdZ w sz b m us) (h1 : ∀ u ∈ us, u.oneCell' = true)
    (hlen : (n + m) * bytes ≤ 140737488355328) (hmax : n + m ≤ 9223372036854775807) (hB : B ≤ w.heap.size) (k : Nat) (hk : n + m = k)
    (h : ∀ a' c' w', OwnZ w' B T sz a' k c' (vs ++ us) → Fr (onBlk a) w w' → (∀ k, onBlk a' k → onBlk a k ∨ w.heap.size ≤ k) → K (act.put o.dst (.slice a' k c')) w') :
    if Region.wanted o (yielded ops act.tmps) = true then Oper.wp P o act w K Q else F := by
  subst hk
  have hw : Region.wanted o (yielded ops act.tmps) = true := by simp [Region.wanted, hgd]
  rw [if_pos hw]
  obtain ⟨a', c', w', hrun, g1, g2, g3⟩ := runAppZ E hs0 own hr h1 hlen hmax hB (cx := cx) o.type
  unfold Oper.wp execOp
  simp only [ho, resolve, invoke, builtin, Sem.run_bind, Sem.run_pure, Result.andThen_ok, List.map_toArray, List.map_cons, List.map_nil, hs, hx, hrun]
  exact h a' c' w' g1 g2 g3
/-- A literal of one element. -/
theorem rdZ_new (w : World) (T : TypeId) (us : List Value) : RdZ (w.alloc (.cells us.toArray T)) us.length (some ⟨w.heap.size, 0, none⟩) 1 us :=
  ⟨by omega, by omega, fun _ => ⟨_, _, rfl, fun i u hu => by rw [Nat.zero_add, World.cell?_alloc_new]; simpa using hu⟩⟩
section
variable {P : Program} {t T : TypeId} {z : Value} {s bytes : Nat}
theorem run_cutHiZ (E : ElemZ P t T z s bytes) (w : World) (g : Nat) {n c k : Nat} (hk : k ≤ c) {x : Int} (hx : x = (k : Int)) :
    (Instr.sliceAt t (.slice (some ⟨g, 0, none⟩) n c) none (some (.int .i64 x)) none).run P w = .ok (.slice (some ⟨g, 0, none⟩) k c) w := by
  obtain ⟨E1, E2, _⟩ := E
  obtain ⟨i0, hi, _, hz1, _⟩ := info_parts E2
  subst hx
  have ht : P.underlying t = some (.slice (P.elem t)) := by simp [Program.elem, E1]
  have hel : P.elem t = T := by simp [Program.elem, E1]
  have hsz : (sizeOf T).run P w = .ok s w := by simp [sizeOf, typeInfo, hi, hz1]
  rw [run_sliceAt_slice _ _ _ _ _ _ ht, run_slice_h w t _ n c ht .i64 k (by omega) (by omega), hel, hsz]
  simp [Result.andThen, sliced, Addr.add]
end
theorem OwnZ.cutHi {w : World} {B : Nat} {T : TypeId} {s g n c k : Nat} {vs : List Value} (h : OwnZ w B T s (some ⟨g, 0, none⟩) n c vs) (hk : k ≤ n) : OwnZ w B T s (some ⟨g, 0, none⟩) k c (vs.take (k * s)) := by
  have hks : k * s ≤ n * s := Nat.mul_le_mul_right _ hk
  refine ⟨by rw [List.length_take, h.1]; omega, ?_⟩
  rcases h.2 with ⟨hv, _⟩ | ⟨g', cap, cur, hv, hb, hh, h1, h2, h3, h4⟩
  · cases hv
  · injection hv with ha hn hc
    injection ha with ha
    injection ha with ha
    subst ha hc
    refine .inr ⟨g, c, cur, rfl, hb, hh, by omega, h2, h3, ?_⟩
    rw [← h4, List.take_take, Nat.min_eq_left hks]
theorem OwnZ.cap {w : World} {B : Nat} {T : TypeId} {s n c : Nat} {a : Option Addr} {vs : List Value} (h : OwnZ w B T s a n c vs) : n ≤ c := by
  rcases h.2 with ⟨hv, hn⟩ | ⟨g', cap, cur, hv, hb, hh, h1, _⟩
  · injection hv with _ h1 h2; omega
  · injection hv with _ _ h2; omega
end Go.Proofs.Ytkmnnfflibamnaa
