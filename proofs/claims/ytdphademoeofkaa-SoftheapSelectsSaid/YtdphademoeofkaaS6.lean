/- The heap in memory. -/
import Derived.Test.YtdphademoeofkaaS5
import Derived.Test.YtdphademoeofkaaCom4
namespace Go.Proofs.Ytdphademoeofkaa
open Go.RowKit
abbrev tps (ts : List Tr) : List Value := ts.map fun t => .pointer t.ptr
abbrev heC (rate : Nat) (n : Int) (ts : List Tr) (own : List Int) (I : List (Option Nat)) (at_ : Option Addr) (ct : Nat) (ao : Option Addr) (co : Nat) (ai : Option Addr) (ci : Nat) : List Value := [.int .i64 rate, .slice at_ ts.length ct, .slice ao own.length co, .slice ai I.length ci, .int .i64 n]
/-- A heap at block hb; its blocks are among T. -/
structure HS (w : World) (hb rate : Nat) (n : Int) (ts : List Tr) (own : List Int) (I : List (Option Nat)) (T : Nat → Prop) (at_ : Option Addr) (ct : Nat) (ao : Option Addr) (co : Nat) (ai : Option Addr) (ci : Nat) (Nt : Nat → Nat → Prop) : Prop where
  blk : Blk w hb 59 (heC rate n ts own I at_ ct ao co ai ci)
  ot : Own w 0 60 at_ ts.length ct (tps ts)
  oo : Own w 0 3 ao own.length co (ints own)
  oi : Own w 0 60 ai I.length ci (ptrs I)
  len : I.length = own.length
  tm : ∀ i t, ts[i]? = some t → TM w t (Nt i)
  sep : ∀ i j q, Nt i q → Nt j q → i = j
  tT : ∀ i q, Nt i q → T q ∧ q ≠ hb ∧ ¬ onBlk at_ q ∧ ¬ onBlk ao q ∧ ¬ onBlk ai q
  hT : T hb
  aT : ∀ q, onBlk at_ q → T q ∧ q ≠ hb ∧ ¬ onBlk ao q ∧ ¬ onBlk ai q
  oT : ∀ q, onBlk ao q → T q ∧ q ≠ hb ∧ ¬ onBlk ai q
  iT : ∀ q, onBlk ai q → T q ∧ q ≠ hb
  lt : ∀ q, T q → q < w.heap.size
section
variable {w w' : World} {hb rate : Nat} {n : Int} {ts : List Tr} {own : List Int} {I : List (Option Nat)} {T : Nat → Prop} {at_ ao ai : Option Addr} {ct co ci : Nat} {Nt : Nat → Nat → Prop}
theorem HS.fr {F : Nat → Prop} (h : HS w hb rate n ts own I T at_ ct ao co ai ci Nt) (f : Fr F w w') (hF : ∀ q, T q → ¬ F q) : HS w' hb rate n ts own I T at_ ct ao co ai ci Nt :=
  { h with
    blk := h.blk.fr f (hF _ h.hT)
    ot := h.ot.fr f (fun q hq => hF q (h.aT q hq).1)
    oo := h.oo.fr f (fun q hq => hF q (h.oT q hq).1)
    oi := h.oi.fr f (fun q hq => hF q (h.iT q hq).1)
    tm := fun i t ht => (h.tm i t ht).fr f (fun q hq => hF q (h.tT i q hq).1)
    lt := fun q hq => Nat.lt_of_lt_of_le (h.lt q hq) f.size }
theorem HS.big {T' : Nat → Prop} (h : HS w hb rate n ts own I T at_ ct ao co ai ci Nt) (e : ∀ q, T q → T' q) (l : ∀ q, T' q → q < w.heap.size) : HS w hb rate n ts own I T' at_ ct ao co ai ci Nt :=
  { h with tT := fun i q hq => ⟨e q (h.tT i q hq).1, (h.tT i q hq).2⟩, hT := e _ h.hT, aT := fun q hq => ⟨e q (h.aT q hq).1, (h.aT q hq).2⟩, oT := fun q hq => ⟨e q (h.oT q hq).1, (h.oT q hq).2⟩, iT := fun q hq => ⟨e q (h.iT q hq).1, (h.iT q hq).2⟩, lt := l }
/-- The list of trees was appended to: no tree. -/
theorem HS.pad1 {a' : Option Addr} {c' : Nat} {w1 : World} (h : HS w hb rate n ts own I T at_ ct ao co ai ci Nt) (O : Own w1 0 60 a' (ts.length + 1) c' (tps ts ++ [.pointer none])) (f : Fr (onBlk at_) w w1) (hat : ∀ q, onBlk a' q → onBlk at_ q ∨ w.heap.size ≤ q) :
    HS (w1.setCell ⟨hb, 1, none⟩ (.slice a' (ts.length + 1) c')) hb rate n (ts ++ [.nil]) own I (Grw T w w1) a' c' ao co ai ci (fun i q => Nt i q ∧ i < ts.length) ∧ Fr T w (w1.setCell ⟨hb, 1, none⟩ (.slice a' (ts.length + 1) c')) := by
  have hs := f.size
  have hha : ¬ onBlk at_ hb := fun e => (h.aT hb e).2.1 rfl
  have f2 : Fr (onB hb) w1 (w1.setCell ⟨hb, 1, none⟩ (.slice a' (ts.length + 1) c')) := (Fr.refl (onB hb) w1).setB 1 _
  have hs2 : (w1.setCell ⟨hb, 1, none⟩ (.slice a' (ts.length + 1) c')).heap.size = w1.heap.size := by simp
  have hblt := h.lt hb h.hT
  have hob := O.blk
  have ha' : ∀ q, onBlk a' q → q ≠ hb := fun q hq e => (hat q hq).elim (fun g => hha (e ▸ g)) (fun g => by omega)
  have hnew : ∀ q, T q → ¬ onBlk at_ q → ¬ onBlk a' q := fun q hq g e => (hat q e).elim g (fun g => by have := h.lt q hq; omega)
  refine ⟨⟨?_, ?_, ?_, ?_, h.len, ?_, fun i j q hi hj => h.sep i j q hi.1 hj.1, ?_, .inl h.hT, ?_, ?_, ?_, ?_⟩, ?_⟩
  · have := (h.blk.fr f hha).set 1 (.slice a' (ts.length + 1) c')
    simpa [heC] using this
  · have := O.fr f2 (fun q hq (e : q = hb) => ha' q hq e)
    simpa [tps, Tr.ptr] using this
  · exact (h.oo.fr f (fun q hq e => (h.aT q e).2.2.1 hq)).fr f2 (fun q hq (e : q = hb) => (h.oT q hq).2.1 e)
  · exact (h.oi.fr f (fun q hq e => (h.aT q e).2.2.2 hq)).fr f2 (fun q hq (e : q = hb) => (h.iT q hq).2 e)
  · intro i t ht
    rw [List.getElem?_append] at ht
    split at ht
    · next hi =>
      have := ((h.tm i t ht).fr f (fun q hq e => (h.tT i q hq).2.2.1 e)).fr f2 (fun q hq (e : q = hb) => (h.tT i q hq).2.1 e)
      exact this.big (fun q hq => ⟨hq, hi⟩) (fun q hq => this.lt q hq.1)
    · next hi =>
      obtain ⟨_, ht⟩ := List.getElem?_eq_some_iff.1 ht
      have ht : t = .nil := by simpa using ht.symm
      subst ht
      exact fun q hq => absurd hq.2 hi
  · intro i q hq
    have := h.tT i q hq.1
    exact ⟨.inl this.1, this.2.1, hnew q this.1 this.2.2.1, this.2.2.2⟩
  · intro q hq
    refine ⟨?_, ha' q hq, ?_⟩
    · rcases hat q hq with g | g
      · exact .inl (h.aT q g).1
      · exact .inr ⟨g, (hob q hq).2⟩
    · rcases hat q hq with g | g
      · exact (h.aT q g).2.2
      · exact ⟨fun e => by have := h.lt q (h.oT q e).1; omega, fun e => by have := h.lt q (h.iT q e).1; omega⟩
  · intro q hq
    exact ⟨.inl (h.oT q hq).1, (h.oT q hq).2⟩
  · intro q hq
    exact ⟨.inl (h.iT q hq).1, (h.iT q hq).2⟩
  · intro q hq
    rw [hs2]
    exact Grw.lt h.lt hs q hq
  · exact (f.mono (fun q _ e => (h.aT q e).1)).trans f2 (fun q _ (e : q = hb) => e ▸ h.hT)
/-- A cell of the list of trees was written. -/
theorem HS.store {g k : Nat} {x : Tr} {Nx : Nat → Prop} (h : HS w hb rate n ts own I T (some ⟨g, 0, none⟩) ct ao co ai ci Nt) (hk : k < ts.length) (hx : TM w x Nx) (hN : ∀ q, Nx q → ¬ T q) :
    HS (w.setCell ⟨g, k, none⟩ (.pointer x.ptr)) hb rate n (ts.set k x) own I (fun q => T q ∨ Nx q) (some ⟨g, 0, none⟩) ct ao co ai ci (fun i q => (i = k ∧ Nx q) ∨ (i ≠ k ∧ Nt i q)) := by
  have hgb : onBlk (some ⟨g, 0, none⟩) g := (onBlk_some _ _ _ _).2 rfl
  have f : Fr (onB g) w (w.setCell ⟨g, k, none⟩ (.pointer x.ptr)) := (Fr.refl (onB g) w).setB k _
  have hgT := h.aT g hgb
  have hs : (w.setCell ⟨g, k, none⟩ (.pointer x.ptr)).heap.size = w.heap.size := by simp
  refine ⟨?_, ?_, h.oo.fr f (fun q hq (e : q = g) => hgT.2.2.1 (e ▸ hq)), h.oi.fr f (fun q hq (e : q = g) => hgT.2.2.2 (e ▸ hq)), h.len, ?_, ?_, ?_, .inl h.hT, fun q hq => ⟨.inl (h.aT q hq).1, (h.aT q hq).2⟩, fun q hq => ⟨.inl (h.oT q hq).1, (h.oT q hq).2⟩, fun q hq => ⟨.inl (h.iT q hq).1, (h.iT q hq).2⟩, ?_⟩
  · have := h.blk.fr f (fun (e : hb = g) => hgT.2.1 e.symm)
    simpa [heC] using this
  · have := h.ot.set (i := k) (.pointer x.ptr)
    simpa [tps, List.map_set] using this
  · intro i t ht
    rw [List.getElem?_set] at ht
    split at ht
    · next e =>
      injection ht with ht
      subst ht
      subst e
      have := hx.fr f (fun q hq (e : q = g) => hN q hq (e ▸ hgT.1))
      exact this.big (fun q hq => .inl ⟨rfl, hq⟩) (fun q hq => hq.elim (fun e => this.lt q e.2) (fun e => absurd rfl e.1))
    · next e =>
      have := (h.tm i t ht).fr f (fun q hq (e : q = g) => (h.tT i q hq).2.2.1 (e ▸ hgb))
      exact this.big (fun q hq => .inr ⟨fun g => e g.symm, hq⟩) (fun q hq => hq.elim (fun g => absurd g.1.symm e) (fun e => this.lt q e.2))
  · rintro i j q (⟨rfl, hi⟩ | ⟨hi1, hi⟩) (⟨rfl, hj⟩ | ⟨hj1, hj⟩)
    · rfl
    · exact absurd (h.tT j q hj).1 (hN q hi)
    · exact absurd (h.tT i q hi).1 (hN q hj)
    · exact h.sep i j q hi hj
  · rintro i q (⟨rfl, hq⟩ | ⟨_, hq⟩)
    · exact ⟨.inr hq, fun e => hN q hq (e ▸ h.hT), fun e => hN q hq (h.aT q e).1, fun e => hN q hq (h.oT q e).1, fun e => hN q hq (h.iT q e).1⟩
    · exact ⟨.inl (h.tT i q hq).1, (h.tT i q hq).2⟩
  · intro q hq
    rw [hs]
    exact hq.elim (h.lt q) (hx.lt q)
/-- Items have moved, and other trees. -/
theorem HS.moved {g : Nat} {I' : List (Option Nat)} {F : Nat → Prop} (h : HS w hb rate n ts own I T at_ ct ao co (some ⟨g, 0, none⟩) ci Nt) (hl : I'.length = I.length) (O : Own w' 0 60 (some ⟨g, 0, none⟩) I.length ci (ptrs I')) (f : Fr F w w') (hF : ∀ q, T q → F q → q = g) :
    HS w' hb rate n ts own I' T at_ ct ao co (some ⟨g, 0, none⟩) ci Nt := by
  have hgb : onBlk (some ⟨g, 0, none⟩) g := (onBlk_some _ _ _ _).2 rfl
  have hgT := h.iT g hgb
  have ne : ∀ q, T q → q ≠ g → ¬ F q := fun q hq e g => e (hF q hq g)
  refine { h with blk := ?_, ot := h.ot.fr f (fun q hq => ne q (h.aT q hq).1 (fun e => (h.aT q hq).2.2.2 (e ▸ hgb))), oo := h.oo.fr f (fun q hq => ne q (h.oT q hq).1 (fun e => (h.oT q hq).2.2 (e ▸ hgb))), oi := ?_, len := hl.trans h.len, tm := fun i t ht => (h.tm i t ht).fr f (fun q hq => ne q (h.tT i q hq).1 (fun e => (h.tT i q hq).2.2.2.2 (e ▸ hgb))), lt := fun q hq => Nat.lt_of_lt_of_le (h.lt q hq) f.size }
  · have := h.blk.fr f (ne hb h.hT (fun e => hgT.2 e.symm))
    simpa [heC, hl] using this
  · rw [hl]; exact O
end
end Go.Proofs.Ytdphademoeofkaa
