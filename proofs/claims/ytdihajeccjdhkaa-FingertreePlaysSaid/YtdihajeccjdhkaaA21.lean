/- Trees with the lists that they should have: what a step keeps; the state while both are appended to. -/
import Derived.Test.YtdihajeccjdhkaaA20
import Derived.Test.YtdihajeccjdhkaaCom6
namespace Go.Proofs.Ytdihajeccjdhkaa
open Go.RowKit
theorem E53 : Elem1 Try.prog 53 24 (.pointer none) 8 := ⟨by kernel_rfl, by kernel_rfl, rfl⟩
theorem E54 : Elem1 Try.prog 54 22 (.slice none 0 0) 24 := ⟨by kernel_rfl, by kernel_rfl, rfl⟩
/-- The blocks that a step writes. -/
abbrev Nb (bx : Nat) (t l : Option Addr) : Nat → Prop := fun k => k = bx ∨ onBlk t k ∨ onBlk l k
/-- None of the blocks is of a tree. -/
def NoT (N : Nat → Prop) (w : World) : Prop := ∀ k, N k → ∀ arr T fr, w.heap[k]? = some (.cells arr T fr) → T ≠ 68 ∧ T ≠ 70
theorem TM.frT {N : Nat → Prop} {w w' : World} (f : Fr N w w') (hN : NoT N w) : ∀ {t : Tr} {p : Option Addr}, TM w t p → TM w' t p
  | .nil, _, h => h
  | .nd _ _ _, _, ⟨b, pl, pr, h1, h2, h3, h4⟩ => ⟨b, pl, pr, h1, h2.fr f (fun hb => by obtain ⟨⟨arr, fr, h⟩, _⟩ := h2; exact (hN b hb _ _ _ h).2 rfl), TM.frT f hN h3, TM.frT f hN h4⟩
theorem TK.frT {N : Nat → Prop} {w w' : World} {xs : List Int} {p : Option Addr} (h : TK w xs p) (f : Fr N w w') (hN : NoT N w) : TK w' xs p := by
  obtain ⟨t, ⟨b, pr, h1, ⟨h2, arr, fr, h4⟩, h3⟩, h5, h6⟩ := h
  have hb : ¬ N b := fun hb => (hN b hb _ _ _ h4).1 rfl
  exact ⟨t, ⟨b, pr, h1, ⟨f.cell h2 hb, arr, fr, (f.block b (Array.getElem?_eq_some_iff.1 h4).1 hb).trans h4⟩, h3.frT f hN⟩, h5, h6⟩
/-- A tree with these elements, whatever is written into these blocks. -/
def TKs (N : Nat → Prop) (w : World) (xs : List Int) (p : Option Addr) : Prop := ∀ w', Fr N w w' → TK w' xs p
/-- Likewise of a slice. -/
def RdS (N : Nat → Prop) (w : World) (a : Option Addr) (n : Nat) (xs : List Int) : Prop := ∀ w', Fr N w w' → Rd w' a n (ints xs)
section
variable {N N' : Nat → Prop} {w w' : World} {xs : List Int} {p a : Option Addr} {n : Nat}
theorem TKs.now (h : TKs N w xs p) : TK w xs p := h w (Fr.refl _ _)
theorem RdS.now (h : RdS N w a n xs) : Rd w a n (ints xs) := h w (Fr.refl _ _)
theorem TKs.go (h : TKs N w xs p) (f : Fr N w w') (hN : ∀ k, k < w.heap.size → N' k → N k) : TKs N' w' xs p := fun w'' f' => h w'' (f.trans f' hN)
theorem RdS.go (h : RdS N w a n xs) (f : Fr N w w') (hN : ∀ k, k < w.heap.size → N' k → N k) : RdS N' w' a n xs := fun w'' f' => h w'' (f.trans f' hN)
theorem TK.st (h : TK w xs p) (hN : NoT N w) : TKs N w xs p := fun _ f => h.frT f hN
theorem Rd.st (h : Rd w a n (ints xs)) (hN : ∀ k, onBlk a k → ¬ N k) : RdS N w a n xs := fun _ f => h.fr f hN
end
/-- A tree and its list. -/
abbrev Ent := Option Addr × SlI
structure EOk (N : Nat → Prop) (w : World) (K : Nat) (e : Ent) : Prop where
  t : TKs N w e.2.xs e.1
  r : RdS N w e.2.a e.2.n e.2.xs
  c : e.2.n ≤ e.2.c
  s : Tr.Small e.2.xs
  k : e.2.n ≤ K
theorem EOk.go {N N' : Nat → Prop} {w w' : World} {K : Nat} {e : Ent} (h : EOk N w K e) (f : Fr N w w') (hN : ∀ k, k < w.heap.size → N' k → N k) : EOk N' w' K e := ⟨h.t.go f hN, h.r.go f hN, h.c, h.s, h.k⟩
theorem EOk.up {N : Nat → Prop} {w : World} {K K' : Nat} {e : Ent} (h : EOk N w K e) (hk : K ≤ K') : EOk N w K' e := ⟨h.t, h.r, h.c, h.s, Nat.le_trans h.k hk⟩
/-- What lies at x. -/
structure XS (w : World) (bx K : Nat) (L : List Ent) (t : Option Addr) (ct : Nat) (l : Option Addr) (cl k : Nat) : Prop where
  blk : Blk w bx 56 [.slice t k ct, .slice l k cl]
  ot : Own w (bx + 1) 24 t k ct (L.map fun e => ptr e.1)
  ol : Own w (bx + 1) 22 l k cl (L.map fun e => e.2.val)
  ap : Apart t l
  all : ∀ e ∈ L, EOk (Nb bx t l) w K e
  len : L.length = k
theorem own_type {w : World} {B T : Nat} {a : Option Addr} {n c : Nat} {vs : List Value} (h : Own w B T a n c vs) {k : Nat} (hk : onBlk a k) : ∃ arr, w.heap[k]? = some (.cells arr T (0, 0)) := by
  rcases h.2 with ⟨hv, _⟩ | ⟨g, cap, cur, hv, _, hh, _⟩
  · injection hv with ha _ _
    subst ha
    exact absurd hk (onBlk_none _)
  · injection hv with ha _ _
    subst ha
    rw [(onBlk_some _ _ _ _).1 hk]
    exact ⟨cur, hh⟩
theorem noT_of {w : World} {bx : Nat} {t l : Option Addr} {vs : List Value} {B n1 n2 c1 c2 : Nat} {v1 v2 : List Value} (hb : Blk w bx 56 vs) (h1 : Own w B 24 t n1 c1 v1) (h2 : Own w B 22 l n2 c2 v2) : NoT (Nb bx t l) w := by
  intro k hk arr T fr h
  rcases hk with rfl | hk | hk
  · unfold Blk at hb
    rw [h] at hb
    injection hb with hb
    injection hb with _ hb
    subst hb
    exact ⟨by decide, by decide⟩
  · obtain ⟨arr', h'⟩ := own_type h1 hk
    rw [h] at h'
    injection h' with h'
    injection h' with _ h'
    subst h'
    exact ⟨by decide, by decide⟩
  · obtain ⟨arr', h'⟩ := own_type h2 hk
    rw [h] at h'
    injection h' with h'
    injection h' with _ h'
    subst h'
    exact ⟨by decide, by decide⟩
section
variable {w w' : World} {bx K : Nat} {L : List Ent} {t : Option Addr} {ct : Nat} {l : Option Addr} {cl k : Nat}
theorem XS.noT (h : XS w bx K L t ct l cl k) : NoT (Nb bx t l) w := noT_of h.blk h.ot h.ol
theorem XS.fr0 (h : XS w bx K L t ct l cl k) (f : Fr F0 w w') : XS w' bx K L t ct l cl k :=
  ⟨h.blk.fr f id, h.ot.fr0 f, h.ol.fr0 f, h.ap, fun e he => (h.all e he).go (f.mono (fun _ _ h => h.elim)) (fun _ _ h => h), h.len⟩
theorem XS.up (h : XS w bx K L t ct l cl k) {K' : Nat} (hk : K ≤ K') : XS w bx K' L t ct l cl k := ⟨h.blk, h.ot, h.ol, h.ap, fun e he => (h.all e he).up hk, h.len⟩
theorem XS.lt (h : XS w bx K L t ct l cl k) : bx < w.heap.size := h.blk.lt
theorem XS.ge (h : XS w bx K L t ct l cl k) : ∀ j, Nb bx t l j → bx ≤ j := by
  intro j hj
  rcases hj with rfl | hj | hj
  · exact Nat.le_refl _
  · have := (h.ot.blk j hj).1; omega
  · have := (h.ol.blk j hj).1; omega
theorem XS.nlt (h : XS w bx K L t ct l cl k) : ∀ j, Nb bx t l j → j < w.heap.size := by
  intro j hj
  rcases hj with rfl | hj | hj
  · exact h.lt
  · exact (h.ot.blk j hj).2
  · exact (h.ol.blk j hj).2
end
/-- A step was made: what was there lies there still, with some more. -/
def XPost (w : World) (bx K : Nat) (L : List Ent) (t l : Option Addr) (M : List Ent → Prop) (e : Ending) (w' : World) : Prop :=
  e = .returned (.bool true) ∧ ∃ M', M M' ∧ ∃ t' ct' l' cl' k', XS w' bx K (L ++ M') t' ct' l' cl' k' ∧ Fr (Nb bx t l) w w' ∧ (∀ j, j < w.heap.size → Nb bx t' l' j → Nb bx t l j)
/-- The state between. -/
structure AA (w0 wc : World) (bx k : Nat) (t0 : Option Addr) (ct0 : Nat) (l0 : Option Addr) (cl0 : Nat) (t l : Option Addr) (n1 n2 c1 c2 : Nat) (v1 v2 : List Value) : Prop where
  kx : Blk wc bx 56 [.slice t0 k ct0, .slice l0 k cl0]
  ot : Own wc (bx + 1) 24 t n1 c1 v1
  ol : Own wc (bx + 1) 22 l n2 c2 v2
  p : Apart t l
  nw : ∀ j, onBlk t j ∨ onBlk l j → (onBlk t0 j ∨ onBlk l0 j) ∨ w0.heap.size ≤ j
  fr : Fr (Nb bx t0 l0) w0 wc
  xl : bx < w0.heap.size
structure Lt (wc : World) (t l : Option Addr) (g : Nat) (v : Value) : Prop where
  rd : Rd wc (some ⟨g, 0, none⟩) 1 [v]
  lt : g < wc.heap.size
  nt : ¬ onBlk t g
  nl : ¬ onBlk l g
section
variable {w0 wc w' : World} {bx k : Nat} {t0 : Option Addr} {ct0 : Nat} {l0 : Option Addr} {cl0 : Nat} {t l a' : Option Addr} {n1 n2 c1 c2 c' : Nat} {v1 v2 : List Value} {u v : Value} {g : Nat}
theorem AA.alloc (h : AA w0 wc bx k t0 ct0 l0 cl0 t l n1 n2 c1 c2 v1 v2) (o : Obj) : AA w0 (wc.alloc o) bx k t0 ct0 l0 cl0 t l n1 n2 c1 c2 v1 v2 :=
  ⟨h.kx.alloc o, h.ot.alloc o, h.ol.alloc o, h.p, h.nw, h.fr.alloc o, h.xl⟩
theorem AA.lit (h : AA w0 wc bx k t0 ct0 l0 cl0 t l n1 n2 c1 c2 v1 v2) (v : Value) (T : Nat) : Lt (wc.alloc (.cells #[v] T)) t l wc.heap.size v :=
  ⟨Own.rd (Own.lit (w := wc) (B := wc.heap.size) (T := T) [v] 1 rfl (Nat.le_refl _) (by omega)), by simp, fun hk => by have := (h.ot.blk _ hk).2; omega, fun hk => by have := (h.ol.blk _ hk).2; omega⟩
theorem Lt.alloc (h : Lt wc t l g v) (o : Obj) : Lt (wc.alloc o) t l g v := ⟨h.rd.alloc o, by simp; have := h.lt; omega, h.nt, h.nl⟩
theorem AA.size (h : AA w0 wc bx k t0 ct0 l0 cl0 t l n1 n2 c1 c2 v1 v2) : bx + 1 ≤ wc.heap.size := Nat.le_trans h.xl h.fr.size
theorem AA.held (h : AA w0 wc bx k t0 ct0 l0 cl0 t l n1 n2 c1 c2 v1 v2) : wc.cell? ⟨bx, 0, none⟩ = some (.slice t0 k ct0) ∧ wc.cell? ⟨bx, 1, none⟩ = some (.slice l0 k cl0) := ⟨h.kx.cell rfl, h.kx.cell rfl⟩
theorem AA.appT (h : AA w0 wc bx k t0 ct0 l0 cl0 t l n1 n2 c1 c2 v1 v2) {m : Nat} {v1' : List Value} (own' : Own w' (bx + 1) 24 a' m c' v1') (F : Fr (onBlk t) wc w') (at' : ∀ j, onBlk a' j → onBlk t j ∨ wc.heap.size ≤ j) : AA w0 w' bx k t0 ct0 l0 cl0 a' l m n2 c' c2 v1' v2 := by
  refine ⟨h.kx.fr F (fun hk => by have := (h.ot.blk _ hk).1; omega), own', h.ol.fr F (fun j hj hk => h.p j hk hj), Apart.app h.p at' (fun j hj => (h.ol.blk j hj).2), fun j hj => ?_, h.fr.trans F (fun j hj hk => ?_), h.xl⟩
  · rcases hj with hj | hj
    · rcases at' j hj with h1 | h1
      · exact h.nw j (.inl h1)
      · exact .inr (by have := h.fr.size; omega)
    · exact h.nw j (.inr hj)
  · rcases h.nw j (.inl hk) with h2 | h2
    · exact .inr h2
    · omega
theorem AA.appL (h : AA w0 wc bx k t0 ct0 l0 cl0 t l n1 n2 c1 c2 v1 v2) {m : Nat} {v2' : List Value} (own' : Own w' (bx + 1) 22 a' m c' v2') (F : Fr (onBlk l) wc w') (at' : ∀ j, onBlk a' j → onBlk l j ∨ wc.heap.size ≤ j) : AA w0 w' bx k t0 ct0 l0 cl0 t a' n1 m c1 c' v1 v2' := by
  refine ⟨h.kx.fr F (fun hk => by have := (h.ol.blk _ hk).1; omega), h.ot.fr F (fun j hj hk => h.p j hj hk), own', (Apart.app h.p.symm at' (fun j hj => (h.ot.blk j hj).2)).symm, fun j hj => ?_, h.fr.trans F (fun j hj hk => ?_), h.xl⟩
  · rcases hj with hj | hj
    · exact h.nw j (.inl hj)
    · rcases at' j hj with h1 | h1
      · exact h.nw j (.inr h1)
      · exact .inr (by have := h.fr.size; omega)
  · rcases h.nw j (.inr hk) with h2 | h2
    · exact .inr h2
    · omega
theorem Lt.appT (h : Lt wc t l g v) (F : Fr (onBlk t) wc w') (at' : ∀ j, onBlk a' j → onBlk t j ∨ wc.heap.size ≤ j) : Lt w' a' l g v :=
  ⟨h.rd.fr F (fun j hj => by rw [(onBlk_some _ _ _ _).1 hj]; exact h.nt), Nat.lt_of_lt_of_le h.lt F.size, fun hk => (at' _ hk).elim h.nt (fun h1 => by have := h.lt; omega), h.nl⟩
theorem Lt.appL (h : Lt wc t l g v) (F : Fr (onBlk l) wc w') (at' : ∀ j, onBlk a' j → onBlk l j ∨ wc.heap.size ≤ j) : Lt w' t a' g v :=
  ⟨h.rd.fr F (fun j hj => by rw [(onBlk_some _ _ _ _).1 hj]; exact h.nl), Nat.lt_of_lt_of_le h.lt F.size, h.nt, fun hk => (at' _ hk).elim h.nl (fun h1 => by have := h.lt; omega)⟩
/-- Both are laid down. -/
theorem AA.done {K : Nat} {L : List Ent} {p : Option Addr} {r : SlI} (h : AA w0 wc bx k t0 ct0 l0 cl0 t l (k + 1) (k + 1) c1 c2 (L.map (fun e => ptr e.1) ++ [ptr p]) (L.map (fun e => e.2.val) ++ [r.val]))
    (hall : ∀ e ∈ L, EOk (Nb bx t0 l0) w0 K e) (he : EOk (Nb bx t0 l0) w0 K (p, r)) (hlen : L.length = k) :
    XS ((wc.setCell ⟨bx, 0, none⟩ (.slice t (k + 1) c1)).setCell ⟨bx, 1, none⟩ (.slice l (k + 1) c2)) bx K (L ++ [(p, r)]) t c1 l c2 (k + 1) ∧
    Fr (Nb bx t0 l0) w0 ((wc.setCell ⟨bx, 0, none⟩ (.slice t (k + 1) c1)).setCell ⟨bx, 1, none⟩ (.slice l (k + 1) c2)) ∧ (∀ j, j < w0.heap.size → Nb bx t l j → Nb bx t0 l0 j) := by
  have nt : ¬ onBlk t bx := fun hk => by have := (h.ot.blk _ hk).1; omega
  have nl : ¬ onBlk l bx := fun hk => by have := (h.ol.blk _ hk).1; omega
  have hF : Fr (Nb bx t0 l0) w0 ((wc.setCell ⟨bx, 0, none⟩ (.slice t (k + 1) c1)).setCell ⟨bx, 1, none⟩ (.slice l (k + 1) c2)) :=
    Fr.setCell (p := ⟨bx, 1, none⟩) (Fr.setCell (p := ⟨bx, 0, none⟩) h.fr (fun _ => .inl rfl) _) (fun _ => .inl rfl) _
  have hN : ∀ j, j < w0.heap.size → Nb bx t l j → Nb bx t0 l0 j := fun j hj hk => by
    rcases hk with hk | hk
    · exact .inl hk
    · rcases h.nw j hk with h2 | h2
      · exact .inr h2
      · omega
  refine ⟨⟨?_, ?_, ?_, h.p, fun e hm => ?_, by simp [hlen]⟩, hF, hN⟩
  · have h1 := (h.kx.set 0 (.slice t (k + 1) c1)).set 1 (.slice l (k + 1) c2)
    exact h1
  · have h1 := (h.ot.other (p := ⟨bx, 0, none⟩) nt (.slice t (k + 1) c1)).other (p := ⟨bx, 1, none⟩) nt (.slice l (k + 1) c2)
    simpa using h1
  · have h1 := (h.ol.other (p := ⟨bx, 0, none⟩) nl (.slice t (k + 1) c1)).other (p := ⟨bx, 1, none⟩) nl (.slice l (k + 1) c2)
    simpa using h1
  · rw [List.mem_append, List.mem_singleton] at hm
    rcases hm with hm | rfl
    · exact (hall e hm).go hF hN
    · exact he.go hF hN
end
end Go.Proofs.Ytdihajeccjdhkaa
