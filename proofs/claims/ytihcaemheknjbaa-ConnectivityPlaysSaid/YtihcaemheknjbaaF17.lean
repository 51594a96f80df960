/- Solve: the state of the visit. -/
import Derived.Test.YtihcaemheknjbaaF16
import Derived.Test.YtihcaemheknjbaaF9
namespace Go.Proofs.Ytihcaemheknjbaa
open Go.RowKit
/-- A partition with an interval's edge. -/
def joinE (p : List Nat) (x : Iv) : List Nat := joinP p x.1 x.2.1
def pf (p : List Nat) (es : List Iv) (i : Nat) : List Nat := (es.take i).foldl joinE p
theorem pf_zero (p : List Nat) (es : List Iv) : pf p es 0 = p := rfl
theorem pf_succ {p : List Nat} {es : List Iv} {i : Nat} {x : Iv} (h : es[i]? = some x) : pf p es (i + 1) = joinP (pf p es i) x.1 x.2.1 := by unfold pf; rw [take_snoc h, List.foldl_append]; rfl
theorem pf_all (p : List Nat) (es : List Iv) : pf p es es.length = es.foldl joinE p := by unfold pf; rw [List.take_length]
def hist (p : List Nat) (es : List Iv) (i : Nat) : List (List Nat) := (List.range i).map (pf p es)
theorem hist_zero (p : List Nat) (es : List Iv) : hist p es 0 = [] := rfl
theorem hist_succ (p : List Nat) (es : List Iv) (i : Nat) : hist p es (i + 1) = hist p es i ++ [pf p es i] := by unfold hist; rw [List.range_succ, List.map_append]; rfl
theorem hist_len (p : List Nat) (es : List Iv) (i : Nat) : (hist p es i).length = i := by unfold hist; simp
theorem joinE_len (es : List Iv) : ∀ p : List Nat, (es.foldl joinE p).length = p.length := by
  induction es with
  | nil => intro p; rfl
  | cons x es ih => intro p; rw [List.foldl_cons, ih]; unfold joinE; exact joinP_len _ _ _
/-- The answers of a leaf. -/
def leafA (l : List Ev) (q : List Nat) (f : Nat) : List Bool := match l[f]? with
  | some x => if x.1 = 3 then [q.getD x.2.1.toNat 0 == q.getD x.2.2.toNat 0] else []
  | none => []
/-- What the visit answers. -/
def visA (l : List Ev) : List Nat → Sg → List Bool
  | _, .nil => []
  | p, .node _ f _ es .nil r => visA l (es.foldl joinE p) r ++ leafA l (es.foldl joinE p) f
  | p, .node _ _ _ es (.node b f t es' l' r') r => visA l (es.foldl joinE p) (.node b f t es' l' r') ++ visA l (es.foldl joinE p) r
def visC : List Nat → Sg → List Nat
  | _, .nil => []
  | p, .node _ _ _ es .nil r => visC (es.foldl joinE p) r ++ [cntP (es.foldl joinE p)]
  | p, .node _ _ _ es (.node b f t es' l' r') r => visC (es.foldl joinE p) (.node b f t es' l' r') ++ visC (es.foldl joinE p) r
/-- All answers, by index. -/
def flatA (l : List Ev) (p : List Nat) (T : Sg) (f t : Nat) : List Bool := (List.range' f (t - f)).flatMap (fun i => leafA l ((pathE T i).foldl joinE p) i)
theorem pathE_in {b f t : Nat} {es : List Iv} {l r : Sg} {i : Nat} (h : f ≤ i ∧ i < t) : pathE (.node b f t es l r) i = es ++ (pathE l i ++ pathE r i) := if_pos h
theorem flatMap_cong {α β : Type} {g g' : α → List β} : ∀ {xs : List α}, (∀ i ∈ xs, g i = g' i) → xs.flatMap g = xs.flatMap g'
  | [], _ => rfl
  | x :: xs, h => by
    rw [List.flatMap_cons, List.flatMap_cons, h x (by simp), flatMap_cong (fun i hi => h i (by simp [hi]))]
theorem range_split {f m t : Nat} (h1 : f ≤ m) (h2 : m ≤ t) : List.range' f (t - f) = List.range' f (m - f) ++ List.range' m (t - m) := by
  have := List.range'_append_1 (s := f) (m := m - f) (n := t - m)
  rw [show f + (m - f) = m by omega, show m - f + (t - m) = t - f by omega] at this
  exact this.symm
/-- By induction over a segment tree, things gathered at the leaves come in order. -/
theorem gather {α : Type} (V : List Nat → Sg → List α) (g : List Nat → Nat → List α) (h0 : ∀ p, V p .nil = [])
    (h1 : ∀ p b f t es r, V p (.node b f t es .nil r) = V (es.foldl joinE p) r ++ g (es.foldl joinE p) f)
    (h2 : ∀ p b f t es b' f' t' es' l' r' r, V p (.node b f t es (.node b' f' t' es' l' r') r) = V (es.foldl joinE p) (.node b' f' t' es' l' r') ++ V (es.foldl joinE p) r) :
    ∀ (T : Sg) (p : List Nat) (f t : Nat), Sh f t T → V p T = (List.range' f (t - f)).flatMap (fun i => g ((pathE T i).foldl joinE p) i)
  | .nil, p, f, t, h => by
    have : t ≤ f := h
    rw [h0, show t - f = 0 by omega]; rfl
  | .node b f' t' es .nil r, p, f, t, h => by
    obtain ⟨rfl, rfl, hft, hd⟩ := h
    rw [h1]
    rcases hd with ⟨g1, hl, hr⟩ | ⟨g1, hl, rfl⟩
    · have : (f' + t') / 2 ≤ f' := hl
      exfalso; omega
    · rw [h0, g1, List.nil_append]
      show _ = g ((pathE _ f').foldl joinE p) f' ++ []
      rw [pathE_in ⟨by omega, by omega⟩, List.append_nil]
      show _ = g ((es ++ ([] ++ [])).foldl joinE p) f'
      rw [List.append_nil, List.append_nil]
  | .node b f' t' es (.node b2 f2 t2 es2 l2 r2) r, p, f, t, h => by
    obtain ⟨rfl, rfl, hft, hd⟩ := h
    rw [h2]
    rcases hd with ⟨g1, hl, hr⟩ | ⟨g1, hl, _⟩
    · rw [gather V g h0 h1 h2 (.node b2 f2 t2 es2 l2 r2) _ _ _ hl, gather V g h0 h1 h2 r _ _ _ hr, range_split (f := f') (m := (f' + t') / 2) (t := t') (by omega) (by omega), List.flatMap_append]
      have e1 : (List.range' f' ((f' + t') / 2 - f')).flatMap (fun i => g ((pathE (.node b2 f2 t2 es2 l2 r2) i).foldl joinE (es.foldl joinE p)) i) = (List.range' f' ((f' + t') / 2 - f')).flatMap (fun i => g ((pathE (.node b f' t' es (.node b2 f2 t2 es2 l2 r2) r) i).foldl joinE p) i) := by
        refine flatMap_cong (fun i hi => ?_)
        rw [List.mem_range'_1] at hi
        rw [pathE_in (f := f') (t := t') ⟨by omega, by omega⟩, pathE_out hr (i := i) (by omega), List.append_nil, List.foldl_append]
      have e2 : (List.range' ((f' + t') / 2) (t' - (f' + t') / 2)).flatMap (fun i => g ((pathE r i).foldl joinE (es.foldl joinE p)) i) = (List.range' ((f' + t') / 2) (t' - (f' + t') / 2)).flatMap (fun i => g ((pathE (.node b f' t' es (.node b2 f2 t2 es2 l2 r2) r) i).foldl joinE p) i) := by
        refine flatMap_cong (fun i hi => ?_)
        rw [List.mem_range'_1] at hi
        rw [pathE_in (f := f') (t := t') ⟨by omega, by omega⟩, pathE_out hl (i := i) (by omega), List.nil_append, List.foldl_append]
      rw [e1, e2]
    · cases hl
theorem visA_flat (l : List Ev) (T : Sg) (p : List Nat) (f t : Nat) (h : Sh f t T) : visA l p T = (List.range' f (t - f)).flatMap (fun i => leafA l ((pathE T i).foldl joinE p) i) :=
  gather (visA l) (leafA l) (fun _ => by unfold visA; rfl) (fun _ _ _ _ _ _ => by rw [visA]) (fun _ _ _ _ _ _ _ _ _ _ _ _ => by rw [visA]) T p f t h
theorem visC_flat (T : Sg) (p : List Nat) (f t : Nat) (h : Sh f t T) : visC p T = (List.range' f (t - f)).flatMap (fun i => [cntP ((pathE T i).foldl joinE p)]) :=
  gather visC (fun q _ => [cntP q]) (fun _ => by unfold visC; rfl) (fun _ _ _ _ _ _ => by rw [visC]) (fun _ _ _ _ _ _ _ _ _ _ _ _ => by rw [visC]) T p f t h
theorem leafA_len (l : List Ev) (q : List Nat) (i : Nat) : (leafA l q i).length ≤ 1 := by
  unfold leafA
  split
  · split <;> simp
  · simp
theorem flat_le {α β : Type} (g : α → List β) (h : ∀ i, (g i).length ≤ 1) : ∀ xs : List α, (xs.flatMap g).length ≤ xs.length
  | [] => by simp
  | x :: xs => by
    have := flat_le g h xs
    have := h x
    rw [List.flatMap_cons, List.length_append, List.length_cons]; omega
theorem visA_len (l : List Ev) {T : Sg} {p : List Nat} {f t : Nat} (h : Sh f t T) : (visA l p T).length ≤ t - f := by
  rw [visA_flat l T p f t h]
  have := flat_le (fun i => leafA l ((pathE T i).foldl joinE p) i) (fun i => leafA_len _ _ _) (List.range' f (t - f))
  rwa [List.length_range'] at this
theorem visC_len {T : Sg} {p : List Nat} {f t : Nat} (h : Sh f t T) : (visC p T).length ≤ t - f := by
  rw [visC_flat T p f t h]
  have := flat_le (fun i => [cntP ((pathE T i).foldl joinE p)]) (fun i => by simp) (List.range' f (t - f))
  rwa [List.length_range'] at this
/-! What lies in memory. Each block has a colour: 0 the events, 1 to 5 the boxes, 6 the forest, 7 and 8 the answers and numbers, 9 the tree. -/
def bls (A : List Bool) : List Value := A.map .bool
theorem E25 : Elem1 Try.prog 25 4 (.bool false) 1 := ⟨by kernel_rfl, by kernel_rfl, rfl⟩
structure VS (w : World) (col : Nat → Nat) (bf bv bl ba bc f n : Nat) (a : Option Addr) (N c : Nat) (l : List Ev) (NF : Nat → Prop) (ps : List (List Nat)) (p : List Nat) (A : List Bool) (C : List Nat) (aA : Option Addr) (cA : Nat) (aC : Option Addr) (cC : Nat) : Prop where
  xf : One w bf 46 (.pointer (some ⟨f, 0, none⟩))
  xv : One w bv 78 (.func (.func 41) #[] #[.pointer (some ⟨bf, 0, none⟩), .pointer (some ⟨bv, 0, none⟩), .pointer (some ⟨bl, 0, none⟩), .pointer (some ⟨ba, 0, none⟩), .pointer (some ⟨bc, 0, none⟩)])
  xl : One w bl 22 (.slice a N c)
  xa : One w ba 25 (.slice aA A.length cA)
  xc : One w bc 26 (.slice aC C.length cC)
  fh : Fh w 0 NF f n ps p
  oa : Own w 0 4 aA A.length cA (bls A)
  oc : Own w 0 3 aC C.length cC (nv C)
  ev : ArgE w a N c l
  kf : col bf = 1
  kv : col bv = 2
  kl : col bl = 3
  ka : col ba = 4
  kc : col bc = 5
  kF : ∀ k, NF k → col k = 6 ∧ k < w.heap.size
  kA : ∀ k, onBlk aA k → col k = 7
  kC : ∀ k, onBlk aC k → col k = 8
  kE : ∀ k, 0 < N → onBlk a k → col k = 0 ∧ k < w.heap.size
theorem ArgE.fr {S : Nat → Prop} {w w' : World} {a : Option Addr} {n c : Nat} {l : List Ev} (h : ArgE w a n c l) (f : Fr S w w') (hS : ∀ k, 0 < n → onBlk a k → ¬ S k) : ArgE w' a n c l :=
  ⟨h.cap, h.max, h.len, fun i x hx => by
    obtain ⟨b, o, ha, h1, h2, h3⟩ := h.cells i x hx
    have hb : ¬ S b := hS b (by have := (List.getElem?_eq_some_iff.1 hx).1; have := h.len; omega) (ha ▸ (onBlk_some b o b none).2 rfl)
    exact ⟨b, o, ha, f.cell h1 hb, f.cell h2 hb, f.cell h3 hb⟩⟩
/-- The visit may write the blocks of colours 4 to 8. -/
def Mv (col : Nat → Nat) (k : Nat) : Prop := 4 ≤ col k ∧ col k ≤ 8
structure Gt (col col' : Nat → Nat) (w w' : World) : Prop where
  fr : Fr (Mv col) w w'
  eq : ∀ k, k < w.heap.size → col' k = col k
theorem Gt.refl (col : Nat → Nat) (w : World) : Gt col col w w := ⟨Fr.refl _ _, fun _ _ => rfl⟩
theorem Gt.trans {c1 c2 c3 : Nat → Nat} {w1 w2 w3 : World} (h : Gt c1 c2 w1 w2) (g : Gt c2 c3 w2 w3) : Gt c1 c3 w1 w3 :=
  ⟨h.fr.trans g.fr (fun k hk hm => by unfold Mv at hm ⊢; rw [h.eq k hk] at hm; exact hm), fun k hk => (g.eq k (Nat.lt_of_lt_of_le hk h.fr.size)).trans (h.eq k hk)⟩
theorem Gt.fr0 {c1 c2 : Nat → Nat} {w1 w2 w3 : World} (h : Gt c1 c2 w1 w2) (g : Fr F0 w2 w3) : Gt c1 c2 w1 w3 := ⟨h.fr.trans0 g, h.eq⟩
/-- New blocks have this colour. -/
def recol (col : Nat → Nat) (w : World) (i : Nat) (k : Nat) : Nat := if k < w.heap.size then col k else i
theorem recol_old {col : Nat → Nat} {w : World} {i k : Nat} (h : k < w.heap.size) : recol col w i k = col k := if_pos h
theorem recol_new {col : Nat → Nat} {w : World} {i k : Nat} (h : w.heap.size ≤ k) : recol col w i k = i := if_neg (by omega)
section
variable {w w' : World} {col : Nat → Nat} {bf bv bl ba bc f n : Nat} {a : Option Addr} {N c : Nat} {l : List Ev} {NF : Nat → Prop} {ps : List (List Nat)} {p : List Nat} {A : List Bool} {C : List Nat} {aA : Option Addr} {cA : Nat} {aC : Option Addr} {cC : Nat}
theorem VS.fr0 (h : VS w col bf bv bl ba bc f n a N c l NF ps p A C aA cA aC cC) (F : Fr F0 w w') : VS w' col bf bv bl ba bc f n a N c l NF ps p A C aA cA aC cC :=
  { h with xf := h.xf.fr F id, xv := h.xv.fr F id, xl := h.xl.fr F id, xa := h.xa.fr F id, xc := h.xc.fr F id, fh := h.fh.fr0 F, oa := h.oa.fr0 F, oc := h.oc.fr0 F, ev := h.ev.fr0 F, kF := fun k hk => ⟨(h.kF k hk).1, Nat.lt_of_lt_of_le (h.kF k hk).2 F.size⟩, kE := fun k h0 hk => ⟨(h.kE k h0 hk).1, Nat.lt_of_lt_of_le (h.kE k h0 hk).2 F.size⟩ }
theorem VS.union (h : VS w col bf bv bl ba bc f n a N c l NF ps p A C aA cA aC cC) {ps' : List (List Nat)} {p' : List Nat} (hF : Fh w' 0 (ext NF w w') f n ps' p') (F : Fr NF w w') :
    VS w' (recol col w 6) bf bv bl ba bc f n a N c l (ext NF w w') ps' p' A C aA cA aC cC ∧ Gt col (recol col w 6) w w' := by
  have nF : ∀ k, col k ≠ 6 → ¬ NF k := fun k hk hN => hk (h.kF k hN).1
  refine ⟨⟨h.xf.fr F (nF _ (by rw [h.kf]; decide)), h.xv.fr F (nF _ (by rw [h.kv]; decide)), h.xl.fr F (nF _ (by rw [h.kl]; decide)), h.xa.fr F (nF _ (by rw [h.ka]; decide)), h.xc.fr F (nF _ (by rw [h.kc]; decide)), hF, h.oa.fr F (fun k hk => nF k (by rw [h.kA k hk]; decide)), h.oc.fr F (fun k hk => nF k (by rw [h.kC k hk]; decide)), h.ev.fr F (fun k h0 hk => nF k (by rw [(h.kE k h0 hk).1]; decide)),
    by rw [recol_old h.xf.lt]; exact h.kf, by rw [recol_old h.xv.lt]; exact h.kv, by rw [recol_old h.xl.lt]; exact h.kl, by rw [recol_old h.xa.lt]; exact h.ka, by rw [recol_old h.xc.lt]; exact h.kc, ?_, ?_, ?_, ?_⟩, ?_, fun k hk => recol_old hk⟩
  · intro k hk
    rcases hk with hk | ⟨h1, h2⟩
    · rw [recol_old (h.kF k hk).2]; exact ⟨(h.kF k hk).1, Nat.lt_of_lt_of_le (h.kF k hk).2 F.size⟩
    · rw [recol_new h1]; exact ⟨rfl, h2⟩
  · intro k hk; rw [recol_old (h.oa.blk k hk).2]; exact h.kA k hk
  · intro k hk; rw [recol_old (h.oc.blk k hk).2]; exact h.kC k hk
  · intro k h0 hk; rw [recol_old (h.kE k h0 hk).2]; exact ⟨(h.kE k h0 hk).1, Nat.lt_of_lt_of_le (h.kE k h0 hk).2 F.size⟩
  · exact F.mono (fun k _ hk => by unfold Mv; rw [(h.kF k hk).1]; decide)
theorem VS.undo (h : VS w col bf bv bl ba bc f n a N c l NF ps p A C aA cA aC cC) {ps' : List (List Nat)} {p' : List Nat} (hF : Fh w' 0 NF f n ps' p') (F : Fr NF w w') :
    VS w' col bf bv bl ba bc f n a N c l NF ps' p' A C aA cA aC cC ∧ Gt col col w w' := by
  have nF : ∀ k, col k ≠ 6 → ¬ NF k := fun k hk hN => hk (h.kF k hN).1
  refine ⟨⟨h.xf.fr F (nF _ (by rw [h.kf]; decide)), h.xv.fr F (nF _ (by rw [h.kv]; decide)), h.xl.fr F (nF _ (by rw [h.kl]; decide)), h.xa.fr F (nF _ (by rw [h.ka]; decide)), h.xc.fr F (nF _ (by rw [h.kc]; decide)), hF, h.oa.fr F (fun k hk => nF k (by rw [h.kA k hk]; decide)), h.oc.fr F (fun k hk => nF k (by rw [h.kC k hk]; decide)), h.ev.fr F (fun k h0 hk => nF k (by rw [(h.kE k h0 hk).1]; decide)), h.kf, h.kv, h.kl, h.ka, h.kc, ?_, h.kA, h.kC, ?_⟩, ?_, fun _ _ => rfl⟩
  · intro k hk; exact ⟨(h.kF k hk).1, Nat.lt_of_lt_of_le (h.kF k hk).2 F.size⟩
  · intro k h0 hk; exact ⟨(h.kE k h0 hk).1, Nat.lt_of_lt_of_le (h.kE k h0 hk).2 F.size⟩
  · exact F.mono (fun k _ hk => by unfold Mv; rw [(h.kF k hk).1]; decide)
/-- An answer more. -/
theorem VS.ans (h : VS w col bf bv bl ba bc f n a N c l NF ps p A C aA cA aC cC) {aA' : Option Addr} {cA' : Nat} {v : Bool} (own' : Own w' 0 4 aA' (A.length + 1) cA' (bls A ++ [.bool v])) (F : Fr (onBlk aA) w w') (at' : ∀ k, onBlk aA' k → onBlk aA k ∨ w.heap.size ≤ k) :
    VS (w'.setCell ⟨ba, 0, none⟩ (.slice aA' (A.length + 1) cA')) (recol col w 7) bf bv bl ba bc f n a N c l NF ps p (A ++ [v]) C aA' cA' aC cC ∧ Gt col (recol col w 7) w (w'.setCell ⟨ba, 0, none⟩ (.slice aA' (A.length + 1) cA')) := by
  have nA : ∀ k, col k ≠ 7 → ¬ onBlk aA k := fun k hk hN => hk (h.kA k hN)
  have ob : ∀ {k i : Nat}, k < w.heap.size → col k = i → i ≠ 4 → k ≠ ba := fun hk hc hi e => hi (by rw [← hc, e]; exact h.ka)
  have hl : (A ++ [v]).length = A.length + 1 := by simp
  have FS : Fr (onB ba) w' (w'.setCell ⟨ba, 0, none⟩ (.slice aA' (A.length + 1) cA')) := (Fr.refl _ _).setB 0 _
  have Fb : ∀ {k i : Nat}, col k = i → i ≠ 4 → ¬ onB ba k := fun hc hi (e : _ = ba) => hi (by rw [← hc, e]; exact h.ka)
  have n7 : ∀ k, onBlk aA' k → ¬ onB ba k := fun k hk (e : k = ba) => (at' k hk).elim (fun h1 => Fb (h.kA k h1) (by decide) e) (fun h1 => by have := h.xa.lt; omega)
  refine ⟨⟨(h.xf.fr F (nA _ (by rw [h.kf]; decide))).fr FS (Fb h.kf (by decide)), (h.xv.fr F (nA _ (by rw [h.kv]; decide))).fr FS (Fb h.kv (by decide)), (h.xl.fr F (nA _ (by rw [h.kl]; decide))).fr FS (Fb h.kl (by decide)), ?_, (h.xc.fr F (nA _ (by rw [h.kc]; decide))).fr FS (Fb h.kc (by decide)), (h.fh.fr F (fun k hk => nA k (by rw [(h.kF k hk).1]; decide))).fr FS (fun k hk => Fb (h.kF k hk).1 (by decide)), ?_, (h.oc.fr F (fun k hk => nA k (by rw [h.kC k hk]; decide))).fr FS (fun k hk => Fb (h.kC k hk) (by decide)), (h.ev.fr F (fun k h0 hk => nA k (by rw [(h.kE k h0 hk).1]; decide))).fr FS (fun k h0 hk => Fb (h.kE k h0 hk).1 (by decide)),
    by rw [recol_old h.xf.lt]; exact h.kf, by rw [recol_old h.xv.lt]; exact h.kv, by rw [recol_old h.xl.lt]; exact h.kl, by rw [recol_old h.xa.lt]; exact h.ka, by rw [recol_old h.xc.lt]; exact h.kc, ?_, ?_, ?_, ?_⟩, ⟨?_, fun k hk => recol_old hk⟩⟩
  · rw [hl]; exact (h.xa.fr F (nA _ (by rw [h.ka]; decide))).set _
  · rw [hl]; unfold bls; rw [List.map_append]; exact own'.fr FS n7
  · intro k hk; rw [recol_old (h.kF k hk).2]; exact ⟨(h.kF k hk).1, Nat.lt_of_lt_of_le (h.kF k hk).2 (Nat.le_trans F.size FS.size)⟩
  · intro k hk
    rcases at' k hk with h1 | h1
    · rw [recol_old (h.oa.blk k h1).2]; exact h.kA k h1
    · exact recol_new h1
  · intro k hk; rw [recol_old (h.oc.blk k hk).2]; exact h.kC k hk
  · intro k h0 hk; rw [recol_old (h.kE k h0 hk).2]; exact ⟨(h.kE k h0 hk).1, Nat.lt_of_lt_of_le (h.kE k h0 hk).2 (Nat.le_trans F.size FS.size)⟩
  · refine Fr.trans (F.mono (fun k _ hk => ?_)) FS (fun k _ (e : k = ba) => ?_)
    · unfold Mv; rw [h.kA k hk]; decide
    · unfold Mv; rw [e, h.ka]; decide
/-- A number more. -/
theorem VS.cnt (h : VS w col bf bv bl ba bc f n a N c l NF ps p A C aA cA aC cC) {aC' : Option Addr} {cC' v : Nat} (own' : Own w' 0 3 aC' (C.length + 1) cC' (nv C ++ [.int .i64 (v : Int)])) (F : Fr (onBlk aC) w w') (at' : ∀ k, onBlk aC' k → onBlk aC k ∨ w.heap.size ≤ k) :
    VS (w'.setCell ⟨bc, 0, none⟩ (.slice aC' (C.length + 1) cC')) (recol col w 8) bf bv bl ba bc f n a N c l NF ps p A (C ++ [v]) aA cA aC' cC' ∧ Gt col (recol col w 8) w (w'.setCell ⟨bc, 0, none⟩ (.slice aC' (C.length + 1) cC')) := by
  have nA : ∀ k, col k ≠ 8 → ¬ onBlk aC k := fun k hk hN => hk (h.kC k hN)
  have hl : (C ++ [v]).length = C.length + 1 := by simp
  have FS : Fr (onB bc) w' (w'.setCell ⟨bc, 0, none⟩ (.slice aC' (C.length + 1) cC')) := (Fr.refl _ _).setB 0 _
  have Fb : ∀ {k i : Nat}, col k = i → i ≠ 5 → ¬ onB bc k := fun hc hi (e : _ = bc) => hi (by rw [← hc, e]; exact h.kc)
  have n7 : ∀ k, onBlk aC' k → ¬ onB bc k := fun k hk (e : k = bc) => (at' k hk).elim (fun h1 => Fb (h.kC k h1) (by decide) e) (fun h1 => by have := h.xc.lt; omega)
  refine ⟨⟨(h.xf.fr F (nA _ (by rw [h.kf]; decide))).fr FS (Fb h.kf (by decide)), (h.xv.fr F (nA _ (by rw [h.kv]; decide))).fr FS (Fb h.kv (by decide)), (h.xl.fr F (nA _ (by rw [h.kl]; decide))).fr FS (Fb h.kl (by decide)), (h.xa.fr F (nA _ (by rw [h.ka]; decide))).fr FS (Fb h.ka (by decide)), ?_, (h.fh.fr F (fun k hk => nA k (by rw [(h.kF k hk).1]; decide))).fr FS (fun k hk => Fb (h.kF k hk).1 (by decide)), (h.oa.fr F (fun k hk => nA k (by rw [h.kA k hk]; decide))).fr FS (fun k hk => Fb (h.kA k hk) (by decide)), ?_, (h.ev.fr F (fun k h0 hk => nA k (by rw [(h.kE k h0 hk).1]; decide))).fr FS (fun k h0 hk => Fb (h.kE k h0 hk).1 (by decide)),
    by rw [recol_old h.xf.lt]; exact h.kf, by rw [recol_old h.xv.lt]; exact h.kv, by rw [recol_old h.xl.lt]; exact h.kl, by rw [recol_old h.xa.lt]; exact h.ka, by rw [recol_old h.xc.lt]; exact h.kc, ?_, ?_, ?_, ?_⟩, ⟨?_, fun k hk => recol_old hk⟩⟩
  · rw [hl]; exact (h.xc.fr F (nA _ (by rw [h.kc]; decide))).set _
  · rw [hl, nv_app]; exact own'.fr FS n7
  · intro k hk; rw [recol_old (h.kF k hk).2]; exact ⟨(h.kF k hk).1, Nat.lt_of_lt_of_le (h.kF k hk).2 (Nat.le_trans F.size FS.size)⟩
  · intro k hk; rw [recol_old (h.oa.blk k hk).2]; exact h.kA k hk
  · intro k hk
    rcases at' k hk with h1 | h1
    · rw [recol_old (h.oc.blk k h1).2]; exact h.kC k h1
    · exact recol_new h1
  · intro k h0 hk; rw [recol_old (h.kE k h0 hk).2]; exact ⟨(h.kE k h0 hk).1, Nat.lt_of_lt_of_le (h.kE k h0 hk).2 (Nat.le_trans F.size FS.size)⟩
  · refine Fr.trans (F.mono (fun k _ hk => ?_)) FS (fun k _ (e : k = bc) => ?_)
    · unfold Mv; rw [h.kC k hk]; decide
    · unfold Mv; rw [e, h.kc]; decide
end
/-- The roots tell the sets. -/
theorem Root_h {w : World} {B f n : Nat} {NF : Nat → Prop} {ps : List (List Nat)} {p : List Nat} (h : Fh w B NF f n ps p) (hn : n ≤ 1000) :
    ∃ rt : Nat → Nat, (∀ W, Fr F0 w W → ∀ v, v < n → Calls Try.prog 42 #[.pointer (some ⟨f, 0, none⟩), .int .i64 v] W fun e w' => e = .returned (.int .i64 (rt v : Int)) ∧ W = w') ∧ (∀ v u, v < n → u < n → ((rt v : Int) == (rt u : Int)) = (p.getD v 0 == p.getD u 0)) := by
  obtain ⟨S, K, h1, h2⟩ := h
  have hp := h2.pt
  have hex : ∀ v, v < n → ∃ x r, p[v]? = some x ∧ Rt S.P v r ∧ S.L[r]? = some x := fun v hv => by
    obtain ⟨x, hx⟩ : ∃ x, p[v]? = some x := ⟨_, List.getElem?_eq_getElem (by rw [hp.lp]; exact hv)⟩
    obtain ⟨r, hr, hL, _⟩ := hp.ex v x hx
    exact ⟨x, r, hx, hr, hL⟩
  refine ⟨fun v => if hv : v < n then Classical.choose (Classical.choose_spec (hex v hv)) else 0, fun W F v hv => ?_, fun v u hv hu => ?_⟩
  · dsimp only
    rw [dif_pos hv]
    exact root_any (h1.fr0 F) hn (Classical.choose_spec (Classical.choose_spec (hex v hv))).2.1
  · dsimp only
    rw [dif_pos hv, dif_pos hu]
    obtain ⟨hx, hr, hL⟩ := Classical.choose_spec (Classical.choose_spec (hex v hv))
    obtain ⟨hy, hs, hM⟩ := Classical.choose_spec (Classical.choose_spec (hex u hu))
    generalize Classical.choose (Classical.choose_spec (hex v hv)) = r at hr hL ⊢
    generalize Classical.choose (Classical.choose_spec (hex u hu)) = s at hs hM ⊢
    rw [gd hx, gd hy]
    generalize Classical.choose (hex v hv) = x at hx hL ⊢
    generalize Classical.choose (hex u hu) = y at hy hM ⊢
    by_cases e : x = y
    · subst e
      have := hp.inj v u r s x hx hy hr hs
      subst this
      simp
    · have hne : r ≠ s := by rintro rfl; rw [hL] at hM; injection hM with hM; exact e hM
      have h1 : ((r : Int) == (s : Int)) = false := by simp; omega
      have h2 : (x == y) = false := by simpa using e
      rw [h1, h2]
end Go.Proofs.Ytihcaemheknjbaa
