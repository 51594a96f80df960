/- The promises of a soft heap (plain law): the order of keys, sizes, own keys, places. -/
import Derived.Test.YtdphademoeofkaaS14
namespace Go.Proofs.Ytdphademoeofkaa
/-- A tree with no key below. -/
def Lb (k : Int) : Tr → Prop
  | .nil => True
  | .nd _ _ _ _ key _ _ => k ≤ key
/-- In heap order. -/
def HO : Tr → Prop
  | .nil => True
  | .nd _ l r _ key _ _ => Lb key l ∧ Lb key r ∧ HO l ∧ HO r
/-- The size of a node of a rank. -/
def szF (r : Nat) : Nat → Nat
  | 0 => 1
  | k + 1 => if r + 5 < k + 1 then (3 * szF r k + 1) / 2 else 1
/-- How many items a node of a rank has at most. -/
def bF (r : Nat) : Nat → Nat
  | 0 => 1
  | k + 1 => bF r k + szF r (k + 1) - 1
theorem szF_pos (r : Nat) : ∀ k, 1 ≤ szF r k
  | 0 => Nat.le_refl _
  | k + 1 => by
    have := szF_pos r k
    unfold szF
    split <;> omega
theorem bF_low (r : Nat) : ∀ k, k ≤ r + 5 → szF r k = 1 ∧ bF r k = 1
  | 0, _ => ⟨rfl, rfl⟩
  | k + 1, h => by
    have h1 := bF_low r k (by omega)
    have h2 : szF r (k + 1) = 1 := by unfold szF; rw [if_neg (by omega)]
    exact ⟨h2, by unfold bF; rw [h1.2, h2]⟩
/-- The ranks, sizes and numbers of items are as they should be. -/
def St (r : Nat) : Tr → Nat → Prop
  | .nil, _ => True
  | .nd _ l r' it _ rk sz, k => rk = k ∧ sz = szF r k ∧ it.length ≤ bF r k ∧ (k = 0 → l = .nil ∧ r' = .nil) ∧ St r l (k - 1) ∧ St r r' (k - 1)
/-- The key of a node's items: an own key, not below theirs; their own one in low nodes. -/
def Kn (r : Nat) (ks : List Int) (it : List Int) (key : Int) (k : Nat) : Prop :=
  (it = [] ∨ key ∈ ks) ∧ (∀ i ∈ it, ks.getD i.toNat 0 ≤ key) ∧ (k ≤ r + 5 → ∀ i ∈ it, ks.getD i.toNat 0 = key)
def Cl (r : Nat) (ks : List Int) : Tr → Nat → Prop
  | .nil, _ => True
  | .nd _ l r' it key _ _, k => Kn r ks it key k ∧ Cl r ks l (k - 1) ∧ Cl r ks r' (k - 1)
/-- A tree as promised. -/
structure Gx (r : Nat) (ks : List Int) (t : Tr) (k : Nat) : Prop where
  ok : t.Ok
  ho : HO t
  st : St r t k
  cl : Cl r ks t k
/-- Items with their current keys. -/
def Tr.curs : Tr → List (Int × Int)
  | .nil => []
  | .nd _ l r it key _ _ => it.map (fun i => (i, key)) ++ (l.curs ++ r.curs)
theorem Tr.curs_ids : ∀ t : Tr, t.curs.map (·.1) = t.ids
  | .nil => rfl
  | .nd _ l r it _ _ _ => by
    simp only [Tr.curs, Tr.ids, List.map_append, Tr.curs_ids l, Tr.curs_ids r, List.map_map]
    congr 1
    exact List.map_id' it
/-- Keys have grown. -/
def Grn (c c' : List (Int × Int)) : Prop := ∀ i k, (i, k) ∈ c → ∃ k', k ≤ k' ∧ (i, k') ∈ c'
theorem Grn.refl (c : List (Int × Int)) : Grn c c := fun _ k h => ⟨k, Int.le_refl _, h⟩
theorem Grn.trans {a b c : List (Int × Int)} (h : Grn a b) (g : Grn b c) : Grn a c := fun i k hi => by
  obtain ⟨k', h1, h2⟩ := h i k hi
  obtain ⟨k2, h3, h4⟩ := g i k' h2
  exact ⟨k2, by omega, h4⟩
theorem Grn.app {a b c d : List (Int × Int)} (h : Grn a b) (g : Grn c d) : Grn (a ++ c) (b ++ d) := fun i k hi => by
  rcases List.mem_append.1 hi with hi | hi
  · obtain ⟨k', h1, h2⟩ := h i k hi
    exact ⟨k', h1, List.mem_append.2 (.inl h2)⟩
  · obtain ⟨k', h1, h2⟩ := g i k hi
    exact ⟨k', h1, List.mem_append.2 (.inr h2)⟩
theorem Grn.perm {a b c d : List (Int × Int)} (h : Grn a b) (p : c.Perm a) (q : b.Perm d) : Grn c d := fun i k hi => by
  obtain ⟨k', h1, h2⟩ := h i k (p.mem_iff.1 hi)
  exact ⟨k', h1, q.mem_iff.1 h2⟩
theorem Grn.lift (it : List Int) {k k' : Int} (h : k ≤ k') : Grn (it.map fun i => (i, k)) (it.map fun i => (i, k')) := fun i q hi => by
  obtain ⟨j, hj, e⟩ := List.mem_map.1 hi
  cases e
  exact ⟨k', h, List.mem_map.2 ⟨i, hj, rfl⟩⟩
/-- What refill wants of a node. -/
structure Nf (r : Nat) (ks : List Int) (k : Nat) (l r' : Tr) (it : List Int) (key : Int) (rank size : Nat) : Prop where
  gl : Gx r ks l (k - 1)
  gr : Gx r ks r' (k - 1)
  ne : it ≠ [] ∨ ¬ (l = .nil ∧ r' = .nil)
  lb : it = [] ∨ (Lb key l ∧ Lb key r')
  rk : rank = k
  sz : size = szF r k
  le : it.length ≤ bF r k
  z : k = 0 → l = .nil ∧ r' = .nil
  kn : Kn r ks it key k
theorem Gx.nf {r : Nat} {ks : List Int} {b : Nat} {l r' : Tr} {it : List Int} {key : Int} {rank size k : Nat} (h : Gx r ks (.nd b l r' it key rank size) k) : Nf r ks k l r' it key rank size :=
  ⟨⟨h.ok.2.2.1, h.ho.2.2.1, h.st.2.2.2.2.1, h.cl.2.1⟩, ⟨h.ok.2.2.2, h.ho.2.2.2, h.st.2.2.2.2.2, h.cl.2.2⟩, .inl h.ok.1, .inr ⟨h.ho.1, h.ho.2.1⟩, h.st.1, h.st.2.1, h.st.2.2.1, h.st.2.2.2.1, h.cl.1⟩
theorem Nf.gx {r : Nat} {ks : List Int} {l r' : Tr} {it : List Int} {key : Int} {rank size k : Nat} (h : Nf r ks k l r' it key rank size) (hn : it ≠ []) (b : Nat) : Gx r ks (.nd b l r' it key rank size) k := by
  have hl := h.lb.elim (fun e => absurd e hn) id
  exact ⟨⟨hn, by rw [h.sz]; exact szF_pos r k, h.gl.ok, h.gr.ok⟩, ⟨hl.1, hl.2, h.gl.ho, h.gr.ho⟩, ⟨h.rk, h.sz, h.le, h.z, h.gl.st, h.gr.st⟩, ⟨h.kn, h.gl.cl, h.gr.cl⟩⟩
theorem Gx.nil (r : Nat) (ks : List Int) (k : Nat) : Gx r ks .nil k := ⟨trivial, trivial, trivial, trivial⟩
theorem sw_or (l r : Tr) : (sw l r = (l, r) ∨ sw l r = (r, l)) := by
  cases l with
  | nil => exact .inr rfl
  | nd =>
    cases r with
    | nil => exact .inl rfl
    | nd =>
      unfold sw
      dsimp only
      split
      · exact .inr rfl
      · exact .inl rfl
theorem sw_lb {l r r1 : Tr} {bY : Nat} {lY rY : Tr} {ity : List Int} {ky : Int} {rky sy : Nat} (hs : sw l r = (.nd bY lY rY ity ky rky sy, r1)) : Lb ky r1 := by
  cases l with
  | nil => cases hs; trivial
  | nd b l' r' it k rk sz =>
    cases r with
    | nil => cases hs; trivial
    | nd b2 l2 r2 it2 k2 rk2 sz2 =>
      unfold sw at hs
      dsimp only at hs
      split at hs
      · cases hs; exact Int.le_of_lt (by assumption)
      · cases hs; exact Int.not_lt.1 (by assumption)
/-- The child that is taken, and what the node is then. -/
theorem Nf.take {r : Nat} {ks : List Int} {l r' : Tr} {it : List Int} {key : Int} {rank size k : Nat} (h : Nf r ks k l r' it key rank size) (h1 : it.length < size) {r1 : Tr} {bY : Nat} {lY rY : Tr} {ity : List Int} {ky : Int} {rky sy : Nat} (hs : sw l r' = (.nd bY lY rY ity ky rky sy, r1)) :
    1 ≤ k ∧ Gx r ks (.nd bY lY rY ity ky rky sy) (k - 1) ∧ Gx r ks r1 (k - 1) ∧ (it ≠ [] → key ≤ ky) ∧ (∀ y', Gx r ks y' (k - 1) → Lb ky y' → Nf r ks k y' r1 (it ++ ity) ky rank size) ∧ (∀ q, Lb q l → Lb q r' → q ≤ ky) := by
  have hk : 1 ≤ k := by
    refine Nat.pos_of_ne_zero fun e => ?_
    obtain ⟨rfl, rfl⟩ := h.z e
    cases hs
  have hy : Gx r ks (.nd bY lY rY ity ky rky sy) (k - 1) ∧ Gx r ks r1 (k - 1) ∧ (it = [] ∨ key ≤ ky) ∧ (∀ q, Lb q l → Lb q r' → q ≤ ky) := by
    rcases sw_or l r' with e | e
    · rw [e] at hs
      cases hs
      exact ⟨h.gl, h.gr, h.lb.imp id (fun g => g.1), fun q hq _ => hq⟩
    · rw [e] at hs
      cases hs
      exact ⟨h.gr, h.gl, h.lb.imp id (fun g => g.2), fun q _ hq => hq⟩
  obtain ⟨g1, g2, g3, g5⟩ := hy
  have g4 : it ≠ [] → key ≤ ky := fun e => g3.elim (fun g => absurd g e) id
  refine ⟨hk, g1, g2, g4, fun y' gy hy => ⟨gy, g2, .inl (by simp [g1.ok.1]), .inr ⟨hy, sw_lb hs⟩, h.rk, h.sz, ?_, fun e => by omega, ?_⟩, g5⟩
  · have hl := g1.st.2.2.1
    rw [h.sz] at h1
    obtain ⟨k', rfl⟩ : ∃ k', k = k' + 1 := ⟨k - 1, by omega⟩
    have e : bF r (k' + 1) = bF r k' + szF r (k' + 1) - 1 := rfl
    rw [Nat.add_sub_cancel] at hl
    rw [List.length_append, e]
    omega
  · have c1 := g1.cl.1
    refine ⟨.inr (c1.1.elim (fun e => absurd e g1.ok.1) id), fun i hi => ?_, fun hk5 i hi => ?_⟩
    · rcases List.mem_append.1 hi with hi | hi
      · have := h.kn.2.1 i hi
        have := g4 (List.ne_nil_of_mem hi)
        omega
      · exact c1.2.1 i hi
    · have h5 := bF_low r k hk5
      rw [h.sz, h5.1] at h1
      have h0 : it = [] := List.length_eq_zero_iff.1 (by omega)
      rw [h0, List.nil_append] at hi
      exact c1.2.2 (by omega) i hi
theorem Nf.empty {r : Nat} {ks : List Int} {b : Nat} {l r' : Tr} {it : List Int} {key : Int} {rank size k : Nat} (h : Gx r ks (.nd b l r' it key rank size) k) (hn : ¬ (l = .nil ∧ r' = .nil)) : Nf r ks k l r' [] key rank size :=
  { h.nf with ne := .inr hn, lb := .inl rfl, le := Nat.zero_le _, kn := ⟨.inl rfl, by simp, by simp⟩ }
theorem sw_curs (l r : Tr) : ((sw l r).1.curs ++ (sw l r).2.curs).Perm (l.curs ++ r.curs) := by
  rcases sw_or l r with e | e
  · rw [e]
  · rw [e]; exact List.perm_append_comm
/-- What refill makes of it. -/
theorem Rf.good {rr : Nat} {ks : List Int} {n : Nat} {x x' : Tr} {I I' : List (Option Nat)} (h : Rf n x I x' I') : ∀ {k b l r it key rank size}, x = .nd b l r it key rank size → Nf rr ks k l r it key rank size →
    Gx rr ks x' k ∧ (∀ q, (it ≠ [] → q ≤ key) → Lb q l → Lb q r → Lb q x') ∧ Grn x.curs x'.curs := by
  induction h with
  | @stop n b l r it key rank size I h =>
    rintro k b2 l2 r2 it2 key2 rank2 size2 e N
    cases e
    have hn : it ≠ [] := by
      rcases h with h | h
      · intro e
        rw [e, N.sz] at h
        have := szF_pos rr k
        simp at h
        omega
      · exact N.ne.elim id (fun e => absurd h e)
    exact ⟨N.gx hn b, fun q hq _ _ => hq hn, Grn.refl _⟩
  | @leaf n b l r it key rank size I bY ity ky rky sy r1 x' I' h1 h2 hs h ih =>
    rintro k b2 l2 r2 it2 key2 rank2 size2 e N
    cases e
    obtain ⟨hk, g1, g2, g4, g5, g6⟩ := N.take h1 hs
    have N2 := g5 .nil (Gx.nil _ _ _) trivial
    obtain ⟨a1, a2, a3⟩ := ih rfl N2
    refine ⟨a1, fun q hq hl hr => a2 q (fun _ => g6 q hl hr) trivial ?_, Grn.trans ?_ a3⟩
    · have := sw_lb hs
      cases r1 with
      | nil => trivial
      | nd => have h3 : ky ≤ _ := this; have := g6 q hl hr; show q ≤ _; omega
    · have p := sw_curs l r
      rw [hs] at p
      simp only [Tr.curs, List.map_append, List.append_nil, List.nil_append] at p ⊢
      rw [List.append_assoc]
      refine Grn.app ?_ ((Grn.refl _).perm p.symm (List.Perm.refl _))
      by_cases e : it = []
      · rw [e]; exact Grn.refl _
      · exact Grn.lift it (g4 e)
  | @deep n b l r it key rank size I bY lY rY ity ky rky sy r1 y' I2 x' I' h1 h2 hs h3 hy h ihy ih =>
    rintro k b2 l2 r2 it2 key2 rank2 size2 e N
    cases e
    obtain ⟨hk, g1, g2, g4, g5, g6⟩ := N.take h1 hs
    obtain ⟨c1, c2, c3⟩ := ihy rfl (Nf.empty g1 h3)
    have hyl := c2 ky (fun e => absurd rfl e) g1.ho.1 g1.ho.2.1
    have N2 := g5 y' c1 hyl
    obtain ⟨a1, a2, a3⟩ := ih rfl N2
    refine ⟨a1, fun q hq hl hr => a2 q (fun _ => g6 q hl hr) ?_ ?_, Grn.trans ?_ a3⟩
    · have := g6 q hl hr
      cases y' with
      | nil => trivial
      | nd => have h3 : ky ≤ _ := hyl; show q ≤ _; omega
    · have := sw_lb hs
      cases r1 with
      | nil => trivial
      | nd => have h3 : ky ≤ _ := this; have := g6 q hl hr; show q ≤ _; omega
    · have p := sw_curs l r
      rw [hs] at p
      simp only [Tr.curs, List.map_append, List.map_nil, List.nil_append, List.append_assoc] at p c3 ⊢
      refine Grn.app ?_ (Grn.perm (Grn.app (Grn.refl (ity.map fun i => (i, ky))) (Grn.app c3 (Grn.refl r1.curs))) ?_ (List.Perm.refl _))
      · by_cases e : it = []
        · rw [e]; exact Grn.refl _
        · exact Grn.lift it (g4 e)
      · simpa only [List.append_assoc] using p.symm
end Go.Proofs.Ytdphademoeofkaa
