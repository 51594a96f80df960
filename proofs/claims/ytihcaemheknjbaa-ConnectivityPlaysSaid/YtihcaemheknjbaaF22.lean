/- The plain law of events: both readings agree. -/
import Derived.Test.YtihcaemheknjbaaF20
namespace Go.Proofs.Ytihcaemheknjbaa
open Go.RowKit
def nrm (e : Ed) : Ed := (min e.1 e.2, max e.1 e.2)
theorem jE_nrm {n : Nat} {x : Ev} {e : Ed} (hx : okE n x = true) : jE x e = true ↔ nrm e = (loE x, hiE x) := by
  unfold okE at hx
  simp at hx
  obtain ⟨K, A, B⟩ := x
  obtain ⟨va, rfl⟩ := Int.eq_ofNat_of_zero_le (show 0 ≤ A by dsimp only at hx; omega)
  obtain ⟨vb, rfl⟩ := Int.eq_ofNat_of_zero_le (show 0 ≤ B by dsimp only at hx; omega)
  obtain ⟨a, b⟩ := e
  unfold jE jn nrm loE hiE
  simp only [Bool.or_eq_true, Bool.and_eq_true, beq_iff_eq, Prod.mk.injEq, Int.toNat_natCast]
  omega
theorem atK_spec (x : Ev) (E : List Ed) : ∀ k, k ≤ E.length → ((0 ≤ atK x E k → ∃ (j : Nat) (e : Ed), atK x E k = (j : Int) ∧ E[j]? = some e ∧ jE x e = true) ∧ (atK x E k < 0 → ∀ j e, j < k → E[j]? = some e → jE x e = false))
  | 0, _ => ⟨fun h => by simp [atK] at h, fun _ j e hj => by omega⟩
  | k + 1, hk => by
    obtain ⟨h1, h2⟩ := atK_spec x E k (by omega)
    obtain ⟨e, he⟩ : ∃ e, E[k]? = some e := ⟨_, List.getElem?_eq_getElem (by omega)⟩
    have hu : atK x E (k + 1) = if jE x e then (k : Int) else atK x E k := app0 x E he
    rw [hu]
    cases hj : jE x e with
    | true =>
      rw [if_pos rfl]
      exact ⟨fun _ => ⟨k, e, rfl, he, hj⟩, fun h => by omega⟩
    | false =>
      rw [if_neg (by simp)]
      refine ⟨h1, fun h j e' hj' he' => ?_⟩
      by_cases c : j = k
      · subst c; rw [he] at he'; injection he' with he'; subst he'; exact hj
      · exact h2 h j e' (by omega) he'
theorem atE_none {x : Ev} {E : List Ed} (h : atE x E < 0) : ∀ e ∈ E, jE x e = false := by
  intro e he
  obtain ⟨j, hj⟩ := List.mem_iff_getElem?.1 he
  exact (atK_spec x E E.length (Nat.le_refl _)).2 h j e (List.getElem?_eq_some_iff.1 hj).1 hj
theorem atE_some {x : Ev} {E : List Ed} (h : 0 ≤ atE x E) : ∃ (j : Nat) (e : Ed), atE x E = (j : Int) ∧ E[j]? = some e ∧ jE x e = true := (atK_spec x E E.length (Nat.le_refl _)).1 h
theorem endK_spec (l : List Ev) (a b : Nat) : ∀ m e, e ≤ endK l a b m e ∧ (∀ z, e ≤ z → z < endK l a b m e → remB l a b z = false) ∧ (endK l a b m e < e + m → remB l a b (endK l a b m e) = true)
  | 0, e => ⟨Nat.le_refl _, fun z h1 h2 => by simp only [endK] at h2; omega, fun h => by simp only [endK] at h; omega⟩
  | m + 1, e => by
    unfold endK
    cases h : remB l a b e with
    | true => rw [if_pos rfl]; exact ⟨Nat.le_refl _, fun z h1 h2 => by omega, fun _ => h⟩
    | false =>
      rw [if_neg (by simp)]
      obtain ⟨h1, h2, h3⟩ := endK_spec l a b m (e + 1)
      refine ⟨by omega, fun z hz1 hz2 => ?_, fun hlt => h3 (by omega)⟩
      by_cases c : z = e
      · subst c; exact h
      · exact h2 z (by omega) hz2
theorem endF_spec (l : List Ev) (a b i : Nat) (hi : i < l.length) : i < endF l a b i ∧ endF l a b i ≤ l.length ∧ (∀ z, i < z → z < endF l a b i → remB l a b z = false) ∧ (endF l a b i < l.length → remB l a b (endF l a b i) = true) := by
  unfold endF
  obtain ⟨h1, h2, h3⟩ := endK_spec l a b (l.length - (i + 1)) (i + 1)
  have h4 := endK_le l a b (l.length - (i + 1)) (i + 1)
  exact ⟨by omega, by omega, fun z hz => h2 z (by omega), fun h => h3 (by omega)⟩
theorem nodup_two {α β : Type} {f : α → β} {L : List α} (h : (L.map f).Nodup) {i j : Nat} {x y : α} (hi : L[i]? = some x) (hj : L[j]? = some y) (e : f x = f y) : i = j := by
  have h1 : (L.map f)[i]? = some (f x) := by rw [List.getElem?_map, hi]; rfl
  have h2 : (L.map f)[j]? = some (f x) := by rw [List.getElem?_map, hj, e]; rfl
  obtain ⟨l1, g1⟩ := List.getElem?_eq_some_iff.1 h1
  obtain ⟨l2, g2⟩ := List.getElem?_eq_some_iff.1 h2
  have hp := List.pairwise_iff_getElem.1 h
  rcases Nat.lt_trichotomy i j with c | c | c
  · exact absurd (g1.trans g2.symm) (hp i j l1 l2 c)
  · exact c
  · exact absurd (g2.trans g1.symm) (hp j i l2 l1 c)
/-- The two readings of events side by side. -/
structure Bi (n N : Nat) (L : List Ev) (s : RS) (E : List Ed) : Prop where
  A : ∀ a b, (s.m a b).isSome = true ↔ ∃ e ∈ E, nrm e = (a, b)
  B : (E.map nrm).Nodup
  C : ∀ j x, s.out[j]? = some x → (s.m x.1 x.2.1 = some j ∧ x.2.2.2 = N) ∨ (s.m x.1 x.2.1 ≠ some j ∧ x.2.2.2 < L.length)
  C' : ∀ a b j, s.m a b = some j → ∃ f, s.out[j]? = some (a, b, f, N)
  F : ∀ x ∈ s.out, x.2.2.1 < L.length
  D : ∀ i, i < L.length → ∀ a b, (∃ x ∈ s.out, x.1 = a ∧ x.2.1 = b ∧ x.2.2.1 ≤ i ∧ i < x.2.2.2) ↔ ∃ e ∈ (refS n (L.take (i + 1))).getD [], nrm e = (a, b)
theorem setM_at (m : Nat → Nat → Option Nat) (a b : Nat) (v : Option Nat) : setM m a b v a b = v := if_pos ⟨rfl, rfl⟩
theorem setM_ne {m : Nat → Nat → Option Nat} {a b a' b' : Nat} {v : Option Nat} (h : (a', b') ≠ (a, b)) : setM m a b v a' b' = m a' b' := if_neg (fun e => h (by rw [e.1, e.2]))
theorem Bi.cover {n N : Nat} {L : List Ev} {x : Ev} {s : RS} {E : List Ed} (hN : L.length + 1 ≤ N) (hr : refS n (L ++ [x]) = some E) (hA : ∀ a b, (s.m a b).isSome = true ↔ ∃ e ∈ E, nrm e = (a, b)) (hC : ∀ j x, s.out[j]? = some x → (s.m x.1 x.2.1 = some j ∧ x.2.2.2 = N) ∨ (s.m x.1 x.2.1 ≠ some j ∧ x.2.2.2 < L.length + 1)) (hC' : ∀ a b j, s.m a b = some j → ∃ f, s.out[j]? = some (a, b, f, N)) (hF : ∀ x ∈ s.out, x.2.2.1 < L.length + 1) (a b : Nat) :
    (∃ x ∈ s.out, x.1 = a ∧ x.2.1 = b ∧ x.2.2.1 ≤ L.length ∧ L.length < x.2.2.2) ↔ ∃ e ∈ (refS n ((L ++ [x]).take (L.length + 1))).getD [], nrm e = (a, b) := by
  rw [List.take_of_length_le (by simp), hr]
  show _ ↔ ∃ e ∈ E, nrm e = (a, b)
  rw [← hA a b]
  constructor
  · rintro ⟨y, hy, rfl, rfl, h1, h2⟩
    obtain ⟨j, hj⟩ := List.mem_iff_getElem?.1 hy
    rcases hC j y hj with ⟨h3, _⟩ | ⟨_, h3⟩
    · rw [h3]; rfl
    · omega
  · intro h
    obtain ⟨j, hj⟩ := Option.isSome_iff_exists.1 h
    obtain ⟨f, hf⟩ := hC' a b j hj
    have hm := List.mem_of_getElem? hf
    exact ⟨_, hm, rfl, rfl, by have := hF _ hm; dsimp only at this ⊢; omega, by dsimp only; omega⟩
theorem take_old {α : Type} {L : List α} {x : α} {i : Nat} (h : i < L.length) : (L ++ [x]).take (i + 1) = L.take (i + 1) := by
  rw [List.take_append_of_le_length (by omega)]
theorem bi_step {n N : Nat} {L : List Ev} {x : Ev} {s : RS} {E : List Ed} (hN : L.length + 1 ≤ N) (hi : s.i = L.length) (hE : refS n L = some E) (b : Bi n N L s E) :
    (stq n N s x = none ∧ aft n E x = none) ∨ ∃ s' E', stq n N s x = some s' ∧ aft n E x = some E' ∧ Bi n N (L ++ [x]) s' E' := by
  have hl : (L ++ [x]).length = L.length + 1 := by simp
  unfold stq aft
  cases hok : okE n x with
  | false => exact .inl ⟨by simp, by simp⟩
  | true =>
    rw [if_pos rfl, if_pos rfl]
    have hj := fun e => jE_nrm (e := e) hok
    have hlt : ∀ i, i < s.out.length → s.i = L.length := fun _ _ => hi
    have keepD : ∀ (s' : RS) (E' : List Ed), refS n (L ++ [x]) = some E' → (∀ i, i < L.length → ∀ a b, (∃ y ∈ s'.out, y.1 = a ∧ y.2.1 = b ∧ y.2.2.1 ≤ i ∧ i < y.2.2.2) ↔ (∃ y ∈ s.out, y.1 = a ∧ y.2.1 = b ∧ y.2.2.1 ≤ i ∧ i < y.2.2.2)) → (∀ a b, (s'.m a b).isSome = true ↔ ∃ e ∈ E', nrm e = (a, b)) → (∀ j x, s'.out[j]? = some x → (s'.m x.1 x.2.1 = some j ∧ x.2.2.2 = N) ∨ (s'.m x.1 x.2.1 ≠ some j ∧ x.2.2.2 < L.length + 1)) → (∀ a b j, s'.m a b = some j → ∃ f, s'.out[j]? = some (a, b, f, N)) → (∀ x ∈ s'.out, x.2.2.1 < L.length + 1) → (E'.map nrm).Nodup → Bi n N (L ++ [x]) s' E' := by
      intro s' E' hr h1 h2 h3 h4 h5 h6
      refine ⟨h2, h6, by rw [hl]; exact h3, h4, by rw [hl]; exact h5, fun i hi a b' => ?_⟩
      rw [hl] at hi
      by_cases c : i = L.length
      · subst c
        exact Bi.cover hN hr h2 h3 h4 h5 a b'
      · rw [h1 i (by omega) a b', take_old (by omega)]
        exact b.D i (by omega) a b'
    have hrE : ∀ E', aft n E x = some E' → refS n (L ++ [x]) = some E' := fun E' h => by rw [refS_snoc, hE]; exact h
    have hsame : (∀ a b', (s.m a b').isSome = true ↔ ∃ e ∈ E, nrm e = (a, b')) := b.A
    -- nothing but the number of events changes
    have stay : aft n E x = some E → Bi n N (L ++ [x]) ⟨s.i + 1, s.out, s.m⟩ E := fun h =>
      keepD ⟨s.i + 1, s.out, s.m⟩ E (hrE E h) (fun i _ a b' => Iff.rfl) b.A (fun j y hy => (b.C j y hy).imp id (fun h => ⟨h.1, by have := h.2; omega⟩)) b.C' (fun y hy => by have := b.F y hy; omega) b.B
    cases hm : s.m (loE x) (hiE x) with
    | none =>
      have hno : ∀ e ∈ E, jE x e = false := fun e he => by
        cases h : jE x e with
        | false => rfl
        | true => have := (b.A (loE x) (hiE x)).2 ⟨e, he, (hj e).1 h⟩; rw [hm] at this; cases this
      have hat : atE x E < 0 := by
        rcases Int.lt_or_le (atE x E) 0 with h | h
        · exact h
        · obtain ⟨j, e, _, h2, h3⟩ := atE_some h
          rw [hno e (List.mem_of_getElem? h2)] at h3; cases h3
      dsimp only
      by_cases g1 : x.1 = 1
      · by_cases g4 : x.2.1 = x.2.2
        · refine .inl ⟨?_, ?_⟩
          · rw [if_neg (fun h => h.2 g4), if_neg (by omega)]
          · rw [if_pos g1, if_pos (.inl g4)]
        · have ha : aft n E x = some (E ++ [(x.2.1.toNat, x.2.2.toNat)]) := by
            unfold aft
            rw [hok, if_pos rfl, if_pos g1, if_neg (fun h => h.elim g4 (fun h => by omega))]
          refine .inr ⟨_, _, if_pos ⟨g1, g4⟩, by rw [if_pos g1, if_neg (fun h => h.elim g4 (fun h => by omega))], ?_⟩
          have hnn : nrm (x.2.1.toNat, x.2.2.toNat) = (loE x, hiE x) := rfl
          refine keepD _ _ (hrE _ ha) (fun i hi' a b' => ?_) (fun a b' => ?_) (fun j y hy => ?_) (fun a b' j hj' => ?_) (fun y hy => ?_) ?_
          · constructor
            · rintro ⟨y, hy, h1, h2, h3, h4⟩
              rcases List.mem_append.1 hy with hy | hy
              · exact ⟨y, hy, h1, h2, h3, h4⟩
              · rw [List.mem_singleton] at hy; subst hy; dsimp only at h3; omega
            · rintro ⟨y, hy, h⟩
              exact ⟨y, List.mem_append_left _ hy, h⟩
          · by_cases c : (a, b') = (loE x, hiE x)
            · have c1 : a = loE x := congrArg Prod.fst c
              have c2 : b' = hiE x := congrArg Prod.snd c
              subst c1; subst c2
              show (setM s.m _ _ _ _ _).isSome = true ↔ _
              rw [setM_at]
              exact ⟨fun _ => ⟨_, List.mem_append_right _ (List.mem_singleton.2 rfl), hnn⟩, fun _ => rfl⟩
            · show (setM s.m _ _ _ _ _).isSome = true ↔ _
              rw [setM_ne c, b.A a b']
              constructor
              · rintro ⟨e, he, h⟩; exact ⟨e, List.mem_append_left _ he, h⟩
              · rintro ⟨e, he, h⟩
                rcases List.mem_append.1 he with he | he
                · exact ⟨e, he, h⟩
                · rw [List.mem_singleton] at he; subst he; rw [hnn] at h; exact absurd h.symm c
          · change (s.out ++ [_])[j]? = some y at hy
            rw [List.getElem?_append] at hy
            split at hy
            · rename_i hjl
              have hC := b.C j y hy
              have hne : (y.1, y.2.1) ≠ (loE x, hiE x) ∨ (y.1, y.2.1) = (loE x, hiE x) := (Decidable.em _).symm
              show (setM s.m _ _ _ _ _ = some j ∧ _) ∨ (setM s.m _ _ _ _ _ ≠ some j ∧ _)
              rcases hne with c | c
              · rw [setM_ne c]; exact hC.imp id (fun h => ⟨h.1, by have := h.2; omega⟩)
              · rw [show y.1 = loE x from congrArg Prod.fst c, show y.2.1 = hiE x from congrArg Prod.snd c] at hC ⊢
                rw [setM_at]
                rw [hm] at hC
                rcases hC with ⟨h, _⟩ | ⟨_, h⟩
                · cases h
                · exact .inr ⟨fun e => by injection e with e; omega, by omega⟩
            · rename_i hjl
              obtain ⟨hj0, hy⟩ : j - s.out.length = 0 ∧ y = (loE x, hiE x, s.i, N) := by
                rcases Nat.eq_zero_or_pos (j - s.out.length) with h | h
                · rw [h] at hy; injection hy with hy; exact ⟨h, hy.symm⟩
                · rw [List.getElem?_eq_none (by simp; omega)] at hy; cases hy
              subst hy
              show (setM s.m _ _ _ _ _ = some j ∧ _) ∨ _
              rw [setM_at]
              exact .inl ⟨by rw [show j = s.out.length by omega], rfl⟩
          · change setM s.m _ _ _ a b' = some j at hj'
            by_cases c : (a, b') = (loE x, hiE x)
            · have c1 : a = loE x := congrArg Prod.fst c
              have c2 : b' = hiE x := congrArg Prod.snd c
              subst c1; subst c2
              rw [setM_at] at hj'
              injection hj' with hj'
              subst hj'
              exact ⟨s.i, by show (s.out ++ [_])[s.out.length]? = _; simp⟩
            · rw [setM_ne c] at hj'
              obtain ⟨f, hf⟩ := b.C' a b' j hj'
              exact ⟨f, by show (s.out ++ [_])[j]? = _; rw [List.getElem?_append_left (List.getElem?_eq_some_iff.1 hf).1]; exact hf⟩
          · rcases List.mem_append.1 hy with hy | hy
            · have := b.F y hy; omega
            · rw [List.mem_singleton] at hy; subst hy; dsimp only; omega
          · rw [List.map_append, List.nodup_append]
            refine ⟨b.B, by simp, fun u hu v hv => ?_⟩
            rw [List.map_cons, List.map_nil, List.mem_singleton] at hv
            subst hv
            rintro rfl
            obtain ⟨e, he, h⟩ := List.mem_map.1 hu
            have := hno e he
            rw [(hj e).2 (h.trans hnn)] at this
            cases this
      · have e1 : ∀ {α : Type} (p q : α), (if x.1 = 1 ∧ x.2.1 ≠ x.2.2 then p else q) = q := fun p q => if_neg (fun h => g1 h.1)
        rw [e1, if_neg g1]
        by_cases g3 : x.1 = 3
        · have ha : aft n E x = some E := by unfold aft; rw [hok, if_pos rfl, if_neg g1, if_neg (by omega), if_pos g3]
          exact .inr ⟨_, _, if_pos g3, by rw [if_neg (by omega), if_pos g3], stay ha⟩
        · refine .inl ⟨if_neg g3, ?_⟩
          by_cases g2 : x.1 = 2
          · rw [if_pos g2, if_pos hat]
          · rw [if_neg g2, if_neg g3]
    | some j =>
      obtain ⟨f0, hf0⟩ := b.C' _ _ j hm
      obtain ⟨e0, he0, hn0⟩ := (b.A (loE x) (hiE x)).1 (by rw [hm]; rfl)
      have hat : 0 ≤ atE x E := by
        rcases Int.lt_or_le (atE x E) 0 with h | h
        · have := atE_none h e0 he0
          rw [(hj e0).2 hn0] at this; cases this
        · exact h
      obtain ⟨q, eq, hq1, hq2, hq3⟩ := atE_some hat
      dsimp only
      by_cases g2 : x.1 = 2
      · have ha : aft n E x = some (E.take q ++ E.drop (q + 1)) := by
          unfold aft
          rw [hok, if_pos rfl, if_neg (by omega), if_pos g2, if_neg (by omega), hq1, Int.toNat_natCast]
        refine .inr ⟨_, _, if_pos g2, by rw [if_neg (by omega), if_pos g2, if_neg (by omega), hq1, Int.toNat_natCast], ?_⟩
        have hend : endI s.out j s.i = s.out.set j (loE x, hiE x, f0, s.i) := by unfold endI; rw [hf0]
        have hjl := (List.getElem?_eq_some_iff.1 hf0).1
        have memE : ∀ e, e ∈ E.take q ++ E.drop (q + 1) ↔ (e ∈ E ∧ nrm e ≠ (loE x, hiE x)) := fun e => by
          have hq4 := (hj eq).1 hq3
          constructor
          · intro h
            have key : ∃ i, i ≠ q ∧ E[i]? = some e := by
              rcases List.mem_append.1 h with h | h
              · obtain ⟨i, hi⟩ := List.mem_iff_getElem?.1 h
                rw [List.getElem?_take] at hi
                split at hi
                · exact ⟨i, by omega, hi⟩
                · cases hi
              · obtain ⟨i, hi⟩ := List.mem_iff_getElem?.1 h
                rw [List.getElem?_drop] at hi
                exact ⟨q + 1 + i, by omega, hi⟩
            obtain ⟨i, hi, h3⟩ := key
            exact ⟨List.mem_of_getElem? h3, fun h4 => hi (nodup_two b.B h3 hq2 (h4.trans hq4.symm))⟩
          · rintro ⟨h, h4⟩
            obtain ⟨i, hi⟩ := List.mem_iff_getElem?.1 h
            have hne : i ≠ q := by rintro rfl; rw [hq2] at hi; injection hi with hi; subst hi; exact h4 hq4
            by_cases c : i < q
            · exact List.mem_append_left _ (List.mem_iff_getElem?.2 ⟨i, by rw [List.getElem?_take, if_pos c]; exact hi⟩)
            · exact List.mem_append_right _ (List.mem_iff_getElem?.2 ⟨i - (q + 1), by rw [List.getElem?_drop, show q + 1 + (i - (q + 1)) = i by omega]; exact hi⟩)
        refine keepD _ _ (hrE _ ha) (fun i hi' a b' => ?_) (fun a b' => ?_) (fun i y hy => ?_) (fun a b' i hi' => ?_) (fun y hy => ?_) ?_
        · show (∃ y ∈ endI s.out j s.i, _) ↔ _
          rw [hend]
          constructor
          · rintro ⟨y, hy, h1, h2, h3, h4⟩
            rcases List.mem_or_eq_of_mem_set hy with hy | hy
            · exact ⟨y, hy, h1, h2, h3, h4⟩
            · subst hy
              exact ⟨_, List.mem_of_getElem? hf0, h1, h2, h3, by dsimp only; omega⟩
          · rintro ⟨y, hy, h1, h2, h3, h4⟩
            obtain ⟨k, hk⟩ := List.mem_iff_getElem?.1 hy
            by_cases c : k = j
            · subst c
              rw [hf0] at hk; injection hk with hk; subst hk
              exact ⟨(loE x, hiE x, f0, s.i), List.mem_iff_getElem?.2 ⟨k, by rw [List.getElem?_set_self hjl]⟩, h1, h2, h3, by dsimp only; omega⟩
            · exact ⟨y, List.mem_iff_getElem?.2 ⟨k, by rw [List.getElem?_set_ne (Ne.symm c)]; exact hk⟩, h1, h2, h3, h4⟩
        · show (setM s.m _ _ _ a b').isSome = true ↔ _
          by_cases c : (a, b') = (loE x, hiE x)
          · have c1 : a = loE x := congrArg Prod.fst c
            have c2 : b' = hiE x := congrArg Prod.snd c
            subst c1; subst c2
            rw [setM_at]
            constructor
            · intro h; cases h
            · rintro ⟨e, he, h⟩; exact absurd h ((memE e).1 he).2
          · rw [setM_ne c, b.A a b']
            constructor
            · rintro ⟨e, he, h⟩; exact ⟨e, (memE e).2 ⟨he, by rw [h]; exact c⟩, h⟩
            · rintro ⟨e, he, h⟩; exact ⟨e, ((memE e).1 he).1, h⟩
        · change (endI s.out j s.i)[i]? = some y at hy
          rw [hend] at hy
          show (setM s.m _ _ _ _ _ = some i ∧ _) ∨ (setM s.m _ _ _ _ _ ≠ some i ∧ _)
          by_cases c : i = j
          · subst c
            rw [List.getElem?_set_self hjl] at hy
            injection hy with hy
            subst hy
            rw [setM_at]
            exact .inr ⟨by simp, by dsimp only; omega⟩
          · rw [List.getElem?_set_ne (Ne.symm c)] at hy
            have hC := b.C i y hy
            by_cases c2 : (y.1, y.2.1) = (loE x, hiE x)
            · rw [show y.1 = loE x from congrArg Prod.fst c2, show y.2.1 = hiE x from congrArg Prod.snd c2] at hC ⊢
              rw [setM_at]
              rw [hm] at hC
              rcases hC with ⟨h, _⟩ | ⟨_, h⟩
              · injection h with h; exact absurd h.symm c
              · exact .inr ⟨by simp, by omega⟩
            · rw [setM_ne c2]; exact hC.imp id (fun h => ⟨h.1, by have := h.2; omega⟩)
        · change setM s.m _ _ _ a b' = some i at hi'
          by_cases c : (a, b') = (loE x, hiE x)
          · have c1 : a = loE x := congrArg Prod.fst c
            have c2 : b' = hiE x := congrArg Prod.snd c
            subst c1; subst c2
            rw [setM_at] at hi'; cases hi'
          · rw [setM_ne c] at hi'
            obtain ⟨f, hf⟩ := b.C' a b' i hi'
            have hij : i ≠ j := by
              rintro rfl
              rw [hf0] at hf; injection hf with hf
              exact c (by injection hf with h1 h2; injection h2 with h2 _; rw [← h1, ← h2])
            exact ⟨f, by show (endI s.out j s.i)[i]? = _; rw [hend, List.getElem?_set_ne (Ne.symm hij)]; exact hf⟩
        · change y ∈ endI s.out j s.i at hy
          rw [hend] at hy
          rcases List.mem_or_eq_of_mem_set hy with hy | hy
          · have := b.F y hy; omega
          · subst hy
            have := b.F _ (List.mem_of_getElem? hf0)
            dsimp only at this ⊢; omega
        · have : (E.take q ++ E.drop (q + 1)) = E.eraseIdx q := (List.eraseIdx_eq_take_drop_succ E q).symm
          rw [this]
          exact (List.Sublist.map nrm (List.eraseIdx_sublist E q)).nodup b.B
      · rw [if_neg g2]
        by_cases g3 : x.1 = 3
        · have ha : aft n E x = some E := by unfold aft; rw [hok, if_pos rfl, if_neg (by omega), if_neg g2, if_pos g3]
          exact .inr ⟨_, _, if_pos g3, by rw [if_neg (by omega), if_neg g2, if_pos g3], stay ha⟩
        · refine .inl ⟨if_neg g3, ?_⟩
          by_cases g1 : x.1 = 1
          · rw [if_pos g1, if_pos (.inr hat)]
          · rw [if_neg g1, if_neg g2, if_neg g3]
theorem bi_all (n N : Nat) : ∀ L : List Ev, L.length ≤ N → (rdS n N L = none ∧ refS n L = none) ∨ ∃ s E, rdS n N L = some s ∧ refS n L = some E ∧ Bi n N L s E := by
  refine snoc_ind ?_ ?_
  · intro _
    exact .inr ⟨_, _, rfl, rfl, ⟨fun a b => ⟨fun h => (by cases h), fun ⟨e, he, _⟩ => (by cases he)⟩, List.nodup_nil, fun j x h => (by cases h), fun a b j h => (by cases h), fun x hx => (by cases hx), fun i hi => (by cases hi)⟩⟩
  · intro L x ih hl
    have hl2 : (L ++ [x]).length = L.length + 1 := by simp
    rw [hl2] at hl
    rw [rdS_snoc, refS_snoc]
    rcases ih (by omega) with ⟨h1, h2⟩ | ⟨s, E, h1, h2, b⟩
    · rw [h1, h2]; exact .inl ⟨rfl, rfl⟩
    · rw [h1, h2]
      exact bi_step hl (rdS_inv n N L h1).i h2 b
theorem valid_eq (n : Int) (l : List Ev) : (readS n l).isSome = refV n l := by
  rw [readS_eq]
  unfold refV
  cases h : bigB n l with
  | false => rfl
  | true =>
    rw [if_pos rfl, Bool.true_and, Option.isSome_map]
    rcases bi_all n.toNat l.length l (Nat.le_refl _) with ⟨h1, h2⟩ | ⟨s, E, h1, h2, _⟩
    · rw [h1, h2]; rfl
    · rw [h1, h2]; rfl
end Go.Proofs.Ytihcaemheknjbaa
