/- Competition between rules: plain law. -/
import Derived.Test.YtnlgjpcnnnilpaaM1
import Derived.Test.YtnlgjpcnnnilpaaM3
namespace Go.Proofs.Ytnlgjpcnnnilpaa
open Go.RowKit
/-- A list without repeats is no longer than one that has its elements. -/
theorem nodup_len : ∀ (U V : List Int), U.Nodup → (∀ x ∈ U, x ∈ V) → U.length ≤ V.length
  | [], V, _, _ => Nat.zero_le _
  | x :: U, V, h, hs => by
    rw [List.nodup_cons] at h
    have hx := hs x (by simp)
    have := nodup_len U (V.erase x) h.2 (fun y hy => by
      have hne : y ≠ x := fun e => h.1 (e ▸ hy)
      exact (List.mem_erase_of_ne hne).2 (hs y (by simp [hy])))
    have hl := List.length_erase_of_mem hx
    have hp : 0 < V.length := List.length_pos_of_mem hx
    simp only [List.length_cons]
    omega
/-- One reference under any rule with room for m blocks. -/
structure AStep (m : Nat) (s : List Int × Nat) (b : Int) (s' : List Int × Nat) : Prop where
  mem : b ∈ s'.1
  sub : ∀ x ∈ s'.1, x ∈ s.1 ∨ x = b
  nd : s'.1.Nodup
  len : s'.1.length ≤ m
  mis : s'.2 = if b ∈ s.1 then s.2 else s.2 + 1
structure Run (l : List Int) (m : Nat) (S : Nat → List Int × Nat) : Prop where
  zero : S 0 = ([], 0)
  step : ∀ k b, l[k]? = some b → AStep m (S k) b (S (k + 1))
theorem AStep.more {m m' : Nat} {s s' : List Int × Nat} {b : Int} (h : AStep m s b s') (hm : m ≤ m') : AStep m' s b s' := ⟨h.mem, h.sub, h.nd, Nat.le_trans h.len hm, h.mis⟩
theorem Run.more {l : List Int} {m m' : Nat} {S : Nat → List Int × Nat} (h : Run l m S) (hm : m ≤ m') : Run l m' S := ⟨h.zero, fun k b hb => (h.step k b hb).more hm⟩
theorem Run.nodup {l : List Int} {m : Nat} {S : Nat → List Int × Nat} (h : Run l m S) : ∀ k, k ≤ l.length → (S k).1.Nodup
  | 0, _ => by rw [h.zero]; exact List.nodup_nil
  | k + 1, hk => (h.step k _ (List.getElem?_eq_getElem (by omega))).nd
/-- How many blocks are needed before t. -/
def cn (l : List Int) (k : Nat) (A : List Int) (t : Nat) : Nat := A.countP fun x => decide (nx l k x < t)
theorem cn_le (l : List Int) (k : Nat) (A : List Int) (t : Nat) : cn l k A t ≤ A.length := List.countP_le_length
theorem cn_zero (l : List Int) (k : Nat) (A : List Int) {t : Nat} (hk : k ≤ l.length) (ht : t ≤ k) : cn l k A t = 0 := by
  unfold cn
  rw [List.countP_eq_zero]
  intro x _
  have := (nx_le (l := l) (i := k) x hk).1
  simp; omega
theorem cn_cons (l : List Int) (k : Nat) (x : Int) (A : List Int) (t : Nat) : cn l k (x :: A) t = cn l k A t + if nx l k x < t then 1 else 0 := by
  unfold cn; rw [List.countP_cons]; simp
theorem cn_perm {l : List Int} {k : Nat} {A B : List Int} (h : A.Perm B) (t : Nat) : cn l k A t = cn l k B t := h.countP_eq _
theorem cn_sub {l : List Int} {k : Nat} {A B : List Int} (hA : A.Nodup) (h : ∀ x ∈ A, x ∈ B) (t : Nat) : cn l k A t ≤ cn l k B t := by
  unfold cn
  rw [List.countP_eq_length_filter, List.countP_eq_length_filter]
  refine nodup_len _ _ (hA.filter _) (fun x hx => ?_)
  rw [List.mem_filter] at hx ⊢
  exact ⟨h x hx.1, hx.2⟩
theorem cn_next {l : List Int} {k : Nat} {b : Int} (hb : l[k]? = some b) {A : List Int} (hA : b ∉ A) (t : Nat) : cn l (k + 1) A t = cn l k A t := by
  unfold cn
  refine List.countP_congr fun x hx => ?_
  rw [nx_step hb, if_neg (fun e => hA ((nx_eq hb).1 e ▸ hx))]
/-- One more block. -/
theorem erase_perm {A : List Int} {b : Int} (h : b ∈ A) : A.Perm (b :: A.erase b) := List.perm_cons_erase h
theorem not_mem_erase {A : List Int} {b : Int} (h : A.Nodup) : b ∉ A.erase b := fun hm => ((List.Nodup.mem_erase_iff h).1 hm).1 rfl
/-- Of a set with b. -/
theorem cn_with {l : List Int} {k : Nat} {b : Int} (hb : l[k]? = some b) {A : List Int} (hm : b ∈ A) (t : Nat) : cn l k A t = cn l k (A.erase b) t + if k < t then 1 else 0 := by
  rw [cn_perm (erase_perm hm), cn_cons, nx_hit hb]
theorem cn_with' {l : List Int} {k : Nat} {b : Int} (hb : l[k]? = some b) {A : List Int} (hA : A.Nodup) (hm : b ∈ A) (t : Nat) : cn l (k + 1) A t = cn l k (A.erase b) t + if nx l (k + 1) b < t then 1 else 0 := by
  rw [cn_perm (erase_perm hm), cn_cons, cn_next hb (not_mem_erase hA)]
theorem cn_up {l : List Int} {k m n n' : Nat} {b : Int} {C C' : List Int} (hb : l[k]? = some b) (h : AStep m (C, n) b (C', n')) (t : Nat) :
    cn l (k + 1) C' t + (if b ∈ C ∧ k < t then 1 else 0) ≤ cn l k C t + (if nx l (k + 1) b < t then 1 else 0) := by
  have hnd : C'.Nodup := h.nd
  have hmm : b ∈ C' := h.mem
  have h1 := cn_with' hb hnd hmm t
  rw [h1]
  have hsub : ∀ x ∈ C'.erase b, x ∈ C.erase b := fun x hx => by
    have hx2 := (List.Nodup.mem_erase_iff hnd).1 hx
    rcases h.sub x hx2.2 with h2 | h2
    · exact (List.mem_erase_of_ne hx2.1).2 h2
    · exact absurd h2 hx2.1
  have h2 := cn_sub (l := l) (k := k) (hnd.erase b) hsub t
  by_cases hm : b ∈ C
  · rw [cn_with hb hm]
    by_cases ht : k < t
    · rw [if_pos (show b ∈ C ∧ k < t from ⟨hm, ht⟩), if_pos ht]; omega
    · rw [if_neg (show ¬ (b ∈ C ∧ k < t) from fun e => ht e.2), if_neg ht]; omega
  · rw [List.erase_of_not_mem hm] at h2
    rw [if_neg (show ¬ (b ∈ C ∧ k < t) from fun e => hm e.1)]; omega
theorem cn_cap {l : List Int} {k m n n' : Nat} {b : Int} {C C' : List Int} (hb : l[k]? = some b) (h : AStep m (C, n) b (C', n')) (t : Nat) :
    cn l (k + 1) C' t + 1 ≤ m + (if nx l (k + 1) b < t then 1 else 0) := by
  have hnd : C'.Nodup := h.nd
  have hmm : b ∈ C' := h.mem
  have h1 := cn_with' hb hnd hmm t
  have h2 := cn_le l k (C'.erase b) t
  have h3 := List.length_erase_of_mem hmm
  have h4 : 0 < C'.length := List.length_pos_of_mem hmm
  have h5 : C'.length ≤ m := h.len
  omega
/-- What the optimal rule does. -/
structure BStep (l : List Int) (k m : Nat) (C : List Int) (n : Nat) (b : Int) (C' : List Int) (n' : Nat) : Prop where
  hit : b ∈ C → C' = C ∧ n' = n
  mis : b ∉ C → n' = n + 1
  room : b ∉ C → C.length ≠ m → C' = C ++ [b]
  full : b ∉ C → C.length = m → ∃ z ∈ C, (∀ x ∈ C, nx l k x ≤ nx l k z) ∧ C'.Perm (b :: C.erase z)
theorem opt_better {l : List Int} {k m : Nat} {C C' D D' : List Int} {n n' p p' : Nat} {b : Int} (hb : l[k]? = some b) (hD : D.Nodup) (hA : AStep m (C, n) b (C', n')) (hB : BStep l k m D p b D' p') (hDl : D.length ≤ m)
    (I : ∀ t, cn l k C t + p ≤ cn l k D t + n) : ∀ t, cn l (k + 1) C' t + p' ≤ cn l (k + 1) D' t + n' := by
  intro t
  have hkl : k < l.length := (List.getElem?_eq_some_iff.1 hb).1
  have hr := (nx_le (l := l) (i := k + 1) b (by omega)).1
  have up := cn_up hb hA t
  have cap := cn_cap hb hA t
  have h0 := I 0
  rw [cn_zero _ _ _ (by omega) (Nat.zero_le _), cn_zero _ _ _ (by omega) (Nat.zero_le _)] at h0
  have hn' : n' = if b ∈ C then n else n + 1 := hA.mis
  have It := I t
  by_cases hbD : b ∈ D
  · obtain ⟨rfl, rfl⟩ := hB.hit hbD
    rw [cn_with' hb hD hbD]
    have h1 := cn_with hb hbD t
    by_cases ht : k < t
    · rw [if_pos ht] at h1
      by_cases hbC : b ∈ C
      · rw [if_pos (show b ∈ C ∧ k < t from ⟨hbC, ht⟩)] at up
        rw [if_pos hbC] at hn'
        omega
      · rw [if_neg (show ¬ (b ∈ C ∧ k < t) from fun e => hbC e.1)] at up
        rw [if_neg hbC] at hn'
        omega
    · rw [cn_zero l (k + 1) C' (by omega) (by omega)]
      have : n ≤ n' := by rw [hn']; split <;> omega
      omega
  · have hp' := hB.mis hbD
    -- the block that is asked for is not there
    have hk1 : cn l k D (k + 1) = 0 := by
      unfold cn
      rw [List.countP_eq_zero]
      intro x hx
      have h2 := (nx_le (l := l) (i := k) x (by omega)).1
      have h3 : nx l k x ≠ k := fun e => hbD ((nx_eq hb).1 e ▸ hx)
      simp; omega
    have hit1 : b ∈ C → p + 1 ≤ n := fun hbC => by
      have h2 := I (k + 1)
      rw [hk1] at h2
      have h3 := cn_with hb hbC (k + 1)
      rw [if_pos (by omega)] at h3
      omega
    have hfin : p' ≤ n' := by
      rw [hn', hp']
      by_cases hbC : b ∈ C
      · rw [if_pos hbC]; exact hit1 hbC
      · rw [if_neg hbC]; omega
    by_cases ht : k < t
    · by_cases hfull : D.length = m
      · obtain ⟨z, hz, hmax, hperm⟩ := hB.full hbD hfull
        have hbz : b ∉ D.erase z := fun h => hbD (List.mem_of_mem_erase h)
        have hnz : b ≠ z := fun e => hbD (e ▸ hz)
        have e1 : cn l (k + 1) D' t = cn l k (D.erase z) t + if nx l (k + 1) b < t then 1 else 0 := by
          rw [cn_perm hperm, cn_cons, cn_next hb hbz]
        have e2 : cn l k D t = cn l k (D.erase z) t + if nx l k z < t then 1 else 0 := by
          rw [cn_perm (erase_perm hz), cn_cons]
        rw [e1]
        by_cases hzt : nx l k z < t
        · have e3 : cn l k (D.erase z) t = m - 1 := by
            have h4 := List.length_erase_of_mem hz
            rw [← hfull, ← h4]
            unfold cn
            rw [List.countP_eq_length]
            intro x hx
            have := hmax x (List.mem_of_mem_erase hx)
            simp; omega
          have hm0 : 0 < D.length := List.length_pos_of_mem hz
          omega
        · rw [if_neg hzt] at e2
          by_cases hbC : b ∈ C
          · rw [if_pos (show b ∈ C ∧ k < t from ⟨hbC, ht⟩)] at up
            rw [if_pos hbC] at hn'
            omega
          · rw [if_neg (show ¬ (b ∈ C ∧ k < t) from fun e => hbC e.1)] at up
            rw [if_neg hbC] at hn'
            omega
      · rw [hB.room hbD hfull]
        have e1 : cn l (k + 1) (D ++ [b]) t = cn l k D t + if nx l (k + 1) b < t then 1 else 0 := by
          rw [cn_perm (List.perm_append_singleton b D), cn_cons, cn_next hb hbD]
        rw [e1]
        by_cases hbC : b ∈ C
        · rw [if_pos (show b ∈ C ∧ k < t from ⟨hbC, ht⟩)] at up
          rw [if_pos hbC] at hn'
          omega
        · rw [if_neg (show ¬ (b ∈ C ∧ k < t) from fun e => hbC e.1)] at up
          rw [if_neg hbC] at hn'
          omega
    · rw [cn_zero l (k + 1) C' (by omega) (by omega)]
      omega
theorem mem_any {C : List Int} {b : Int} : C.any (· == b) = true ↔ b ∈ C := by
  rw [List.any_eq_true]
  constructor
  · rintro ⟨x, hx, e⟩; simp at e; exact e ▸ hx
  · intro h; exact ⟨b, h, by simp⟩
theorem eraseIdx_perm {α : Type} (V : List α) : ∀ (j : Nat) (h : j < V.length), V.Perm (V[j] :: V.eraseIdx j) := by
  induction V with
  | nil => intro j h; simp at h
  | cons v V ih =>
    intro j h
    cases j with
    | zero => exact List.Perm.refl _
    | succ j =>
      have := ih j (by simpa using h)
      simp only [List.getElem_cons_succ, List.eraseIdx_cons_succ]
      exact (this.cons v).trans (List.Perm.swap _ _ _)
/-- The optimal rule, a reference on. -/
theorem opt_step {l : List Int} {m k : Nat} {b : Int} (hb : l[k]? = some b) (hm : 1 ≤ m) : BStep l k m (optS l m k).1 (optS l m k).2 b (optS l m (k + 1)).1 (optS l m (k + 1)).2 := by
  obtain ⟨C, t, hC⟩ : ∃ C t, optS l m k = (C, t) := ⟨_, _, rfl⟩
  rw [hC]
  cases hany : C.any (· == b) with
  | true =>
    have hmem := mem_any.1 hany
    rw [optS_hit hC hb hany]
    exact ⟨fun _ => ⟨rfl, rfl⟩, fun h => absurd hmem h, fun h => absurd hmem h, fun h => absurd hmem h⟩
  | false =>
    have hmem : b ∉ C := fun h => by rw [mem_any.2 h] at hany; cases hany
    rw [optS_miss hC hb hany]
    refine ⟨fun h => absurd h hmem, fun _ => rfl, fun _ h => by simp only at h ⊢; rw [if_neg h], fun _ h => ?_⟩
    simp only at h ⊢
    rw [if_pos h]
    have hlen : 0 < C.length := by omega
    have hj := amax_lt (C.map (nx l k)) C.length hlen
    refine ⟨C[amax (C.map (nx l k)) C.length], List.getElem_mem hj, fun x hx => ?_, ?_⟩
    · obtain ⟨i, hi, rfl⟩ := List.getElem_of_mem hx
      have h1 := amax_max (C.map (nx l k)) C.length i hi
      rw [List.getD_eq_getElem?_getD, List.getD_eq_getElem?_getD, List.getElem?_map, List.getElem?_map, List.getElem?_eq_getElem hi, List.getElem?_eq_getElem hj] at h1
      exact h1
    · refine (List.perm_append_singleton _ _).trans (List.Perm.cons _ ?_)
      exact ((eraseIdx_perm C _ hj).symm.trans (erase_perm (List.getElem_mem hj))).cons_inv
theorem opt_inv (l : List Int) (m : Nat) (hm : 1 ≤ m) : ∀ k, k ≤ l.length → (optS l m k).1.Nodup ∧ (optS l m k).1.length ≤ m
  | 0, _ => ⟨List.nodup_nil, by simp [optS]⟩
  | k + 1, hk => by
    obtain ⟨h1, h2⟩ := opt_inv l m hm k (by omega)
    have hb : l[k]? = some (l[k]'(by omega)) := List.getElem?_eq_getElem (by omega)
    have hs := opt_step (m := m) hb hm
    by_cases hmem : l[k]'(by omega) ∈ (optS l m k).1
    · rw [(hs.hit hmem).1]; exact ⟨h1, h2⟩
    · by_cases hfull : (optS l m k).1.length = m
      · obtain ⟨z, hz, _, hp⟩ := hs.full hmem hfull
        refine ⟨hp.nodup_iff.2 (List.nodup_cons.2 ⟨fun h => hmem (List.mem_of_mem_erase h), h1.erase z⟩), ?_⟩
        rw [hp.length_eq, List.length_cons, List.length_erase_of_mem hz]
        have : 0 < (optS l m k).1.length := List.length_pos_of_mem hz
        omega
      · rw [hs.room hmem hfull]
        refine ⟨(List.perm_append_singleton _ _).nodup_iff.2 (List.nodup_cons.2 ⟨hmem, h1⟩), ?_⟩
        rw [List.length_append]; simp; omega
theorem opt_run (l : List Int) (m : Nat) (hm : 1 ≤ m) : Run l m (optS l m) := by
  refine ⟨rfl, fun k b hb => ?_⟩
  have hk : k < l.length := (List.getElem?_eq_some_iff.1 hb).1
  have hs := opt_step (m := m) hb hm
  obtain ⟨h1, h2⟩ := opt_inv l m hm (k + 1) (by omega)
  by_cases hmem : b ∈ (optS l m k).1
  · obtain ⟨e1, e2⟩ := hs.hit hmem
    refine ⟨by rw [e1]; exact hmem, fun x hx => .inl (by rw [e1] at hx; exact hx), h1, h2, by rw [if_pos hmem, e2]⟩
  · have e2 := hs.mis hmem
    by_cases hfull : (optS l m k).1.length = m
    · obtain ⟨z, hz, _, hp⟩ := hs.full hmem hfull
      refine ⟨hp.mem_iff.2 (by simp), fun x hx => ?_, h1, h2, by rw [if_neg hmem, e2]⟩
      have := hp.mem_iff.1 hx
      rcases List.mem_cons.1 this with h | h
      · exact .inr h
      · exact .inl (List.mem_of_mem_erase h)
    · have e1 := hs.room hmem hfull
      refine ⟨by rw [e1]; simp, fun x hx => ?_, h1, h2, by rw [if_neg hmem, e2]⟩
      rw [e1] at hx
      simpa using hx
/-- No rule has fewer misses. -/
theorem opt_best {l : List Int} {m : Nat} (hm : 1 ≤ m) {S : Nat → List Int × Nat} (h : Run l m S) : optN l m ≤ (S l.length).2 := by
  have key : ∀ k, k ≤ l.length → ∀ t, cn l k (S k).1 t + (optS l m k).2 ≤ cn l k (optS l m k).1 t + (S k).2 := by
    intro k
    induction k with
    | zero => intro _ t; rw [h.zero]; simp [optS]
    | succ k ih =>
      intro hk
      have hb : l[k]? = some (l[k]'(by omega)) := List.getElem?_eq_getElem (by omega)
      exact opt_better hb (opt_inv l m hm k (by omega)).1 (h.step k _ hb) (opt_step hb hm) (opt_inv l m hm k (by omega)).2 (ih (by omega))
  have := key l.length (Nat.le_refl _) 0
  rw [cn_zero _ _ _ (Nat.le_refl _) (Nat.zero_le _), cn_zero _ _ _ (Nat.le_refl _) (Nat.zero_le _)] at this
  unfold optN
  omega
/-- Each block is missed at least once. -/
theorem run_least {l : List Int} {m : Nat} {S : Nat → List Int × Nat} (h : Run l m S) : ∀ k, k ≤ l.length → (∀ x ∈ (S k).1, x ∈ l.take k) ∧ ∀ U : List Int, U.Nodup → (∀ x ∈ U, x ∈ l.take k) → U.length ≤ (S k).2
  | 0, _ => by
    rw [h.zero]
    refine ⟨by simp, fun U _ hU => ?_⟩
    cases U with
    | nil => simp
    | cons x U => have := hU x (by simp); simp at this
  | k + 1, hk => by
    obtain ⟨h1, h2⟩ := run_least h k (by omega)
    have hb : l[k]? = some (l[k]'(by omega)) := List.getElem?_eq_getElem (by omega)
    have hs := h.step k _ hb
    have htk : l.take (k + 1) = l.take k ++ [l[k]'(by omega)] := by rw [List.take_add_one, hb]; rfl
    rw [htk]
    generalize l[k]'(by omega) = b at *
    refine ⟨fun x hx => ?_, fun U hU hs2 => ?_⟩
    · rcases hs.sub x hx with h3 | h3
      · exact List.mem_append_left _ (h1 x h3)
      · rw [h3]; simp
    · by_cases hbt : b ∈ l.take k
      · have h4 := h2 U hU (fun x hx => by
          rcases List.mem_append.1 (hs2 x hx) with h5 | h5
          · exact h5
          · simp at h5; exact h5 ▸ hbt)
        rw [hs.mis]
        split <;> omega
      · have hbS : b ∉ (S k).1 := fun h3 => hbt (h1 b h3)
        rw [hs.mis, if_neg hbS]
        have h4 := h2 (U.erase b) (hU.erase b) (fun x hx => by
          have hx2 := (List.Nodup.mem_erase_iff hU).1 hx
          rcases List.mem_append.1 (hs2 x hx2.2) with h5 | h5
          · exact h5
          · simp at h5; exact absurd h5 hx2.1)
        by_cases hbU : b ∈ U
        · have := List.length_erase_of_mem hbU
          omega
        · rw [List.erase_of_not_mem hbU] at h4; omega
/-- LRU is a rule; its blocks are the last ones that were referenced. -/
def seenS (l : List Int) (k : Nat) : List Int := ((l.take k).foldl distF ([], [])).1
def lruS (l : List Int) (m k : Nat) : List Int × Nat := (l.take k).foldl (lruF m) ([], 0)
theorem findIdx_erase (b : Int) : ∀ (C : List Int), b ∈ C → C.eraseIdx (C.findIdx (· == b)) = C.erase b
  | x :: C, h => by
    rw [List.findIdx_cons]
    by_cases hx : x = b
    · subst hx; simp
    · have h1 : (x == b) = false := by simpa using hx
      rw [h1]
      simp only [cond_false, List.eraseIdx_cons_succ]
      rw [findIdx_erase b C (by rcases List.mem_cons.1 h with h | h; exact absurd h.symm hx; exact h), List.erase_cons_tail (by simpa using hx)]
theorem seen_step {l : List Int} {k : Nat} {b : Int} (hb : l[k]? = some b) : seenS l (k + 1) = b :: (seenS l k).erase b := by
  unfold seenS
  rw [fold_take hb]
  generalize (l.take k).foldl distF ([], []) = s
  unfold distF
  by_cases h : b ∈ s.1
  · rw [if_pos (mem_any.2 h), findIdx_erase b _ h]
  · rw [if_neg (fun e => h (mem_any.1 e)), List.erase_of_not_mem h]
theorem seen_zero (l : List Int) : seenS l 0 = [] := rfl
theorem seen_nodup (l : List Int) : ∀ k, k ≤ l.length → (seenS l k).Nodup
  | 0, _ => List.nodup_nil
  | k + 1, hk => by
    rw [seen_step (List.getElem?_eq_getElem (show k < l.length by omega)), List.nodup_cons]
    have h := seen_nodup l k (by omega)
    exact ⟨not_mem_erase h, h.erase _⟩
theorem take_erase {b : Int} : ∀ (S : List Int) (m : Nat), S.Nodup → b ∈ S.take m → (S.erase b).take (m - 1) = (S.take m).erase b
  | [], m, _, h => by simp at h
  | x :: S, 0, _, h => by simp at h
  | x :: S, m + 1, hn, h => by
    rw [List.nodup_cons] at hn
    rw [List.take_succ_cons]
    by_cases hx : x = b
    · subst hx; simp
    · have hb : b ∈ S.take m := by
        rw [List.take_succ_cons] at h
        rcases List.mem_cons.1 h with h | h
        · exact absurd h.symm hx
        · exact h
      rw [List.erase_cons_tail (by simpa using hx), List.erase_cons_tail (by simpa using hx)]
      have hm : 0 < m := by
        rcases Nat.eq_zero_or_pos m with h0 | h0
        · subst h0; simp at hb
        · exact h0
      obtain ⟨m, rfl⟩ : ∃ j, m = j + 1 := ⟨m - 1, by omega⟩
      rw [Nat.add_sub_cancel, List.take_succ_cons]
      have := take_erase S (m + 1) hn.2 hb
      rw [Nat.add_sub_cancel] at this
      rw [this]
theorem take_erase_no {b : Int} : ∀ (S : List Int) (m : Nat), b ∉ S.take m → (S.erase b).take m = S.take m
  | [], m, _ => by simp
  | x :: S, 0, _ => by simp
  | x :: S, m + 1, h => by
    rw [List.take_succ_cons] at h
    have hx : x ≠ b := fun e => h (by rw [e]; simp)
    rw [List.erase_cons_tail (by simpa using hx), List.take_succ_cons, List.take_succ_cons, take_erase_no S m (fun e => h (List.mem_cons_of_mem _ e))]
theorem lru_step {l : List Int} {m k : Nat} {b : Int} (hb : l[k]? = some b) (hm : 1 ≤ m) (hK : (lruS l m k).1 = (seenS l k).take m) (hn : (seenS l k).Nodup) :
    (lruS l m (k + 1)).1 = (seenS l (k + 1)).take m ∧ (lruS l m (k + 1)).2 = if b ∈ (seenS l k).take m then (lruS l m k).2 else (lruS l m k).2 + 1 := by
  have e : lruS l m (k + 1) = lruF m (lruS l m k) b := by unfold lruS; rw [fold_take hb]
  rw [e, seen_step hb]
  obtain ⟨m, rfl⟩ : ∃ j, m = j + 1 := ⟨m - 1, by omega⟩
  unfold lruF touchL
  rw [hK, List.take_succ_cons]
  by_cases h : b ∈ (seenS l k).take (m + 1)
  · rw [if_pos (mem_any.2 h), if_pos h, findIdx_erase b _ h]
    have := take_erase _ _ hn h
    rw [Nat.add_sub_cancel] at this
    rw [this]
    exact ⟨rfl, rfl⟩
  · rw [if_neg (fun e => h (mem_any.1 e)), if_neg h]
    refine ⟨?_, rfl⟩
    simp only
    have h2 : b ∉ (seenS l k).take m := fun e => h ((List.take_sublist_take_left (Nat.le_succ m)).subset e)
    rw [take_erase_no _ _ h2]
    by_cases hl : ((seenS l k).take (m + 1)).length = m + 1
    · rw [if_pos hl, Nat.add_sub_cancel, List.take_take]
      congr 2; omega
    · rw [if_neg hl]
      rw [List.length_take] at hl
      rw [List.take_of_length_le (by omega), List.take_of_length_le (by omega)]
theorem lru_seen (l : List Int) {m : Nat} (hm : 1 ≤ m) : ∀ k, k ≤ l.length → (lruS l m k).1 = (seenS l k).take m
  | 0, _ => by simp [lruS, seenS]
  | k + 1, hk => (lru_step (List.getElem?_eq_getElem (show k < l.length by omega)) hm (lru_seen l hm k (by omega)) (seen_nodup l k (by omega))).1
theorem lru_mis {l : List Int} {m k : Nat} {b : Int} (hb : l[k]? = some b) (hm : 1 ≤ m) : (lruS l m (k + 1)).2 = if b ∈ (seenS l k).take m then (lruS l m k).2 else (lruS l m k).2 + 1 := by
  have hk : k < l.length := (List.getElem?_eq_some_iff.1 hb).1
  exact (lru_step hb hm (lru_seen l hm k (by omega)) (seen_nodup l k (by omega))).2
theorem lru_run (l : List Int) {m : Nat} (hm : 1 ≤ m) : Run l m (lruS l m) := by
  refine ⟨by simp [lruS], fun k b hb => ?_⟩
  have hk : k < l.length := (List.getElem?_eq_some_iff.1 hb).1
  have e1 := lru_seen l hm (k + 1) (by omega)
  have e0 := lru_seen l hm k (by omega)
  have hn := seen_nodup l (k + 1) (by omega)
  have hn0 := seen_nodup l k (by omega)
  refine ⟨?_, fun x hx => ?_, ?_, ?_, ?_⟩
  · rw [e1, seen_step hb]
    obtain ⟨m, rfl⟩ : ∃ j, m = j + 1 := ⟨m - 1, by omega⟩
    simp
  · rw [e1, seen_step hb] at hx
    rw [e0]
    obtain ⟨m, rfl⟩ : ∃ j, m = j + 1 := ⟨m - 1, by omega⟩
    rw [List.take_succ_cons] at hx
    rcases List.mem_cons.1 hx with h | h
    · exact .inr h
    · left
      by_cases hbm : b ∈ (seenS l k).take (m + 1)
      · have := take_erase _ _ hn0 hbm
        rw [Nat.add_sub_cancel] at this
        rw [this] at h
        exact List.mem_of_mem_erase h
      · have h2 : b ∉ (seenS l k).take m := fun e => hbm ((List.take_sublist_take_left (Nat.le_succ m)).subset e)
        rw [take_erase_no _ _ h2] at h
        exact (List.take_sublist_take_left (Nat.le_succ m)).subset h
  · rw [e1]; exact hn.sublist (List.take_sublist _ _)
  · rw [e1, List.length_take]; omega
  · rw [e0]; exact lru_mis hb hm
/-- FIFO is a rule. -/
theorem fifo_run (l : List Int) {m : Nat} (hm : 1 ≤ m) : Run l m (fun k => (l.take k).foldl (fifoF m) ([], 0)) := by
  have inv : ∀ k, k ≤ l.length → ((l.take k).foldl (fifoF m) ([], 0)).1.Nodup ∧ ((l.take k).foldl (fifoF m) ([], 0)).1.length ≤ m := by
    intro k
    induction k with
    | zero => intro _; simp
    | succ k ih =>
      intro hk
      obtain ⟨h1, h2⟩ := ih (by omega)
      rw [fold_take (List.getElem?_eq_getElem (show k < l.length by omega))]
      generalize (l.take k).foldl (fifoF m) ([], 0) = s at *
      generalize l[k]'(by omega) = b
      unfold fifoF
      by_cases hb : b ∈ s.1
      · rw [if_pos (mem_any.2 hb)]; exact ⟨h1, h2⟩
      · rw [if_neg (fun e => hb (mem_any.1 e))]
        simp only
        split
        · refine ⟨(List.perm_append_singleton _ _).nodup_iff.2 (List.nodup_cons.2 ⟨fun e => hb (List.mem_of_mem_drop e), h1.sublist (List.drop_sublist _ _)⟩), ?_⟩
          simp; omega
        · refine ⟨(List.perm_append_singleton _ _).nodup_iff.2 (List.nodup_cons.2 ⟨hb, h1⟩), ?_⟩
          simp; omega
  refine ⟨by simp, fun k b hb => ?_⟩
  have hk : k < l.length := (List.getElem?_eq_some_iff.1 hb).1
  obtain ⟨i1, i2⟩ := inv (k + 1) (by omega)
  show AStep m ((l.take k).foldl (fifoF m) ([], 0)) b ((l.take (k + 1)).foldl (fifoF m) ([], 0))
  rw [fold_take hb] at i1 i2 ⊢
  generalize (l.take k).foldl (fifoF m) ([], 0) = s at *
  by_cases hbs : b ∈ s.1
  · have e : fifoF m s b = s := by unfold fifoF; rw [if_pos (mem_any.2 hbs)]
    rw [e] at i1 i2 ⊢
    exact ⟨hbs, fun x hx => .inl hx, i1, i2, by rw [if_pos hbs]⟩
  · have e : fifoF m s b = ((if s.1.length = m then s.1.drop 1 else s.1) ++ [b], s.2 + 1) := by unfold fifoF; rw [if_neg (fun e => hbs (mem_any.1 e))]
    rw [e] at i1 i2 ⊢
    refine ⟨by simp, fun x hx => ?_, i1, i2, by rw [if_neg hbs]⟩
    simp only [List.mem_append, List.mem_singleton] at hx
    rcases hx with hx | hx
    · left
      split at hx
      · exact List.mem_of_mem_drop hx
      · exact hx
    · exact .inr hx
theorem mem_seen (l : List Int) : ∀ k, k ≤ l.length → ∀ x, x ∈ seenS l k ↔ x ∈ l.take k
  | 0, _, x => by simp [seenS]
  | k + 1, hk, x => by
    have hb : l[k]? = some (l[k]'(by omega)) := List.getElem?_eq_getElem (by omega)
    rw [seen_step hb, List.take_add_one, hb, List.mem_cons, List.mem_append]
    have ih := mem_seen l k (by omega) x
    generalize l[k]'(by omega) = b
    by_cases hx : x = b
    · subst hx; simp
    · rw [List.mem_erase_of_ne hx, ih]; simp [hx]
/-- What is known of the references since the k-th miss of a phase. -/
structure Phase (l : List Int) (k h i : Nat) (A : List Int × Nat) (r c e : Nat) (M : List Int) (p : Int) (A0 : List Int) : Prop where
  cle : c ≤ k
  lru : (lruS l k i).2 = k * (r + 1) + c
  run : k + r * (k - h + 1) + e ≤ A.2
  nd : M.Nodup
  np : p ∉ M
  cM : c ≤ M.length
  top : ∀ x, x ∈ (seenS l i).take (M.length + 1) ↔ x ∈ M ∨ x = p
  p0 : p ∈ A0
  n0 : A0.Nodup
  l0 : A0.length ≤ h
  sub : ∀ x ∈ A.1, x ∈ A0 ∨ x ∈ M
  cnt : (M.filter fun x => decide (x ∉ A0)).length ≤ e
theorem Phase.more {l : List Int} {k h i : Nat} {A : List Int × Nat} {r c e : Nat} {M : List Int} {p : Int} {A0 : List Int} (H : Phase l k h i A r c e M p A0) : M.length + 1 ≤ e + h := by
  have h1 := H.cnt
  have h2 : (M.filter fun x => decide (x ∈ A0)).length ≤ (A0.erase p).length := nodup_len _ _ (H.nd.filter _) (fun x hx => by
    rw [List.mem_filter] at hx
    have hx2 : x ∈ A0 := by simpa using hx.2
    exact (List.mem_erase_of_ne (fun e => H.np (by rw [← e]; exact hx.1))).2 hx2)
  rw [List.length_erase_of_mem H.p0] at h2
  have h3 : ∀ L : List Int, L.length = (L.filter fun x => decide (x ∈ A0)).length + (L.filter fun x => decide (x ∉ A0)).length := by
    intro L
    induction L with
    | nil => rfl
    | cons x L ih =>
      by_cases hx : x ∈ A0
      · simp [hx]; simp at ih; omega
      · simp [hx]; simp at ih; omega
  have h4 := h3 M
  have h5 := H.l0
  have h6 : 0 < A0.length := List.length_pos_of_mem H.p0
  omega
theorem phase_step {l : List Int} {k h i : Nat} {A A' : List Int × Nat} {r c e : Nat} {M : List Int} {p : Int} {A0 : List Int} {b : Int} (hb : l[i]? = some b) (hk : 1 ≤ k) (hs : AStep h A b A') (H : Phase l k h i A r c e M p A0) (hc : c < k) :
    ∃ c' e' M', Phase l k h (i + 1) A' r c' e' M' p A0 := by
  have hi : i < l.length := (List.getElem?_eq_some_iff.1 hb).1
  have hl := lru_mis hb hk
  have hn := seen_nodup l i (by omega)
  have hA2 := hs.mis
  by_cases hM : b ∈ M ∨ b = p
  · have hin := (H.top b).2 hM
    refine ⟨if b ∈ (seenS l i).take k then c else c + 1, if b ∈ A.1 then e else e + 1, M, ?_, ?_, ?_, H.nd, H.np, ?_, fun x => ?_, H.p0, H.n0, H.l0, fun x hx => ?_, ?_⟩
    · split <;> omega
    · rw [hl, H.lru]; split <;> omega
    · rw [hA2]; have := H.run; split <;> omega
    · split
      · exact H.cM
      · rename_i hno
        have : k ≤ M.length := by
          rcases Nat.lt_or_ge M.length k with h1 | h1
          · exact absurd ((List.take_sublist_take_left (show M.length + 1 ≤ k by omega)).subset hin) hno
          · exact h1
        omega
    · rw [seen_step hb, List.take_succ_cons]
      have h1 := take_erase _ _ hn hin
      rw [Nat.add_sub_cancel] at h1
      rw [h1, ← H.top x, List.mem_cons]
      by_cases hx : x = b
      · subst hx; exact ⟨fun _ => hin, fun _ => .inl rfl⟩
      · rw [List.mem_erase_of_ne hx]; simp [hx]
    · rcases hs.sub x hx with h1 | h1
      · exact H.sub x h1
      · rw [h1]
        rcases hM with h2 | h2
        · exact .inr h2
        · exact .inl (h2 ▸ H.p0)
    · have := H.cnt; split <;> omega
  · have hno : b ∉ (seenS l i).take (M.length + 1) := fun e => hM ((H.top b).1 e)
    have hbM : b ∉ M := fun e => hM (.inl e)
    have hbp : b ≠ p := fun e => hM (.inr e)
    refine ⟨if b ∈ (seenS l i).take k then c else c + 1, if b ∈ A.1 then e else e + 1, b :: M, ?_, ?_, ?_, List.nodup_cons.2 ⟨hbM, H.nd⟩, ?_, ?_, fun x => ?_, H.p0, H.n0, H.l0, fun x hx => ?_, ?_⟩
    · split <;> omega
    · rw [hl, H.lru]; split <;> omega
    · rw [hA2]; have := H.run; split <;> omega
    · intro e
      rcases List.mem_cons.1 e with e | e
      · exact hbp e.symm
      · exact H.np e
    · have := H.cM; rw [List.length_cons]; split <;> omega
    · rw [seen_step hb, List.length_cons, List.take_succ_cons, take_erase_no _ _ hno, List.mem_cons, H.top x, List.mem_cons, or_assoc]
    · rcases hs.sub x hx with h1 | h1
      · rcases H.sub x h1 with h2 | h2
        · exact .inl h2
        · exact .inr (List.mem_cons_of_mem _ h2)
      · rw [h1]; exact .inr (by simp)
    · have h1 := H.cnt
      by_cases hb0 : b ∈ A0
      · rw [List.filter_cons_of_neg (by simpa using hb0)]
        split <;> omega
      · have hbA : b ∉ A.1 := fun e => (H.sub b e).elim hb0 hbM
        rw [if_neg hbA, List.filter_cons_of_pos (by simpa using hb0), List.length_cons]
        omega
/-- A new phase. -/
theorem phase_new {l : List Int} {k h i : Nat} {A A' : List Int × Nat} {r : Nat} {b : Int} (hb : l[i]? = some b) (hs : AStep h A b A') (hl : (lruS l k (i + 1)).2 = k * (r + 1)) (hA : k + r * (k - h + 1) ≤ A'.2) :
    Phase l k h (i + 1) A' r 0 0 [] b A'.1 :=
  ⟨Nat.zero_le _, by rw [hl]; rfl, by omega, List.nodup_nil, by simp, Nat.zero_le _, fun x => by rw [seen_step hb]; simp, hs.mem, hs.nd, hs.len, fun x hx => .inl hx, by simp⟩
theorem phases {l : List Int} {k h : Nat} {S : Nat → List Int × Nat} (hS : Run l h S) (hh : 1 ≤ h) (hhk : h ≤ k) : ∀ i, i ≤ l.length →
    ((lruS l k i).2 = (seenS l i).length ∧ (seenS l i).length < k ∧ (seenS l i).length ≤ (S i).2) ∨ ∃ r c e M p A0, c < k ∧ Phase l k h i (S i) r c e M p A0
  | 0, _ => .inl ⟨by simp [lruS, seenS], by simp [seenS]; omega, by simp [seenS]⟩
  | i + 1, hi => by
    have hb : l[i]? = some (l[i]'(by omega)) := List.getElem?_eq_getElem (by omega)
    have hs := hS.step i _ hb
    generalize l[i]'(by omega) = b at *
    have hn := seen_nodup l i (by omega)
    rcases phases hS hh hhk i (by omega) with ⟨h1, h2, h3⟩ | ⟨r, c, e, M, p, A0, hc, H⟩
    · have hl := lru_mis (m := k) hb (by omega)
      rw [List.take_of_length_le (by omega)] at hl
      have hse := seen_step hb
      by_cases hin : b ∈ seenS l i
      · left
        have hlen : (seenS l (i + 1)).length = (seenS l i).length := by
          have := List.length_pos_of_mem hin
          rw [hse, List.length_cons, List.length_erase_of_mem hin]; omega
        rw [if_pos hin] at hl
        have hm : (S i).2 ≤ (S (i + 1)).2 := by rw [hs.mis]; split <;> omega
        exact ⟨by omega, by omega, by omega⟩
      · have hlen : (seenS l (i + 1)).length = (seenS l i).length + 1 := by rw [hse, List.length_cons, List.erase_of_not_mem hin]
        rw [if_neg hin] at hl
        have hbS : b ∉ (S i).1 := fun e => hin ((mem_seen l i (by omega) b).2 ((run_least hS i (by omega)).1 b e))
        have hm : (S (i + 1)).2 = (S i).2 + 1 := by rw [hs.mis, if_neg hbS]
        by_cases hfull : (seenS l i).length + 1 = k
        · right
          exact ⟨0, 0, 0, [], b, _, by omega, phase_new hb hs (by omega) (by omega)⟩
        · left
          exact ⟨by omega, by omega, by omega⟩
    · right
      obtain ⟨c', e', M', H'⟩ := phase_step hb (by omega) hs H hc
      by_cases hck : c' < k
      · exact ⟨r, c', e', M', p, A0, hck, H'⟩
      · have hc' : c' = k := by have := H'.cle; omega
        have h5 := H'.more
        have h6 := H'.cM
        have h7 := H'.run
        have h8 := H'.lru
        refine ⟨r + 1, 0, 0, [], b, _, by omega, phase_new hb hs ?_ ?_⟩
        · rw [h8, hc', Nat.mul_succ k (r + 1)]
        · rw [Nat.succ_mul]; omega
/-- LRU competes with any rule of a smaller cache. -/
theorem competes {l : List Int} {k h : Nat} {S : Nat → List Int × Nat} (hS : Run l h S) (hh : 1 ≤ h) (hhk : h ≤ k) : (k - h + 1) * lruN l k ≤ k * (S l.length).2 := by
  have e : lruN l k = (lruS l k l.length).2 := by unfold lruN lruS; rw [List.take_length]
  rw [e]
  rcases phases hS hh hhk l.length (Nat.le_refl _) with ⟨h1, h2, h3⟩ | ⟨r, c, e, M, p, A0, hc, H⟩
  · rw [h1]; exact Nat.mul_le_mul (by omega) h3
  · have h5 := H.more
    have h6 := H.cM
    refine Nat.le_trans ?_ (Nat.mul_le_mul_left k H.run)
    rw [H.lru]
    obtain ⟨d, hd⟩ : ∃ d, d = k - h + 1 := ⟨_, rfl⟩
    obtain ⟨g, hg⟩ : ∃ g, h = g + 1 := ⟨h - 1, by omega⟩
    have hk : k = d + g := by omega
    rw [← hd]
    have h7 : d * c ≤ k * (e + g) := Nat.mul_le_mul (by omega) (by omega)
    have e1 : d * (k * (r + 1) + c) = k * (r * d) + k * d + d * c := by
      rw [Nat.mul_add, Nat.mul_succ, Nat.mul_add, Nat.mul_comm d (k * r), Nat.mul_assoc, Nat.mul_comm d k]
    have e2 : k * (k + r * d + e) = k * d + k * g + k * (r * d) + k * e := by
      rw [Nat.mul_add, Nat.mul_add]
      congr 2
      conv => lhs; arg 2; rw [hk]
      rw [Nat.mul_add]
    rw [e1, e2]
    rw [Nat.mul_add] at h7
    omega
/-- Hits are told by distances. -/
def hitB (k : Nat) (x : Int) : Bool := decide (1 ≤ x) && decide (x ≤ (k : Int))
theorem idx_take (b : Int) (m : Nat) : ∀ S : List Int, hitB m (idxI S b + 1) = true ↔ b ∈ S.take m := by
  intro S
  unfold idxI hitB
  by_cases h : b ∈ S
  · rw [if_pos (mem_any.2 h)]
    have key : ∀ (S : List Int) (m : Nat), b ∈ S → (S.findIdx (· == b) < m ↔ b ∈ S.take m) := by
      intro S
      induction S with
      | nil => intro m h; simp at h
      | cons x S ih =>
        intro m hm
        rw [List.findIdx_cons]
        cases m with
        | zero => simp
        | succ m =>
          rw [List.take_succ_cons]
          by_cases hx : x = b
          · subst hx; simp
          · have h1 : (x == b) = false := by simpa using hx
            rw [h1]
            have h2 : b ∈ S := by
              rcases List.mem_cons.1 hm with h | h
              · exact absurd h.symm hx
              · exact h
            have := ih m h2
            simp only [cond_false, List.mem_cons]
            constructor
            · intro h3; exact .inr (this.1 (by omega))
            · intro h3
              rcases h3 with h3 | h3
              · exact absurd h3.symm hx
              · have := this.2 h3; omega
    rw [← key S m h]
    simp
    omega
  · rw [if_neg (fun e => h (mem_any.1 e))]
    constructor
    · intro h1; simp at h1
    · intro h1; exact absurd (List.mem_of_mem_take h1) h
theorem hits_told (l : List Int) {m : Nat} (hm : 1 ≤ m) : ∀ k, k ≤ l.length → (lruS l m k).2 + ((l.take k).foldl distF ([], [])).2.countP (hitB m) = k
  | 0, _ => by simp [lruS]
  | k + 1, hk => by
    have hb : l[k]? = some (l[k]'(by omega)) := List.getElem?_eq_getElem (by omega)
    have ih := hits_told l hm k (by omega)
    rw [lru_mis hb hm, fold_take hb]
    have hse : ((l.take k).foldl distF ([], [])).1 = seenS l k := rfl
    generalize l[k]'(by omega) = b at *
    have hd : ∀ s : List Int × List Int, (distF s b).2 = s.2 ++ [idxI s.1 b + 1] := fun s => rfl
    rw [hd, List.countP_append, hse]
    generalize ((l.take k).foldl distF ([], [])).2 = D at *
    have h1 := idx_take b m (seenS l k)
    rw [List.countP_singleton]
    by_cases hin : b ∈ (seenS l k).take m
    · rw [if_pos hin, if_pos (h1.2 hin)]; omega
    · rw [if_neg hin, if_neg (fun e => hin (h1.1 e))]; omega
def hitsN (l : List Int) (m : Nat) : Nat := (distL l).countP (hitB m)
theorem lru_hits (l : List Int) {m : Nat} (hm : 1 ≤ m) : lruN l m + hitsN l m = l.length := by
  have := hits_told l hm l.length (Nat.le_refl _)
  unfold lruN hitsN distL
  unfold lruS at this
  rwa [List.take_length] at this
theorem hits_mono (l : List Int) {m m' : Nat} (h : m ≤ m') : hitsN l m ≤ hitsN l m' := by
  unfold hitsN
  refine List.countP_mono_left fun x _ hx => ?_
  unfold hitB at *
  simp at *
  omega
/-- All that is said. -/
theorem competes_all (l : List Int) {k h : Nat} (hh : 1 ≤ h) (hhk : h ≤ k) : lruN l k ≤ lruN l h ∧ optN l k ≤ optN l h ∧ optN l k ≤ lruN l k ∧ optN l k ≤ fifoN l k ∧ optN l h ≤ lruN l h ∧
    (∀ U : List Int, U.Nodup → (∀ x ∈ U, x ∈ l) → U.length ≤ optN l k) ∧ lruN l k + hitsN l k = l.length ∧ (k - h + 1) * lruN l k ≤ k * optN l h := by
  have hk : 1 ≤ k := by omega
  have a1 := lru_hits l hh
  have a2 := lru_hits l hk
  have a3 := hits_mono l hhk
  have e1 : ∀ m, (lruS l m l.length).2 = lruN l m := fun m => by unfold lruN lruS; rw [List.take_length]
  have e2 : ∀ m, ((l.take l.length).foldl (fifoF m) ([], 0)).2 = fifoN l m := fun m => by unfold fifoN; rw [List.take_length]
  refine ⟨by omega, opt_best hk ((opt_run l h hh).more hhk), ?_, ?_, ?_, fun U hU hs => ?_, a2, competes (opt_run l h hh) hh hhk⟩
  · rw [← e1]; exact opt_best hk (lru_run l hk)
  · rw [← e2]; exact opt_best hk (fifo_run l hk)
  · rw [← e1]; exact opt_best hh (lru_run l hh)
  · exact (run_least (opt_run l k hk) l.length (Nat.le_refl _)).2 U hU (fun x hx => by rw [List.take_length]; exact hs x hx)
end Go.Proofs.Ytnlgjpcnnnilpaa
