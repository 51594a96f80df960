/- The optimal rule: in place, or by striking and appending, the misses are the same. Plain law. -/
import Derived.Test.YtnlgjpcnnnilpaaC4
namespace Go.Proofs.Ytnlgjpcnnnilpaa
open Go.RowKit

/-- The program's process: blocks are exchanged in place. -/
def pS (l : List Int) (m : Nat) : Nat → List Int × Nat
  | 0 => ([], 0)
  | k + 1 =>
    if (pS l m k).1.any (· == l.getD k 0) = true then pS l m k
    else if (pS l m k).1.length < m then ((pS l m k).1 ++ [l.getD k 0], (pS l m k).2 + 1)
    else ((pS l m k).1.set (amax ((pS l m k).1.map (nx l k)) (pS l m k).1.length) (l.getD k 0), (pS l m k).2 + 1)
theorem perm_at {α : Type} (V : List α) : ∀ (j : Nat) (h : j < V.length), V.Perm (V[j] :: V.eraseIdx j) := by
  induction V with
  | nil => intro j h; simp at h
  | cons v V ih =>
    intro j h
    cases j with
    | zero => exact List.Perm.refl _
    | succ j =>
      have := ih j (by simpa using h)
      simp only [List.getElem_cons_succ, List.eraseIdx_cons_succ]
      exact (this.cons v).trans (List.Perm.swap _ _ _)
theorem perm_set {α : Type} (V : List α) (x : α) : ∀ (j : Nat), j < V.length → (V.set j x).Perm (x :: V.eraseIdx j) := by
  induction V with
  | nil => intro j h; simp at h
  | cons v V ih =>
    intro j h
    cases j with
    | zero => exact List.Perm.refl _
    | succ j =>
      have := ih j (by simpa using h)
      simp only [List.set_cons_succ, List.eraseIdx_cons_succ]
      exact (this.cons v).trans (List.Perm.swap _ _ _)
theorem nx_eq {l : List Int} {k : Nat} {b c : Int} (h : l[k]? = some b) : nx l k c = k ↔ c = b := by
  constructor
  · intro e
    by_cases hc : b = c
    · exact hc.symm
    · have h1 := nx_miss h hc
      have hl := (List.getElem?_eq_some_iff.1 h).1
      have h2 := (nx_le (l := l) (i := k + 1) c (by omega)).1
      omega
  · rintro rfl; exact nx_hit h
theorem nx_step {l : List Int} {k : Nat} {b : Int} (h : l[k]? = some b) (c : Int) : nx l (k + 1) c = if nx l k c = k then nx l (k + 1) b else nx l k c := by
  by_cases hc : c = b
  · subst hc; rw [if_pos (nx_hit h)]
  · rw [if_neg (fun e => hc ((nx_eq h).1 e)), nx_miss h (fun e => hc e.symm)]
theorem any_nx {l : List Int} {k : Nat} {b : Int} (h : l[k]? = some b) (B : List Int) : B.any (· == b) = true ↔ k ∈ B.map (nx l k) := by
  rw [List.any_eq_true, List.mem_map]
  constructor
  · rintro ⟨x, hx, e⟩; simp at e; exact ⟨x, hx, (nx_eq h).2 e⟩
  · rintro ⟨x, hx, e⟩; exact ⟨x, hx, by simpa using (nx_eq h).1 e⟩
theorem map_step {l : List Int} {k : Nat} {b : Int} (h : l[k]? = some b) (B : List Int) : B.map (nx l (k + 1)) = (B.map (nx l k)).map fun v => if v = k then nx l (k + 1) b else v := by
  rw [List.map_map]
  exact List.map_congr_left fun c _ => nx_step h c
theorem map_keep {l : List Int} {k : Nat} {b : Int} (h : l[k]? = some b) {B : List Int} (hB : B.any (· == b) = false) : B.map (nx l (k + 1)) = B.map (nx l k) := by
  apply List.map_congr_left
  intro c hc
  rw [nx_step h, if_neg (fun e => ?_)]
  have := List.any_eq_false.1 hB c hc
  simp at this
  exact this ((nx_eq h).1 e)
theorem amax_mem (V : List Nat) (h : 0 < V.length) : amax V V.length < V.length := amax_lt V V.length h
theorem amax_eq {V W : List Nat} (h : V.Perm W) (h0 : 0 < V.length) : V.getD (amax V V.length) 0 = W.getD (amax W W.length) 0 := by
  have hl := h.length_eq
  have a1 := amax_mem V h0
  have a2 := amax_mem W (by omega)
  have key : ∀ {V W : List Nat}, V.Perm W → (hv : amax V V.length < V.length) → V.getD (amax V V.length) 0 ≤ W.getD (amax W W.length) 0 := by
    intro V W h hv
    have hm : V[amax V V.length] ∈ W := h.mem_iff.1 (List.getElem_mem hv)
    obtain ⟨j, hj, e⟩ := List.getElem_of_mem hm
    have := amax_max W W.length j hj
    rw [List.getD_eq_getElem?_getD, List.getElem?_eq_getElem hj] at this
    rw [List.getD_eq_getElem?_getD (l := V), List.getElem?_eq_getElem hv]
    simp only [Option.getD_some] at this ⊢
    rw [← e]; exact this
  exact Nat.le_antisymm (key h a1) (key h.symm a2)
theorem map_erase {α β : Type} (f : α → β) (L : List α) : ∀ i, (L.eraseIdx i).map f = (L.map f).eraseIdx i := by
  induction L with
  | nil => intro i; rfl
  | cons x L ih =>
    intro i
    cases i with
    | zero => rfl
    | succ i => simp [ih]
theorem same_step (l : List Int) (m : Nat) (hm : 1 ≤ m) : ∀ k, k ≤ l.length → ((pS l m k).1.map (nx l k)).Perm ((optS l m k).1.map (nx l k)) ∧ (pS l m k).2 = (optS l m k).2 ∧ (pS l m k).1.length ≤ m
  | 0, _ => ⟨List.Perm.refl _, rfl, by simp [pS]⟩
  | k + 1, hk => by
    obtain ⟨h1, h2, h3⟩ := same_step l m hm k (by omega)
    have hx : l[k]? = some (l.getD k 0) := by rw [List.getD_eq_getElem?_getD, List.getElem?_eq_getElem (by omega)]; rfl
    obtain ⟨b, hb⟩ : ∃ b, b = l.getD k 0 := ⟨_, rfl⟩
    rw [pS, optS, ← hb]
    rw [← hb] at hx
    obtain ⟨B, t, hB⟩ : ∃ B t, pS l m k = (B, t) := ⟨_, _, rfl⟩
    obtain ⟨C, t', hC⟩ : ∃ C t, optS l m k = (C, t) := ⟨_, _, rfl⟩
    rw [hB, hC] at h1 h2
    rw [hB] at h3
    rw [hB, hC]
    simp only at h1 h2 h3 ⊢
    have hl : B.length = C.length := by have := h1.length_eq; simpa using this
    have hany : B.any (· == b) = C.any (· == b) := by
      rw [Bool.eq_iff_iff, any_nx hx, any_nx hx]; exact h1.mem_iff
    cases hBb : B.any (· == b) with
    | true =>
      rw [hBb] at hany
      rw [if_pos rfl, if_pos hany.symm]
      refine ⟨?_, h2, h3⟩
      rw [map_step hx, map_step hx]
      exact h1.map _
    | false =>
      rw [hBb] at hany
      rw [if_neg (show ¬ (false = true) by decide), if_neg (show ¬ (C.any (· == b) = true) by rw [← hany]; decide)]
      by_cases hlm : B.length < m
      · rw [if_pos hlm, if_neg (by omega)]
        refine ⟨?_, by simp [h2], by simp; omega⟩
        simp only [List.map_append]
        rw [map_keep hx hBb, map_keep hx hany.symm]
        exact h1.append_right _
      · rw [if_neg hlm, if_pos (by omega)]
        refine ⟨?_, by simp [h2], by simp; omega⟩
        have hv0 : 0 < (B.map (nx l k)).length := by simp; omega
        have ha := amax_eq h1 hv0
        have a1 := amax_mem (B.map (nx l k)) hv0
        have a2 := amax_mem (C.map (nx l k)) (by simp; omega)
        simp only [List.length_map] at ha a1 a2
        simp only [List.map_append, List.map_set, map_erase, List.map_cons, List.map_nil]
        rw [map_keep hx hBb, map_keep hx hany.symm]
        generalize hVV : B.map (nx l k) = V at *
        generalize hWW : C.map (nx l k) = W at *
        have eV : V.length = B.length := by rw [← hVV]; simp
        have eW : W.length = C.length := by rw [← hWW]; simp
        generalize amax V B.length = j at *
        generalize amax W C.length = i at *
        have p1 := perm_at V j (by omega)
        have p2 := perm_at W i (by omega)
        have e : V[j]'(by omega) = W[i]'(by omega) := by
          rw [List.getD_eq_getElem?_getD, List.getD_eq_getElem?_getD, List.getElem?_eq_getElem (by omega), List.getElem?_eq_getElem (by omega)] at ha
          exact ha
        have p3 : (V.eraseIdx j).Perm (W.eraseIdx i) := by
          have := p1.symm.trans (h1.trans p2)
          rw [e] at this
          exact this.cons_inv
        exact (perm_set V _ j (by omega)).trans ((p3.cons _).trans (List.perm_append_singleton _ _).symm)
theorem opt_same (l : List Int) (m : Nat) (hm : 1 ≤ m) : (pS l m l.length).2 = optN l m := (same_step l m hm l.length (Nat.le_refl _)).2.1
theorem pS_nodup (l : List Int) (m : Nat) : ∀ k, (pS l m k).1.Nodup
  | 0 => List.nodup_nil
  | k + 1 => by
    have ih := pS_nodup l m k
    rw [pS]
    split
    · exact ih
    · rename_i h
      have hb : l.getD k 0 ∉ (pS l m k).1 := fun hm => h (List.any_eq_true.2 ⟨_, hm, by simp⟩)
      split
      · simp only [List.nodup_append]
        refine ⟨ih, by simp, fun x hx y hy => ?_⟩
        simp at hy
        rintro rfl
        subst hy
        exact hb hx
      · simp only
        generalize (pS l m k).1 = B at *
        generalize amax (List.map (nx l k) B) B.length = j
        generalize l.getD k 0 = b at *
        by_cases hj : j < B.length
        · refine (perm_set B b j hj).nodup_iff.2 (List.nodup_cons.2 ⟨fun h1 => hb ((List.eraseIdx_sublist B j).mem h1), ih.sublist (List.eraseIdx_sublist B j)⟩)
        · rw [List.set_eq_of_length_le (by omega)]; exact ih
theorem pS_hit {l : List Int} {m k : Nat} {B : List Int} {t : Nat} {x : Int} (h : pS l m k = (B, t)) (hx : l[k]? = some x) (hB : B.any (· == x) = true) : pS l m (k + 1) = (B, t) := by
  have e : l.getD k 0 = x := by rw [List.getD_eq_getElem?_getD, hx]; rfl
  rw [pS, h, e, if_pos hB]
theorem pS_room {l : List Int} {m k : Nat} {B : List Int} {t : Nat} {x : Int} (h : pS l m k = (B, t)) (hx : l[k]? = some x) (hB : B.any (· == x) = false) (hl : B.length < m) : pS l m (k + 1) = (B ++ [x], t + 1) := by
  have e : l.getD k 0 = x := by rw [List.getD_eq_getElem?_getD, hx]; rfl
  rw [pS, h, e, if_neg (by rw [hB]; decide), if_pos hl]
theorem pS_full {l : List Int} {m k : Nat} {B : List Int} {t : Nat} {x : Int} (h : pS l m k = (B, t)) (hx : l[k]? = some x) (hB : B.any (· == x) = false) (hl : ¬ B.length < m) : pS l m (k + 1) = (B.set (amax (B.map (nx l k)) B.length) x, t + 1) := by
  have e : l.getD k 0 = x := by rw [List.getD_eq_getElem?_getD, hx]; rfl
  rw [pS, h, e, if_neg (by rw [hB]; decide), if_neg hl]
/-- The uses behind a reference: at the block's place its next reference. -/
theorem uses_step {l : List Int} {k : Nat} {x : Int} {B : List Int} (hx : l[k]? = some x) (hn : B.Nodup) {j : Nat} (hj : B[j]? = some x) : (B.map (nx l k)).set j (nx l (k + 1) x) = B.map (nx l (k + 1)) := by
  apply List.ext_getElem?
  intro i
  rw [List.getElem?_set, List.getElem?_map, List.getElem?_map]
  have hjl := (List.getElem?_eq_some_iff.1 hj).1
  by_cases e : j = i
  · subst e
    rw [if_pos rfl, if_pos (by simpa using hjl), hj]; rfl
  · rw [if_neg e]
    cases hi : B[i]? with
    | none => rfl
    | some c =>
      have hil := (List.getElem?_eq_some_iff.1 hi).1
      have hc : x ≠ c := by
        rintro rfl
        have h1 := (List.getElem?_eq_some_iff.1 hi).2
        have h2 := (List.getElem?_eq_some_iff.1 hj).2
        exact e ((List.getElem_inj hn).1 (h2.trans h1.symm))
      simp only [Option.map_some]
      rw [nx_miss hx hc]

end Go.Proofs.Ytnlgjpcnnnilpaa
