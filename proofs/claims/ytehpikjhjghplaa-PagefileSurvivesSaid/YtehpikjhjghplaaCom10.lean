/- More on regions in which a store hits a cell that the region has read (Com8): operations that look at no cell come first at any time; several operations that may come next. -/
import Derived.Test.YtehpikjhjghplaaCom8
namespace Go.Proofs.Ytehpikjhjghplaa
open Go.RowKit

section
variable {P : Program} {ops : Array Oper} {Q : Exit → Act → World → Prop} {md : Region.Mode} {S : World → Prop} {s : Nat}

theorem Ph.set {l : Array Bool} {w : World} {i : Nat} (his : i ≠ s) : Ph S s (l.setIfInBounds i true) w ↔ Ph S s l w := by
  unfold Ph; rw [getD_set_ne false his]
theorem anyP_firstF {i : Nat} {oi : Oper} {v : Value} (hi : ops[i]? = some oi) (his : i ≠ s)
    (hsel : ∀ (j : Nat) (o : Oper) cs b, ops[j]? = some o → o.op ≠ .select cs b) (hQ : ∀ c a w, Q (.panic c) (a.put oi.dst v) w → Q (.panic c) a w) :
    ∀ (n : Nat) (l : Array Bool) (a : Act) (w : World),
      (∀ j oj, ops[j]? = some oj → j ≠ i → l.getD j true = false → (∀ e ∈ oj.after, Region.binds md e = true → e.on ≠ i) → oi.apart ops oj = true) →
      i ∈ Region.ready md ops l → YieldsIf P ops (fun _ => True) oi v a → Ph S s l w →
      anyP P md ops Q S s n (l.setIfInBounds i true) (a.put oi.dst v) w → anyP P md ops Q S s (n + 1) l a w := by
  intro n
  induction n with
  | zero =>
    intro l a w _ hr hy hS H
    refine ⟨fun h => (by rw [h] at hr; cases hr), fun j hj => ?_⟩
    by_cases hji : j = i
    · subst hji; exact hy.wpOp hi trivial ⟨(Ph.set his).2 hS, H⟩
    · have := ready_mono hj hji
      rw [H.1] at this
      cases this
  | succ n ih =>
    intro l a w hfree hr hy hS H
    refine ⟨fun h => (by rw [h] at hr; cases hr), fun j hj => ?_⟩
    by_cases hji : j = i
    · subst hji; exact hy.wpOp hi trivial ⟨(Ph.set his).2 hS, H⟩
    · obtain ⟨hun, oj, hoj, hall⟩ := mem_ready.1 hj
      have hil := (mem_ready.1 hr).1
      have hout : ∀ (e : Nat), l.getD e false = true → e ≠ i := by
        intro e h1 h2
        subst h2
        rcases Nat.lt_or_ge e l.size with h3 | h3
        · simp [h3] at h1 hil; rw [hil] at h1; cases h1
        · simp [Array.getElem?_eq_none h3] at h1
      have hnot : ∀ e ∈ oj.after, Region.binds md e = true → e.on ≠ i := fun e he hb => hout _ (hall e he hb)
      have h2 := wpOp_putIf hoj (hfree j oj hoj hji hun hnot) (fun cs b => hsel i oi cs b hi) (fun cs b => hsel j oj cs b hoj) hQ hy (H.2 j (ready_mono hj hji))
      refine wpOp_mono (fun a' w' h3 => ?_) h2
      obtain ⟨h4, h5, h6⟩ := h3
      have hS' : Ph S s (l.setIfInBounds j true) w' := by
        rw [Array.setIfInBounds_comm _ _ (Ne.symm hji)] at h5
        exact (Ph.set his).1 h5
      refine ⟨hS', ih _ a' w' (fun k ok hk hki huk hno => ?_) (ready_mono hr (Ne.symm hji)) h4 hS' ?_⟩
      · refine hfree k ok hk hki ?_ hno
        by_cases hjk : j = k
        · subst hjk; exact hun
        · rwa [getD_set_ne true hjk] at huk
      · rw [Array.setIfInBounds_comm _ _ hji]; exact h6
/-- Number i, which looks at no cell, is taken first. -/
theorem anyP_takeF (i : Nat) {oi : Oper} {v : Value} {n : Nat} {l : Array Bool} {a : Act} {w : World} (hi : ops[i]? = some oi)
    (hc : ((i != s) && Region.noSelect ops && Region.free md ops l i && (Region.ready md ops l).contains i) = true)
    (hQ : ∀ c a w, Q (.panic c) (a.put oi.dst v) w → Q (.panic c) a w) (hy : YieldsIf P ops (fun _ => True) oi v a) (hS : Ph S s l w)
    (h : anyP P md ops Q S s n (l.setIfInBounds i true) (a.put oi.dst v) w) : anyP P md ops Q S s (n + 1) l a w := by
  simp only [Bool.and_eq_true, bne_iff_ne, ne_eq] at hc
  obtain ⟨⟨⟨h2, h3⟩, h4⟩, h5⟩ := hc
  exact anyP_firstF hi h2 (Region.noSelect_spec h3) hQ n l a w (Region.free_spec hi h4) (by simpa using h5) hy hS h
/-- One of these may come up now. -/
theorem anyP_more (rs : List Nat) {n : Nat} {l : Array Bool} {a : Act} {w : World} (hr : Region.ready md ops l = rs) (h0 : rs ≠ [])
    (h : ∀ j ∈ rs, ∃ oi, ops[j]? = some oi ∧ ∀ K : Act → World → Prop, (∀ a' w', Ph S s (l.setIfInBounds j true) w' → anyP P md ops Q S s n (l.setIfInBounds j true) a' w' → K a' w') →
      if Region.wanted oi (yielded ops a.tmps) = true then Oper.wp P oi a w K Q else K (a.put oi.dst undef) w) : anyP P md ops Q S s (n + 1) l a w := by
  refine ⟨fun e => absurd (hr.symm.trans e) h0, fun j hj => ?_⟩
  rw [hr] at hj
  obtain ⟨oi, hi, hK⟩ := h j hj
  have h1 := hK _ (fun a' w' h1 h2 => And.intro h1 h2)
  unfold wpOp
  simp only [hi]
  split
  · rename_i hw; rw [if_pos hw] at h1; exact .inl h1
  · rename_i hw; rw [if_neg hw] at h1; exact h1
/-- What is shown once of the code behind a point, for all ways that come there. -/
theorem with_tail {n : Nat} {l : Array Bool} {a : Act} {w : World} (T : Array Oper → (Exit → Act → World → Prop) → (World → Prop) → Prop) (hT : T ops Q S) (h : T ops Q S → anyP P md ops Q S s n l a w) : anyP P md ops Q S s n l a w := h hT
end

end Go.Proofs.Ytehpikjhjghplaa
