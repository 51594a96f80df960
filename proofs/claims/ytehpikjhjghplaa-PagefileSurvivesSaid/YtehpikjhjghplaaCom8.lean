/- A region that draws its order and whose LAST operation is a store into a cell that it has read: loads come first all the same, as long as the store has not come up. -/
import Derived.Test.YtehpikjhjghplaaCom6
namespace Go.Proofs.Ytehpikjhjghplaa
open Go.RowKit

section
variable {P : Program} {ops : Array Oper} {Q : Exit → Act → World → Prop} {md : Region.Mode} {S : World → Prop} {s : Nat}

/-- S holds, or the last operation has come up. -/
def Ph (S : World → Prop) (s : Nat) (l : Array Bool) (w : World) : Prop := l.getD s false = true ∨ S w
/-- Whatever order is picked from here on, and S holds till the last operation. -/
def anyP (P : Program) (md : Region.Mode) (ops : Array Oper) (Q : Exit → Act → World → Prop) (S : World → Prop) (s : Nat) : Nat → Array Bool → Act → World → Prop
  | 0, l, a, w => Region.ready md ops l = [] ∧ Q .normal a w
  | n + 1, l, a, w => (Region.ready md ops l = [] → Q .normal a w) ∧
      ∀ j ∈ Region.ready md ops l, wpOp P ops Q j (fun a' w' => Ph S s (l.setIfInBounds j true) w' ∧ anyP P md ops Q S s n (l.setIfInBounds j true) a' w') a w
theorem anyP_any : ∀ (n : Nat) (l : Array Bool) (a : Act) (w : World), anyP P md ops Q S s n l a w → wpAny P md ops Q n l a w
  | 0, _, _, _, h => h
  | n + 1, _, _, _, h => ⟨h.1, fun j hj => wpOp_mono (fun a' w' h' => anyP_any n _ a' w' h'.2) (h.2 j hj)⟩
/-- It waits for number i. -/
def waits (md : Region.Mode) (o : Oper) (i : Nat) : Bool := o.after.toList.any fun e => Region.binds md e && e.on == i
theorem anyP_first {i : Nat} {oi os : Oper} {v : Value} (hi : ops[i]? = some oi) (hos : ops[s]? = some os) (hwt : waits md os i = true) (his : i ≠ s)
    (hsel : ∀ (j : Nat) (o : Oper) cs b, ops[j]? = some o → o.op ≠ .select cs b) (hQ : ∀ c a w, Q (.panic c) (a.put oi.dst v) w → Q (.panic c) a w) :
    ∀ (n : Nat) (l : Array Bool) (a : Act) (w : World),
      (∀ j oj, ops[j]? = some oj → j ≠ i → l.getD j true = false → (∀ e ∈ oj.after, Region.binds md e = true → e.on ≠ i) → oi.apart ops oj = true) →
      i ∈ Region.ready md ops l → l.getD s false = false → YieldsIf P ops S oi v a → S w →
      anyP P md ops Q S s n (l.setIfInBounds i true) (a.put oi.dst v) w → anyP P md ops Q S s (n + 1) l a w := by
  intro n
  induction n with
  | zero =>
    intro l a w _ hr hl hy hS H
    refine ⟨fun h => (by rw [h] at hr; cases hr), fun j hj => ?_⟩
    by_cases hji : j = i
    · subst hji; exact hy.wpOp hi hS ⟨.inr hS, H⟩
    · have := ready_mono hj hji
      rw [H.1] at this
      cases this
  | succ n ih =>
    intro l a w hfree hr hl hy hS H
    refine ⟨fun h => (by rw [h] at hr; cases hr), fun j hj => ?_⟩
    by_cases hji : j = i
    · subst hji; exact hy.wpOp hi hS ⟨.inr hS, H⟩
    · obtain ⟨hun, oj, hoj, hall⟩ := mem_ready.1 hj
      have hil := (mem_ready.1 hr).1
      have hout : ∀ (e : Nat), l.getD e false = true → e ≠ i := by
        intro e h1 h2
        subst h2
        rcases Nat.lt_or_ge e l.size with h3 | h3
        · simp [h3] at h1 hil; rw [hil] at h1; cases h1
        · simp [Array.getElem?_eq_none h3] at h1
      have hjs : j ≠ s := by
        intro h2
        subst h2
        rw [hos] at hoj
        injection hoj with hoj
        subst hoj
        unfold waits at hwt
        rw [List.any_eq_true] at hwt
        obtain ⟨e, he, hb⟩ := hwt
        simp only [Bool.and_eq_true, beq_iff_eq] at hb
        exact hout _ (hall e (by simpa using he) hb.1) hb.2
      have hnot : ∀ e ∈ oj.after, Region.binds md e = true → e.on ≠ i := fun e he hb => hout _ (hall e he hb)
      have h2 := wpOp_putIf hoj (hfree j oj hoj hji hun hnot) (fun cs b => hsel i oi cs b hi) (fun cs b => hsel j oj cs b hoj) hQ hy (H.2 j (ready_mono hj hji))
      have hl' : (l.setIfInBounds j true).getD s false = false := by rw [getD_set_ne false hjs]; exact hl
      refine wpOp_mono (fun a' w' h3 => ?_) h2
      obtain ⟨h4, h5, h6⟩ := h3
      have hS' : S w' := by
        rcases h5 with h5 | h5
        · rw [Array.setIfInBounds_comm _ _ (Ne.symm hji), getD_set_ne false his, hl'] at h5; cases h5
        · exact h5
      refine ⟨.inr hS', ih _ a' w' (fun k ok hk hki huk hno => ?_) (ready_mono hr (Ne.symm hji)) hl' h4 hS' ?_⟩
      · refine hfree k ok hk hki ?_ hno
        by_cases hjk : j = k
        · subst hjk; exact hun
        · rwa [getD_set_ne true hjk] at huk
      · rw [Array.setIfInBounds_comm _ _ hji]; exact h6

/-- Number i is taken first. -/
theorem anyP_take (i : Nat) {oi os : Oper} {v : Value} {n : Nat} {l : Array Bool} {a : Act} {w : World} (hi : ops[i]? = some oi) (hos : ops[s]? = some os)
    (hc : (waits md os i && (i != s) && Region.noSelect ops && Region.free md ops l i && (Region.ready md ops l).contains i && !(l.getD s false)) = true)
    (hQ : ∀ c a w, Q (.panic c) (a.put oi.dst v) w → Q (.panic c) a w) (hy : YieldsIf P ops S oi v a) (hS : S w)
    (h : anyP P md ops Q S s n (l.setIfInBounds i true) (a.put oi.dst v) w) : anyP P md ops Q S s (n + 1) l a w := by
  simp only [Bool.and_eq_true, bne_iff_ne, ne_eq, Bool.not_eq_true'] at hc
  obtain ⟨⟨⟨⟨⟨h1, h2⟩, h3⟩, h4⟩, h5⟩, h6⟩ := hc
  exact anyP_first hi hos h1 h2 (Region.noSelect_spec h3) hQ n l a w (Region.free_spec hi h4) (by simpa using h5) h6 hy hS h
/-- Number i alone may come up now. -/
theorem anyP_one (i : Nat) {oi : Oper} {n : Nat} {l : Array Bool} {a : Act} {w : World} (hr : Region.ready md ops l = [i]) (hi : ops[i]? = some oi)
    (h : ∀ K : Act → World → Prop, (∀ a' w', Ph S s (l.setIfInBounds i true) w' → anyP P md ops Q S s n (l.setIfInBounds i true) a' w' → K a' w') → if Region.wanted oi (yielded ops a.tmps) = true then Oper.wp P oi a w K Q else K (a.put oi.dst undef) w) :
    anyP P md ops Q S s (n + 1) l a w := by
  refine ⟨fun h0 => (by rw [hr] at h0; cases h0), fun j hj => ?_⟩
  rw [hr] at hj
  have : j = i := by simpa using hj
  subst this
  have h1 := h _ (fun a' w' h1 h2 => And.intro h1 h2)
  unfold wpOp
  simp only [hi]
  split
  · rename_i hw; rw [if_pos hw] at h1; exact .inl h1
  · rename_i hw; rw [if_neg hw] at h1; exact h1
theorem anyP_done {l : Array Bool} {a : Act} {w : World} (hr : Region.ready md ops l = []) (h : Q .normal a w) : ∀ n, anyP P md ops Q S s n l a w
  | 0 => ⟨hr, h⟩
  | _ + 1 => ⟨fun _ => h, by rw [hr]; simp⟩
/-- The beginning; the region must not panic. -/
theorem wp_region_last (s : Nat) (S : World → Prop) {id : Nat} {a : Act} {w : World} (hm : P.follows .mixedOrders = true)
    (h : anyP P .any ops (NoPanic Q) S s ops.size (Array.replicate ops.size false) a w.drew) : (Code.region id ops true).wp P Q a w :=
  wp_region_noPanic (wp_region_any hm (anyP_any _ _ _ _ h))
end

end Go.Proofs.Ytehpikjhjghplaa
