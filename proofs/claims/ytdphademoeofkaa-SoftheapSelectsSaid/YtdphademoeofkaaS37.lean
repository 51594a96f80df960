/- The k-th least element (plain law). -/
import Derived.Test.YtdphademoeofkaaS34
namespace Go.Proofs.Ytdphademoeofkaa
/-- A list in order. -/
def srt (l : List Int) : List Int := l.mergeSort fun x y => decide (x ≤ y)
theorem srt_perm (l : List Int) : (srt l).Perm l := List.mergeSort_perm _ _
theorem srt_ord (l : List Int) : (srt l).Pairwise (· ≤ ·) := by
  have := List.pairwise_mergeSort (le := fun x y : Int => decide (x ≤ y)) (fun a b c h1 h2 => by simp at *; omega) (fun a b => by simp; omega) l
  exact this.imp (fun h => by simpa using h)
theorem srt_len (l : List Int) : (srt l).length = l.length := (srt_perm l).length_eq
theorem srt_eq {l m : List Int} (hp : m.Perm l) (ho : m.Pairwise (· ≤ ·)) : srt l = m := sorted_unique (srt_ord l) ho ((srt_perm l).trans hp.symm)
def lows (p : Int) (l : List Int) : List Int := l.filter fun x => decide (x < p)
def highs (p : Int) (l : List Int) : List Int := l.filter fun x => decide (p < x)
def sames (p : Int) (l : List Int) : Nat := l.countP fun x => decide (x = p)
theorem parts_perm (p : Int) : ∀ l : List Int, (lows p l ++ List.replicate (sames p l) p ++ highs p l).Perm l
  | [] => by simp [lows, highs, sames]
  | x :: l => by
    have ih := parts_perm p l
    rcases Int.lt_trichotomy x p with h | h | h
    · have h2 : ¬ p < x := by omega
      have h3 : ¬ x = p := by omega
      simp only [lows, highs, sames, List.filter_cons, List.countP_cons, h, h2, h3, decide_true, decide_false, if_true, Bool.false_eq_true, if_false, Nat.add_zero, List.cons_append]
      exact ih.cons x
    · subst h
      have h2 : ¬ x < x := by omega
      simp only [lows, highs, sames, List.filter_cons, List.countP_cons, h2, decide_true, decide_false, if_true, Bool.false_eq_true, if_false, List.replicate_succ]
      rw [List.append_assoc, List.cons_append]
      refine List.perm_middle.trans ?_
      rw [List.append_assoc] at ih
      exact ih.cons x
    · have h2 : ¬ x < p := by omega
      have h3 : ¬ x = p := by omega
      simp only [lows, highs, sames, List.filter_cons, List.countP_cons, h, h2, h3, decide_true, decide_false, if_true, Bool.false_eq_true, if_false, Nat.add_zero]
      exact List.perm_middle.trans (ih.cons x)
theorem srt_parts (p : Int) (l : List Int) : srt l = srt (lows p l) ++ List.replicate (sames p l) p ++ srt (highs p l) := by
  refine srt_eq ((((srt_perm _).append_right _).append (srt_perm _)).trans (parts_perm p l)) ?_
  have hl : ∀ x ∈ srt (lows p l), x < p := fun x hx => by
    have := (srt_perm _).mem_iff.1 hx
    simpa using (List.mem_filter.1 this).2
  have hh : ∀ x ∈ srt (highs p l), p < x := fun x hx => by
    have := (srt_perm _).mem_iff.1 hx
    simpa using (List.mem_filter.1 this).2
  refine List.pairwise_append.2 ⟨List.pairwise_append.2 ⟨srt_ord _, List.pairwise_replicate.2 (.inr (Int.le_refl p)), fun a ha b hb => ?_⟩, srt_ord _, fun a ha b hb => ?_⟩
  · rw [List.eq_of_mem_replicate hb]
    have := hl a ha; omega
  · have h2 := hh b hb
    rcases List.mem_append.1 ha with ha | ha
    · have := hl a ha; omega
    · rw [List.eq_of_mem_replicate ha]; omega
theorem sel_low {p : Int} {l : List Int} {k : Nat} (h : k < (lows p l).length) : (srt (lows p l))[k]? = (srt l)[k]? := by
  rw [srt_parts p l, List.append_assoc, List.getElem?_append_left (by rw [srt_len]; exact h)]
theorem sel_same {p : Int} {l : List Int} {k : Nat} (h : (lows p l).length ≤ k) (h2 : k < (lows p l).length + sames p l) : (srt l)[k]? = some p := by
  rw [srt_parts p l, List.append_assoc, List.getElem?_append_right (by rw [srt_len]; exact h), srt_len, List.getElem?_append_left (by rw [List.length_replicate]; omega), List.getElem?_replicate, if_pos (by omega)]
theorem sel_high {p : Int} {l : List Int} {k : Nat} (h : (lows p l).length + sames p l ≤ k) : (srt (highs p l))[k - ((lows p l).length + sames p l)]? = (srt l)[k]? := by
  rw [srt_parts p l, List.getElem?_append_right (by rw [List.length_append, srt_len, List.length_replicate]; exact h), List.length_append, srt_len, List.length_replicate]
theorem parts_len (p : Int) (l : List Int) : (lows p l).length + sames p l + (highs p l).length = l.length := by
  have := (parts_perm p l).length_eq
  simp only [List.length_append, List.length_replicate] at this
  exact this
theorem sames_pos {p : Int} {l : List Int} (h : p ∈ l) : 0 < sames p l := List.countP_pos_iff.2 ⟨p, h, by simp⟩
theorem lows_snoc (p : Int) (l : List Int) (x : Int) : lows p (l ++ [x]) = lows p l ++ (if x < p then [x] else []) := by
  unfold lows
  rw [List.filter_append]
  by_cases h : x < p <;> simp [h]
theorem highs_snoc (p : Int) (l : List Int) (x : Int) : highs p (l ++ [x]) = highs p l ++ (if p < x then [x] else []) := by
  unfold highs
  rw [List.filter_append]
  by_cases h : p < x <;> simp [h]
theorem sames_snoc (p : Int) (l : List Int) (x : Int) : sames p (l ++ [x]) = sames p l + (if x = p then 1 else 0) := by
  unfold sames
  rw [List.countP_append]
  by_cases h : x = p <;> simp [h]
theorem lows_mem {p : Int} {l : List Int} {x : Int} (h : x ∈ lows p l) : x ∈ l := (List.mem_filter.1 h).1
theorem highs_mem {p : Int} {l : List Int} {x : Int} (h : x ∈ highs p l) : x ∈ l := (List.mem_filter.1 h).1
end Go.Proofs.Ytdphademoeofkaa
