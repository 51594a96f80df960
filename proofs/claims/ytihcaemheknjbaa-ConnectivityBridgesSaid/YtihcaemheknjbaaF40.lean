/- Bridges: without an edge there is a set more exactly if it is a bridge (plain law). -/
import Derived.Test.YtihcaemheknjbaaF27
namespace Go.Proofs.Ytihcaemheknjbaa
open Go.RowKit
theorem gd_at {n : Nat} {q : List Nat} (h : q.length = n) {i : Nat} (hi : i < n) : (q[i]? == some i) = (q.getD i 0 == i) := by
  rw [List.getD_eq_getElem?_getD, List.getElem?_eq_getElem (by omega)]; simp
theorem cnt_join {n : Nat} {p : List Nat} (h : Gd n p) {a b : Nat} (ha : a < n) (hb : b < n) :
    (p.getD a 0 = p.getD b 0 → cntP (joinP p a b) = cntP p) ∧ (p.getD a 0 ≠ p.getD b 0 → cntP p = cntP (joinP p a b) + 1) := by
  obtain ⟨g, hv⟩ := h.join ha hb
  have hl := g.len
  have ga : p[a]? = some (p.getD a 0) := by rw [List.getD_eq_getElem?_getD, List.getElem?_eq_getElem (by rw [h.len]; exact ha)]; rfl
  have gb : p[b]? = some (p.getD b 0) := by rw [List.getD_eq_getElem?_getD, List.getElem?_eq_getElem (by rw [h.len]; exact hb)]; rfl
  have la := h.lo _ _ ga
  have lb := h.lo _ _ gb
  have na : p.getD (p.getD a 0) 0 = p.getD a 0 := gd (h.nm _ _ ga)
  have nb : p.getD (p.getD b 0) 0 = p.getD b 0 := gd (h.nm _ _ gb)
  generalize p.getD a 0 = x at *
  generalize p.getD b 0 = y at *
  unfold cntP
  rw [hl, h.len]
  constructor
  · intro e
    subst e
    rw [Nat.min_self, Nat.max_self] at hv
    refine List.countP_congr (fun i hi => ?_)
    rw [List.mem_range] at hi
    rw [gd_at hl hi, gd_at h.len hi, hv i hi]
    by_cases c : p.getD i 0 = x
    · rw [if_pos c, c]
    · rw [if_neg c]
  · intro e
    have hmx : max x y < n := by omega
    have nM : p.getD (max x y) 0 = max x y := by
      rcases Nat.le_total x y with c | c
      · rw [Nat.max_eq_right c]; exact nb
      · rw [Nat.max_eq_left c]; exact na
    have nm : p.getD (min x y) 0 = min x y := by
      rcases Nat.le_total x y with c | c
      · rw [Nat.min_eq_left c]; exact na
      · rw [Nat.min_eq_right c]; exact nb
    have key := countP_one (f := fun i => decide (i < n) && (p[i]? == some i)) (g := fun i => decide (i < n) && ((joinP p a b)[i]? == some i)) (h := max x y) (l := List.range n)
      (by rw [decide_eq_true hmx, gd_at h.len hmx, nM]; simp)
      (by rw [decide_eq_true hmx, gd_at hl hmx, hv _ hmx, nM, if_pos rfl]; simp; omega)
      (fun i hi => by
        by_cases hn : i < n
        · rw [gd_at hl hn, gd_at h.len hn, hv i hn]
          by_cases c : p.getD i 0 = max x y
          · rw [if_pos c, c]
            have e1 : min x y ≠ i := fun e => by rw [← e, nm] at c; omega
            have e2 : max x y ≠ i := fun e => hi e.symm
            rw [beq_eq_false_iff_ne.2 e1, beq_eq_false_iff_ne.2 e2]
          · rw [if_neg c]
        · rw [decide_eq_false hn]; rfl)
      List.nodup_range (List.mem_range.2 hmx)
    have strip : ∀ q : List Nat, (List.range n).countP (fun i => decide (i < n) && (q[i]? == some i)) = (List.range n).countP (fun i => q[i]? == some i) := fun q => List.countP_congr (fun i hi => by rw [List.mem_range] at hi; simp [hi])
    rw [strip, strip] at key
    exact key
theorem without_more {n : Nat} {X : List Ed} (h : ∀ e ∈ X, e.1 < n ∧ e.2 < n) {i : Nat} (hi : i < X.length) : decide (cntP (foldP n X) < cntP (foldP n (X.take i ++ X.drop (i + 1)))) = isB n X i := by
  have hX : X[i]? = some X[i] := List.getElem?_eq_getElem hi
  generalize X[i] = e at hX
  have hl := h _ (List.mem_of_getElem? hX)
  have hw := without_lt h i
  have he : foldP n X = foldP n (X.take i ++ X.drop (i + 1) ++ [e]) := by
    refine foldP_eq h (fun e' he' => ?_) (fun e' he' => ⟨e', ?_, rfl⟩) (fun e' he' => ⟨e', ?_, rfl⟩)
    · rcases List.mem_append.1 he' with h1 | h1
      · exact hw e' h1
      · rw [List.mem_singleton] at h1; subst h1; exact hl
    · obtain ⟨k, hk⟩ := List.getElem?_of_mem he'
      by_cases c : k = i
      · subst c; rw [hX] at hk; injection hk with hk; subst hk; exact List.mem_append_right _ (List.mem_singleton.2 rfl)
      · refine List.mem_append_left _ (List.mem_of_getElem? (i := if k < i then k else k - 1) ?_)
        rw [without_get X i _ hi]
        by_cases c2 : k < i
        · rw [if_pos c2, if_pos c2]; exact hk
        · rw [if_neg c2, if_neg (by omega), show k - 1 + 1 = k from by omega]; exact hk
    · rcases List.mem_append.1 he' with h1 | h1
      · rcases List.mem_append.1 h1 with h1 | h1
        · exact List.mem_of_mem_take h1
        · exact List.mem_of_mem_drop h1
      · rw [List.mem_singleton] at h1; subst h1; exact List.mem_of_getElem? hX
  have hfold : foldP n (X.take i ++ X.drop (i + 1) ++ [e]) = joinP (foldP n (X.take i ++ X.drop (i + 1))) e.1 e.2 := by unfold foldP; rw [List.foldl_append]; rfl
  obtain ⟨g, _⟩ := foldP_spec n _ hw
  obtain ⟨j1, j2⟩ := cnt_join g hl.1 hl.2
  unfold isB
  rw [hX, he, hfold]
  dsimp only
  by_cases c : (foldP n (X.take i ++ X.drop (i + 1))).getD e.1 0 = (foldP n (X.take i ++ X.drop (i + 1))).getD e.2 0
  · rw [decide_eq_false (show ¬ _ ≠ _ from fun hh => hh c), decide_eq_false (by rw [j1 c]; omega)]
  · rw [decide_eq_true (show _ ≠ _ from c), decide_eq_true (by rw [j2 c]; omega)]
theorem refB_contains (n : Nat) (X : List Ed) {i : Nat} (hi : i < X.length) : (refB n X).contains i = isB n X i := by
  rw [Bool.eq_iff_iff, List.contains_iff_mem]
  unfold refB
  rw [List.mem_filter, List.mem_range]
  exact ⟨fun h => h.2, fun h => ⟨hi, h⟩⟩
end Go.Proofs.Ytihcaemheknjbaa
