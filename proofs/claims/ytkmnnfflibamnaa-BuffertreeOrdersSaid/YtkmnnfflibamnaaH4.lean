/- Buffer trees: what stays small (plain law). -/
import Derived.Test.YtkmnnfflibamnaaHs
import Derived.Test.YtkmnnfflibamnaaG13
namespace Go.Proofs.Ytkmnnfflibamnaa
def len1 (l : List (List En)) : Nat := (l.map List.length).sum
def totT (lv : Lv) : Nat := (lv.map len1).sum
theorem len1_app (a b : List (List En)) : len1 (a ++ b) = len1 a + len1 b := by unfold len1; rw [List.map_append, List.sum_append]
theorem totT_app (a b : Lv) : totT (a ++ b) = totT a + totT b := by unfold totT; rw [List.map_append, List.sum_append]
theorem totT_rep (n : Nat) : totT (List.replicate n []) = 0 := by
  induction n with
  | zero => rfl
  | succ n ih => rw [List.replicate_succ]; unfold totT at ih ⊢; rw [List.map_cons, List.sum_cons, ih]; rfl
theorem totT_set : ∀ (lv : Lv) (i : Nat) (x : List (List En)), i < lv.length → totT (lv.set i x) + len1 (lv.getD i []) = totT lv + len1 x
  | [], i, x, h => by simp at h
  | y :: lv, 0, x, _ => by unfold totT; rw [List.set_cons_zero, List.map_cons, List.map_cons, List.sum_cons, List.sum_cons]; show _ + len1 y = _; omega
  | y :: lv, i + 1, x, h => by
    have := totT_set lv i x (by simpa using h)
    unfold totT at this ⊢
    rw [List.set_cons_succ, List.map_cons, List.map_cons, List.sum_cons, List.sum_cons]
    show _ + len1 (lv.getD i []) = _
    omega
theorem totT_add (lv : Lv) (i : Nat) (r : List En) : totT (addL lv i r) = totT lv + r.length := by
  unfold addL
  have h := totT_set (padL lv (i + 1)) i (lv.getD i [] ++ [r]) (by rw [padL_len]; omega)
  rw [padL_getD, len1_app] at h
  have e : totT (padL lv (i + 1)) = totT lv := by unfold padL; rw [totT_app, totT_rep]; omega
  have e2 : len1 [r] = r.length := by unfold len1; simp
  omega
theorem len1_le {lv : Lv} {i : Nat} (h : i < lv.length) : len1 (lv.getD i []) ≤ totT lv := by
  have := totT_set lv i [] h
  have e : len1 ([] : List (List En)) = 0 := rfl
  omega
theorem runs_le {lv : Lv} {i : Nat} (h : i < lv.length) : (lv.getD i []).length ≤ runsN lv := by
  have := runsN_set lv i [] h
  simp only [List.length_nil] at this
  omega
theorem cnt_le {B : Nat} (hB : 1 ≤ B) (n : Nat) : cnt B n ≤ n := by
  unfold cnt
  rcases Nat.eq_zero_or_pos n with h | h
  · subst h; rw [Nat.div_eq_of_lt (by omega)]; exact Nat.le_refl _
  · refine Nat.div_le_of_le_mul ?_
    have h1 : B * n = B * (n - 1) + B := by rw [← Nat.mul_succ]; congr 1; omega
    have h2 : 1 * (n - 1) ≤ B * (n - 1) := Nat.mul_le_mul_right _ hB
    omega
theorem cnts_le {B : Nat} (hB : 1 ≤ B) (l : List (List En)) : cnts B l ≤ len1 l := by
  induction l with
  | nil => exact Nat.le_refl _
  | cons x l ih =>
    have := cnt_le hB x.length
    unfold cnts len1 at *
    rw [List.map_cons, List.map_cons, List.sum_cons, List.sum_cons]; omega
theorem flat_len (l : List (List En)) : l.flatten.length = len1 l := by
  induction l with
  | nil => rfl
  | cons x l ih => rw [List.flatten_cons, List.length_append, ih]; rfl
theorem len1_rev (l : List (List En)) : len1 l.reverse = len1 l := by unfold len1; rw [List.map_reverse, List.sum_reverse]
theorem jn_len (l : List (List En)) : (jn l).length ≤ len1 l := by
  unfold jn
  have := foldN_len l.reverse.flatten []
  rw [flat_len, len1_rev] at this
  simpa using this
theorem drp_len (l : List En) : (drp l).length ≤ l.length := List.length_filter_le _ _
theorem resT_len (lv : Lv) (i : Nat) : (resT lv i).length ≤ len1 (lv.getD i []) := by
  unfold resT
  have := jn_len (lv.getD i [])
  split
  · exact this
  · exact Nat.le_trans (drp_len _) this
/-- A tree that is small. -/
structure PI (t : TT) (a b c : Nat) : Prop where
  sd : ∀ l ∈ t.lv, ∀ r ∈ l, Sd r
  ne : ∀ l ∈ t.lv, ∀ r ∈ l, 0 < r.length
  tot : totT t.lv ≤ a
  len : t.lv.length + runsN t.lv ≤ b
  mv : t.mv + 800 * runsN t.lv ≤ c
theorem PI.mono {t : TT} {a b c a' b' c' : Nat} (h : PI t a b c) (ha : a ≤ a') (hb : b ≤ b') (hc : c ≤ c') : PI t a' b' c' := ⟨h.sd, h.ne, Nat.le_trans h.tot ha, Nat.le_trans h.len hb, Nat.le_trans h.mv hc⟩
theorem mem_getD {lv : Lv} {i : Nat} (h : i < lv.length) : lv.getD i [] ∈ lv := by rw [List.getD_eq_getElem?_getD, List.getElem?_eq_getElem h]; exact List.getElem_mem h
theorem mem_add {lv : Lv} {i : Nat} {r : List En} {l : List (List En)} (h : l ∈ addL lv i r) : ∀ x ∈ l, x = r ∨ ∃ l' ∈ lv, x ∈ l' := by
  intro x hx
  obtain ⟨j, hj⟩ := List.getElem?_of_mem h
  have e : (addL lv i r).getD j [] = l := by rw [List.getD_eq_getElem?_getD, hj]; rfl
  rw [addL_getD] at e
  have hin : ∀ j, x ∈ lv.getD j [] → ∃ l' ∈ lv, x ∈ l' := fun j hx => by
    by_cases c : j < lv.length
    · exact ⟨_, mem_getD c, hx⟩
    · rw [List.getD_eq_getElem?_getD, List.getElem?_eq_none (by omega)] at hx; cases hx
  split at e
  · subst e
    rcases List.mem_append.1 hx with hx | hx
    · exact .inr (hin i hx)
    · exact .inl (List.mem_singleton.1 hx)
  · subst e; exact .inr (hin j hx)
theorem PI.add {B : Nat} {t : TT} {a b c i : Nat} {r : List En} (h : PI t a b c) (hi : i ≤ t.lv.length) (hs : Sd r) (hr : 0 < r.length) : PI (addT B t i r) (a + r.length) (b + 2) (c + 800 + cnt B r.length) := by
  have h1 := h.tot; have h2 := h.len; have h3 := h.mv
  refine ⟨fun l hl x hx => ?_, fun l hl x hx => ?_, ?_, ?_, ?_⟩
  · rcases mem_add hl x hx with rfl | ⟨l', hl', hx'⟩
    · exact hs
    · exact h.sd l' hl' x hx'
  · rcases mem_add hl x hx with rfl | ⟨l', hl', hx'⟩
    · exact hr
    · exact h.ne l' hl' x hx'
  · show totT (addL t.lv i r) ≤ _; rw [totT_add]; omega
  · show (addL t.lv i r).length + runsN (addL t.lv i r) ≤ _; rw [addL_len, runsN_add]; omega
  · show t.mv + cnt B r.length + 800 * runsN (addL t.lv i r) ≤ _; rw [runsN_add]; omega
theorem PI.merge {B : Nat} {t : TT} {a b c i : Nat} (h : PI t a b c) (hB : 1 ≤ B) (ha : a ≤ 400) (hi : i < t.lv.length) (hF : 2 ≤ (t.lv.getD i []).length) : PI (mergeT B t i) a b c := by
  have h1 := h.tot; have h2 := h.len; have h3 := h.mv
  have e1 := totT_set t.lv i [] hi
  have e2 := runsN_set t.lv i [] hi
  have e3 := cnts_le hB (t.lv.getD i [])
  have e4 := resT_len t.lv i
  have e5 := len1_le hi
  have e6 : len1 ([] : List (List En)) = 0 := rfl
  simp only [List.length_nil] at e2
  have p1 : PI ⟨t.lv.set i [], t.mv + cnts B (t.lv.getD i [])⟩ (a - len1 (t.lv.getD i [])) (b - (t.lv.getD i []).length) (c + cnts B (t.lv.getD i []) - 800 * (t.lv.getD i []).length) := by
    refine ⟨fun l hl x hx => ?_, fun l hl x hx => ?_, ?_, ?_, ?_⟩
    · rcases List.mem_or_eq_of_mem_set hl with hl | rfl
      · exact h.sd l hl x hx
      · cases hx
    · rcases List.mem_or_eq_of_mem_set hl with hl | rfl
      · exact h.ne l hl x hx
      · cases hx
    · show totT (t.lv.set i []) ≤ _; omega
    · show (t.lv.set i []).length + runsN (t.lv.set i []) ≤ _; rw [List.length_set]; omega
    · show t.mv + _ + 800 * runsN (t.lv.set i []) ≤ _; omega
  unfold mergeT
  dsimp only
  split
  · exact p1.mono (by omega) (by omega) (by omega)
  · rename_i hne
    have p2 := p1.add (B := B) (i := i + 1) (r := resT t.lv i) (by dsimp only; rw [List.length_set]; omega) (resT_sd _ _) (by omega)
    have e7 := cnt_le hB (resT t.lv i).length
    exact p2.mono (by omega) (by omega) (by omega)
theorem PI.loop {B F : Nat} (hF : 2 ≤ F) (hB : 1 ≤ B) {a b c : Nat} (ha : a ≤ 400) : ∀ (n : Nat) {t : TT}, PI t a b c → PI (loopT B F n t) a b c
  | 0, t, h => h
  | n + 1, t, h => by
    unfold loopT
    cases hf : fullT F t.lv with
    | none => exact h
    | some i =>
      obtain ⟨h1, h2, _⟩ := fullT_some hf
      exact PI.loop hF hB ha n (h.merge hB ha h1 (by omega))
theorem PI.spill {B F : Nat} (hF : 2 ≤ F) (hB : 1 ≤ B) {t : TT} {a b c : Nat} {buf : List En} (h : PI t a b c) (hs : Sd buf) (h0 : 0 < buf.length) (ha : a + buf.length ≤ 400) : PI (spillT B F t buf) (a + buf.length) (b + 2) (c + 1200) := by
  have p := h.add (B := B) (i := 0) (Nat.zero_le _) hs h0
  have := cnt_le hB buf.length
  exact PI.loop hF hB ha _ (p.mono (Nat.le_refl _) (Nat.le_refl _) (by omega))
/-- Runs that have some entries each: few, or short. -/
theorem short_runs {l : List (List En)} {k : Nat} (hne : ∀ r ∈ l, 0 < r.length) (hk : len1 l ≤ k) (hk4 : k ≤ 400) : l.length ≤ 400 ∧ (∀ r ∈ l, r.length ≤ k + 1 - l.length) ∧ l.length * (k + 1 - l.length) ≤ 90000 := by
  have key : ∀ l : List (List En), (∀ r ∈ l, 0 < r.length) → l.length ≤ len1 l := fun l => by
    induction l with
    | nil => intro _; exact Nat.le_refl _
    | cons x l ih =>
      intro h
      have h1 := h x (List.mem_cons_self ..)
      have h2 := ih (fun r hr => h r (List.mem_cons_of_mem _ hr))
      unfold len1 at *
      rw [List.map_cons, List.sum_cons, List.length_cons]; omega
  have key2 : ∀ l : List (List En), (∀ r ∈ l, 0 < r.length) → ∀ r ∈ l, r.length + l.length ≤ len1 l + 1 := fun l => by
    induction l with
    | nil => intro _ r hr; cases hr
    | cons x l ih =>
      intro h r hr
      have h0 := key l (fun r hr => h r (List.mem_cons_of_mem _ hr))
      have h1 := h x (List.mem_cons_self ..)
      rcases List.mem_cons.1 hr with rfl | hr
      · unfold len1 at *
        rw [List.map_cons, List.sum_cons, List.length_cons]; omega
      · have h2 := ih (fun r hr => h r (List.mem_cons_of_mem _ hr)) r hr
        unfold len1 at *
        rw [List.map_cons, List.sum_cons, List.length_cons]; omega
  have h1 := key l hne
  refine ⟨by omega, fun r hr => by have := key2 l hne r hr; omega, ?_⟩
  rcases Nat.lt_or_ge l.length 200 with h | h
  · exact Nat.le_trans (Nat.mul_le_mul (Nat.le_of_lt h) (show k + 1 - l.length ≤ 401 by omega)) (by omega)
  · exact Nat.le_trans (Nat.mul_le_mul (show l.length ≤ 400 by omega) (show k + 1 - l.length ≤ 201 by omega)) (by omega)
end Go.Proofs.Ytkmnnfflibamnaa
