/- The Euler tour: plain law. -/
import Derived.Test.YtpmaoaogkjehcaaV4
namespace Go.Proofs.Ytpmaoaogkjehcaa
open Go.RowKit

/-- The children as numbers. -/
def kN (P : List Int) (n v : Nat) : List Nat := (List.range n).filter fun i => decide (P.getD i 0 = (v : Int))
theorem kids_kN (P : List Int) (n v : Nat) : kids P v n = (kN P n v).map Int.ofNat := by
  unfold kids kN
  induction (List.range n) with
  | nil => rfl
  | cons x l ih =>
    by_cases h : P.getD x 0 = (v : Int)
    · simp only [List.filterMap_cons, List.filter_cons, h, if_true, decide_true, List.map_cons, ih]; rfl
    · simp only [List.filterMap_cons, List.filter_cons, h, if_false, decide_false, ih]; simp
theorem mem_kN {P : List Int} {n v c : Nat} (h : c ∈ kN P n v) : c < n ∧ P.getD c 0 = (v : Int) := by
  simpa [kN] using h
theorem kN_gt {P : List Int} (hv : validB P = true) {v c : Nat} (h : c ∈ kN P P.length v) : v < c := by
  have ⟨h1, h2⟩ := mem_kN h
  have := valid_par hv h1
  omega
theorem kN_nodup (P : List Int) (n v : Nat) : (kN P n v).Nodup := List.Nodup.sublist List.filter_sublist List.nodup_range

def tourL (P : List Int) (n : Nat) : Nat → Nat → List Nat
  | 0, _ => []
  | f + 1, v => v :: ((kN P n v).flatMap (tourL P n f) ++ [v])
theorem flatMap_congr' {α β : Type} {f g : α → List β} {l : List α} (h : ∀ x ∈ l, f x = g x) : l.flatMap f = l.flatMap g := by
  induction l with
  | nil => rfl
  | cons x l ih => rw [List.flatMap_cons, List.flatMap_cons, h x (by simp), ih (fun y hy => h y (by simp [hy]))]
theorem tourL_fuel {P : List Int} (hv : validB P = true) : ∀ (f f' v : Nat), P.length ≤ v + f → P.length ≤ v + f' → v < P.length → tourL P P.length f v = tourL P P.length f' v := by
  intro f
  induction f with
  | zero => intro f' v h1 _ h3; omega
  | succ f ih =>
    intro f' v h1 h2 h3
    cases f' with
    | zero => omega
    | succ f' =>
      rw [tourL, tourL]
      rw [flatMap_congr' (fun c hc => ih f' c (by have := kN_gt hv hc; omega) (by have := kN_gt hv hc; omega) (mem_kN hc).1)]
def tour (P : List Int) (v : Nat) : List Nat := tourL P P.length (P.length - v) v
theorem tour_eq {P : List Int} (hv : validB P = true) {v : Nat} (h : v < P.length) : tour P v = v :: ((kN P P.length v).flatMap (tour P) ++ [v]) := by
  unfold tour
  obtain ⟨f, hf⟩ : ∃ f, P.length - v = f + 1 := ⟨P.length - v - 1, by omega⟩
  rw [hf, tourL]
  rw [flatMap_congr' (fun c hc => tourL_fuel hv f (P.length - c) c (by have := kN_gt hv hc; omega) (by have := (mem_kN hc).1; omega) (mem_kN hc).1)]

theorem chain_le {P : List Int} (hv : validB P = true) : ∀ (w : Nat), w < P.length → ∀ x ∈ chain P w, 0 ≤ x ∧ x ≤ (w : Int) := by
  intro w
  induction w using Nat.strongRecOn with
  | _ w ih =>
    intro hw x hx
    rw [chain_pos hv hw] at hx
    have hp := valid_par hv hw
    simp only [List.mem_cons] at hx
    rcases hx with rfl | hx
    · omega
    · by_cases h0 : w = 0
      · subst h0
        rw [chain_neg P (by omega)] at hx
        cases hx
      · obtain ⟨q, hq⟩ := Int.eq_ofNat_of_zero_le (hp.2.2 (by omega))
        rw [hq] at hx hp
        have := ih q (by omega) (by omega) x hx
        omega
theorem countP_or {α : Type} {p q : α → Bool} {l : List α} (h : ∀ x ∈ l, p x = true → q x = false) : l.countP (fun x => p x || q x) = l.countP p + l.countP q := by
  induction l with
  | nil => rfl
  | cons x l ih =>
    rw [List.countP_cons, List.countP_cons, List.countP_cons, ih (fun y hy => h y (by simp [hy]))]
    have := h x (by simp)
    cases hp : p x <;> cases hq : q x <;> simp [hp, hq] at this ⊢ <;> omega
theorem kN_count (P : List Int) (n v w : Nat) (hw : w < n) : (kN P n v).countP (fun c => decide (c = w)) = if P.getD w 0 = (v : Int) then 1 else 0 := by
  have e : (kN P n v).countP (fun c => decide (c = w)) = (kN P n v).count w := by
    unfold List.count
    apply List.countP_congr
    intro x _; simp
  rw [e]
  have h1 := List.nodup_iff_count.1 (kN_nodup P n v) w
  by_cases h : P.getD w 0 = (v : Int)
  · rw [if_pos h]
    have : w ∈ kN P n v := by simp only [kN, List.mem_filter, List.mem_range, decide_eq_true_eq]; exact ⟨hw, h⟩
    have := List.count_pos_iff.2 this
    omega
  · rw [if_neg h]
    exact List.count_eq_zero.2 (fun hm => h (mem_kN hm).2)
theorem kids_chain {P : List Int} (hv : validB P = true) (v : Nat) : ∀ w : Nat, w < P.length →
    (kN P P.length v).countP (fun (c : Nat) => decide ((c : Int) ∈ chain P w)) = if v ≠ w ∧ (v : Int) ∈ chain P w then 1 else 0 := by
  intro w
  induction w using Nat.strongRecOn with
  | _ w ih =>
    intro hw
    have hp := valid_par hv hw
    by_cases h0 : w = 0
    · subst h0
      have e : chain P ((0 : Nat) : Int) = [0] := by rw [chain_pos hv hw, (valid_len hv).2.2, chain_neg P (by omega)]; rfl
      rw [e, if_neg (by simp)]
      rw [List.countP_eq_zero]
      intro c hc
      have := kN_gt hv hc
      simp; omega
    · obtain ⟨q, hq⟩ := Int.eq_ofNat_of_zero_le (hp.2.2 (by omega))
      have e := chain_pos hv hw
      rw [hq] at e hp
      have ihq := ih q (by omega) (by omega)
      have hle := chain_le hv q (by omega)
      have e2 : (kN P P.length v).countP (fun (c : Nat) => decide ((c : Int) ∈ chain P w)) = (kN P P.length v).countP (fun c => decide (c = w) || decide ((c : Int) ∈ chain P q)) := by
        apply List.countP_congr
        intro c _
        rw [e]
        simp [List.mem_cons, Int.ofNat_inj]
      rw [e2, countP_or, ihq, kN_count P _ v w hw, hq, e]
      · have hqm : (q : Int) ∈ chain P q := by rw [chain_pos hv (by omega)]; simp
        by_cases hvq : v = q
        · subst hvq
          rw [if_pos rfl, if_neg (by simp), if_pos ⟨by omega, by simp [hqm]⟩]
        · rw [if_neg (by omega)]
          by_cases hvm : (v : Int) ∈ chain P q
          · have := hle _ hvm
            rw [if_pos ⟨hvq, hvm⟩, if_pos ⟨by omega, by simp [hvm]⟩]
          · rw [if_neg (by simp [hvm]), if_neg (by simp [hvm, Int.ofNat_inj])]
      · intro c _ hc
        simp at hc
        subst hc
        simp only [decide_eq_false_iff_not]
        intro hm
        have := hle _ hm
        omega
theorem sum_two (l : List Nat) (p : Nat → Bool) : (l.map fun c => if p c then 2 else 0).sum = 2 * l.countP p := by
  induction l with
  | nil => rfl
  | cons x l ih => rw [List.map_cons, List.sum_cons, ih, List.countP_cons]; split <;> omega
/-- How often a version is visited by the tour from v: twice, if v is its ancestor. -/
theorem tour_count {P : List Int} (hv : validB P = true) (w : Nat) (hw : w < P.length) : ∀ (m v : Nat), P.length ≤ v + m → v < P.length →
    (tour P v).count w = if (v : Int) ∈ chain P w then 2 else 0 := by
  intro m
  induction m with
  | zero => intro v h1 h2; omega
  | succ m ih =>
    intro v h1 h2
    rw [tour_eq hv h2, List.count_cons, List.count_append, List.count_flatMap]
    have e : (kN P P.length v).map (List.count w ∘ tour P) = (kN P P.length v).map (fun (c : Nat) => if decide ((c : Int) ∈ chain P w) then 2 else 0) := by
      apply List.map_congr_left
      intro c hc
      rw [Function.comp, ih c (by have := kN_gt hv hc; omega) (mem_kN hc).1]
      simp
    rw [e, sum_two, kids_chain hv v w hw]
    have hm : (w : Int) ∈ chain P w := by rw [chain_pos hv hw]; simp
    by_cases hvw : v = w
    · subst hvw
      rw [if_neg (by simp), if_pos hm]; simp
    · by_cases hc : (v : Int) ∈ chain P w
      · rw [if_pos ⟨hvw, hc⟩, if_pos hc]; simp [hvw]
      · rw [if_neg (by simp [hc]), if_neg hc]; simp [hvw]
theorem chain_root {P : List Int} (hv : validB P = true) : ∀ w : Nat, w < P.length → (0 : Int) ∈ chain P w := by
  intro w
  induction w using Nat.strongRecOn with
  | _ w ih =>
    intro hw
    have hp := valid_par hv hw
    rw [chain_pos hv hw]
    by_cases h0 : w = 0
    · subst h0; simp
    · obtain ⟨q, hq⟩ := Int.eq_ofNat_of_zero_le (hp.2.2 (by omega))
      rw [hq] at hp ⊢
      simp [ih q (by omega) (by omega)]
theorem tour_mem {P : List Int} (hv : validB P = true) : ∀ (m v : Nat), P.length ≤ v + m → v < P.length → ∀ x ∈ tour P v, x < P.length := by
  intro m
  induction m with
  | zero => intro v h1 h2; omega
  | succ m ih =>
    intro v h1 h2 x hx
    rw [tour_eq hv h2] at hx
    simp only [List.mem_cons, List.mem_append, List.mem_flatMap, List.not_mem_nil, or_false] at hx
    rcases hx with rfl | ⟨c, hc, hx⟩ | rfl
    · exact h2
    · exact ih c (by have := kN_gt hv hc; omega) (mem_kN hc).1 x hx
    · exact h2
theorem len_counts : ∀ (n : Nat) (l : List Nat), (∀ x ∈ l, x < n) → l.length = ((List.range n).map fun w => l.count w).sum := by
  intro n
  induction n with
  | zero =>
    intro l h
    cases l with
    | nil => rfl
    | cons x l => exact absurd (h x (by simp)) (by omega)
  | succ n ih =>
    intro l h
    have h2 := ih (l.filter (fun x => decide (x ≠ n))) (by
      intro x hx
      simp at hx
      have := h x hx.1
      omega)
    rw [List.range_succ, List.map_append, List.sum_append]
    have e1 : l.length = (l.filter (fun x => decide (x ≠ n))).length + l.count n := by
      clear h h2 ih
      induction l with
      | nil => rfl
      | cons x l ih =>
        rw [List.count_cons, List.filter_cons]
        by_cases hx : x = n
        · simp [hx]; simp at ih; omega
        · simp [hx]; simp at ih; omega
    have e2 : (List.range n).map (fun w => (l.filter (fun x => decide (x ≠ n))).count w) = (List.range n).map (fun w => l.count w) := by
      apply List.map_congr_left
      intro w hw
      simp at hw
      rw [List.count_filter (by simp; omega)]
    rw [e1, h2, e2]; simp
theorem sum_const (n k : Nat) (f : Nat → Nat) (h : ∀ w, w < n → f w = k) : ((List.range n).map f).sum = n * k := by
  induction n with
  | zero => simp
  | succ n ih => rw [List.range_succ, List.map_append, List.sum_append, ih (fun w hw => h w (by omega))]; simp [h n (by omega), Nat.succ_mul]
theorem tour_count0 {P : List Int} (hv : validB P = true) {w : Nat} (hw : w < P.length) : (tour P 0).count w = 2 := by
  rw [tour_count hv w hw P.length 0 (by omega) (by omega), if_pos (show ((0 : Nat) : Int) ∈ _ from chain_root hv w hw)]
theorem tour_count_le {P : List Int} (hv : validB P = true) (w : Nat) : (tour P 0).count w ≤ 2 := by
  by_cases hw : w < P.length
  · rw [tour_count0 hv hw]; omega
  · have := (valid_len hv).1
    rw [List.count_eq_zero.2 (fun hm => hw (tour_mem hv P.length 0 (by omega) (by omega) w hm))]; omega
theorem tour_len {P : List Int} (hv : validB P = true) : (tour P 0).length = P.length * 2 := by
  have := (valid_len hv).1
  rw [len_counts P.length _ (tour_mem hv P.length 0 (by omega) (by omega)), sum_const _ 2 _ (fun w hw => tour_count0 hv hw)]

end Go.Proofs.Ytpmaoaogkjehcaa
