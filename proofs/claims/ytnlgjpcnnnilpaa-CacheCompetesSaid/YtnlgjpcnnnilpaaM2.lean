/- The tree of sums: plain law, for at most 200 places. -/
import Derived.Test.YtnlgjpcnnnilpaaC6
namespace Go.Proofs.Ytnlgjpcnnnilpaa
def low : Nat → Nat → Nat
  | 0, _ => 1
  | k + 1, i => bif Nat.beq (i % 2) 1 then 1 else 2 * low k (i / 2)
/-- The greatest power of two that divides i. -/
def lw (i : Nat) : Nat := low 8 i
def allB (f : Nat → Bool) : Nat → Bool
  | 0 => true
  | n + 1 => f n && allB f n
theorem allB_get {f : Nat → Bool} : ∀ {n : Nat}, allB f n = true → ∀ i, i < n → f i = true
  | 0, _, i, hi => by omega
  | n + 1, h, i, hi => by
    rw [allB, Bool.and_eq_true] at h
    by_cases e : i = n
    · subst e; exact h.1
    · exact allB_get h.2 i (by omega)
def chk2 (t lt j : Nat) : Bool := (fun lj => (!(Nat.blt t (j + lt) && Nat.blt j t) || Nat.ble (j + lj) t) && (!(Nat.blt t (j + lj + lt) && Nat.ble (j + lj) t) || Nat.blt t (j + lt))) (lw j)
def chk1 (t : Nat) : Bool := (fun lt => allB (fun j => chk2 t lt (j + 1)) t) (lw t)
theorem chk_all : allB (fun t => chk1 (t + 1)) 201 = true := by decide +kernel
theorem chk_pos : allB (fun t => Nat.blt 0 (lw (t + 1)) && Nat.ble (lw (t + 1)) (t + 1)) 201 = true := by decide +kernel
theorem lw_pos {i : Nat} (h0 : 1 ≤ i) (h1 : i ≤ 201) : 0 < lw i ∧ lw i ≤ i := by
  have h := allB_get chk_pos (i - 1) (by omega)
  rw [show i - 1 + 1 = i by omega, Bool.and_eq_true, Nat.blt_eq, Nat.ble_eq] at h
  exact h
/-- The node t holds what belongs to place j. -/
def Cov (t j : Nat) : Prop := t < j + lw t ∧ j ≤ t
instance (t j : Nat) : Decidable (Cov t j) := inferInstanceAs (Decidable (_ ∧ _))
theorem cov_step {t j : Nat} (ht : t ≤ 201) (hj : 1 ≤ j) (hne : t ≠ j) (hj2 : j ≤ 201) : Cov t j ↔ Cov t (j + lw j) := by
  have hp := lw_pos hj hj2
  by_cases hjt : j < t
  · have h := allB_get chk_all (t - 1) (by omega)
    rw [show t - 1 + 1 = t by omega] at h
    have h2 := allB_get h (j - 1) (by omega)
    simp only [chk2, show j - 1 + 1 = j by omega, Bool.and_eq_true, Bool.or_eq_true, Bool.not_eq_true', Bool.and_eq_false_iff] at h2
    obtain ⟨h3, h4⟩ := h2
    have e : ∀ a b : Nat, (Nat.blt a b = true ↔ a < b) := fun a b => by rw [Nat.blt_eq]
    have e' : ∀ a b : Nat, (Nat.blt a b = false ↔ ¬ a < b) := fun a b => by rw [← Bool.not_eq_true, Nat.blt_eq]
    have e2 : ∀ a b : Nat, (Nat.ble a b = true ↔ a ≤ b) := fun a b => by rw [Nat.ble_eq]
    have e2' : ∀ a b : Nat, (Nat.ble a b = false ↔ ¬ a ≤ b) := fun a b => by rw [← Bool.not_eq_true, Nat.ble_eq]
    rw [e', e', e2] at h3
    rw [e', e2', e] at h4
    unfold Cov
    omega
  · unfold Cov
    omega
def addS : Nat → List Int → Nat → Int → List Int
  | 0, sm, _, _ => sm
  | k + 1, sm, i, n => if i < sm.length then addS k (sm.set i (sm.getD i 0 + n)) (i + lw i) n else sm
def bef : Nat → List Int → Nat → Int
  | 0, _, _ => 0
  | k + 1, sm, i => if 0 < i then sm.getD i 0 + bef k sm (i - lw i) else 0
theorem addS_len : ∀ (k : Nat) (sm : List Int) (i : Nat) (n : Int), (addS k sm i n).length = sm.length
  | 0, _, _, _ => rfl
  | k + 1, sm, i, n => by
    rw [addS]
    split
    · rw [addS_len]; simp
    · rfl
theorem addS_get : ∀ (k : Nat) (sm : List Int) (i : Nat) (n : Int), sm.length ≤ 201 → 1 ≤ i → sm.length ≤ i + k → ∀ t, t < sm.length → (addS k sm i n).getD t 0 = sm.getD t 0 + if Cov t i then n else 0
  | 0, sm, i, n, _, _, hk, t, ht => by
    rw [addS, if_neg (by unfold Cov; omega)]; omega
  | k + 1, sm, i, n, hl, hi, hk, t, ht => by
    rw [addS]
    by_cases h : i < sm.length
    · rw [if_pos h]
      have hp := lw_pos hi (by omega)
      rw [addS_get k _ _ _ (by simpa using hl) (by omega) (by simp; omega) t (by simpa using ht)]
      by_cases e : t = i
      · subst e
        have c1 : Cov t t := ⟨by omega, Nat.le_refl _⟩
        have c2 : ¬ Cov t (t + lw t) := by unfold Cov; omega
        rw [if_pos c1, if_neg c2, List.getD_eq_getElem?_getD, List.getElem?_set_self h]
        simp
      · have hc := cov_step (t := t) (j := i) (by omega) hi e (by omega)
        rw [List.getD_eq_getElem?_getD, List.getElem?_set_ne (fun h => e h.symm), ← List.getD_eq_getElem?_getD]
        by_cases c : Cov t i
        · rw [if_pos c, if_pos (hc.1 c)]
        · rw [if_neg c, if_neg (fun h => c (hc.2 h))]
    · rw [if_neg h, if_neg (by unfold Cov; omega)]; omega
/-- What stands before x, behind an addition at place i. -/
theorem bef_add {sm : List Int} {i : Nat} (n : Int) (hl : sm.length ≤ 201) (hi : 1 ≤ i) {k : Nat} (hk : sm.length ≤ i + k) : ∀ (q x : Nat), x ≤ q → x < sm.length → bef q (addS k sm i n) x = bef q sm x + if i ≤ x then n else 0
  | 0, x, hq, hx => by
    simp only [bef]
    rw [if_neg (by omega)]; rfl
  | q + 1, x, hq, hx => by
    rw [bef, bef]
    by_cases h0 : 0 < x
    · have hp := lw_pos (i := x) (by omega) (by omega)
      rw [if_pos h0, if_pos h0, bef_add n hl hi hk q (x - lw x) (by omega) (by omega), addS_get k sm i n hl hi hk x hx]
      have cv : Cov x i ↔ (¬ i ≤ x - lw x ∧ i ≤ x) := by unfold Cov; omega
      by_cases c1 : i ≤ x
      · by_cases c2 : i ≤ x - lw x
        · rw [if_neg (show ¬ Cov x i by rw [cv]; omega), if_pos c2, if_pos c1]; omega
        · rw [if_pos (show Cov x i by rw [cv]; omega), if_neg c2, if_pos c1]; omega
      · rw [if_neg (show ¬ Cov x i by rw [cv]; omega), if_neg (show ¬ i ≤ x - lw x by omega), if_neg c1]; omega
    · rw [if_neg h0, if_neg h0, if_neg (by omega)]; rfl
theorem bef_zero : ∀ (q n x : Nat), bef q (List.replicate n 0) x = 0
  | 0, _, _ => rfl
  | q + 1, n, x => by
    rw [bef]
    split
    · have : (List.replicate n (0 : Int)).getD x 0 = 0 := by
        rw [List.getD_eq_getElem?_getD, List.getElem?_replicate]; split <;> rfl
      rw [bef_zero, this]; rfl
    · rfl
end Go.Proofs.Ytnlgjpcnnnilpaa
