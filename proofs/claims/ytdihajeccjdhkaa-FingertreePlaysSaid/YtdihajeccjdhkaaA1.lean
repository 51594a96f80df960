/- Balanced trees: the plain law. -/
namespace Go.Proofs.Ytdihajeccjdhkaa
inductive Tr where
  | nil
  | nd (l : Tr) (x : Int) (r : Tr)
namespace Tr
def list : Tr → List Int
  | nil => []
  | nd l x r => l.list ++ x :: r.list
def ht : Tr → Nat
  | nil => 0
  | nd l _ r => 1 + max l.ht r.ht
def len (t : Tr) : Nat := t.list.length
def sum (t : Tr) : Int := t.list.sum
def isNil : Tr → Bool
  | nil => true
  | nd _ _ _ => false
/-- The greatest sum of a beginning that is not empty. -/
def best : Tr → Int
  | nil => 0
  | nd l x r =>
    let b0 := l.sum + x
    let b1 := if l.isNil then b0 else max b0 l.best
    if r.isNil then b1 else max b1 (l.sum + x + r.best)
theorem best_nd (l : Tr) (x : Int) (r : Tr) : (nd l x r).best = if r.isNil then (if l.isNil then l.sum + x else max (l.sum + x) l.best) else max (if l.isNil then l.sum + x else max (l.sum + x) l.best) (l.sum + x + r.best) := rfl
def Avl : Tr → Prop
  | nil => True
  | nd l _ r => l.Avl ∧ r.Avl ∧ l.ht ≤ r.ht + 1 ∧ r.ht ≤ l.ht + 1
theorem len_nil : nil.len = 0 := rfl
theorem len_nd (l : Tr) (x : Int) (r : Tr) : (nd l x r).len = l.len + 1 + r.len := by simp [len, list]; omega
theorem sum_nil : nil.sum = 0 := rfl
theorem sum_nd (l : Tr) (x : Int) (r : Tr) : (nd l x r).sum = l.sum + x + r.sum := by simp [sum, list, Int.add_assoc]
theorem ht_le_len : ∀ t : Tr, t.ht ≤ t.len
  | nil => Nat.le_refl _
  | nd l x r => by
    have := ht_le_len l
    have := ht_le_len r
    rw [len_nd]; simp only [ht]; omega
theorem len_pos_of_nd (l : Tr) (x : Int) (r : Tr) : 0 < (nd l x r).len := by rw [len_nd]; omega
theorem isNil_nd (l : Tr) (x : Int) (r : Tr) : (nd l x r).isNil = false := rfl
theorem isNil_iff (t : Tr) : t.isNil = true ↔ t = nil := by cases t <;> simp [isNil]
theorem nil_of_len {t : Tr} (h : t.len = 0) : t = nil := by
  cases t with
  | nil => rfl
  | nd l x r => rw [len_nd] at h; omega
theorem nil_of_ht {t : Tr} (h : t.ht = 0) : t = nil := by
  cases t with
  | nil => rfl
  | nd l x r => simp only [ht] at h; omega
/-- All elements are small. -/
def Small (l : List Int) : Prop := ∀ x ∈ l, -1048576 ≤ x ∧ x ≤ 1048576
end Tr
theorem Small.sum {l : List Int} (h : Tr.Small l) : -(1048576 * (l.length : Int)) ≤ l.sum ∧ l.sum ≤ 1048576 * (l.length : Int) := by
  induction l with
  | nil => simp
  | cons x l ih =>
    have h1 := ih (fun y hy => h y (List.mem_cons_of_mem _ hy))
    have h2 := h x (List.mem_cons_self ..)
    simp only [List.sum_cons, List.length_cons]
    omega
theorem Small.app {a b : List Int} : Tr.Small (a ++ b) ↔ Tr.Small a ∧ Tr.Small b := by
  unfold Tr.Small
  constructor
  · intro h; exact ⟨fun x hx => h x (List.mem_append_left _ hx), fun x hx => h x (List.mem_append_right _ hx)⟩
  · rintro ⟨h1, h2⟩ x hx
    rcases List.mem_append.1 hx with h | h
    · exact h1 x h
    · exact h2 x h
theorem Small.cons {x : Int} {b : List Int} : Tr.Small (x :: b) ↔ (-1048576 ≤ x ∧ x ≤ 1048576) ∧ Tr.Small b := by
  unfold Tr.Small; simp
/-- A tree whose numbers fit. -/
structure Fit (t : Tr) : Prop where
  small : Tr.Small t.list
  len : t.len ≤ 100000
theorem Fit.sumB {t : Tr} (h : Fit t) : -104857600000 ≤ t.sum ∧ t.sum ≤ 104857600000 := by
  have h1 := Small.sum h.small
  have h2 := h.len
  unfold Tr.len at h2
  unfold Tr.sum
  omega
theorem Fit.nd {l : Tr} {x : Int} {r : Tr} (h : Fit (.nd l x r)) : Fit l ∧ (-1048576 ≤ x ∧ x ≤ 1048576) ∧ Fit r := by
  have h1 := h.small
  have h2 := h.len
  rw [Tr.len_nd] at h2
  unfold Tr.list at h1
  rw [Small.app, Small.cons] at h1
  exact ⟨⟨h1.1, by omega⟩, h1.2.1, ⟨h1.2.2, by omega⟩⟩
theorem Fit.nil : Fit .nil := ⟨by intro x hx; simp [Tr.list] at hx, by simp [Tr.len_nil]⟩
/-- Beginnings. -/
def preS (l : List Int) (i : Nat) : Int := (l.take i).sum
theorem Fit.bestB : ∀ {t : Tr}, Fit t → -104857600000 ≤ t.best ∧ t.best ≤ 104857600000 := by
  intro t h
  suffices H : ∀ t : Tr, Tr.Small t.list → -(1048576 * (t.len : Int)) ≤ t.best ∧ t.best ≤ 1048576 * (t.len : Int) by
    have h1 := H t h.small
    have h2 := h.len
    omega
  intro t
  induction t with
  | nil => intro _; simp [Tr.best, Tr.len_nil]
  | nd l x r ihl ihr =>
    intro hs
    have hs' := hs
    unfold Tr.list at hs'
    rw [Small.app, Small.cons] at hs'
    have h1 := ihl hs'.1
    have h2 := ihr hs'.2.2
    have h3 := Small.sum hs'.1
    have h5 := hs'.2.1
    have e : (l.list.length : Int) = (l.len : Int) := rfl
    have e2 : l.list.sum = l.sum := rfl
    rw [e, e2] at h3
    rw [Tr.len_nd]
    rw [Tr.best_nd]
    split <;> split <;> omega
/-- Of two trees whose heights differ by at most 1. -/
theorem avl_nd {l r : Tr} (x : Int) (hl : l.Avl) (hr : r.Avl) (h1 : l.ht ≤ r.ht + 1) (h2 : r.ht ≤ l.ht + 1) : (Tr.nd l x r).Avl := ⟨hl, hr, h1, h2⟩
theorem avl_len : ∀ t : Tr, t.Avl → 2 ^ ((t.ht + 1) / 2) ≤ t.len + 1
  | .nil, _ => by simp [Tr.ht, Tr.len_nil]
  | .nd l x r, h => by
    obtain ⟨hl, hr, h1, h2⟩ := h
    have i1 := avl_len l hl
    have i2 := avl_len r hr
    rw [Tr.len_nd]
    simp only [Tr.ht]
    by_cases h0 : max l.ht r.ht = 0
    · rw [h0]; simp; omega
    · have m1 : max l.ht r.ht - 1 ≤ l.ht := by omega
      have m2 : max l.ht r.ht - 1 ≤ r.ht := by omega
      have e : (1 + max l.ht r.ht + 1) / 2 = (max l.ht r.ht - 1 + 1) / 2 + 1 := by omega
      have p1 : 2 ^ ((max l.ht r.ht - 1 + 1) / 2) ≤ 2 ^ ((l.ht + 1) / 2) := Nat.pow_le_pow_right (by decide) (by omega)
      have p2 : 2 ^ ((max l.ht r.ht - 1 + 1) / 2) ≤ 2 ^ ((r.ht + 1) / 2) := Nat.pow_le_pow_right (by decide) (by omega)
      rw [e, Nat.pow_succ]
      omega
/-- The height of the tree of a list with n elements. -/
def hof (n : Nat) : Nat := if h : n = 0 then 0 else 1 + hof (n / 2)
termination_by n
theorem hof_0 : hof 0 = 0 := by unfold hof; rfl
theorem hof_pos {n : Nat} (h : n ≠ 0) : hof n = 1 + hof (n / 2) := by rw [hof]; simp [h]
theorem hof_succ (n : Nat) : hof n ≤ hof (n + 1) ∧ hof (n + 1) ≤ hof n + 1 := by
  induction n using Nat.strongRecOn with
  | ind n ih =>
    by_cases h0 : n = 0
    · subst h0
      rw [hof_0, hof_pos (n := 0 + 1) (by omega), show (0 + 1) / 2 = 0 by omega, hof_0]
      omega
    · rw [hof_pos h0, hof_pos (n := n + 1) (by omega)]
      rcases Nat.mod_two_eq_zero_or_one n with h | h
      · rw [show (n + 1) / 2 = n / 2 by omega]; omega
      · rw [show (n + 1) / 2 = n / 2 + 1 by omega]
        have := ih (n / 2) (by omega)
        omega
theorem hof_halves (n : Nat) (h : n ≠ 0) : hof (n - (n / 2 + 1)) ≤ hof (n / 2) + 1 ∧ hof (n / 2) ≤ hof (n - (n / 2 + 1)) + 1 ∧ 1 + max (hof (n / 2)) (hof (n - (n / 2 + 1))) = hof n := by
  rw [hof_pos h]
  rcases Nat.mod_two_eq_zero_or_one n with h2 | h2
  · have e : n / 2 = (n - (n / 2 + 1)) + 1 := by omega
    have := hof_succ (n - (n / 2 + 1))
    rw [← e] at this
    omega
  · have e : n - (n / 2 + 1) = n / 2 := by omega
    rw [e]; omega
/-- The greatest number L with 2^L at most n. -/
def lg (n : Nat) : Nat := if h : n ≤ 1 then 0 else 1 + lg (n / 2)
termination_by n
theorem lg_lt (n : Nat) : n < 2 ^ (lg n + 1) := by
  induction n using Nat.strongRecOn with
  | ind n ih =>
    rw [lg]
    split
    · simp; omega
    · have := ih (n / 2) (by omega)
      rw [Nat.add_comm 1, Nat.pow_succ]
      omega
theorem depth_ok {t : Tr} (h : t.Avl) : t.ht ≤ 2 * lg t.len + 2 := by
  have h1 := avl_len t h
  have h2 := lg_lt t.len
  rcases Nat.lt_or_ge (2 * lg t.len + 2) t.ht with h3 | h3
  · exfalso
    have h4 : lg t.len + 2 ≤ (t.ht + 1) / 2 := by omega
    have h5 : 2 ^ (lg t.len + 2) ≤ 2 ^ ((t.ht + 1) / 2) := Nat.pow_le_pow_right (by decide) h4
    have h6 : 2 ^ (lg t.len + 2) = 2 ^ (lg t.len + 1) * 2 := by rw [Nat.pow_succ]
    have h7 : 0 < 2 ^ (lg t.len + 1) := Nat.pow_pos (by decide)
    omega
  · exact h3
/-- The first beginning with at least a sum. -/
def fg : List Int → Int → Option Nat
  | [], s => if s ≤ 0 then some 0 else none
  | x :: l, s => if s ≤ 0 then some 0 else (fg l (s - x)).map (· + 1)
theorem fg_le (l : List Int) {s : Int} (h : s ≤ 0) : fg l s = some 0 := by cases l <;> simp [fg, h]
theorem fg_nil {s : Int} (h : 0 < s) : fg [] s = none := by simp [fg]; omega
theorem fg_cons (x : Int) (l : List Int) {s : Int} (h : 0 < s) : fg (x :: l) s = (fg l (s - x)).map (· + 1) := by
  rw [fg, if_neg (by omega)]
theorem fg_append_some {a : List Int} {s : Int} {i : Nat} (b : List Int) (h : fg a s = some i) : fg (a ++ b) s = some i := by
  induction a generalizing s i with
  | nil =>
    simp only [fg] at h
    split at h
    · injection h with h; subst h; exact fg_le _ (by assumption)
    · cases h
  | cons x a ih =>
    by_cases hs : s ≤ 0
    · rw [fg_le _ hs] at h; rw [fg_le _ hs]; exact h
    · rw [fg_cons _ _ (by omega)] at h
      rw [List.cons_append, fg_cons _ _ (by omega)]
      cases h1 : fg a (s - x) with
      | none => rw [h1] at h; cases h
      | some j => rw [h1] at h; rw [ih h1]; exact h
theorem fg_append_none {a : List Int} {s : Int} (b : List Int) (h : fg a s = none) : fg (a ++ b) s = (fg b (s - a.sum)).map (· + a.length) := by
  induction a generalizing s with
  | nil => simp
  | cons x a ih =>
    by_cases hs : s ≤ 0
    · rw [fg_le _ hs] at h; cases h
    · rw [fg_cons _ _ (by omega)] at h
      rw [List.cons_append, fg_cons _ _ (by omega)]
      cases h1 : fg a (s - x) with
      | some j => rw [h1] at h; cases h
      | none =>
        rw [ih h1, List.sum_cons, show s - x - a.sum = s - (x + a.sum) by omega, Option.map_map, List.length_cons]
        congr 1
theorem fg_best : ∀ (t : Tr) (s : Int), 0 < s → ((fg t.list s).isSome = true ↔ t.isNil = false ∧ s ≤ t.best)
  | .nil, s, h => by simp [Tr.list, fg_nil h, Tr.isNil]
  | .nd l x r, s, h => by
    have il := fg_best l s h
    unfold Tr.list
    cases h1 : fg l.list s with
    | some i =>
      rw [fg_append_some _ h1]
      rw [h1] at il
      have := il.1 rfl
      simp only [Option.isSome_some, Tr.isNil_nd, true_and, true_iff]
      rw [Tr.best_nd, this.1]
      have := this.2
      cases hr : r.isNil <;> simp only [if_true, if_false, Bool.false_eq_true] <;> omega
    | none =>
      rw [fg_append_none _ h1]
      rw [h1] at il
      have il' : ¬ (l.isNil = false ∧ s ≤ l.best) := fun hh => by have := il.2 hh; simp at this
      have e : s - l.list.sum = s - l.sum := rfl
      rw [e, Option.isSome_map]
      by_cases h2 : s - l.sum ≤ 0
      · exfalso
        have key : ∀ (l : List Int) (s : Int), s ≤ l.sum → (fg l s).isSome = true := by
          intro l
          induction l with
          | nil => intro s hs; simp at hs; simp [fg, hs]
          | cons y l ih =>
            intro s hs
            by_cases h0 : s ≤ 0
            · rw [fg_le _ h0]; rfl
            · rw [fg_cons _ _ (by omega), Option.isSome_map]
              rw [List.sum_cons] at hs
              exact ih _ (by omega)
        have h3 := key l.list s (by have : l.list.sum = l.sum := rfl; omega)
        rw [h1] at h3
        cases h3
      · rw [fg_cons _ _ (by omega), Option.isSome_map]
        by_cases h3 : s - l.sum - x ≤ 0
        · rw [fg_le _ h3]
          simp only [Option.isSome_some, Tr.isNil_nd, true_and, true_iff]
          rw [Tr.best_nd]
          cases l.isNil <;> cases r.isNil <;> simp only [if_true, if_false, Bool.false_eq_true] <;> omega
        · have ir := fg_best r (s - l.sum - x) (by omega)
          rw [ir, Tr.best_nd]
          simp only [Tr.isNil_nd, true_and]
          cases hl : l.isNil with
          | true =>
            cases hr : r.isNil with
            | true => simp; omega
            | false => simp; omega
          | false =>
            rw [hl] at il'
            have h9 : ¬ s ≤ l.best := fun h => il' ⟨rfl, h⟩
            cases hr : r.isNil with
            | true => simp; omega
            | false => simp; omega
end Go.Proofs.Ytdihajeccjdhkaa
