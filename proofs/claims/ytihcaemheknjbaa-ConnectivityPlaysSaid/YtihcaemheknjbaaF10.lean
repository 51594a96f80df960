/- What events mean: the plain law of read. -/
import Derived.Test.YtihcaemheknjbaaF2
namespace Go.Proofs.Ytihcaemheknjbaa
open Go.RowKit
/-- An event: kind, ends. -/
abbrev Ev := Int × Int × Int
/-- An edge and its interval. -/
abbrev Iv := Nat × Nat × Nat × Nat
structure RS where
  i : Nat
  out : List Iv
  m : Nat → Nat → Option Nat
def okE (n : Nat) (x : Ev) : Bool := decide (0 ≤ x.2.1) && decide (x.2.1 < (n : Int)) && decide (0 ≤ x.2.2) && decide (x.2.2 < (n : Int))
def loE (x : Ev) : Nat := min x.2.1.toNat x.2.2.toNat
def hiE (x : Ev) : Nat := max x.2.1.toNat x.2.2.toNat
def setM (m : Nat → Nat → Option Nat) (a b : Nat) (v : Option Nat) : Nat → Nat → Option Nat := fun a' b' => if a' = a ∧ b' = b then v else m a' b'
/-- The interval ends. -/
def endI (out : List Iv) (j i : Nat) : List Iv := match out[j]? with
  | none => out
  | some (a, b, f, _) => out.set j (a, b, f, i)
def stq (n len : Nat) (s : RS) (x : Ev) : Option RS :=
  if okE n x then
    match s.m (loE x) (hiE x) with
    | none => if x.1 = 1 ∧ x.2.1 ≠ x.2.2 then some ⟨s.i + 1, s.out ++ [(loE x, hiE x, s.i, len)], setM s.m (loE x) (hiE x) (some s.out.length)⟩ else if x.1 = 3 then some ⟨s.i + 1, s.out, s.m⟩ else none
    | some j => if x.1 = 2 then some ⟨s.i + 1, endI s.out j s.i, setM s.m (loE x) (hiE x) none⟩ else if x.1 = 3 then some ⟨s.i + 1, s.out, s.m⟩ else none
  else none
def stp (n len : Nat) (o : Option RS) (x : Ev) : Option RS := o.bind (fun s => stq n len s x)
def rdS (n len : Nat) (l : List Ev) : Option RS := l.foldl (stp n len) (some ⟨0, [], fun _ _ => none⟩)
theorem rdS_nil (n len : Nat) : rdS n len [] = some ⟨0, [], fun _ _ => none⟩ := rfl
theorem rdS_snoc (n len : Nat) (l : List Ev) (x : Ev) : rdS n len (l ++ [x]) = (rdS n len l).bind (fun s => stq n len s x) := by unfold rdS; rw [List.foldl_append]; rfl
theorem foldl_none (n len : Nat) : ∀ l : List Ev, l.foldl (stp n len) none = none
  | [] => rfl
  | _ :: l => foldl_none n len l
theorem rdS_none {n len : Nat} {l r : List Ev} (h : rdS n len l = none) : rdS n len (l ++ r) = none := by
  unfold rdS at h ⊢
  rw [List.foldl_append, h]
  exact foldl_none n len r
theorem rdS_pre {n len : Nat} {l r : List Ev} {s : RS} (h : rdS n len (l ++ r) = some s) : ∃ s', rdS n len l = some s' := by
  cases h1 : rdS n len l with
  | none => rw [rdS_none h1] at h; cases h
  | some s' => exact ⟨s', rfl⟩
theorem endI_len (out : List Iv) (j i : Nat) : (endI out j i).length = out.length := by
  unfold endI
  split
  · rfl
  · rw [List.length_set]
theorem snoc_ind {α : Type} {P : List α → Prop} (h0 : P []) (h1 : ∀ l x, P l → P (l ++ [x])) (l : List α) : P l := by
  have key : ∀ r : List α, P r.reverse := by
    intro r
    induction r with
    | nil => exact h0
    | cons x r ih => rw [List.reverse_cons]; exact h1 _ _ ih
  have := key l.reverse
  rwa [List.reverse_reverse] at this
/-- What holds of the state. -/
structure RI (l : List Ev) (s : RS) : Prop where
  i : s.i = l.length
  lt : ∀ a b j, s.m a b = some j → j < s.out.length
  le : s.out.length ≤ l.length
theorem rdS_inv (n len : Nat) : ∀ (l : List Ev) {s : RS}, rdS n len l = some s → RI l s := by
  refine snoc_ind ?_ ?_
  · intro s h; injection h with h; subst h; exact ⟨rfl, fun _ _ _ h => (by cases h), Nat.le_refl _⟩
  · intro l x ih s h
    rw [rdS_snoc] at h
    cases h1 : rdS n len l with
    | none => rw [h1] at h; cases h
    | some s0 =>
      rw [h1] at h
      have I := ih h1
      have hl : (l ++ [x]).length = l.length + 1 := by simp
      change stq n len s0 x = some s at h
      unfold stq at h
      split at h
      · split at h
        · split at h
          · injection h with h; subst h
            refine ⟨by rw [hl, ← I.i], fun a b j hj => ?_, by rw [hl, List.length_append]; have := I.le; simp; omega⟩
            show j < (s0.out ++ [_]).length
            rw [List.length_append]
            change setM s0.m _ _ _ a b = some j at hj
            unfold setM at hj
            split at hj
            · injection hj with hj; subst hj; simp
            · have := I.lt a b j hj; omega
          · split at h
            · injection h with h; subst h
              exact ⟨by rw [hl, ← I.i], I.lt, by rw [hl]; exact Nat.le_succ_of_le I.le⟩
            · cases h
        · split at h
          · injection h with h; subst h
            refine ⟨by rw [hl, ← I.i], fun a b j hj => ?_, by rw [hl, endI_len]; have := I.le; omega⟩
            show j < (endI s0.out _ _).length
            rw [endI_len]
            change setM s0.m _ _ _ a b = some j at hj
            unfold setM at hj
            split at hj
            · cases hj
            · exact I.lt a b j hj
          · split at h
            · injection h with h; subst h
              exact ⟨by rw [hl, ← I.i], I.lt, by rw [hl]; exact Nat.le_succ_of_le I.le⟩
            · cases h
      · cases h
/-- The intervals of events; none if they are not valid. -/
def readS (n : Int) (l : List Ev) : Option (List Iv) := if 1 ≤ n ∧ n ≤ 1000 ∧ l.length ≤ 2000 then (rdS n.toNat l.length l).map RS.out else none
/-- The cells of intervals. -/
def iv4 (x : Iv) : List Value := [.int .i64 (x.1 : Int), .int .i64 (x.2.1 : Int), .int .i64 (x.2.2.1 : Int), .int .i64 (x.2.2.2 : Int)]
def ivs (l : List Iv) : List Value := l.flatMap iv4
theorem iv4_len (x : Iv) : (iv4 x).length = 4 := rfl
theorem ivs_len : ∀ l : List Iv, (ivs l).length = l.length * 4
  | [] => rfl
  | x :: l => by
    have := ivs_len l
    unfold ivs at this ⊢
    rw [List.flatMap_cons, List.length_append, this, iv4_len, List.length_cons]; omega
theorem ivs_snoc (l : List Iv) (x : Iv) : ivs (l ++ [x]) = ivs l ++ iv4 x := by unfold ivs; simp
theorem iv4_one (x : Iv) : ∀ u ∈ iv4 x, u.oneCell' = true := by
  intro u hu
  simp [iv4] at hu
  rcases hu with rfl | rfl | rfl | rfl <;> rfl
theorem ivs_get : ∀ {l : List Iv} {i : Nat} {x : Iv}, l[i]? = some x → ∀ j, j < 4 → (ivs l)[i * 4 + j]? = (iv4 x)[j]?
  | y :: l, 0, x, h, j, hj => by
    simp at h; subst h
    unfold ivs
    rw [List.flatMap_cons, List.getElem?_append_left (by rw [iv4_len]; omega), Nat.zero_mul, Nat.zero_add]
  | y :: l, i + 1, x, h, j, hj => by
    have ih := ivs_get (l := l) (i := i) (x := x) (by simpa using h) j hj
    unfold ivs at ih ⊢
    rw [List.flatMap_cons, List.getElem?_append_right (by rw [iv4_len]; omega), iv4_len, show (i + 1) * 4 + j - 4 = i * 4 + j by omega]
    exact ih
theorem ivs_set : ∀ {l : List Iv} {i t : Nat} {a b f t0 : Nat}, l[i]? = some (a, b, f, t0) → (ivs l).set (i * 4 + 3) (.int .i64 (t : Int)) = ivs (l.set i (a, b, f, t))
  | y :: l, 0, t, a, b, f, t0, h => by
    simp at h; subst h
    rfl
  | y :: l, i + 1, t, a, b, f, t0, h => by
    have ih := ivs_set (l := l) (i := i) (t := t) (by simpa using h)
    unfold ivs at ih ⊢
    rw [List.flatMap_cons, List.set_cons_succ, List.flatMap_cons, List.set_append_right _ _ (by rw [iv4_len]; omega), iv4_len, show (i + 1) * 4 + 3 - 4 = i * 4 + 3 by omega, ih]
end Go.Proofs.Ytihcaemheknjbaa
