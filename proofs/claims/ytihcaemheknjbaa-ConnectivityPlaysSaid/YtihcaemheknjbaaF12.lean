/- The reference's edges: joins; the plain law of After. -/
import Derived.Test.YtihcaemheknjbaaF10
import Derived.Test.YtihcaemheknjbaaComAll
namespace Go.Proofs.Ytihcaemheknjbaa
open Go.RowKit
attribute [local go_sem ↓] Go.wp_at_zero Go.wp_at_succ
def jn (x y a b : Int) : Bool := ((x == a) && (y == b)) || ((x == b) && (y == a))
set_option maxHeartbeats 1000000 in
theorem joins_any (x y a b : Int) (w : World) : Calls Try.prog 46 #[.agg #[.int .i64 x, .int .i64 y], .int .i64 a, .int .i64 b] w fun e w' => e = .returned (.bool (jn x y a b)) ∧ Fr F0 w w' := by
  have F1 : Hid (Fr F0 w (w.alloc (.cells #[.int .i64 x, .int .i64 y] 62))) := Lib.hid ((Fr.refl _ _).alloc _)
  cases h1 : (x == a) with
  | true =>
    cases h2 : (y == b) with
    | true =>
      have E : Hid (jn x y a b = true) := Lib.hid (by unfold jn; rw [h1, h2]; rfl)
      go_enter Try.func46, Try.ntmps46
      go_wp2_with fail
      go_ret
      exact ⟨ret_bool E.out.symm, F1.out⟩
    | false =>
      cases h3 : (x == b) with
      | true =>
        have E : Hid (jn x y a b = (y == a)) := Lib.hid (by unfold jn; rw [h1, h2, h3]; rfl)
        go_enter Try.func46, Try.ntmps46
        go_wp2_with fail
        go_ret
        exact ⟨ret_bool E.out.symm, F1.out⟩
      | false =>
        have E : Hid (jn x y a b = false) := Lib.hid (by unfold jn; rw [h1, h2, h3]; rfl)
        go_enter Try.func46, Try.ntmps46
        go_wp2_with fail
        go_ret
        exact ⟨ret_bool E.out.symm, F1.out⟩
  | false =>
    cases h3 : (x == b) with
    | true =>
      have E : Hid (jn x y a b = (y == a)) := Lib.hid (by unfold jn; rw [h1, h3]; rfl)
      go_enter Try.func46, Try.ntmps46
      go_wp2_with fail
      go_ret
      exact ⟨ret_bool E.out.symm, F1.out⟩
    | false =>
      have E : Hid (jn x y a b = false) := Lib.hid (by unfold jn; rw [h1, h3]; rfl)
      go_enter Try.func46, Try.ntmps46
      go_wp2_with fail
      go_ret
      exact ⟨ret_bool E.out.symm, F1.out⟩
/-- An edge. -/
abbrev Ed := Nat × Nat
def ed2 (e : Ed) : List Value := [.int .i64 (e.1 : Int), .int .i64 (e.2 : Int)]
def eds (l : List Ed) : List Value := l.flatMap ed2
theorem eds_len : ∀ l : List Ed, (eds l).length = l.length * 2
  | [] => rfl
  | x :: l => by
    have := eds_len l
    unfold eds at this ⊢
    rw [List.flatMap_cons, List.length_append, this, List.length_cons]; show 2 + _ = _; omega
theorem eds_app (l m : List Ed) : eds (l ++ m) = eds l ++ eds m := by unfold eds; simp
theorem ed2_one (e : Ed) : ∀ u ∈ ed2 e, u.oneCell' = true := by
  intro u hu
  simp [ed2] at hu
  rcases hu with rfl | rfl <;> rfl
theorem eds_one (l : List Ed) : ∀ u ∈ eds l, u.oneCell' = true := by
  intro u hu
  obtain ⟨e, _, he⟩ := List.mem_flatMap.1 hu
  exact ed2_one e u he
theorem eds_get : ∀ {l : List Ed} {i : Nat} {e : Ed}, l[i]? = some e → (eds l)[i * 2]? = some (.int .i64 (e.1 : Int)) ∧ (eds l)[i * 2 + 1]? = some (.int .i64 (e.2 : Int))
  | y :: l, 0, x, h => by simp at h; subst h; exact ⟨rfl, rfl⟩
  | y :: l, i + 1, x, h => by
    obtain ⟨h1, h2⟩ := eds_get (l := l) (i := i) (e := x) (by simpa using h)
    unfold eds at h1 h2 ⊢
    rw [List.flatMap_cons, List.getElem?_append_right (by show 2 ≤ _; omega), List.getElem?_append_right (by show 2 ≤ _; omega)]
    refine ⟨?_, ?_⟩
    · rw [← h1]; congr 1; show (i + 1) * 2 - 2 = _; omega
    · rw [← h2]; congr 1; show (i + 1) * 2 + 1 - 2 = _; omega
theorem eds_take (l : List Ed) (k : Nat) : (eds l).take (k * 2) = eds (l.take k) := by
  induction l generalizing k with
  | nil => cases k <;> rfl
  | cons x l ih =>
    cases k with
    | zero => rfl
    | succ k =>
      unfold eds at ih ⊢
      rw [List.take_succ_cons, List.flatMap_cons, List.flatMap_cons, ← ih k, show (k + 1) * 2 = k * 2 + 1 + 1 by omega]
      rfl
theorem eds_drop (l : List Ed) (k : Nat) : (eds l).drop (k * 2) = eds (l.drop k) := by
  induction l generalizing k with
  | nil => cases k <;> simp [eds]
  | cons x l ih =>
    cases k with
    | zero => rfl
    | succ k =>
      unfold eds at ih ⊢
      rw [List.drop_succ_cons, List.flatMap_cons, ← ih k, show (k + 1) * 2 = k * 2 + 1 + 1 by omega]
      rfl
/-- The edge joins the ends of the event. -/
def jE (x : Ev) (e : Ed) : Bool := jn (e.1 : Int) (e.2 : Int) x.2.1 x.2.2
/-- The last place of such an edge among the first k, and -1. -/
def atK (x : Ev) (E : List Ed) : Nat → Int
  | 0 => -1
  | k + 1 => match E[k]? with
    | some e => if jE x e then (k : Int) else atK x E k
    | none => atK x E k
def atE (x : Ev) (E : List Ed) : Int := atK x E E.length
/-- The edges after an event. -/
def aft (n : Nat) (E : List Ed) (x : Ev) : Option (List Ed) :=
  if okE n x then
    if x.1 = 1 then (if x.2.1 = x.2.2 ∨ 0 ≤ atE x E then none else some (E ++ [(x.2.1.toNat, x.2.2.toNat)]))
    else if x.1 = 2 then (if atE x E < 0 then none else some (E.take (atE x E).toNat ++ E.drop ((atE x E).toNat + 1)))
    else if x.1 = 3 then some E else none
  else none
theorem atK_bd (x : Ev) (E : List Ed) : ∀ k, -1 ≤ atK x E k ∧ atK x E k < k
  | 0 => by simp [atK]
  | k + 1 => by
    have := atK_bd x E k
    unfold atK
    split
    · split <;> omega
    · omega
theorem aft_len {n : Nat} {E E' : List Ed} {x : Ev} (h : aft n E x = some E') : E'.length ≤ E.length + 1 := by
  unfold aft at h
  split at h
  · split at h
    · split at h
      · cases h
      · injection h with h; subst h; simp
    · split at h
      · split at h
        · cases h
        · injection h with h; subst h; rw [List.length_append, List.length_take, List.length_drop]; omega
      · split at h
        · injection h with h; subst h; omega
        · cases h
  · cases h
/-- The edges after events. -/
def refS (n : Nat) (l : List Ev) : Option (List Ed) := l.foldl (fun o x => o.bind (fun E => aft n E x)) (some [])
theorem refS_snoc (n : Nat) (l : List Ev) (x : Ev) : refS n (l ++ [x]) = (refS n l).bind (fun E => aft n E x) := by unfold refS; rw [List.foldl_append]; rfl
theorem refS_none {n : Nat} {l r : List Ev} (h : refS n l = none) : refS n (l ++ r) = none := by
  unfold refS at h ⊢
  rw [List.foldl_append, h]
  clear h
  induction r with
  | nil => rfl
  | cons x r ih => exact ih
theorem refS_len (n : Nat) : ∀ (l : List Ev) {E : List Ed}, refS n l = some E → E.length ≤ l.length := by
  refine snoc_ind ?_ ?_
  · intro E h; injection h with h; subst h; exact Nat.le_refl _
  · intro l x ih E h
    rw [refS_snoc] at h
    cases h1 : refS n l with
    | none => rw [h1] at h; cases h
    | some E0 =>
      rw [h1] at h
      have h2 := aft_len (show aft n E0 x = some E from h)
      have := ih h1
      simp; omega
end Go.Proofs.Ytihcaemheknjbaa
