/- Slices of items: rows of structs of three cells; closures on them. -/
import Derived.Test.YtdphademoeofkaaS21
import Derived.Maps.AppendAt
namespace Go.Proofs.Ytdphademoeofkaa
open Go.RowKit
/-- The cells of an item. -/
def It.cs (x : It) : List Value := [.int .i64 x.own, .int .i64 x.now, .bool x.inn]
def It.agg (x : It) : Value := .agg #[.int .i64 x.own, .int .i64 x.now, .bool x.inn]
def its (l : List It) : List Value := l.flatMap It.cs
theorem its_len (l : List It) : (its l).length = l.length * 3 := by
  induction l with
  | nil => rfl
  | cons x l ih =>
    show (It.cs x ++ its l).length = _
    rw [List.length_append, ih, List.length_cons]
    show 3 + _ = _
    omega
theorem its_get : ∀ {l : List It} {i : Nat} {x : It}, l[i]? = some x → ∀ j, j < 3 → (its l)[i * 3 + j]? = (It.cs x)[j]?
  | y :: l, 0, x, h, j, hj => by
    simp at h
    subst h
    show (It.cs y ++ its l)[0 * 3 + j]? = _
    rw [List.getElem?_append_left (by show _ < 3; omega)]
    congr 1; omega
  | y :: l, i + 1, x, h, j, hj => by
    show (It.cs y ++ its l)[(i + 1) * 3 + j]? = _
    rw [List.getElem?_append_right (by show 3 ≤ _; omega)]
    have := its_get (l := l) (i := i) (x := x) (by simpa using h) j hj
    rw [← this]
    congr 1
    show (i + 1) * 3 + j - 3 = _
    omega
theorem its_app (l m : List It) : its (l ++ m) = its l ++ its m := by simp [its]
theorem its_set : ∀ {l : List It} {i : Nat} {x : It} {j : Nat} {v : Value}, l[i]? = some x → j < 3 → (its l).set (i * 3 + j) v = (its (l.take i)) ++ (It.cs x).set j v ++ its (l.drop (i + 1))
  | y :: l, 0, x, j, v, h, hj => by
    simp at h
    subst h
    show (It.cs y ++ its l).set (0 * 3 + j) v = _
    rw [List.set_append_left _ _ (by show _ < 3; omega), Nat.zero_mul, Nat.zero_add]
    simp [its]
  | y :: l, i + 1, x, j, v, h, hj => by
    show (It.cs y ++ its l).set ((i + 1) * 3 + j) v = _
    rw [List.set_append_right _ _ (by show 3 ≤ _; omega)]
    have := its_set (l := l) (i := i) (x := x) (j := j) (v := v) (by simpa using h) hj
    have e : (i + 1) * 3 + j - (It.cs y).length = i * 3 + j := by show (i + 1) * 3 + j - 3 = _; omega
    rw [e, this]
    simp [its]
theorem split_at {α : Type} {l : List α} {i : Nat} {x : α} (h : l[i]? = some x) (y : α) : l.set i y = l.take i ++ [y] ++ l.drop (i + 1) := by
  obtain ⟨hi, _⟩ := List.getElem?_eq_some_iff.1 h
  rw [List.set_eq_take_append_cons_drop, if_pos hi]
  simp
theorem its_now {l : List It} {i : Nat} {x : It} (h : l[i]? = some x) (k : Int) : (its l).set (i * 3 + 1) (.int .i64 k) = its (l.set i { x with now := k }) := by
  rw [its_set h (by decide), split_at h, its_app, its_app]
  simp [its, It.cs]
theorem its_off {l : List It} {i : Nat} {x : It} (h : l[i]? = some x) (b : Bool) : (its l).set (i * 3 + 2) (.bool b) = its (l.set i { x with inn := b }) := by
  rw [its_set h (by decide), split_at h, its_app, its_app]
  simp [its, It.cs]
/-- A row of structs that the call owns. -/
abbrev OwnW (w : World) (B : Nat) (T : TypeId) (sz : Nat) (a : Option Addr) (n c : Nat) (vs : List Value) : Prop := w.ownsRow B T sz (.slice a n c) n vs
section
variable {w w' : World} {B T sz n c : Nat} {a : Option Addr} {vs : List Value}
theorem OwnW.len (h : OwnW w B T sz a n c vs) : vs.length = n * sz := h.1
theorem OwnW.blk (h : OwnW w B T sz a n c vs) : ∀ k, onBlk a k → B ≤ k ∧ k < w.heap.size := by
  rintro k ⟨o, s, rfl⟩
  exact h.lt k rfl
theorem OwnW.fr {S : Nat → Prop} (h : OwnW w B T sz a n c vs) (f : Fr S w w') (hS : ∀ k, onBlk a k → ¬ S k) : OwnW w' B T sz a n c vs := by
  refine ⟨h.1, ?_⟩
  rcases h.2 with hn | ⟨g, cap, cur, hv, hb, hgg, rest⟩
  · exact .inl hn
  · refine .inr ⟨g, cap, cur, hv, hb, ?_, rest⟩
    rw [f.block g (Array.getElem?_eq_some_iff.1 hgg).1 (hS g ?_)]
    · exact hgg
    · injection hv with ha _ _
      rw [ha, onBlk_some]
theorem OwnW.fr0 (h : OwnW w B T sz a n c vs) (f : Fr F0 w w') : OwnW w' B T sz a n c vs := h.fr f (fun _ _ => id)
theorem OwnW.at (h : OwnW w B T sz a n c vs) (hn : 0 < n) :
    ∃ g, a = some ⟨g, 0, none⟩ ∧ g < w.heap.size ∧ (∀ i u, vs[i]? = some u → w.cell? ⟨g, i, none⟩ = some u) ∧ (∀ i, w.frozen? ⟨g, i, none⟩ = false) := by
  rcases h.2 with ⟨_, rfl⟩ | ⟨g, cap, cur, hv, hb, hh, h1, h2, h3, h4⟩
  · omega
  · injection hv with ha _ _
    refine ⟨g, ha, (Array.getElem?_eq_some_iff.1 hh).1, fun i u hu => ?_, fun i => by simp [World.frozen?, hh]⟩
    rw [cell_of_row w g i cur T (0, 0) hh]
    rw [← h4, List.getElem?_take] at hu
    split at hu
    · simpa using hu
    · cases hu
theorem OwnW.set {g i : Nat} (h : OwnW w B T sz (some ⟨g, 0, none⟩) n c vs) (u : Value) :
    OwnW (w.setCell ⟨g, i, none⟩ u) B T sz (some ⟨g, 0, none⟩) n c (vs.set i u) := by
  refine ⟨by simpa using h.1, ?_⟩
  rcases h.2 with ⟨hv, _⟩ | ⟨g', cap, cur, hv, hb, hh, h1, h2, h3, h4⟩
  · cases hv
  · injection hv with ha hn hc
    injection ha with ha
    injection ha with ha
    subst ha
    refine .inr ⟨g, cap, cur.setIfInBounds i u, by rw [hc], hb, heap_setCell_same hh u, h1, h2, by simpa using h3, ?_⟩
    rw [Array.toList_setIfInBounds, ← h4, List.take_set]
end
/-- A slice of items in memory. -/
abbrev Ks (w : World) (a : Option Addr) (c : Nat) (l : List It) : Prop := OwnW w 0 44 3 a l.length c (its l)
theorem Ks.nil (w : World) : Ks w none 0 [] := World.ownsRow_nil _ _ _ _
theorem Ks.at {w : World} {a : Option Addr} {c : Nat} {l : List It} (h : Ks w a c l) {i : Nat} {x : It} (hx : l[i]? = some x) :
    ∃ g, a = some ⟨g, 0, none⟩ ∧ g < w.heap.size ∧ w.cell? ⟨g, i * 3, none⟩ = some (.int .i64 x.own) ∧ w.cell? ⟨g, i * 3 + 1, none⟩ = some (.int .i64 x.now) ∧ w.cell? ⟨g, i * 3 + 2, none⟩ = some (.bool x.inn) ∧ (∀ i, w.frozen? ⟨g, i, none⟩ = false) := by
  have hi := (List.getElem?_eq_some_iff.1 hx).1
  obtain ⟨g, h1, h2, h3, h4⟩ := OwnW.at h (by omega)
  exact ⟨g, h1, h2, h3 (i * 3) _ (its_get hx 0 (by decide)), h3 (i * 3 + 1) _ (its_get hx 1 (by decide)), h3 (i * 3 + 2) _ (its_get hx 2 (by decide)), h4⟩
/-- The closures. -/
theorem in_any (x : It) (w : World) : Calls Try.prog 36 #[x.agg] w fun e w' => e = .returned (.bool x.inn) ∧ Fr F0 w w' := by
  unfold It.agg
  go_enter Try.func36, Try.ntmps36
  go_wp2_with fail
  go_ret
  exact ⟨rfl, (Fr.refl _ _).alloc _⟩
end Go.Proofs.Ytdphademoeofkaa
