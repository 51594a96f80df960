/- What lies in a forest lies within bounds. -/
import Derived.Test.YtfeokafjehpgnaaW1
namespace Go.Proofs.Ytfeokafjehpgnaa
namespace K
theorem fm_mem (w : Nat → Int) : ∀ {l : List Nat}, l ≠ [] → fm w l ∈ l
  | [x], _ => by simp [fm]
  | x :: y :: l, _ => by
    have ih := fm_mem w (l := y :: l) (by simp)
    rw [fm_cons w x (by simp)]
    split
    · simp
    · exact List.mem_cons_of_mem _ ih
theorem lm_mem (w : Nat → Int) : ∀ {l : List Nat}, l ≠ [] → lm w l ∈ l
  | [x], _ => by simp [lm]
  | x :: y :: l, _ => by
    have ih := lm_mem w (l := y :: l) (by simp)
    rw [lm_cons w x (by simp)]
    split
    · simp
    · exact List.mem_cons_of_mem _ ih
theorem sum_le (w : Nat → Int) (B : Int) : ∀ (l : List Nat), (∀ x ∈ l, -B ≤ w x ∧ w x ≤ B) → -(B * l.length) ≤ (l.map w).sum ∧ (l.map w).sum ≤ B * l.length
  | [], _ => by simp
  | x :: l, h => by
    have ih := sum_le w B l (fun y hy => h y (List.mem_cons_of_mem _ hy))
    have hx := h x (by simp)
    have e : B * ((x :: l).length : Int) = B * (l.length : Int) + B := by
      rw [List.length_cons, Int.natCast_add, Int.mul_add]; simp
    rw [List.map_cons, List.sum_cons, e]
    omega
/-- What a vertex of a tree may hold. -/
structure VOK (V : Vs) (B : Int) (u : Nat) (ids : List Nat) (z : Nat) : Prop where
  up : (V z).up = u ∨ (V z).up ∈ ids
  left : (V z).left = 0 ∨ (V z).left ∈ ids
  right : (V z).right = 0 ∨ (V z).right ∈ ids
  first : (V z).first ∈ ids
  last : (V z).last ∈ ids
  size : (V z).size ≤ ids.length
  sum : -(B * ids.length) ≤ (V z).sum ∧ (V z).sum ≤ B * ids.length
  nl : (V z).left ≠ z
  nr : (V z).right ≠ z
theorem VOK.mono {V : Vs} {B : Int} (hB : 0 ≤ B) {u u' : Nat} {ids ids' : List Nat} {z : Nat} (h : VOK V B u ids z) (hs : ∀ y ∈ ids, y ∈ ids') (hl : ids.length ≤ ids'.length) (hu : u = u' ∨ u ∈ ids') : VOK V B u' ids' z := by
  refine ⟨?_, h.left.imp id (hs _), h.right.imp id (hs _), hs _ h.first, hs _ h.last, Nat.le_trans h.size hl, ?_, h.nl, h.nr⟩
  · rcases h.up with e | e
    · rcases hu with e2 | e2
      · exact .inl (e.trans e2)
      · exact .inr (e ▸ e2)
    · exact .inr (hs _ e)
  · have : B * (ids.length : Int) ≤ B * (ids'.length : Int) := Int.mul_le_mul_of_nonneg_left (by omega) hB
    have := h.sum
    omega
theorem rootm {V : Vs} {t : BT} {y u : Nat} (h : TOK V t y u) : y = 0 ∨ y ∈ t.ids := by
  cases t with
  | nil => exact .inl h
  | node l x r => exact .inr (by rw [h.1]; simp [BT.ids])
theorem tok_all {V : Vs} {B : Int} (hB : 0 ≤ B) : ∀ {t : BT} {y u : Nat}, TOK V t y u → t.ids.Nodup → (∀ x ∈ t.ids, -B ≤ wt V x ∧ wt V x ≤ B) → ∀ z ∈ t.ids, VOK V B u t.ids z
  | .nil, _, _, _, _, _, z, hz => by simp [BT.ids] at hz
  | .node l x r, y, u, h, hn, hw, z, hz => by
    obtain ⟨h1, h2, h3, h4, h5, h6⟩ := h
    have hp := ord_perm V (.node l x r) false
    have hne : ord V false (.node l x r) ≠ [] := by rw [Ne, ord_nil]; exact fun e => by cases e
    simp only [BT.ids] at hn
    rw [List.nodup_append] at hn
    obtain ⟨n1, n2, n3⟩ := hn
    rw [List.nodup_cons] at n2
    have ml : ∀ y ∈ l.ids, y ∈ (BT.node l x r).ids := fun y hy => by simp [BT.ids, hy]
    have mr : ∀ y ∈ r.ids, y ∈ (BT.node l x r).ids := fun y hy => by simp [BT.ids, hy]
    have mx : x ∈ (BT.node l x r).ids := by simp [BT.ids]
    have hz' := hz
    simp only [BT.ids, List.mem_append, List.mem_cons] at hz'
    rcases hz' with hz' | hz' | hz'
    · exact (tok_all hB h4 n1 (fun y hy => hw y (ml y hy)) z hz').mono hB ml (by simp only [BT.ids, List.length_append]; omega) (.inr mx)
    · subst hz'
      have hs := sum_le (wt V) B (ord V false (.node l z r)) (fun y hy => hw y (hp.mem_iff.1 hy))
      rw [← h6.sum, hp.length_eq] at hs
      refine ⟨.inl h3, (rootm h4).imp id (ml _), (rootm h5).imp id (mr _), hp.mem_iff.1 (h6.first ▸ fm_mem _ hne), hp.mem_iff.1 (h6.last ▸ lm_mem _ hne), by rw [h6.size, hp.length_eq]; exact Nat.le_refl _, hs, ?_, ?_⟩
      · intro e
        rcases rootm h4 with e2 | e2
        · exact h2 (e.symm.trans e2)
        · exact n3 _ e2 z (by simp) e
      · intro e
        rcases rootm h5 with e2 | e2
        · exact h2 (e.symm.trans e2)
        · rw [e] at e2; exact n2.1 e2
    · exact (tok_all hB h5 n2.2 (fun y hy => hw y (mr y hy)) z hz').mono hB mr (by simp only [BT.ids, List.length_append, List.length_cons]; omega) (.inr mx)
theorem nodup_part {α : Type} {f : α → List Nat} : ∀ (F : List α), (F.flatMap f).Nodup → ∀ e ∈ F, (f e).Nodup
  | [], _, e, he => by cases he
  | a :: F, h, e, he => by
    rw [List.flatMap_cons, List.nodup_append] at h
    rcases List.mem_cons.1 he with e1 | e1
    · rw [e1]; exact h.1
    · exact nodup_part F h.2.1 e e1
end K
theorem way_all {P : Nat → Nat} {vs : List Nat} (hp : K.Par P vs) {x : Nat} {l : List Nat} (h : K.Way P x l) : x ∈ vs → (∀ z ∈ l, z ∈ vs) ∧ l.Nodup := by
  have key : x ∈ vs → (∀ z ∈ l, z ∈ vs ∧ ∃ l1 l2, l = l1 ++ l2 ∧ K.Way P z l1) ∧ l.Nodup := by
    induction h with
    | root h1 h2 => intro hx; exact ⟨fun z hz => by rw [List.mem_singleton] at hz; subst hz; exact ⟨hx, [z], [], rfl, .root h1 h2⟩, by simp⟩
    | @down x l h1 h2 h3 ih =>
      intro hx
      have hPx : P x ∈ vs := (hp.up x hx).resolve_left h2
      obtain ⟨i1, i2⟩ := ih hPx
      refine ⟨fun z hz => ?_, ?_⟩
      · rcases List.mem_append.1 hz with hz | hz
        · obtain ⟨k1, l1, l2, k2, k3⟩ := i1 z hz
          exact ⟨k1, l1, l2 ++ [x], by rw [k2]; simp, k3⟩
        · rw [List.mem_singleton] at hz
          subst hz
          exact ⟨hx, l ++ [z], [], by simp, .down h1 h2 h3⟩
      · rw [List.nodup_append]
        refine ⟨i2, by simp, fun z hz z' hz' e => ?_⟩
        rw [List.mem_singleton] at hz'
        subst hz'
        subst e
        obtain ⟨_, l1, l2, k2, k3⟩ := i1 z hz
        have := congrArg List.length (k3.uniq (.down h1 h2 h3))
        rw [k2] at this
        simp at this
  exact fun hx => ⟨fun z hz => ((key hx).1 z hz).1, (key hx).2⟩
/-- The vertices 1 .. n. -/
def vts (n : Nat) : List Nat := List.range' 1 n
theorem mem_vts {n x : Nat} : x ∈ vts n ↔ x ≠ 0 ∧ x ≤ n := by
  unfold vts
  rw [List.mem_range'_1]
  omega
theorem vts_length (n : Nat) : (vts n).length = n := by simp [vts]
/-- The weights are permitted. -/
def WOK (n : Nat) (w : Nat → Int) : Prop := w 0 = 0 ∧ ∀ x, x ≠ 0 → x ≤ n → -1048576 ≤ w x ∧ w x ≤ 1048576
theorem gv_of {n : Nat} {V : K.Vs} {P : Nat → Nat} {F : List (K.BT × Nat)} (hn : n ≤ 60) (hp : K.Par P (vts n)) (h : K.Fo V P (vts n) F) (hw : WOK n (K.wt V)) : GV n V := by
  have z0 : V 0 = K.zeroV := h.zr
  have key : ∀ x, x ≠ 0 → x ≤ n → ∃ u ids, K.VOK V 1048576 u ids x ∧ u ≤ n ∧ (∀ y ∈ ids, y ≤ n) ∧ ids.length ≤ n := by
    intro x x0 hx
    have hm := h.ids.mem_iff.2 (mem_vts.2 ⟨x0, hx⟩)
    obtain ⟨e, he, hxe⟩ := List.mem_flatMap.1 hm
    obtain ⟨t1, t2, t3⟩ := h.tr e he
    have hsub : ∀ y ∈ e.1.ids, y ∈ vts n := fun y hy => h.ids.mem_iff.1 (List.mem_flatMap.2 ⟨e, he, hy⟩)
    have hnd : e.1.ids.Nodup := by
      have := h.nodup hp
      exact K.nodup_part F this e he
    have hl : e.1.ids.length ≤ n := by
      have := K.nodup_len e.1.ids (vts n) hnd hsub
      rwa [vts_length] at this
    refine ⟨e.2, e.1.ids, K.tok_all (by decide) t2 hnd (fun y hy => ?_) x hxe, ?_, fun y hy => (mem_vts.1 (hsub y hy)).2, hl⟩
    · have := mem_vts.1 (hsub y hy)
      exact hw.2 y this.1 this.2
    · have hne : K.ord V false e.1 ≠ [] := fun e2 => t1 (K.ord_nil.1 e2)
      obtain ⟨a, l, hal⟩ := List.exists_cons_of_ne_nil hne
      rw [hal] at t3
      have ha : a ∈ vts n := hsub a ((K.ord_perm V e.1 false).mem_iff.1 (by rw [hal]; simp))
      have e2 : P a = e.2 := t3.1
      rcases hp.up a ha with e3 | e3
      · omega
      · rw [e2] at e3; exact (mem_vts.1 e3).2
  refine ⟨fun x hx => ?_, fun x hx => ?_, fun x hx => ?_, fun x hx => ?_, fun x hx => ?_, fun x hx => ?_, fun x hx => ?_, fun x hx => ?_, fun x x0 hx => ?_, fun x x0 hx => ?_⟩
  · by_cases x0 : x = 0
    · rw [x0, z0]; exact Nat.zero_le _
    · obtain ⟨u, ids, k, hu, hi, hl⟩ := key x x0 hx
      rcases k.up with e | e
      · omega
      · exact hi _ e
  · by_cases x0 : x = 0
    · rw [x0, z0]; exact Nat.zero_le _
    · obtain ⟨u, ids, k, hu, hi, hl⟩ := key x x0 hx
      rcases k.left with e | e
      · omega
      · exact hi _ e
  · by_cases x0 : x = 0
    · rw [x0, z0]; exact Nat.zero_le _
    · obtain ⟨u, ids, k, hu, hi, hl⟩ := key x x0 hx
      rcases k.right with e | e
      · omega
      · exact hi _ e
  · by_cases x0 : x = 0
    · rw [x0, z0]; exact Nat.zero_le _
    · obtain ⟨u, ids, k, hu, hi, hl⟩ := key x x0 hx
      exact hi _ k.first
  · by_cases x0 : x = 0
    · rw [x0, z0]; exact Nat.zero_le _
    · obtain ⟨u, ids, k, hu, hi, hl⟩ := key x x0 hx
      exact hi _ k.last
  · by_cases x0 : x = 0
    · rw [x0, z0]; exact Nat.zero_le _
    · obtain ⟨u, ids, k, hu, hi, hl⟩ := key x x0 hx
      have := k.size
      omega
  · by_cases x0 : x = 0
    · rw [x0, z0]; decide
    · obtain ⟨u, ids, k, hu, hi, hl⟩ := key x x0 hx
      have := k.sum
      omega
  · by_cases x0 : x = 0
    · rw [x0, z0]; decide
    · exact hw.2 x x0 hx
  · obtain ⟨u, ids, k, hu, hi, hl⟩ := key x x0 hx
    exact k.nl
  · obtain ⟨u, ids, k, hu, hi, hl⟩ := key x x0 hx
    exact k.nr
end Go.Proofs.Ytfeokafjehpgnaa
