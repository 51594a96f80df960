/- Plain law of link-cut forests: what the code does, as functions of what lies at each vertex. -/
import Derived.Test.YtfeokafjehpgnaaCom4
namespace Go.Proofs.Ytfeokafjehpgnaa
namespace K
/-- A vertex, as it lies. -/
structure Vx where
  up : Nat
  left : Nat
  right : Nat
  turned : Bool
  weight : Int
  sum : Int
  size : Nat
  first : Nat
  last : Nat
abbrev Vs := Nat → Vx
def put (V : Vs) (x : Nat) (n : Vx) : Vs := fun y => if y = x then n else V y
theorem put_same (V : Vs) (x : Nat) (n : Vx) : put V x n x = n := by simp [put]
theorem put_other {V : Vs} {x y : Nat} {n : Vx} (h : y ≠ x) : put V x n y = V y := by simp [put, h]
/-- pull -/
def first1 (V : Vs) (x : Nat) : Nat := if (V x).left ≠ 0 ∧ (V (V (V x).left).first).weight ≤ (V x).weight then (V (V x).left).first else x
def last1 (V : Vs) (x : Nat) : Nat := if (V x).left ≠ 0 ∧ (V (V (V x).left).last).weight < (V x).weight then (V (V x).left).last else x
def first2 (V : Vs) (x : Nat) : Nat := if (V x).right ≠ 0 ∧ (V (V (V x).right).first).weight < (V (first1 V x)).weight then (V (V x).right).first else first1 V x
def last2 (V : Vs) (x : Nat) : Nat := if (V x).right ≠ 0 ∧ (V (V (V x).right).last).weight ≤ (V (last1 V x)).weight then (V (V x).right).last else last1 V x
def pullF (V : Vs) (x : Nat) : Vs := put V x { V x with sum := (V (V x).left).sum + (V x).weight + (V (V x).right).sum, size := (V (V x).left).size + 1 + (V (V x).right).size, first := first2 V x, last := last2 V x }
def turnF (V : Vs) (x : Nat) : Vs := if x = 0 then V else put V x { V x with left := (V x).right, right := (V x).left, first := (V x).last, last := (V x).first, turned := !(V x).turned }
def pushF (V : Vs) (x : Nat) : Vs := if (V x).turned then (let V1 := turnF (turnF V (V x).left) (V x).right; put V1 x { V1 x with turned := false }) else V
def topB (V : Vs) (x : Nat) : Bool := decide ((V x).up = 0) || (decide ((V (V x).up).left ≠ x) && decide ((V (V x).up).right ≠ x))
/-- rotate: the pointers. -/
def rotG (V : Vs) (x : Nat) : Vs :=
  if topB V (V x).up then V
  else if (V (V (V x).up).up).left = (V x).up then put V (V (V x).up).up { V (V (V x).up).up with left := x } else put V (V (V x).up).up { V (V (V x).up).up with right := x }
def setUp (V : Vs) (c u : Nat) : Vs := put V c { V c with up := u }
def rotC (V : Vs) (x p g : Nat) : Vs :=
  if (V p).left = x then
    let V1 := put V p { V p with left := (V x).right }
    let V2 := put V1 x { V1 x with right := p }
    let V3 := if (V x).right ≠ 0 then setUp V2 (V x).right p else V2
    setUp (setUp V3 p x) x g
  else
    let V1 := put V p { V p with right := (V x).left }
    let V2 := put V1 x { V1 x with left := p }
    let V3 := if (V x).left ≠ 0 then setUp V2 (V x).left p else V2
    setUp (setUp V3 p x) x g
def rotF (V : Vs) (x : Nat) : Vs := pullF (pullF (rotC (rotG V x) x (V x).up (V (V x).up).up) (V x).up) x
/-- Trees. -/
inductive BT where
  | nil : BT
  | node : BT → Nat → BT → BT
  deriving DecidableEq
def BT.ids : BT → List Nat
  | .nil => []
  | .node l x r => l.ids ++ x :: r.ids
def BT.root : BT → Nat
  | .nil => 0
  | .node _ x _ => x
/-- The order of a tree, seen from above; b: what hangs over it is to be turned. -/
def ord (V : Vs) : Bool → BT → List Nat
  | _, .nil => []
  | false, .node l x r => ord V (V x).turned l ++ x :: ord V (V x).turned r
  | true, .node l x r => ord V (!(V x).turned) r ++ x :: ord V (!(V x).turned) l
theorem ord_rev (V : Vs) : ∀ t : BT, ord V true t = (ord V false t).reverse
  | .nil => rfl
  | .node l x r => by
    have hl := ord_rev V l
    have hr := ord_rev V r
    have h : ∀ (b : Bool) (s : BT), ord V true s = (ord V false s).reverse → ord V (!b) s = (ord V b s).reverse := by
      intro b s hs
      cases b with
      | false => exact hs
      | true => show ord V false s = (ord V true s).reverse; rw [hs, List.reverse_reverse]
    simp only [ord]
    rw [h _ _ hl, h _ _ hr]
    simp
theorem ord_not (V : Vs) (b : Bool) (t : BT) : ord V (!b) t = (ord V b t).reverse := by
  cases b with
  | false => exact ord_rev V t
  | true => show ord V false t = (ord V true t).reverse; rw [ord_rev, List.reverse_reverse]
theorem ord_perm (V : Vs) : ∀ (t : BT) (b : Bool), (ord V b t).Perm t.ids
  | .nil, b => by cases b <;> exact List.Perm.refl _
  | .node l x r, false => by
    simp only [ord, BT.ids]
    exact (ord_perm V l _).append ((ord_perm V r _).cons x)
  | .node l x r, true => by
    simp only [ord, BT.ids]
    refine ((ord_perm V r _).append ((ord_perm V l _).cons x)).trans ?_
    refine List.perm_append_comm.trans ?_
    simp only [List.cons_append]
    exact (List.perm_middle (a := x) (l₁ := l.ids) (l₂ := r.ids)).symm
theorem ord_congr {V V' : Vs} : ∀ (t : BT) (b : Bool), (∀ x ∈ t.ids, (V' x).turned = (V x).turned) → ord V' b t = ord V b t
  | .nil, b, _ => by cases b <;> rfl
  | .node l x r, b, h => by
    have hx := h x (by simp [BT.ids])
    have hl := fun b => ord_congr (V := V) (V' := V') l b (fun y hy => h y (by simp [BT.ids, hy]))
    have hr := fun b => ord_congr (V := V) (V' := V') r b (fun y hy => h y (by simp [BT.ids, hy]))
    cases b <;> simp only [ord, hx, hl, hr]
/-- The first, the last of the least. -/
def fm (w : Nat → Int) : List Nat → Nat
  | [] => 0
  | [x] => x
  | x :: y :: l => if w x ≤ w (fm w (y :: l)) then x else fm w (y :: l)
def lm (w : Nat → Int) : List Nat → Nat
  | [] => 0
  | [x] => x
  | x :: y :: l => if w x < w (lm w (y :: l)) then x else lm w (y :: l)
theorem fm_cons (w : Nat → Int) (x : Nat) {l : List Nat} (h : l ≠ []) : fm w (x :: l) = if w x ≤ w (fm w l) then x else fm w l := by
  cases l with
  | nil => exact absurd rfl h
  | cons y l => rfl
theorem lm_cons (w : Nat → Int) (x : Nat) {l : List Nat} (h : l ≠ []) : lm w (x :: l) = if w x < w (lm w l) then x else lm w l := by
  cases l with
  | nil => exact absurd rfl h
  | cons y l => rfl
theorem fm_app (w : Nat → Int) : ∀ {a b : List Nat}, a ≠ [] → b ≠ [] → fm w (a ++ b) = if w (fm w a) ≤ w (fm w b) then fm w a else fm w b
  | [x], b, _, hb => by rw [List.singleton_append, fm_cons w x hb]; rfl
  | x :: y :: a, b, _, hb => by
    have ih := fm_app w (a := y :: a) (b := b) (by simp) hb
    rw [List.cons_append, fm_cons w x (by simp), ih, fm_cons w x (l := y :: a) (by simp)]
    repeat' split
    all_goals first | rfl | omega
theorem lm_app (w : Nat → Int) : ∀ {a b : List Nat}, a ≠ [] → b ≠ [] → lm w (a ++ b) = if w (lm w a) < w (lm w b) then lm w a else lm w b
  | [x], b, _, hb => by rw [List.singleton_append, lm_cons w x hb]; rfl
  | x :: y :: a, b, _, hb => by
    have ih := lm_app w (a := y :: a) (b := b) (by simp) hb
    rw [List.cons_append, lm_cons w x (by simp), ih, lm_cons w x (l := y :: a) (by simp)]
    repeat' split
    all_goals first | rfl | omega
theorem fm_rev (w : Nat → Int) : ∀ l : List Nat, fm w l.reverse = lm w l
  | [] => rfl
  | [x] => rfl
  | x :: y :: l => by
    rw [List.reverse_cons, fm_app w (by simp) (by simp), fm_rev w (y :: l), lm_cons w x (by simp)]
    show (if w (lm w (y :: l)) ≤ w x then _ else x) = _
    repeat' split
    all_goals first | rfl | omega
theorem lm_rev (w : Nat → Int) (l : List Nat) : lm w l.reverse = fm w l := by rw [← fm_rev, List.reverse_reverse]
/-- What a node knows of its subtree. -/
structure Kn (w : Nat → Int) (n : Vx) (l : List Nat) : Prop where
  sum : n.sum = (l.map w).sum
  size : n.size = l.length
  first : n.first = fm w l
  last : n.last = lm w l
def wt (V : Vs) : Nat → Int := fun x => (V x).weight
/-- A tree lies there: root y, u above it. -/
def TOK (V : Vs) : BT → Nat → Nat → Prop
  | .nil, y, _ => y = 0
  | .node l x r, y, u => y = x ∧ x ≠ 0 ∧ (V x).up = u ∧ TOK V l (V x).left x ∧ TOK V r (V x).right x ∧ Kn (wt V) (V x) (ord V false (.node l x r))
theorem TOK.root {V : Vs} {t : BT} {y u : Nat} (h : TOK V t y u) : y = t.root := by
  cases t with
  | nil => exact h
  | node l x r => exact h.1
theorem TOK.congr {V V' : Vs} (hw : wt V' = wt V) : ∀ {t : BT} {y u : Nat}, (∀ x ∈ t.ids, V' x = V x) → TOK V t y u → TOK V' t y u
  | .nil, _, _, _, h => h
  | .node l x r, y, u, hx, ⟨h1, h2, h3, h4, h5, h6⟩ => by
    have ho := ord_congr (V := V) (V' := V') (.node l x r) false (fun y hy => by rw [hx y hy])
    have hxx := hx x (by simp [BT.ids])
    refine ⟨h1, h2, by rw [hxx]; exact h3, ?_, ?_, by rw [ho, hw, hxx]; exact h6⟩
    · rw [hxx]; exact h4.congr hw (fun y hy => hx y (by simp [BT.ids, hy]))
    · rw [hxx]; exact h5.congr hw (fun y hy => hx y (by simp [BT.ids, hy]))
/-- The same with another one above it. -/
theorem TOK.above {V V' : Vs} (hw : wt V' = wt V) {t : BT} {y u u' : Nat} (h : TOK V t y u) (hy : y ≠ 0 → V' y = { V y with up := u' }) (hx : ∀ x ∈ t.ids, x ≠ y → V' x = V x) (hn : t.ids.Nodup) : TOK V' t y u' := by
  cases t with
  | nil => exact h
  | node l x r =>
    obtain ⟨h1, h2, h3, h4, h5, h6⟩ := h
    subst h1
    have hyy := hy h2
    simp only [BT.ids] at hn
    rw [List.nodup_append] at hn
    obtain ⟨n1, n2, n3⟩ := hn
    rw [List.nodup_cons] at n2
    have ho := ord_congr (V := V) (V' := V') (.node l y r) false (fun z hz => by
      by_cases e : z = y
      · subst e; rw [hyy]
      · rw [hx z hz e])
    refine ⟨rfl, h2, by rw [hyy], ?_, ?_, ?_⟩
    · rw [hyy]; exact h4.congr hw (fun z hz => hx z (by simp [BT.ids, hz]) (n3 z hz y (by simp)))
    · rw [hyy]; exact h5.congr hw (fun z hz => hx z (by simp [BT.ids, hz]) (fun e => n2.1 (e ▸ hz)))
    · rw [ho, hw, hyy]; exact ⟨h6.sum, h6.size, h6.first, h6.last⟩
theorem Kn.other {w : Nat → Int} {n n' : Vx} {l : List Nat} (h : Kn w n l) (e1 : n'.sum = n.sum) (e2 : n'.size = n.size) (e3 : n'.first = n.first) (e4 : n'.last = n.last) : Kn w n' l := ⟨e1.trans h.sum, e2.trans h.size, e3.trans h.first, e4.trans h.last⟩
theorem ord_nil {V : Vs} {b : Bool} {t : BT} : ord V b t = [] ↔ t = .nil := by
  constructor
  · intro h
    cases t with
    | nil => rfl
    | node l x r => have := (ord_perm V (.node l x r) b).length_eq; rw [h] at this; simp [BT.ids] at this
  · rintro rfl; cases b <;> rfl
theorem TOK.kn {V : Vs} {t : BT} {y u : Nat} (h : TOK V t y u) (ht : t ≠ .nil) : y ≠ 0 ∧ Kn (wt V) (V y) (ord V false t) := by
  cases t with
  | nil => exact absurd rfl ht
  | node l x r =>
    obtain ⟨h1, h2, _, _, _, h6⟩ := h
    subst h1
    exact ⟨h2, h6⟩
theorem TOK.zero {V : Vs} {t : BT} {y u : Nat} (h : TOK V t y u) : y = 0 ↔ t = .nil := by
  cases t with
  | nil => exact ⟨fun _ => rfl, fun _ => h⟩
  | node l x r => exact ⟨fun e => absurd (h.1.symm.trans e) h.2.1, fun e => by cases e⟩
theorem ids_pos {V : Vs} : ∀ {t : BT} {y u : Nat}, TOK V t y u → ∀ z ∈ t.ids, z ≠ 0
  | .nil, _, _, _, z, hz => by simp [BT.ids] at hz
  | .node l x r, _, _, ⟨_, h2, _, h4, h5, _⟩, z, hz => by
    simp only [BT.ids, List.mem_append, List.mem_cons] at hz
    rcases hz with hz | hz | hz
    · exact ids_pos h4 z hz
    · exact hz ▸ h2
    · exact ids_pos h5 z hz
/-- Nothing is known of no vertex. -/
def zeroV : Vx := ⟨0, 0, 0, false, 0, 0, 0, 0, 0⟩
def Zr (V : Vs) : Prop := V 0 = zeroV
theorem Zr.sum {V : Vs} (h : Zr V) : (V 0).sum = 0 := by rw [show V 0 = zeroV from h]; rfl
theorem Zr.size {V : Vs} (h : Zr V) : (V 0).size = 0 := by rw [show V 0 = zeroV from h]; rfl
theorem wt_put {V : Vs} {x : Nat} {n : Vx} (h : n.weight = (V x).weight) : wt (put V x n) = wt V := by
  funext y
  unfold wt put
  split
  · rename_i e; subst e; exact h
  · rfl
theorem pull_kn {V : Vs} {x : Nat} {l r : BT} (hz : Zr V) (hl : TOK V l (V x).left x) (hr : TOK V r (V x).right x) : Kn (wt V) (pullF V x x) (ord V false l ++ x :: ord V false r) := by
  have e : pullF V x x = { V x with sum := (V (V x).left).sum + (V x).weight + (V (V x).right).sum, size := (V (V x).left).size + 1 + (V (V x).right).size, first := first2 V x, last := last2 V x } := put_same _ _ _
  rw [e]
  have hwx : wt V x = (V x).weight := rfl
  -- the beginning, with x
  have h1 : first1 V x = fm (wt V) (ord V false l ++ [x]) ∧ last1 V x = lm (wt V) (ord V false l ++ [x]) ∧ (V (V x).left).sum = ((ord V false l).map (wt V)).sum ∧ (V (V x).left).size = (ord V false l).length := by
    by_cases ht : l = .nil
    · subst ht
      have h0 : (V x).left = 0 := hl
      unfold first1 last1
      rw [h0]
      refine ⟨by simp; rfl, by simp; rfl, by rw [hz.sum]; rfl, by rw [hz.size]; rfl⟩
    · obtain ⟨h0, k⟩ := hl.kn ht
      have hne : ord V false l ≠ [] := fun e => ht (ord_nil.1 e)
      unfold first1 last1
      rw [k.first, k.last, fm_app _ hne (by simp), lm_app _ hne (by simp)]
      refine ⟨?_, ?_, k.sum, k.size⟩
      · show (if (V x).left ≠ 0 ∧ wt V (fm (wt V) (ord V false l)) ≤ wt V x then _ else x) = if wt V (fm (wt V) (ord V false l)) ≤ wt V x then _ else x
        simp [h0]
      · show (if (V x).left ≠ 0 ∧ wt V (lm (wt V) (ord V false l)) < wt V x then _ else x) = if wt V (lm (wt V) (ord V false l)) < wt V x then _ else x
        simp [h0]
  obtain ⟨a1, a2, a3, a4⟩ := h1
  have e2 : ord V false l ++ x :: ord V false r = (ord V false l ++ [x]) ++ ord V false r := by simp
  by_cases ht : r = .nil
  · subst ht
    have h0 : (V x).right = 0 := hr
    refine ⟨?_, ?_, ?_, ?_⟩
    · show (V (V x).left).sum + (V x).weight + (V (V x).right).sum = _
      rw [a3, h0, hz.sum]; simp [ord]; rfl
    · show (V (V x).left).size + 1 + (V (V x).right).size = _
      rw [a4, h0, hz.size]; simp [ord]
    · show first2 V x = _
      unfold first2; rw [h0, a1]; simp [ord]
    · show last2 V x = _
      unfold last2; rw [h0, a2]; simp [ord]
  · obtain ⟨h0, k⟩ := hr.kn ht
    have hne : ord V false r ≠ [] := fun e => ht (ord_nil.1 e)
    have hna : ord V false l ++ [x] ≠ [] := by simp
    refine ⟨?_, ?_, ?_, ?_⟩
    · show (V (V x).left).sum + (V x).weight + (V (V x).right).sum = _
      rw [a3, k.sum]; simp; rw [hwx]; omega
    · show (V (V x).left).size + 1 + (V (V x).right).size = _
      rw [a4, k.size]; simp; omega
    · show first2 V x = _
      rw [e2, fm_app _ hna hne, ← a1, ← k.first]
      unfold first2
      show (if (V x).right ≠ 0 ∧ wt V (V (V x).right).first < wt V (first1 V x) then _ else _) = if wt V (first1 V x) ≤ wt V (V (V x).right).first then _ else _
      by_cases h : wt V (first1 V x) ≤ wt V (V (V x).right).first
      · rw [if_pos h, if_neg (fun e => by omega)]
      · rw [if_neg h, if_pos ⟨h0, by omega⟩]
    · show last2 V x = _
      rw [e2, lm_app _ hna hne, ← a2, ← k.last]
      unfold last2
      show (if (V x).right ≠ 0 ∧ wt V (V (V x).right).last ≤ wt V (last1 V x) then _ else _) = if wt V (last1 V x) < wt V (V (V x).right).last then _ else _
      by_cases h : wt V (last1 V x) < wt V (V (V x).right).last
      · rw [if_pos h, if_neg (fun e => by omega)]
      · rw [if_neg h, if_pos ⟨h0, by omega⟩]
theorem pull_other {V : Vs} {x y : Nat} (h : y ≠ x) : pullF V x y = V y := put_other h
theorem wt_pull (V : Vs) (x : Nat) : wt (pullF V x) = wt V := wt_put rfl
/-- A node between two trees, computed anew. -/
theorem pull_ok {V : Vs} {x : Nat} {l r : BT} (hz : Zr V) (hx : x ≠ 0) (ht : (V x).turned = false) (hl : TOK V l (V x).left x) (hr : TOK V r (V x).right x) (nl : x ∉ l.ids) (nr : x ∉ r.ids) : TOK (pullF V x) (.node l x r) x (V x).up := by
  have e : pullF V x x = { V x with sum := (V (V x).left).sum + (V x).weight + (V (V x).right).sum, size := (V (V x).left).size + 1 + (V (V x).right).size, first := first2 V x, last := last2 V x } := put_same _ _ _
  have ho : ord (pullF V x) false (.node l x r) = ord V false (.node l x r) := ord_congr _ _ (fun y hy => by
    by_cases h : y = x
    · subst h; rw [e]
    · rw [pull_other h])
  refine ⟨rfl, hx, by rw [e], ?_, ?_, ?_⟩
  · rw [e]; exact hl.congr (wt_pull V x) (fun y hy => pull_other (fun h => nl (h ▸ hy)))
  · rw [e]; exact hr.congr (wt_pull V x) (fun y hy => pull_other (fun h => nr (h ▸ hy)))
  · rw [ho, wt_pull]
    have := pull_kn hz hl hr
    simp only [ord, ht]
    exact this
/-- The pointers behind a rotation: what each is. -/
structure Rot (V W : Vs) (x p g rb : Nat) (L : Bool) : Prop where
  ex : W x = if L then { V x with right := p, up := g } else { V x with left := p, up := g }
  ep : W p = if L then { V p with left := rb, up := x } else { V p with right := rb, up := x }
  er : rb ≠ 0 → W rb = { V rb with up := p }
  oth : ∀ y, y ≠ x → y ≠ p → y ≠ rb → W y = V y
theorem rotC_rot {V : Vs} {x p g : Nat} (hxp : x ≠ p) (L : Bool) (hL : L = true ↔ (V p).left = x) (hx : (if L then (V x).right else (V x).left) ≠ x) (hp : (if L then (V x).right else (V x).left) ≠ p) :
    Rot V (rotC V x p g) x p g (if L then (V x).right else (V x).left) L := by
  cases L with
  | true =>
    have e := hL.1 rfl
    simp only [if_true] at hx hp ⊢
    obtain ⟨rb, hrb⟩ : ∃ r, r = (V x).right := ⟨_, rfl⟩
    rw [← hrb] at hx hp ⊢
    unfold rotC setUp
    rw [if_pos e, ← hrb]
    by_cases hr : rb = 0
    · subst hr
      simp only [ne_eq, not_true_eq_false, if_false]
      refine ⟨?_, ?_, fun h => absurd rfl h, fun y h1 h2 h3 => ?_⟩
      · simp [put, hxp, Ne.symm hxp]
      · simp [put, hxp, Ne.symm hxp]
      · simp [put, h1, h2]
    · simp only [ne_eq, hr, not_false_eq_true, if_true]
      refine ⟨?_, ?_, fun _ => ?_, fun y h1 h2 h3 => ?_⟩
      · simp [put, hxp, Ne.symm hxp, hx, hp, Ne.symm hx, Ne.symm hp]
      · simp [put, hxp, Ne.symm hxp, hx, hp, Ne.symm hx, Ne.symm hp]
      · simp [put, hxp, Ne.symm hxp, hx, hp, Ne.symm hx, Ne.symm hp]
      · simp [put, h1, h2, h3]
  | false =>
    have e : ¬ (V p).left = x := fun e => by have := hL.2 e; cases this
    simp only [Bool.false_eq_true, if_false] at hx hp ⊢
    obtain ⟨rb, hrb⟩ : ∃ r, r = (V x).left := ⟨_, rfl⟩
    rw [← hrb] at hx hp ⊢
    unfold rotC setUp
    rw [if_neg e, ← hrb]
    by_cases hr : rb = 0
    · subst hr
      simp only [ne_eq, not_true_eq_false, if_false]
      refine ⟨?_, ?_, fun h => absurd rfl h, fun y h1 h2 h3 => ?_⟩
      · simp [put, hxp, Ne.symm hxp]
      · simp [put, hxp, Ne.symm hxp]
      · simp [put, h1, h2]
    · simp only [ne_eq, hr, not_false_eq_true, if_true]
      refine ⟨?_, ?_, fun _ => ?_, fun y h1 h2 h3 => ?_⟩
      · simp [put, hxp, Ne.symm hxp, hx, hp, Ne.symm hx, Ne.symm hp]
      · simp [put, hxp, Ne.symm hxp, hx, hp, Ne.symm hx, Ne.symm hp]
      · simp [put, hxp, Ne.symm hxp, hx, hp, Ne.symm hx, Ne.symm hp]
      · simp [put, h1, h2, h3]
theorem Rot.wt {V W : Vs} {x p g rb : Nat} {L : Bool} (h : Rot V W x p g rb L) (h0 : rb ≠ 0 ∨ W 0 = V 0) : wt W = wt V := by
  funext y
  unfold K.wt
  by_cases h1 : y = x
  · subst h1; rw [h.ex]; split <;> rfl
  · by_cases h2 : y = p
    · subst h2; rw [h.ep]; split <;> rfl
    · by_cases h3 : y = rb
      · by_cases h4 : rb = 0
        · subst h3; rcases h0 with h0 | h0
          · exact absurd h4 h0
          · rw [h4]; rw [h0]
        · subst h3; rw [h.er h4]
      · rw [h.oth y h1 h2 h3]
theorem Zr.put {V : Vs} (h : Zr V) {x : Nat} {n : Vx} (hx : x ≠ 0) : Zr (put V x n) := by
  unfold Zr
  rw [put_other (Ne.symm hx)]
  exact h
theorem Zr.pull {V : Vs} (h : Zr V) {x : Nat} (hx : x ≠ 0) : Zr (pullF V x) := Zr.put h hx
/-- A rotation of x above p; b goes over from x to p. -/
theorem rot_ok {V W : Vs} {x p g : Nat} {a b c : BT} (L : Bool) (hz : Zr W) (h : TOK V (if L then .node (.node a x b) p c else .node c p (.node b x a)) p g) (hn : (a.ids ++ b.ids ++ c.ids ++ [x, p]).Nodup) (tx : (V x).turned = false) (tp : (V p).turned = false)
    (R : Rot V W x p g b.root L) (hw : wt W = wt V) :
    TOK (pullF (pullF W p) x) (if L then .node a x (.node b p c) else .node (.node c p b) x a) x g ∧ (∀ y, y ∉ a.ids ++ b.ids ++ c.ids ++ [x, p] → pullF (pullF W p) x y = W y) ∧
    (∀ y, (pullF (pullF W p) x y).turned = (W y).turned) ∧ wt (pullF (pullF W p) x) = wt V := by
  -- what is apart
  have hn' := hn
  simp only [List.nodup_append, List.mem_append, List.mem_cons, List.not_mem_nil, or_false] at hn
  obtain ⟨⟨⟨na, nb, nab⟩, nc, nabc⟩, nxp, nall⟩ := hn
  have hxp : x ≠ p := by rw [List.nodup_cons] at nxp; exact fun e => nxp.1 (by simp [e])
  have xa : x ∉ a.ids := fun e => nall x (.inl (.inl e)) x (.inl rfl) rfl
  have xb : x ∉ b.ids := fun e => nall x (.inl (.inr e)) x (.inl rfl) rfl
  have xc : x ∉ c.ids := fun e => nall x (.inr e) x (.inl rfl) rfl
  have pa : p ∉ a.ids := fun e => nall p (.inl (.inl e)) p (.inr rfl) rfl
  have pb : p ∉ b.ids := fun e => nall p (.inl (.inr e)) p (.inr rfl) rfl
  have pc : p ∉ c.ids := fun e => nall p (.inr e) p (.inr rfl) rfl
  have rbx : b.root ∈ b.ids ∨ b = .nil := by cases b with | nil => exact .inr rfl | node l y r => exact .inl (by simp [BT.root, BT.ids])
  have da : ∀ y ∈ a.ids, y ≠ b.root := fun y hy e => by
    rcases rbx with h1 | h1
    · exact nab y hy b.root h1 e
    · subst h1; exact absurd (show (0 : Nat) ∈ a.ids from (show y = 0 from e) ▸ hy) (by
        intro h0
        cases L with
        | true => obtain ⟨_, _, _, hx, _, _⟩ := h; obtain ⟨_, _, _, ha, _, _⟩ := hx; exact ids_pos ha 0 h0 rfl
        | false => obtain ⟨_, _, _, _, hx, _⟩ := h; obtain ⟨_, _, _, _, ha, _⟩ := hx; exact ids_pos ha 0 h0 rfl)
  have dc : ∀ y ∈ c.ids, y ≠ b.root := fun y hy e => by
    rcases rbx with h1 | h1
    · exact nabc b.root (.inr h1) y hy e.symm
    · subst h1; exact absurd (show (0 : Nat) ∈ c.ids from (show y = 0 from e) ▸ hy) (by
        intro h0
        cases L with
        | true => obtain ⟨_, _, _, _, hc, _⟩ := h; exact ids_pos hc 0 h0 rfl
        | false => obtain ⟨_, _, _, hc, _, _⟩ := h; exact ids_pos hc 0 h0 rfl)
  have wa : ∀ y ∈ a.ids, W y = V y := fun y hy => R.oth y (fun e => xa (e ▸ hy)) (fun e => pa (e ▸ hy)) (da y hy)
  have wc : ∀ y ∈ c.ids, W y = V y := fun y hy => R.oth y (fun e => xc (e ▸ hy)) (fun e => pc (e ▸ hy)) (dc y hy)
  have wb : ∀ y ∈ b.ids, y ≠ b.root → W y = V y := fun y hy hr => R.oth y (fun e => xb (e ▸ hy)) (fun e => pb (e ▸ hy)) hr
  have tW : ∀ y, (pullF (pullF W p) x y).turned = (W y).turned := fun y => by
    unfold pullF put
    by_cases h1 : y = x
    · subst h1; simp [hxp]
    · by_cases h2 : y = p
      · subst h2; simp [h1]
      · simp [h1, h2]
  have oth : ∀ y, y ∉ a.ids ++ b.ids ++ c.ids ++ [x, p] → pullF (pullF W p) x y = W y := fun y hy => by
    have h1 : y ≠ x := fun e => hy (by simp [e])
    have h2 : y ≠ p := fun e => hy (by simp [e])
    rw [pull_other h1, pull_other h2]
  have hww : wt (pullF (pullF W p) x) = wt V := by rw [wt_pull, wt_pull, hw]
  refine ⟨?_, oth, tW, hww⟩
  cases L with
  | true =>
    obtain ⟨_, p0, pu, hx, hc, _⟩ := h
    obtain ⟨hxl, x0, xu, ha, hb, _⟩ := hx
    have Wx : W x = { V x with right := p, up := g } := R.ex
    have Wp : W p = { V p with left := b.root, up := x } := R.ep
    have hb' : TOK W b b.root p := (hb.root ▸ hb).above hw (fun h0 => R.er h0) wb nb
    have hc' : TOK W c (V p).right p := hc.congr hw wc
    have ha' : TOK W a (V x).left x := ha.congr hw wa
    have P1 := pull_ok (V := W) (x := p) (l := b) (r := c) hz p0 (by rw [Wp]; exact tp) (by rw [Wp]; exact hb') (by rw [Wp]; exact hc') pb pc
    rw [show (W p).up = x by rw [Wp]] at P1
    have e1 : pullF W p x = W x := pull_other hxp
    have ha2 : TOK (pullF W p) a (V x).left x := ha'.congr (wt_pull W p) (fun y hy => pull_other (fun e => pa (e ▸ hy)))
    have P2 := pull_ok (V := pullF W p) (x := x) (l := a) (r := .node b p c) (hz.pull p0) x0 (by rw [e1, Wx]; exact tx) (by rw [e1, Wx]; exact ha2) (by rw [e1, Wx]; exact P1) xa (by simp [BT.ids, xb, xc, hxp])
    rw [show (pullF W p x).up = g by rw [e1, Wx]] at P2
    exact P2
  | false =>
    obtain ⟨_, p0, pu, hc, hx, _⟩ := h
    obtain ⟨hxl, x0, xu, hb, ha, _⟩ := hx
    have Wx : W x = { V x with left := p, up := g } := R.ex
    have Wp : W p = { V p with right := b.root, up := x } := R.ep
    have hb' : TOK W b b.root p := (hb.root ▸ hb).above hw (fun h0 => R.er h0) wb nb
    have hc' : TOK W c (V p).left p := hc.congr hw wc
    have ha' : TOK W a (V x).right x := ha.congr hw wa
    have P1 := pull_ok (V := W) (x := p) (l := c) (r := b) hz p0 (by rw [Wp]; exact tp) (by rw [Wp]; exact hc') (by rw [Wp]; exact hb') pc pb
    rw [show (W p).up = x by rw [Wp]] at P1
    have e1 : pullF W p x = W x := pull_other hxp
    have ha2 : TOK (pullF W p) a (V x).right x := ha'.congr (wt_pull W p) (fun y hy => pull_other (fun e => pa (e ▸ hy)))
    have P2 := pull_ok (V := pullF W p) (x := x) (l := .node c p b) (r := a) (hz.pull p0) x0 (by rw [e1, Wx]; exact tx) (by rw [e1, Wx]; exact P1) (by rw [e1, Wx]; exact ha2) (by simp [BT.ids, xb, xc, hxp]) xa
    rw [show (pullF W p x).up = g by rw [e1, Wx]] at P2
    exact P2
/-- A tree with a hole: from the hole upwards; true: the hole is on the left. -/
abbrev Ctx := List (Bool × Nat × BT)
def plug : Ctx → BT → BT
  | [], t => t
  | (true, p, s) :: cs, t => plug cs (.node t p s)
  | (false, p, s) :: cs, t => plug cs (.node s p t)
def cids : Ctx → List Nat
  | [] => []
  | (_, p, s) :: cs => p :: s.ids ++ cids cs
def one (d : Bool) (p : Nat) (s t : BT) : BT := if d then .node t p s else .node s p t
theorem plug_cons (d : Bool) (p : Nat) (s : BT) (cs : Ctx) (t : BT) : plug ((d, p, s) :: cs) t = plug cs (one d p s t) := by cases d <;> rfl
theorem one_ids (d : Bool) (p : Nat) (s t : BT) : (one d p s t).ids.Perm (t.ids ++ (p :: s.ids)) := by
  cases d with
  | true => exact List.Perm.refl _
  | false =>
    show (s.ids ++ p :: t.ids).Perm (t.ids ++ (p :: s.ids))
    exact List.perm_middle.trans (((List.perm_append_comm).cons p).trans List.perm_middle.symm)
theorem plug_ids : ∀ (cs : Ctx) (t : BT), (plug cs t).ids.Perm (t.ids ++ cids cs)
  | [], t => by simp [plug, cids]
  | (d, p, s) :: cs, t => by
    rw [plug_cons]
    refine (plug_ids cs _).trans (((one_ids d p s t).append_right _).trans ?_)
    simp [cids]
theorem one_root (d : Bool) (p : Nat) (s t : BT) : (one d p s t).root = p := by cases d <;> rfl
theorem ord_one {V V' : Vs} {d : Bool} {p : Nat} {s t t' : BT} (ht : ∀ b, ord V' b t' = ord V b t) (hs : ∀ y ∈ s.ids, (V' y).turned = (V y).turned) (hp : (V' p).turned = (V p).turned) (b : Bool) : ord V' b (one d p s t') = ord V b (one d p s t) := by
  have h := fun b => ord_congr (V := V) (V' := V') s b hs
  cases d <;> cases b <;> simp [one, ord, ht, h, hp]
theorem plug_ord {V V' : Vs} : ∀ (cs : Ctx) (t t' : BT), (∀ b, ord V' b t' = ord V b t) → (∀ y ∈ cids cs, (V' y).turned = (V y).turned) → ∀ b, ord V' b (plug cs t') = ord V b (plug cs t)
  | [], t, t', h, _, b => h b
  | (d, p, s) :: cs, t, t', h, hy, b => by
    rw [plug_cons, plug_cons]
    exact plug_ord cs _ _ (ord_one h (fun y hs => hy y (by simp [cids, hs])) (hy p (by simp [cids]))) (fun y hs => hy y (by simp [cids, hs])) b
theorem TOK.one {V : Vs} {d : Bool} {p : Nat} {s t : BT} {y v : Nat} (h : TOK V (one d p s t) y v) : y = p ∧ p ≠ 0 ∧ (V p).up = v ∧ TOK V t (if d then (V p).left else (V p).right) p ∧ TOK V s (if d then (V p).right else (V p).left) p ∧ Kn (wt V) (V p) (ord V false (one d p s t)) := by
  cases d with
  | true => exact h
  | false => obtain ⟨h1, h2, h3, h4, h5, h6⟩ := h; exact ⟨h1, h2, h3, h5, h4, h6⟩
theorem TOK.one_mk {V : Vs} {d : Bool} {p : Nat} {s t : BT} {v : Nat} (h2 : p ≠ 0) (h3 : (V p).up = v) (h4 : TOK V t (if d then (V p).left else (V p).right) p) (h5 : TOK V s (if d then (V p).right else (V p).left) p) (h6 : Kn (wt V) (V p) (ord V false (K.one d p s t))) : TOK V (K.one d p s t) p v := by
  cases d with
  | true => exact ⟨rfl, h2, h3, h4, h5, h6⟩
  | false => exact ⟨rfl, h2, h3, h5, h4, h6⟩
/-- What lies in the hole is exchanged; its root stays. -/
theorem plug_same {V V' : Vs} (hw : wt V' = wt V) : ∀ (cs : Ctx) (t t' : BT) (r u : Nat), TOK V (plug cs t) r u → (∀ v, TOK V t t.root v → TOK V' t' t.root v) → t'.root = t.root → (∀ b, ord V' b t' = ord V b t) → (∀ y ∈ cids cs, V' y = V y) → TOK V' (plug cs t') r u
  | [], t, t', r, u, h, H, _, _, _ => by
    have e := h.root
    have e' : r = t.root := e
    subst e'
    exact H u h
  | (d, p, s) :: cs, t, t', r, u, h, H, hr, ho, hy => by
    rw [plug_cons] at h ⊢
    have hs : ∀ y ∈ s.ids, V' y = V y := fun y hs => hy y (by simp [cids, hs])
    have hp : V' p = V p := hy p (by simp [cids])
    refine plug_same hw cs _ _ r u h (fun v hv => ?_) (by rw [one_root, one_root]) (ord_one ho (fun y hh => by rw [hs y hh]) (by rw [hp])) (fun y hh => hy y (by simp [cids, hh]))
    rw [one_root] at hv ⊢
    obtain ⟨_, h2, h3, h4, h5, h6⟩ := hv.one
    have h7 := ord_one (V := V) (V' := V') (d := d) (p := p) (s := s) ho (fun y hh => by rw [hs y hh]) (by rw [hp]) false
    have h8 := h4.root
    rw [h8] at h4
    refine TOK.one_mk h2 (by rw [hp]; exact h3) ?_ (by rw [hp]; exact h5.congr hw hs) (by rw [h7, hw, hp]; exact h6)
    rw [hp, h8]
    exact H p h4
/-- What lies in the hole is exchanged; who stands above it points at the new root. -/
theorem plug_repl {V V' : Vs} (hw : wt V' = wt V) {d : Bool} {p : Nat} {s : BT} {cs : Ctx} {t t' : BT} {r u : Nat} (h : TOK V (plug ((d, p, s) :: cs) t) r u) (H : ∀ v, TOK V t t.root v → TOK V' t' t'.root v) (ho : ∀ b, ord V' b t' = ord V b t)
    (hp : V' p = if d then { V p with left := t'.root } else { V p with right := t'.root }) (hs : ∀ y ∈ s.ids, V' y = V y) (hy : ∀ y ∈ cids cs, V' y = V y) : TOK V' (plug ((d, p, s) :: cs) t') r u := by
  rw [plug_cons] at h ⊢
  have htp : (V' p).turned = (V p).turned := by rw [hp]; split <;> rfl
  refine plug_same hw cs _ _ r u h (fun v hv => ?_) (by rw [one_root, one_root]) (ord_one ho (fun y hh => by rw [hs y hh]) htp) hy
  rw [one_root] at hv ⊢
  obtain ⟨_, h2, h3, h4, h5, h6⟩ := hv.one
  have h7 := ord_one (V := V) (V' := V') (d := d) (p := p) (s := s) ho (fun y hh => by rw [hs y hh]) htp false
  have h8 := h4.root
  rw [h8] at h4
  refine TOK.one_mk h2 (by rw [hp]; cases d <;> exact h3) ?_ ?_ (by rw [h7, hw, hp]; cases d <;> exact ⟨h6.sum, h6.size, h6.first, h6.last⟩)
  · have := H p h4
    cases d with
    | true => rw [hp]; exact this
    | false => rw [hp]; exact this
  · cases d with
    | true => rw [hp]; exact h5.congr hw hs
    | false => rw [hp]; exact h5.congr hw hs
/-- Who stands above the hole. -/
def upc : Ctx → Nat → Nat
  | [], u => u
  | (_, p, _) :: _, _ => p
theorem plug_get {V : Vs} : ∀ (cs : Ctx) (t : BT) (r u : Nat), TOK V (plug cs t) r u → TOK V t t.root (upc cs u) ∧ (cs = [] → r = t.root)
  | [], t, r, u, h => by
    have e : r = t.root := h.root
    subst e
    exact ⟨h, fun _ => rfl⟩
  | (d, p, s) :: cs, t, r, u, h => by
    rw [plug_cons] at h
    obtain ⟨h1, _⟩ := plug_get cs _ r u h
    obtain ⟨_, _, _, h4, _, _⟩ := h1.one
    have e := h4.root
    rw [e] at h4
    exact ⟨h4, fun e => by cases e⟩
theorem plug_head {V : Vs} {d : Bool} {p : Nat} {s : BT} {cs : Ctx} {t : BT} {r u : Nat} (h : TOK V (plug ((d, p, s) :: cs) t) r u) :
    p ≠ 0 ∧ (if d then (V p).left else (V p).right) = t.root ∧ (if d then (V p).right else (V p).left) = s.root ∧ TOK V s s.root p := by
  rw [plug_cons] at h
  obtain ⟨h1, _⟩ := plug_get cs _ r u h
  obtain ⟨_, h2, _, h4, h5, _⟩ := h1.one
  have e := h5.root
  exact ⟨h2, h4.root, e, e ▸ h5⟩
theorem root_mem {V : Vs} {t : BT} {y u : Nat} (h : TOK V t y u) : t.root ∈ t.ids ∨ t.root = 0 := by
  cases t with
  | nil => exact .inr rfl
  | node l x r => exact .inl (by simp [BT.root, BT.ids])
theorem root_ne {V : Vs} {t : BT} {y u z : Nat} (h : TOK V t y u) (hz : z ∉ t.ids) (h0 : z ≠ 0) : t.root ≠ z := fun e => (root_mem h).elim (fun h1 => hz (e ▸ h1)) (fun h1 => h0 (e.symm.trans h1))
def rotL (L : Bool) (a b c : BT) (x p : Nat) : BT := if L then .node (.node a x b) p c else .node c p (.node b x a)
def rotR (L : Bool) (a b c : BT) (x p : Nat) : BT := if L then .node a x (.node b p c) else .node (.node c p b) x a
theorem rotL_ids (L : Bool) (a b c : BT) (x p : Nat) : (rotL L a b c x p).ids.Perm (a.ids ++ b.ids ++ c.ids ++ [x, p]) := by
  have key : ∀ (A B C : List Nat), (A ++ x :: B ++ p :: C).Perm (A ++ B ++ C ++ [x, p]) := fun A B C => by
    refine List.perm_middle.trans ?_
    simp only [List.append_assoc, List.cons_append]
    refine ((List.perm_middle (a := x) (l₁ := A)).cons p).trans ?_
    have e : (A ++ (B ++ (C ++ [x, p]))) = (A ++ B ++ C) ++ [x, p] := by simp
    rw [e]
    refine List.Perm.trans ?_ List.perm_append_comm
    refine (List.Perm.swap x p _).trans ?_
    simp
  cases L with
  | true => exact key _ _ _
  | false =>
    show (c.ids ++ p :: (b.ids ++ x :: a.ids)).Perm _
    have h1 := key b.ids a.ids c.ids
    refine List.perm_append_comm.trans ?_
    simp only [List.cons_append]
    have h2 : (p :: (b.ids ++ x :: a.ids ++ c.ids)).Perm (b.ids ++ x :: a.ids ++ p :: c.ids) := List.perm_middle.symm
    refine h2.trans (h1.trans ?_)
    exact ((List.perm_append_comm (l₁ := b.ids) (l₂ := a.ids)).append_right _).append_right _
theorem rotR_ord {V : Vs} (L : Bool) {a b c : BT} {x p : Nat} (tx : (V x).turned = false) (tp : (V p).turned = false) (d : Bool) : ord V d (rotR L a b c x p) = ord V d (rotL L a b c x p) := by
  cases L <;> cases d <;> simp [rotR, rotL, ord, tx, tp, ord_rev]
theorem TOK.rotParts {V : Vs} {L : Bool} {a b c : BT} {x p y g : Nat} (h : TOK V (rotL L a b c x p) y g) : x ≠ 0 ∧ p ≠ 0 ∧ (V x).up = p ∧ (V p).up = g ∧ (if L then (V p).left else (V p).right) = x ∧ (if L then (V p).right else (V p).left) = c.root ∧ (if L then (V x).right else (V x).left) = b.root ∧ (∃ v, TOK V b b.root v) ∧ ∃ v, TOK V c c.root v := by
  cases L with
  | true =>
    obtain ⟨_, h2, h3, h4, h5, _⟩ := h
    obtain ⟨k1, k2, k3, k4, k5, _⟩ := h4
    exact ⟨k2, h2, k3, h3, k1, h5.root, k5.root, ⟨_, k5.root ▸ k5⟩, ⟨_, h5.root ▸ h5⟩⟩
  | false =>
    obtain ⟨_, h2, h3, h5, h4, _⟩ := h
    obtain ⟨k1, k2, k3, k5, k4, _⟩ := h4
    exact ⟨k2, h2, k3, h3, k1, h5.root, k5.root, ⟨_, k5.root ▸ k5⟩, ⟨_, h5.root ▸ h5⟩⟩
/-- rotate, in a context. -/
theorem rot_ctx {V : Vs} {x p : Nat} {a b c : BT} (L : Bool) (cs : Ctx) {r u : Nat} (hz : Zr V) (h : TOK V (plug cs (rotL L a b c x p)) r u) (hn : (plug cs (rotL L a b c x p)).ids.Nodup) (tx : (V x).turned = false) (tp : (V p).turned = false) (htop : cs = [] → topB V p = true) :
    TOK (rotF V x) (plug cs (rotR L a b c x p)) (if cs = [] then x else r) u ∧ (∀ y, y ∉ (plug cs (rotL L a b c x p)).ids → rotF V x y = V y) ∧ (∀ y, (rotF V x y).turned = (V y).turned) ∧ wt (rotF V x) = wt V ∧ Zr (rotF V x) := by
  obtain ⟨hg, _⟩ := plug_get cs _ r u h
  obtain ⟨x0, p0, ux, up, hpx, hpc, hxb, ⟨vb, hb⟩, ⟨vc, hc⟩⟩ := hg.rotParts
  have hids := plug_ids cs (rotL L a b c x p)
  have hn1 := (hids.nodup_iff.1 hn)
  rw [List.nodup_append] at hn1
  obtain ⟨hnt, hnc, hntc⟩ := hn1
  have hnt' := (rotL_ids L a b c x p).nodup_iff.1 hnt
  have hmem : ∀ y, y ∈ (rotL L a b c x p).ids ↔ y ∈ a.ids ++ b.ids ++ c.ids ++ [x, p] := fun y => (rotL_ids L a b c x p).mem_iff
  have hnn := hnt'
  simp only [List.nodup_append, List.mem_append, List.mem_cons, List.not_mem_nil, or_false] at hnn
  obtain ⟨⟨⟨na, nb, nab⟩, nc, nabc⟩, nxp, nall⟩ := hnn
  have hxp : x ≠ p := by rw [List.nodup_cons] at nxp; exact fun e => nxp.1 (by simp [e])
  have xb : x ∉ b.ids := fun e => nall x (.inl (.inr e)) x (.inl rfl) rfl
  have xc : x ∉ c.ids := fun e => nall x (.inr e) x (.inl rfl) rfl
  have pb : p ∉ b.ids := fun e => nall p (.inl (.inr e)) p (.inr rfl) rfl
  have bx : b.root ≠ x := root_ne hb xb x0
  have bp : b.root ≠ p := root_ne hb pb p0
  have cx : c.root ≠ x := root_ne hc xc x0
  -- the rotation, wherever what stands above points
  have main : ∀ (V1 : Vs) (g : Nat), (∀ y ∈ (rotL L a b c x p).ids, V1 y = V y) → wt V1 = wt V → Zr V1 → TOK V1 (rotL L a b c x p) p g →
      TOK (pullF (pullF (rotC V1 x p g) p) x) (rotR L a b c x p) x g ∧ (∀ y, y ∉ (rotL L a b c x p).ids → pullF (pullF (rotC V1 x p g) p) x y = V1 y) ∧ (∀ y, (pullF (pullF (rotC V1 x p g) p) x y).turned = (V1 y).turned) ∧ wt (pullF (pullF (rotC V1 x p g) p) x) = wt V ∧ Zr (pullF (pullF (rotC V1 x p g) p) x) := by
    intro V1 g h1 hw hz1 ht
    have ex : V1 x = V x := h1 x ((hmem x).2 (by simp))
    have ep : V1 p = V p := h1 p ((hmem p).2 (by simp))
    have hLp : L = true ↔ (V1 p).left = x := by
      rw [ep]
      cases L with
      | true => exact ⟨fun _ => hpx, fun _ => rfl⟩
      | false => exact ⟨fun e => (by cases e), fun e => absurd (hpc.symm.trans e) cx⟩
    have hxb' : (if L then (V1 x).right else (V1 x).left) = b.root := by rw [ex]; exact hxb
    have R := rotC_rot (V := V1) (g := g) hxp L hLp (by rw [hxb']; exact bx) (by rw [hxb']; exact bp)
    rw [hxb'] at R
    have zW : rotC V1 x p g 0 = V1 0 := by
      by_cases hb0 : b.root = 0
      · -- nothing hangs there
        by_cases hb1 : b.root = 0
        · unfold rotC setUp
          cases L with
          | true =>
            have e1 := hLp.1 rfl
            have e2 : (V1 x).right = 0 := by simpa using hxb'.trans hb0
            rw [if_pos e1, e2]
            simp [put, Ne.symm x0, Ne.symm p0]
          | false =>
            have e1 : ¬ (V1 p).left = x := fun e => by have := hLp.2 e; cases this
            have e2 : (V1 x).left = 0 := by simpa using hxb'.trans hb0
            rw [if_neg e1, e2]
            simp [put, Ne.symm x0, Ne.symm p0]
        · exact absurd hb0 hb1
      · exact R.oth 0 (Ne.symm x0) (Ne.symm p0) (Ne.symm hb0)
    have hwW : wt (rotC V1 x p g) = wt V1 := R.wt (.inr zW)
    have zr : Zr (rotC V1 x p g) := by unfold Zr; rw [zW]; exact hz1
    obtain ⟨k1, k2, k3, k4⟩ := rot_ok (V := V1) (W := rotC V1 x p g) L zr ht hnt' (by rw [ex]; exact tx) (by rw [ep]; exact tp) R hwW
    have tR : ∀ y, (rotC V1 x p g y).turned = (V1 y).turned := fun y => by
      by_cases h2 : y = x
      · subst h2; rw [R.ex]; cases L <;> rfl
      · by_cases h3 : y = p
        · subst h3; rw [R.ep]; cases L <;> rfl
        · by_cases h4 : y = b.root
          · by_cases h5 : b.root = 0
            · rw [h4, h5, zW]
            · rw [h4, R.er h5]
          · rw [R.oth y h2 h3 h4]
    refine ⟨k1, fun y hy => ?_, fun y => (k3 y).trans (tR y), k4.trans hw, (zr.pull p0).pull x0⟩
    rw [k2 y (fun e => hy ((hmem y).2 e))]
    by_cases h4 : y = b.root
    · rcases root_mem hb with h5 | h5
      · exact absurd ((hmem y).2 (by rw [h4]; simp [h5])) hy
      · rw [h4, h5, zW]
    · exact R.oth y (fun e => hy ((hmem y).2 (by simp [e]))) (fun e => hy ((hmem y).2 (by simp [e]))) h4
  have eF : rotF V x = pullF (pullF (rotC (rotG V x) x p (upc cs u)) p) x := by unfold rotF; rw [ux, up]
  have hroot : (rotL L a b c x p).root = p := by cases L <;> rfl
  have hroot' : (rotR L a b c x p).root = x := by cases L <;> rfl
  rw [hroot] at hg
  cases cs with
  | nil =>
    have eG : rotG V x = V := by unfold rotG; rw [ux, htop rfl]; rfl
    rw [eF, eG]
    obtain ⟨k1, k2, k3, k4, k5⟩ := main V u (fun y _ => rfl) rfl hz hg
    exact ⟨by simpa [plug, upc] using k1, fun y hy => k2 y hy, k3, k4, k5⟩
  | cons hd cs =>
    obtain ⟨d, g, s⟩ := hd
    obtain ⟨g0, hgp, hgs, hs⟩ := plug_head h
    rw [hroot] at hgp
    have hgt : g ∉ (rotL L a b c x p).ids := fun e => hntc g e g (by simp [cids]) rfl
    have hst : ∀ y ∈ s.ids, y ∉ (rotL L a b c x p).ids := fun y hy e => hntc y e y (by simp [cids, hy]) rfl
    have hct : ∀ y ∈ cids cs, y ∉ (rotL L a b c x p).ids := fun y hy e => hntc y e y (by simp [cids, hy]) rfl
    have hgc : g ∉ s.ids ∧ g ∉ cids cs := by
      have h1 := hnc
      simp only [cids, List.cons_append, List.nodup_cons, List.mem_append, not_or] at h1
      exact h1.1
    have hpt : p ∈ (rotL L a b c x p).ids := (hmem p).2 (by simp)
    have hps : s.root ≠ p := root_ne hs (fun e => hst p e hpt) p0
    have upg : (V p).up = g := up
    have eT : topB V p = false := by
      unfold topB
      rw [upg]
      cases d with
      | true => simp [g0]; intro h1; exact absurd hgp h1
      | false => simp [g0]; intro _; exact hgp
    have eG : rotG V x = put V g (if d then { V g with left := x } else { V g with right := x }) := by
      unfold rotG
      rw [ux, eT, upg]
      cases d with
      | true => rw [if_neg (by decide), if_pos (show (V g).left = p from hgp)]; rfl
      | false => rw [if_neg (by decide), if_neg (show ¬ (V g).left = p from fun e => hps (hgs.symm.trans e))]; rfl
    have wG : wt (rotG V x) = wt V := by rw [eG]; exact wt_put (by cases d <;> rfl)
    have zG : Zr (rotG V x) := by rw [eG]; exact hz.put g0
    have oG : ∀ y, y ≠ g → rotG V x y = V y := fun y hy => by rw [eG, put_other hy]
    have gG : rotG V x g = if d then { V g with left := x } else { V g with right := x } := by rw [eG, put_same]
    have hin : ∀ y ∈ (rotL L a b c x p).ids, rotG V x y = V y := fun y hy => oG y (fun e => hgt (e ▸ hy))
    rw [eF]
    obtain ⟨k1, k2, k3, k4, k5⟩ := main (rotG V x) g hin wG zG (hg.congr wG hin)
    have tV : ∀ y, (pullF (pullF (rotC (rotG V x) x p g) p) x y).turned = (V y).turned := fun y => by
      rw [k3 y]
      by_cases hy : y = g
      · subst hy; rw [gG]; cases d <;> rfl
      · rw [oG y hy]
    show TOK (pullF (pullF (rotC (rotG V x) x p g) p) x) (plug ((d, g, s) :: cs) (rotR L a b c x p)) _ u ∧ _
    rw [if_neg (by simp)]
    refine ⟨?_, fun y hy => ?_, tV, k4, k5⟩
    · refine plug_repl k4 h (fun v hv => ?_) (fun b' => ?_) ?_ (fun y hy => ?_) (fun y hy => ?_)
      · rw [hroot']
        rw [hroot] at hv
        have : v = g := by obtain ⟨_, _, _, h6, _⟩ := hv.rotParts; exact h6.symm.trans upg
        rw [this]; exact k1
      · rw [ord_congr (V := V) (rotR L a b c x p) b' (fun y _ => tV y)]
        exact rotR_ord L tx tp b'
      · rw [hroot', k2 g hgt, gG]
      · rw [k2 y (hst y hy), oG y (fun e => hgc.1 (e ▸ hy))]
      · rw [k2 y (hct y hy), oG y (fun e => hgc.2 (e ▸ hy))]
    · have h1 : y ∉ (rotL L a b c x p).ids ++ cids ((d, g, s) :: cs) := fun e => hy (hids.mem_iff.2 e)
      rw [List.mem_append, not_or] at h1
      have h2 : y ≠ g := fun e => h1.2 (by simp [cids, e])
      show pullF (pullF (rotC (rotG V x) x p g) p) x y = V y
      rw [k2 y h1.1, oG y h2]
/-- A subtree turned around at its root. -/
def mir : BT → BT
  | .nil => .nil
  | .node l x r => .node r x l
theorem mir_root (t : BT) : (mir t).root = t.root := by cases t <;> rfl
theorem mir_ids (t : BT) : (mir t).ids.Perm t.ids := by
  cases t with
  | nil => exact List.Perm.refl _
  | node l x r =>
    show (r.ids ++ x :: l.ids).Perm (l.ids ++ x :: r.ids)
    exact List.perm_middle.trans (((List.perm_append_comm).cons x).trans List.perm_middle.symm)
theorem Zr.turn {V : Vs} (h : Zr V) (x : Nat) : Zr (turnF V x) := by
  unfold turnF
  split
  · exact h
  · rename_i hx; exact h.put hx
theorem wt_turn (V : Vs) (x : Nat) : wt (turnF V x) = wt V := by
  unfold turnF
  split
  · rfl
  · exact wt_put rfl
theorem turn_other {V : Vs} {x y : Nat} (h : y ≠ x) : turnF V x y = V y := by
  unfold turnF
  split
  · rfl
  · exact put_other h
theorem turn_up (V : Vs) (x y : Nat) : (turnF V x y).up = (V y).up := by
  unfold turnF put
  split
  · rfl
  · dsimp only; split
    · rename_i h; subst h; rfl
    · rfl
theorem turn_same {V : Vs} {x : Nat} (hx : x ≠ 0) : turnF V x x = { V x with left := (V x).right, right := (V x).left, first := (V x).last, last := (V x).first, turned := !(V x).turned } := by
  unfold turnF; rw [if_neg hx, put_same]
/-- turn. -/
theorem turn_ok {V : Vs} {t : BT} {y u : Nat} (h : TOK V t y u) (hn : t.ids.Nodup) : TOK (turnF V y) (mir t) y u ∧ ∀ b, ord (turnF V y) b (mir t) = ord V (!b) t := by
  cases t with
  | nil => exact ⟨h, fun b => by cases b <;> rfl⟩
  | node l x r =>
    obtain ⟨h1, h2, h3, h4, h5, h6⟩ := h
    subst h1
    simp only [BT.ids, List.nodup_append, List.nodup_cons] at hn
    obtain ⟨n1, ⟨n2, n3⟩, n4⟩ := hn
    have nl : y ∉ l.ids := fun e => n4 y e y (by simp) rfl
    have ey := turn_same (V := V) h2
    have hl : ∀ z ∈ l.ids, turnF V y z = V z := fun z hz => turn_other (fun e => nl (e ▸ hz))
    have hr : ∀ z ∈ r.ids, turnF V y z = V z := fun z hz => turn_other (fun e => n2 (e ▸ hz))
    have ol : ∀ b, ord (turnF V y) b l = ord V b l := fun b => ord_congr l b (fun z hz => by rw [hl z hz])
    have or' : ∀ b, ord (turnF V y) b r = ord V b r := fun b => ord_congr r b (fun z hz => by rw [hr z hz])
    have hord : ∀ b, ord (turnF V y) b (mir (.node l y r)) = ord V (!b) (.node l y r) := fun b => by
      cases b <;> simp [mir, ord, ey, ol, or']
    refine ⟨⟨rfl, h2, by rw [ey]; exact h3, ?_, ?_, ?_⟩, hord⟩
    · rw [ey]; exact h5.congr (wt_turn V y) hr
    · rw [ey]; exact h4.congr (wt_turn V y) hl
    · have h7 : ord (turnF V y) false (.node r y l) = (ord V false (.node l y r)).reverse := (hord false).trans (ord_rev V _)
      rw [h7, wt_turn, ey]
      refine ⟨?_, ?_, ?_, ?_⟩
      · rw [List.map_reverse, List.sum_reverse]; exact h6.sum
      · rw [List.length_reverse]; exact h6.size
      · rw [fm_rev]; exact h6.last
      · rw [lm_rev]; exact h6.first
/-- push. -/
theorem push_ok {V : Vs} {l r : BT} {y u : Nat} (hz : Zr V) (h : TOK V (.node l y r) y u) (hn : (BT.node l y r).ids.Nodup) :
    ∃ l' r', TOK (pushF V y) (.node l' y r') y u ∧ l'.ids.Perm l.ids ∧ r'.ids.Perm r.ids ∧ l'.root = l.root ∧ r'.root = r.root ∧ (∀ b, ord (pushF V y) b (.node l' y r') = ord V b (.node l y r)) ∧ (pushF V y y).turned = false ∧
      (l' = l ∨ l' = mir l) ∧ (r' = r ∨ r' = mir r) ∧ (∀ z, z ∉ (BT.node l y r).ids → pushF V y z = V z) ∧ wt (pushF V y) = wt V ∧ Zr (pushF V y) := by
  cases ht : (V y).turned with
  | false =>
    have e : pushF V y = V := by unfold pushF; rw [ht]; rfl
    rw [e]
    exact ⟨l, r, h, List.Perm.refl _, List.Perm.refl _, rfl, rfl, fun _ => rfl, ht, .inl rfl, .inl rfl, fun _ _ => rfl, rfl, hz⟩
  | true =>
    obtain ⟨h1, h2, h3, h4, h5, h6⟩ := h
    have hn' := hn
    simp only [BT.ids, List.nodup_append, List.nodup_cons] at hn'
    obtain ⟨n1, ⟨n2, n3⟩, n4⟩ := hn'
    have nl : y ∉ l.ids := fun e => n4 y e y (by simp) rfl
    have el := h4.root
    have er := h5.root
    obtain ⟨W1, hW1⟩ : ∃ W, W = turnF V (V y).left := ⟨_, rfl⟩
    obtain ⟨W2, hW2⟩ : ∃ W, W = turnF W1 (V y).right := ⟨_, rfl⟩
    have eP : pushF V y = put W2 y { W2 y with turned := false } := by
      unfold pushF; rw [ht, hW2, hW1]; rfl
    have w1 : wt W1 = wt V := by rw [hW1]; exact wt_turn _ _
    have w2 : wt W2 = wt V := by rw [hW2, wt_turn]; exact w1
    have w3 : wt (pushF V y) = wt V := by
      have e := wt_put (V := W2) (x := y) (n := { W2 y with turned := false }) rfl
      rw [eP, e]; exact w2
    have lny : l.root ≠ y := root_ne h4 nl h2
    have rny : r.root ≠ y := root_ne h5 n2 h2
    have y1 : W1 y = V y := by rw [hW1]; exact turn_other (by rw [el]; exact Ne.symm lny)
    have y2 : W2 y = V y := by rw [hW2, turn_other (by rw [er]; exact Ne.symm rny), y1]
    have lr : ∀ z ∈ l.ids, z ≠ r.root := fun z hz e => (root_mem h5).elim (fun h => n4 z hz r.root (by simp [h]) e) (fun h => ids_pos h4 z hz (e.trans h))
    have rl : ∀ z ∈ r.ids, z ≠ l.root := fun z hz e => (root_mem h4).elim (fun h => n4 l.root h z (by simp [hz]) e.symm) (fun h => ids_pos h5 z hz (e.trans h))
    have r1 : ∀ z ∈ r.ids, W1 z = V z := fun z hz => by rw [hW1]; exact turn_other (by rw [el]; exact rl z hz)
    obtain ⟨a1, a2⟩ := turn_ok h4 n1
    rw [← hW1] at a1 a2
    have h5' : TOK W1 r (V y).right y := h5.congr w1 r1
    obtain ⟨b1, b2⟩ := turn_ok h5' n3
    rw [← hW2] at b1 b2
    have ml : ∀ z ∈ (mir l).ids, z ∈ l.ids := fun z hz => (mir_ids l).mem_iff.1 hz
    have mr : ∀ z ∈ (mir r).ids, z ∈ r.ids := fun z hz => (mir_ids r).mem_iff.1 hz
    have l2 : ∀ z ∈ l.ids, W2 z = W1 z := fun z hz => by rw [hW2]; exact turn_other (by rw [er]; exact lr z hz)
    have p2 : ∀ z, z ≠ y → pushF V y z = W2 z := fun z hz => by rw [eP, put_other hz]
    have py : pushF V y y = { V y with turned := false } := by rw [eP, put_same, y2]
    have c1 : TOK (pushF V y) (mir l) (V y).left y := a1.congr (w3.trans w1.symm) (fun z hz => (p2 z (fun e => nl (e ▸ ml z hz))).trans (l2 z (ml z hz)))
    have c2 : TOK (pushF V y) (mir r) (V y).right y := b1.congr (w3.trans w2.symm) (fun z hz => p2 z (fun e => n2 (e ▸ mr z hz)))
    have ol : ∀ b, ord (pushF V y) b (mir l) = ord V (!b) l := fun b => by
      rw [← a2 b]
      exact ord_congr _ _ (fun z hz => by rw [p2 z (fun e => nl (e ▸ ml z hz)), l2 z (ml z hz)])
    have or' : ∀ b, ord (pushF V y) b (mir r) = ord V (!b) r := fun b => by
      rw [ord_congr (V := W2) (mir r) b (fun z hz => by rw [p2 z (fun e => n2 (e ▸ mr z hz))]), b2 b]
      exact ord_congr _ _ (fun z hz => by rw [r1 z hz])
    have hord : ∀ b, ord (pushF V y) b (.node (mir l) y (mir r)) = ord V b (.node l y r) := fun b => by
      cases b <;> simp [ord, py, ol, or', ht]
    refine ⟨mir l, mir r, ⟨rfl, h2, by rw [py]; exact h3, by rw [py]; exact c1, by rw [py]; exact c2, ?_⟩, mir_ids l, mir_ids r, mir_root l, mir_root r, hord, by rw [py], .inr rfl, .inr rfl, fun z hz => ?_, w3, ?_⟩
    · rw [hord false, w3, py]; exact ⟨h6.sum, h6.size, h6.first, h6.last⟩
    · have hz2 : z ≠ y := fun e => hz (by simp [BT.ids, e])
      rw [p2 z hz2, hW2]
      by_cases e1 : z = r.root
      · rcases root_mem h5 with h7 | h7
        · exact absurd (by simp [BT.ids, e1, h7]) hz
        · have : (V y).right = 0 := er.trans h7
          rw [this]
          show turnF W1 0 z = V z
          rw [show turnF W1 0 = W1 by unfold turnF; rw [if_pos rfl], hW1]
          by_cases e2 : z = l.root
          · rcases root_mem h4 with h8 | h8
            · exact absurd (by simp [BT.ids, e2, h8]) hz
            · have : (V y).left = 0 := el.trans h8
              rw [this]; unfold turnF; rw [if_pos rfl]
          · exact turn_other (by rw [el]; exact e2)
      · rw [turn_other (by rw [er]; exact e1), hW1]
        by_cases e2 : z = l.root
        · rcases root_mem h4 with h8 | h8
          · exact absurd (by simp [BT.ids, e2, h8]) hz
          · have : (V y).left = 0 := el.trans h8
            rw [this]; unfold turnF; rw [if_pos rfl]
        · exact turn_other (by rw [el]; exact e2)
    · rw [eP]
      have : Zr W2 := by rw [hW2, hW1]; exact (hz.turn _).turn _
      exact this.put h2
/-- The vertices from the root of a tree down to one. -/
def PathIn : List Nat → BT → Prop
  | [], _ => False
  | [y], t => t.root = y ∧ t ≠ .nil
  | y :: z :: rest, .node l x r => y = x ∧ (PathIn (z :: rest) l ∨ PathIn (z :: rest) r)
  | _ :: _ :: _, .nil => False
theorem PathIn.mir {path : List Nat} {t : BT} (h : PathIn path t) : PathIn path (mir t) := by
  match path, t, h with
  | [y], t, h => exact ⟨by rw [mir_root]; exact h.1, fun e => h.2 (by cases t with | nil => rfl | node l x r => cases e)⟩
  | y :: z :: rest, .node l x r, h => exact ⟨h.1, h.2.symm⟩
theorem PathIn.sub : ∀ {path : List Nat} {t : BT}, PathIn path t → ∀ z ∈ path, z ∈ t.ids
  | [y], t, h, z, hz => by
    rw [List.mem_singleton] at hz
    subst hz
    cases t with
    | nil => exact absurd rfl h.2
    | node l x r => rw [← h.1]; simp [BT.root, BT.ids]
  | y :: w :: rest, .node l x r, h, z, hz => by
    rcases List.mem_cons.1 hz with hz | hz
    · rw [hz, h.1]; simp [BT.ids]
    · rcases h.2 with h2 | h2
      · have := h2.sub z hz; simp [BT.ids, this]
      · have := h2.sub z hz; simp [BT.ids, this]
/-- Pushing from the root down. -/
theorem pushes_ok : ∀ (path : List Nat) (T : BT) (V : Vs) (y u : Nat), Zr V → TOK V T y u → T.ids.Nodup → PathIn path T →
    ∃ T', TOK (path.foldl pushF V) T' y u ∧ T'.ids.Perm T.ids ∧ T'.root = T.root ∧ PathIn path T' ∧ (∀ z ∈ path, ((path.foldl pushF V) z).turned = false) ∧ (∀ b, ord (path.foldl pushF V) b T' = ord V b T) ∧
      (∀ z, z ∉ T.ids → (path.foldl pushF V) z = V z) ∧ wt (path.foldl pushF V) = wt V ∧ Zr (path.foldl pushF V)
  | [y0], T, V, y, u, hz, h, hn, hp => by
    cases T with
    | nil => exact absurd rfl hp.2
    | node l x r =>
      have e : y0 = x := hp.1.symm
      have ey : y = x := h.1
      subst e
      subst ey
      obtain ⟨l', r', k1, k2, k3, k4, k5, k6, k7, _, _, k8, k9, k10⟩ := push_ok hz h hn
      refine ⟨.node l' y r', k1, ?_, rfl, ⟨rfl, fun e => by cases e⟩, fun z hz => ?_, k6, k8, k9, k10⟩
      · exact k2.append (k3.cons y)
      · rw [List.mem_singleton] at hz; rw [hz]; exact k7
  | y0 :: z0 :: rest, T, V, y, u, hz, h, hn, hp => by
    cases T with
    | nil => exact hp.elim
    | node l x r =>
      obtain ⟨e, hp2⟩ := hp
      have ey : y = x := h.1
      subst e
      subst ey
      obtain ⟨l', r', k1, k2, k3, k4, k5, k6, k7, c1, c2, k8, k9, k10⟩ := push_ok hz h hn
      have hperm : (BT.node l' y r').ids.Perm (BT.node l y r).ids := k2.append (k3.cons y)
      have hn1 : (BT.node l' y r').ids.Nodup := hperm.nodup_iff.2 hn
      have hn2 := hn1
      simp only [BT.ids, List.nodup_append, List.nodup_cons] at hn2
      obtain ⟨n1, ⟨n2, n3⟩, n4⟩ := hn2
      have nl : y ∉ l'.ids := fun e => n4 y e y (by simp) rfl
      rw [List.foldl_cons]
      generalize hV1 : pushF V y = V1 at *
      obtain ⟨_, y0', yu, hl, hr, hk⟩ := k1
      rcases hp2 with hp2 | hp2
      · have hp3 : PathIn (z0 :: rest) l' := by rcases c1 with e | e <;> rw [e]; exact hp2; exact hp2.mir
        obtain ⟨T', m1, m2, m3, m4, m5, m6, m7, m8, m9⟩ := pushes_ok (z0 :: rest) l' V1 _ y k10 hl n1 hp3
        have ey : (z0 :: rest).foldl pushF V1 y = V1 y := m7 y nl
        have er : ∀ z ∈ r'.ids, (z0 :: rest).foldl pushF V1 z = V1 z := fun z hz => m7 z (fun e => n4 z e z (by simp [hz]) rfl)
        have ho : ∀ b, ord ((z0 :: rest).foldl pushF V1) b (.node T' y r') = ord V1 b (.node l' y r') := fun b => by
          have h1 := fun b => ord_congr (V := V1) (V' := (z0 :: rest).foldl pushF V1) r' b (fun z hz => by rw [er z hz])
          cases b <;> simp only [ord, ey, m6, h1]
        refine ⟨.node T' y r', ⟨rfl, y0', by rw [ey]; exact yu, by rw [ey]; exact m1, by rw [ey]; exact hr.congr m8 er, by rw [ho, m8, ey]; exact hk⟩, ?_, rfl, ⟨rfl, .inl m4⟩, fun z hz => ?_, fun b => (ho b).trans (k6 b), fun z hz => ?_, m8.trans k9, m9⟩
        · exact ((m2.append_right _).trans hperm)
        · rcases List.mem_cons.1 hz with e | e
          · rw [e, ey]; exact k7
          · exact m5 z e
        · rw [m7 z (fun e => hz (by simp [BT.ids, k2.mem_iff.1 e])), k8 z hz]
      · have hp3 : PathIn (z0 :: rest) r' := by rcases c2 with e | e <;> rw [e]; exact hp2; exact hp2.mir
        obtain ⟨T', m1, m2, m3, m4, m5, m6, m7, m8, m9⟩ := pushes_ok (z0 :: rest) r' V1 _ y k10 hr n3 hp3
        have ey : (z0 :: rest).foldl pushF V1 y = V1 y := m7 y n2
        have el : ∀ z ∈ l'.ids, (z0 :: rest).foldl pushF V1 z = V1 z := fun z hz => m7 z (fun e => n4 z hz z (by simp [e]) rfl)
        have ho : ∀ b, ord ((z0 :: rest).foldl pushF V1) b (.node l' y T') = ord V1 b (.node l' y r') := fun b => by
          have h1 := fun b => ord_congr (V := V1) (V' := (z0 :: rest).foldl pushF V1) l' b (fun z hz => by rw [el z hz])
          cases b <;> simp only [ord, ey, m6, h1]
        refine ⟨.node l' y T', ⟨rfl, y0', by rw [ey]; exact yu, by rw [ey]; exact hl.congr m8 el, by rw [ey]; exact m1, by rw [ho, m8, ey]; exact hk⟩, ?_, rfl, ⟨rfl, .inr m4⟩, fun z hz => ?_, fun b => (ho b).trans (k6 b), fun z hz => ?_, m8.trans k9, m9⟩
        · exact (((m2.cons y).append_left _).trans hperm)
        · rcases List.mem_cons.1 hz with e | e
          · rw [e, ey]; exact k7
          · exact m5 z e
        · rw [m7 z (fun e => hz (by simp [BT.ids, k3.mem_iff.1 e])), k8 z hz]
theorem plug_app : ∀ (cs cs2 : Ctx) (t : BT), plug (cs ++ cs2) t = plug cs2 (plug cs t)
  | [], _, _ => rfl
  | (d, p, s) :: cs, cs2, t => by rw [List.cons_append, plug_cons, plug_cons, plug_app cs cs2]
def ups (cs : Ctx) : List Nat := cs.map fun e => e.2.1
theorem path_ctx : ∀ (path : List Nat) (T : BT), PathIn path T → ∃ cs t, T = plug cs t ∧ t ≠ .nil ∧ path.reverse = t.root :: ups cs
  | [y], T, h => ⟨[], T, rfl, h.2, by rw [← h.1]; rfl⟩
  | y :: z :: rest, .node l x r, h => by
    obtain ⟨e, h2 | h2⟩ := h
    · obtain ⟨cs, t, h3, h4, h5⟩ := path_ctx (z :: rest) l h2
      refine ⟨cs ++ [(true, x, r)], t, by rw [plug_app, ← h3]; rfl, h4, ?_⟩
      rw [List.reverse_cons, h5, e]; simp [ups]
    · obtain ⟨cs, t, h3, h4, h5⟩ := path_ctx (z :: rest) r h2
      refine ⟨cs ++ [(false, x, l)], t, by rw [plug_app, ← h3]; rfl, h4, ?_⟩
      rw [List.reverse_cons, h5, e]; simp [ups]
theorem path_up : ∀ {path : List Nat} {t : BT} {d : Bool} {p : Nat} {s : BT}, PathIn path t → PathIn (p :: path) (one d p s t)
  | y :: rest, t, d, p, s, h => by
    cases d with
    | true => exact ⟨rfl, .inl h⟩
    | false => exact ⟨rfl, .inr h⟩
theorem ctx_path : ∀ (cs : Ctx) (t : BT) (path : List Nat), PathIn path t → PathIn ((ups cs).reverse ++ path) (plug cs t)
  | [], t, path, h => h
  | (d, p, s) :: cs, t, path, h => by
    rw [plug_cons]
    have := ctx_path cs (one d p s t) (p :: path) (path_up h)
    simpa [ups] using this
/-- Nobody outside points down into it. -/
def Top (V : Vs) (L : List Nat) (u : Nat) : Prop := u = 0 ∨ (u ∉ L ∧ (V u).left ∉ L ∧ (V u).right ∉ L)
theorem Top.frame {V V' : Vs} {L : List Nat} {u : Nat} (h : Top V L u) (hf : ∀ y, y ∉ L → V' y = V y) : Top V' L u := by
  rcases h with h | ⟨h1, h2, h3⟩
  · exact .inl h
  · refine .inr ⟨h1, ?_, ?_⟩ <;> rw [hf u h1] <;> assumption
theorem Top.top {V : Vs} {L : List Nat} {u : Nat} {T : BT} {y : Nat} (h : Top V L u) (hT : TOK V T y u) (hne : T ≠ .nil) (hL : T.ids.Perm L) : topB V y = true := by
  cases T with
  | nil => exact absurd rfl hne
  | node l x r =>
    obtain ⟨h1, _, h3, _⟩ := hT
    subst h1
    have hy : y ∈ L := hL.mem_iff.1 (by simp [BT.ids])
    unfold topB
    rw [h3]
    rcases h with h | ⟨_, h2, h4⟩
    · simp [h]
    · have e1 : (V u).left ≠ y := fun e => h2 (e ▸ hy)
      have e2 : (V u).right ≠ y := fun e => h4 (e ▸ hy)
      simp [e1, e2]
theorem below_top {V : Vs} {d : Bool} {p : Nat} {s : BT} {cs : Ctx} {a b : BT} {x r u : Nat} (h : TOK V (plug ((d, p, s) :: cs) (.node a x b)) r u) (hn : (plug ((d, p, s) :: cs) (.node a x b)).ids.Nodup) :
    topB V x = false ∧ (V x).up = p ∧ decide ((V p).left = x) = d := by
  obtain ⟨h1, _⟩ := plug_get _ _ _ _ h
  obtain ⟨_, x0, hu, _⟩ := h1
  have hu' : (V x).up = p := hu
  obtain ⟨p0, e1, e2, hs⟩ := plug_head h
  have hn1 := (plug_ids _ _).nodup_iff.1 hn
  have xs : x ∉ s.ids := fun e => by
    rw [List.nodup_append] at hn1
    exact hn1.2.2 x (by simp [BT.ids]) x (by simp [cids, e]) rfl
  have sx : s.root ≠ x := root_ne hs xs x0
  refine ⟨?_, hu', ?_⟩
  · unfold topB
    rw [hu']
    cases d with
    | true => have e1 : (V p).left = x := e1; simp [p0, e1]
    | false => have e1 : (V p).right = x := e1; simp [p0, e1]
  · cases d with
    | true => have e1 : (V p).left = x := e1; simp [e1]
    | false => have e2 : (V p).left = s.root := e2; rw [e2]; simp [sx]
def rot1 (d : Bool) (p : Nat) (s a : BT) (x : Nat) (b : BT) : BT := if d then .node a x (.node b p s) else .node (.node s p a) x b
/-- The loop of splay. -/
inductive SpRun (G : Vs → Prop) : Vs → Nat → Nat → Vs → Prop
  | done {V : Vs} {x : Nat} : topB V x = true → SpRun G V x 0 V
  | zig {V W : Vs} {x k : Nat} : topB V x = false → topB V (V x).up = true → G (rotF V x) → SpRun G (rotF V x) x k W → SpRun G V x (k + 1) W
  | zigzig {V W : Vs} {x k : Nat} : topB V x = false → topB V (V x).up = false → (decide ((V (V x).up).left = x) == decide ((V (V (V x).up).up).left = (V x).up)) = true → G (rotF V (V x).up) → topB (rotF V (V x).up) x = false → G (rotF (rotF V (V x).up) x) →
      SpRun G (rotF (rotF V (V x).up) x) x k W → SpRun G V x (k + 2) W
  | zigzag {V W : Vs} {x k : Nat} : topB V x = false → topB V (V x).up = false → (decide ((V (V x).up).left = x) == decide ((V (V (V x).up).up).left = (V x).up)) = false → G (rotF V x) → topB (rotF V x) x = false → G (rotF (rotF V x) x) →
      SpRun G (rotF (rotF V x) x) x k W → SpRun G V x (k + 2) W
/-- All that holds of a tree while it is turned about. -/
structure At (V0 : Vs) (L : List Nat) (u : Nat) (o : Bool → List Nat) (V : Vs) (T : BT) (r : Nat) : Prop where
  tok : TOK V T r u
  ids : T.ids.Perm L
  frame : ∀ y, y ∉ L → V y = V0 y
  wt : wt V = wt V0
  zr : Zr V
  ord : ∀ b, ord V b T = o b
theorem rot_step {V0 V : Vs} {L : List Nat} {u : Nat} {o : Bool → List Nat} {d : Bool} {p : Nat} {s : BT} {cs : Ctx} {a b : BT} {x r : Nat} (hL : L.Nodup) (ht : Top V0 L u) (h : At V0 L u o V (plug ((d, p, s) :: cs) (.node a x b)) r) (tx : (V x).turned = false) (tp : (V p).turned = false) :
    At V0 L u o (rotF V x) (plug cs (rot1 d p s a x b)) (if cs = [] then x else r) ∧ ∀ y, (rotF V x y).turned = (V y).turned := by
  have hn : (plug ((d, p, s) :: cs) (.node a x b)).ids.Nodup := h.ids.nodup_iff.2 hL
  have eL : plug ((d, p, s) :: cs) (.node a x b) = plug cs (rotL d (if d then a else b) (if d then b else a) s x p) := by rw [plug_cons]; cases d <;> rfl
  have eR : plug cs (rot1 d p s a x b) = plug cs (rotR d (if d then a else b) (if d then b else a) s x p) := by cases d <;> rfl
  have htop : cs = [] → topB V p = true := by
    rintro rfl
    have h1 := (ht.frame h.frame).top h.tok (by rw [plug_cons]; cases d <;> exact fun e => by cases e) h.ids
    have : r = p := by have := h.tok.root; rw [this, plug_cons]; exact one_root _ _ _ _
    rwa [this] at h1
  have hh := h.tok
  rw [eL] at hh hn
  obtain ⟨k1, k2, k3, k4, k5⟩ := rot_ctx d cs h.zr hh hn tx tp htop
  have hp : (plug cs (rot1 d p s a x b)).ids.Perm (plug ((d, p, s) :: cs) (.node a x b)).ids := by
    refine (plug_ids _ _).trans (List.Perm.trans ?_ (plug_ids _ _).symm)
    cases d with
    | true => simp [rot1, BT.ids, cids]
    | false =>
      simp only [rot1, BT.ids, cids, Bool.false_eq_true, if_false]
      have e1 : (s.ids ++ p :: a.ids ++ x :: b.ids).Perm (a.ids ++ x :: b.ids ++ (p :: s.ids)) := by
        have : (s.ids ++ p :: a.ids ++ x :: b.ids) = s.ids ++ p :: (a.ids ++ x :: b.ids) := by simp
        rw [this]
        refine List.perm_middle.trans ?_
        refine List.Perm.trans ?_ List.perm_append_comm
        simp
      have := e1.append_right (cids cs)
      simpa using this
  refine ⟨⟨by rw [eR]; exact k1, hp.trans h.ids, fun y hy => ?_, k4.trans h.wt, k5, fun b' => ?_⟩, k3⟩
  · rw [k2 y (fun e => hy (h.ids.mem_iff.1 (by rw [eL]; exact e)))]; exact h.frame y hy
  · rw [← h.ord b', eR, eL, ord_congr (V := V) _ b' (fun y _ => k3 y)]
    exact plug_ord _ _ _ (fun b2 => rotR_ord d tx tp b2) (fun _ _ => rfl) b'
theorem splay_run {G : Vs → Prop} {V0 : Vs} {L : List Nat} {u : Nat} {o : Bool → List Nat} (hL : L.Nodup) (ht : Top V0 L u) (hG : ∀ V T r, At V0 L u o V T r → G V) : ∀ (m : Nat) (cs : Ctx) (a b : BT) (x : Nat) (V : Vs) (r : Nat), cs.length ≤ m →
    At V0 L u o V (plug cs (.node a x b)) r → (∀ z ∈ x :: ups cs, (V z).turned = false) →
    ∃ k W a' b', SpRun G V x k W ∧ At V0 L u o W (.node a' x b') x ∧ (∀ y, (W y).turned = (V y).turned) ∧ k ≤ cs.length := by
  intro m
  induction m with
  | zero =>
    intro cs a b x V r hm h _
    have : cs = [] := List.eq_nil_of_length_eq_zero (by omega)
    subst this
    have e : r = x := h.tok.root
    subst e
    exact ⟨0, V, a, b, .done ((ht.frame h.frame).top h.tok (fun e => by cases e) h.ids), h, fun _ => rfl, Nat.le_refl _⟩
  | succ m ih =>
    intro cs a b x V r hm h htu
    have hn : (plug cs (.node a x b)).ids.Nodup := h.ids.nodup_iff.2 hL
    match cs, hm, h, htu, hn with
    | [], _, h, _, _ =>
      have e : r = x := h.tok.root
      subst e
      exact ⟨0, V, a, b, .done ((ht.frame h.frame).top h.tok (fun e => by cases e) h.ids), h, fun _ => rfl, Nat.le_refl _⟩
    | [(d, p, s)], hm, h, htu, hn =>
      obtain ⟨t1, t2, t3⟩ := below_top h.tok hn
      have tx := htu x (by simp)
      have tp := htu p (by simp [ups])
      obtain ⟨k1, k2⟩ := rot_step hL ht h tx tp
      have e1 : topB V p = true := by
        have h1 := (ht.frame h.frame).top h.tok (by rw [plug_cons]; cases d <;> exact fun e => by cases e) h.ids
        have : r = p := by have := h.tok.root; rw [this, plug_cons]; exact one_root _ _ _ _
        rwa [this] at h1
      rw [if_pos rfl] at k1
      have k1' : ∃ a' b', At V0 L u o (rotF V x) (.node a' x b') x := by
        cases d with
        | true => exact ⟨_, _, k1⟩
        | false => exact ⟨_, _, k1⟩
      obtain ⟨a', b', k3⟩ := k1'
      refine ⟨1, rotF V x, a', b', .zig t1 (by rw [t2]; exact e1) (hG _ _ _ k3) (.done ((ht.frame k3.frame).top k3.tok (fun e => by cases e) k3.ids)), k3, k2, by simp⟩
    | (d, p, s) :: (d2, g, s2) :: cs, hm, h, htu, hn =>
      obtain ⟨t1, t2, t3⟩ := below_top h.tok hn
      have tx := htu x (by simp)
      have tp := htu p (by simp [ups])
      have tg := htu g (by simp [ups])
      have hlen : cs.length ≤ m := by simp at hm; omega
      -- one level up
      obtain ⟨ap, bp, hap⟩ : ∃ ap bp, one d p s (.node a x b) = .node ap p bp := by cases d <;> exact ⟨_, _, rfl⟩
      have h' := h
      rw [plug_cons, hap] at h'
      have hn' := hn
      rw [plug_cons, hap] at hn'
      obtain ⟨q1, q2, q3⟩ := below_top h'.tok hn'
      by_cases hd : d = d2
      · subst hd
        obtain ⟨k1, k2⟩ := rot_step hL ht h' tp tg
        obtain ⟨s', hs'⟩ : ∃ s', rot1 d g s2 ap p bp = one d p s' (.node a x b) := by
          cases d with
          | true => cases hap; exact ⟨_, rfl⟩
          | false => cases hap; exact ⟨_, rfl⟩
        rw [hs', ← plug_cons] at k1
        have tz := (below_top k1.tok (k1.ids.nodup_iff.2 hL)).1
        obtain ⟨j1, j2⟩ := rot_step hL ht k1 (by rw [k2]; exact tx) (by rw [k2]; exact tp)
        obtain ⟨a', b', hab⟩ : ∃ a' b', rot1 d p s' a x b = .node a' x b' := by cases d <;> exact ⟨_, _, rfl⟩
        rw [hab] at j1
        have hj : ∀ y, (rotF (rotF V p) x y).turned = (V y).turned := fun y => (j2 y).trans (k2 y)
        obtain ⟨k, W, a2, b2, r1, r2, r3, r4⟩ := ih cs a' b' x _ _ hlen j1 (fun z hz => by
          rw [hj]
          rcases List.mem_cons.1 hz with e | e
          · rw [e]; exact tx
          · exact htu z (by simp [ups] at e ⊢; exact .inr (.inr (.inr e))))
        refine ⟨k + 2, W, a2, b2, SpRun.zigzig t1 (by rw [t2]; exact q1) (by rw [t2, q2, t3, q3]; simp) (by rw [t2]; exact hG _ _ _ k1) (by rw [t2]; exact tz) (by rw [t2]; exact hG _ _ _ j1) (by rw [t2]; exact r1), r2, fun y => (r3 y).trans (hj y), ?_⟩
        simp; omega
      · obtain ⟨k1, k2⟩ := rot_step hL ht h tx tp
        obtain ⟨a', b', hab⟩ : ∃ a' b', rot1 d p s a x b = .node a' x b' := by cases d <;> exact ⟨_, _, rfl⟩
        rw [hab] at k1
        have tz := (below_top k1.tok (k1.ids.nodup_iff.2 hL)).1
        obtain ⟨j1, j2⟩ := rot_step hL ht k1 (by rw [k2]; exact tx) (by rw [k2]; exact tg)
        obtain ⟨a3, b3, hab3⟩ : ∃ a3 b3, rot1 d2 g s2 a' x b' = .node a3 x b3 := by cases d2 <;> exact ⟨_, _, rfl⟩
        rw [hab3] at j1
        have hj : ∀ y, (rotF (rotF V x) x y).turned = (V y).turned := fun y => (j2 y).trans (k2 y)
        obtain ⟨k, W, a2, b2, r1, r2, r3, r4⟩ := ih cs a3 b3 x _ _ hlen j1 (fun z hz => by
          rw [hj]
          rcases List.mem_cons.1 hz with e | e
          · rw [e]; exact tx
          · exact htu z (by simp [ups] at e ⊢; exact .inr (.inr (.inr e))))
        have hdd : (d == d2) = false := by cases d <;> cases d2 <;> simp_all
        refine ⟨k + 2, W, a2, b2, SpRun.zigzag t1 (by rw [t2]; exact q1) (by rw [t2, q2, t3, q3]; exact hdd) (hG _ _ _ k1) tz (hG _ _ _ j1) r1, r2, fun y => (r3 y).trans (hj y), ?_⟩
        simp; omega
theorem mem_ctx : ∀ {T : BT} {x : Nat}, x ∈ T.ids → ∃ cs a b, T = plug cs (.node a x b)
  | .node l y r, x, h => by
    simp only [BT.ids, List.mem_append, List.mem_cons] at h
    rcases h with h | h | h
    · obtain ⟨cs, a, b, e⟩ := mem_ctx h
      exact ⟨cs ++ [(true, y, r)], a, b, by rw [plug_app, ← e]; rfl⟩
    · subst h; exact ⟨[], l, r, rfl⟩
    · obtain ⟨cs, a, b, e⟩ := mem_ctx h
      exact ⟨cs ++ [(false, y, l)], a, b, by rw [plug_app, ← e]; rfl⟩
/-- The way up. -/
inductive UpRun (V : Vs) : Nat → List Nat → Prop
  | done {y : Nat} : topB V y = true → UpRun V y [y]
  | up {y : Nat} {l : List Nat} : topB V y = false → UpRun V (V y).up l → UpRun V y (y :: l)
theorem up_run {V : Vs} {L : List Nat} {u : Nat} (hL : L.Nodup) (ht : Top V L u) : ∀ (cs : Ctx) (a b : BT) (x r : Nat), TOK V (plug cs (.node a x b)) r u → (plug cs (.node a x b)).ids.Perm L → UpRun V x (x :: ups cs)
  | [], a, b, x, r, h, hp => by
    have e : r = x := h.root
    subst e
    exact .done (ht.top h (fun e => by cases e) hp)
  | (d, p, s) :: cs, a, b, x, r, h, hp => by
    obtain ⟨t1, t2, _⟩ := below_top h (hp.nodup_iff.2 hL)
    obtain ⟨ap, bp, hap⟩ : ∃ ap bp, one d p s (.node a x b) = .node ap p bp := by cases d <;> exact ⟨_, _, rfl⟩
    rw [plug_cons, hap] at h hp
    have := up_run hL ht cs ap bp p r h hp
    exact .up t1 (by rw [t2]; exact this)
/-- splay. -/
def Splay (G : Vs → Prop) (N : Nat) (V : Vs) (x k : Nat) (W : Vs) : Prop := ∃ l, UpRun V x l ∧ l.length ≤ N ∧ k ≤ N ∧ SpRun G (l.reverse.foldl pushF V) x k W
theorem cs_len : ∀ (cs : Ctx) (t : BT), cs.length + t.ids.length ≤ (plug cs t).ids.length
  | [], t => by simp [plug]
  | (d, p, s) :: cs, t => by
    rw [plug_cons]
    have h := cs_len cs (one d p s t)
    have := (one_ids d p s t).length_eq
    simp at this ⊢
    omega
theorem splay_ok {G : Vs → Prop} {V0 V : Vs} {L : List Nat} {u : Nat} {o : Bool → List Nat} {T : BT} {r x : Nat} (hL : L.Nodup) (ht : Top V0 L u) (hG : ∀ V T r, At V0 L u o V T r → G V) (h : At V0 L u o V T r) (hx : x ∈ L) :
    ∃ k W a b, Splay G L.length V x k W ∧ At V0 L u o W (.node a x b) x ∧ (W x).turned = false := by
  obtain ⟨cs, a, b, e⟩ := mem_ctx (h.ids.mem_iff.2 hx)
  subst e
  have hup := up_run hL (ht.frame h.frame) cs a b x r h.tok h.ids
  have hP := ctx_path cs (.node a x b) [x] ⟨rfl, fun e => by cases e⟩
  have hrev : (x :: ups cs).reverse = (ups cs).reverse ++ [x] := by simp
  rw [← hrev] at hP
  obtain ⟨T', m1, m2, m3, m4, m5, m6, m7, m8, m9⟩ := pushes_ok _ _ V r u h.zr h.tok (h.ids.nodup_iff.2 hL) hP
  have h2 : At V0 L u o ((x :: ups cs).reverse.foldl pushF V) T' r := ⟨m1, m2.trans h.ids, fun y hy => by rw [m7 y (fun e => hy (h.ids.mem_iff.1 e))]; exact h.frame y hy, m8.trans h.wt, m9, fun b' => (m6 b').trans (h.ord b')⟩
  obtain ⟨cs', t', e1, e2, e3⟩ := path_ctx _ _ m4
  rw [List.reverse_reverse] at e3
  have e4 : x = t'.root := (List.cons.inj e3).1
  have e5 : ups cs = ups cs' := (List.cons.inj e3).2
  obtain ⟨a', b', e6⟩ : ∃ a' b', t' = .node a' x b' := by
    cases t' with
    | nil => exact absurd rfl e2
    | node l y r => exact ⟨l, r, by rw [show x = y from e4]⟩
  subst e6
  rw [e1] at h2
  have hlen := cs_len cs (.node a x b)
  have hlen' := cs_len cs' (.node a' x b')
  have l1 := h.ids.length_eq
  have l2 := h2.ids.length_eq
  simp only [BT.ids, List.length_append, List.length_cons] at hlen hlen'
  obtain ⟨k, W, a2, b2, r1, r2, r3, r4⟩ := splay_run hL ht hG _ cs' a' b' x _ r (Nat.le_refl _) h2 (fun z hz => m5 z (by rw [← e5] at hz; rw [List.mem_reverse]; exact hz))
  exact ⟨k, W, a2, b2, ⟨_, hup, by simp [ups]; omega, by omega, r1⟩, r2, (r3 x).trans (m5 x (by simp))⟩
/-- One below the other. -/
def Chain (P : Nat → Nat) : Nat → List Nat → Prop
  | _, [] => True
  | u, x :: l => P x = u ∧ Chain P x l
theorem Chain.app {P : Nat → Nat} : ∀ {l1 l2 : List Nat} {u y : Nat}, Chain P u (l1 ++ y :: l2) ↔ Chain P u (l1 ++ [y]) ∧ Chain P y l2
  | [], l2, u, y => ⟨fun h => ⟨⟨h.1, trivial⟩, h.2⟩, fun h => ⟨h.1.1, h.2⟩⟩
  | x :: l1, l2, u, y => by
    show (P x = u ∧ Chain P x (l1 ++ y :: l2)) ↔ (P x = u ∧ Chain P x (l1 ++ [y])) ∧ Chain P y l2
    rw [Chain.app (l1 := l1), and_assoc]
/-- The way from the root down to a vertex. -/
inductive Way (P : Nat → Nat) : Nat → List Nat → Prop
  | root {x : Nat} : x ≠ 0 → P x = 0 → Way P x [x]
  | down {x : Nat} {l : List Nat} : x ≠ 0 → P x ≠ 0 → Way P (P x) l → Way P x (l ++ [x])
theorem Way.uniq {P : Nat → Nat} {x : Nat} {l : List Nat} (h : Way P x l) : ∀ {l' : List Nat}, Way P x l' → l = l' := by
  induction h with
  | root h1 h2 => intro l' h'; cases h' with
    | root _ _ => rfl
    | down _ h4 _ => exact absurd h2 h4
  | down h1 h2 h3 ih => intro l' h'; cases h' with
    | root _ h4 => exact absurd h4 h2
    | down _ _ h5 => rw [ih h5]
theorem Way.last {P : Nat → Nat} {x : Nat} {l : List Nat} (h : Way P x l) : ∃ o, l = o ++ [x] := by
  cases h with
  | root _ _ => exact ⟨[], rfl⟩
  | down _ _ _ => exact ⟨_, rfl⟩
theorem Way.pos {P : Nat → Nat} {x : Nat} {l : List Nat} (h : Way P x l) : ∀ z ∈ l, z ≠ 0 := by
  induction h with
  | root h1 _ => intro z hz; rw [List.mem_singleton] at hz; rw [hz]; exact h1
  | down h1 _ _ ih => intro z hz; rcases List.mem_append.1 hz with h | h; exact ih z h; rw [List.mem_singleton] at h; rw [h]; exact h1
theorem Way.step {P : Nat → Nat} {u : Nat} {lu : List Nat} {x : Nat} (hu : u = 0 ∧ lu = [] ∨ u ≠ 0 ∧ Way P u lu) (hp : P x = u) (x0 : x ≠ 0) : Way P x (lu ++ [x]) := by
  rcases hu with ⟨h1, h2⟩ | ⟨h1, h2⟩
  · rw [h2]; exact .root x0 (hp.trans h1)
  · exact .down x0 (by rw [hp]; exact h1) (by rw [hp]; exact h2)
/-- A way goes on down a chain. -/
theorem Way.chain {P : Nat → Nat} : ∀ (o : List Nat) (u : Nat) (lu : List Nat) (x : Nat), (u = 0 ∧ lu = [] ∨ u ≠ 0 ∧ Way P u lu) → Chain P u (o ++ [x]) → (∀ z ∈ o ++ [x], z ≠ 0) → Way P x (lu ++ (o ++ [x]))
  | [], u, lu, x, hu, hc, h0 => Way.step hu hc.1 (h0 x (by simp))
  | y :: o, u, lu, x, hu, hc, h0 => by
    have hc' : P y = u ∧ Chain P y (o ++ [x]) := hc
    have h1 := Way.step hu hc'.1 (h0 y (by simp))
    have h2 := Way.chain o y (lu ++ [y]) x (.inr ⟨h0 y (by simp), h1⟩) hc'.2 (fun z hz => h0 z (by rw [List.cons_append]; exact List.mem_cons_of_mem _ hz))
    simpa using h2
theorem Way.isChain {P : Nat → Nat} {x : Nat} {l : List Nat} (h : Way P x l) : Chain P 0 l := by
  induction h with
  | root _ h => exact ⟨h, trivial⟩
  | @down x l h1 h2 h3 ih =>
    obtain ⟨o, e⟩ := h3.last
    rw [e] at ih ⊢
    rw [List.append_assoc]
    exact Chain.app.2 ⟨ih, rfl, trivial⟩
/-- All the vertices, and their parents. -/
structure Par (P : Nat → Nat) (vs : List Nat) : Prop where
  nodup : vs.Nodup
  zero : 0 ∉ vs
  up : ∀ x ∈ vs, P x = 0 ∨ P x ∈ vs
  way : ∀ x ∈ vs, ∃ l, Way P x l
/-- A forest of splay trees. -/
structure Fo (V : Vs) (P : Nat → Nat) (vs : List Nat) (F : List (BT × Nat)) : Prop where
  zr : Zr V
  ids : (F.flatMap fun e => e.1.ids).Perm vs
  tr : ∀ e ∈ F, e.1 ≠ .nil ∧ TOK V e.1 e.1.root e.2 ∧ Chain P e.2 (ord V false e.1)
theorem Fo.perm {V : Vs} {P : Nat → Nat} {vs : List Nat} {F F' : List (BT × Nat)} (h : Fo V P vs F) (hp : F.Perm F') : Fo V P vs F' :=
  ⟨h.zr, (hp.symm.flatMap_right _).trans h.ids, fun e he => h.tr e (hp.mem_iff.2 he)⟩
theorem Fo.nodup {V : Vs} {P : Nat → Nat} {vs : List Nat} {F : List (BT × Nat)} (h : Fo V P vs F) (hp : Par P vs) : (F.flatMap fun e => e.1.ids).Nodup := h.ids.nodup_iff.2 hp.nodup
theorem Kn.congr {w w' : Nat → Int} {n : Vx} : ∀ {l : List Nat}, Kn w n l → (∀ x ∈ l, w' x = w x) → Kn w' n l := by
  intro l h hw
  have e1 : l.map w' = l.map w := List.map_congr_left hw
  have hm : ∀ (l : List Nat), l ≠ [] → fm w l ∈ l ∧ lm w l ∈ l := by
    intro l
    induction l with
    | nil => intro h; exact absurd rfl h
    | cons x l ih =>
      intro _
      cases l with
      | nil => exact ⟨by simp [fm], by simp [lm]⟩
      | cons y l =>
        obtain ⟨h1, h2⟩ := ih (by simp)
        rw [fm_cons w x (l := y :: l) (by simp), lm_cons w x (l := y :: l) (by simp)]
        constructor
        · split
          · simp
          · exact List.mem_cons_of_mem _ h1
        · split
          · simp
          · exact List.mem_cons_of_mem _ h2
  have hfl : ∀ (l : List Nat), (∀ x ∈ l, w' x = w x) → fm w' l = fm w l ∧ lm w' l = lm w l := by
    intro l
    induction l with
    | nil => intro _; exact ⟨rfl, rfl⟩
    | cons x l ih =>
      intro hw
      cases l with
      | nil => exact ⟨rfl, rfl⟩
      | cons y l =>
        obtain ⟨h1, h2⟩ := ih (fun z hz => hw z (List.mem_cons_of_mem _ hz))
        obtain ⟨m1, m2⟩ := hm (y :: l) (by simp)
        rw [fm_cons w' x (l := y :: l) (by simp), lm_cons w' x (l := y :: l) (by simp), fm_cons w x (l := y :: l) (by simp), lm_cons w x (l := y :: l) (by simp), h1, h2, hw x (by simp), hw _ (List.mem_cons_of_mem _ m1), hw _ (List.mem_cons_of_mem _ m2)]
        exact ⟨rfl, rfl⟩
  obtain ⟨f1, f2⟩ := hfl l hw
  exact ⟨by rw [e1]; exact h.sum, h.size, by rw [f1]; exact h.first, by rw [f2]; exact h.last⟩
theorem TOK.same {V V' : Vs} : ∀ {t : BT} {y u : Nat}, (∀ x ∈ t.ids, V' x = V x) → TOK V t y u → TOK V' t y u
  | .nil, _, _, _, h => h
  | .node l x r, y, u, hx, ⟨h1, h2, h3, h4, h5, h6⟩ => by
    have ho := ord_congr (V := V) (V' := V') (.node l x r) false (fun y hy => by rw [hx y hy])
    have hxx := hx x (by simp [BT.ids])
    refine ⟨h1, h2, by rw [hxx]; exact h3, ?_, ?_, ?_⟩
    · rw [hxx]; exact h4.same (fun y hy => hx y (by simp [BT.ids, hy]))
    · rw [hxx]; exact h5.same (fun y hy => hx y (by simp [BT.ids, hy]))
    · rw [ho, hxx]; exact h6.congr (fun z hz => by unfold wt; rw [hx z ((ord_perm V _ _).mem_iff.1 hz)])
theorem child_mem {V : Vs} : ∀ {T : BT} {y u z : Nat}, TOK V T y u → z ∈ T.ids → ((V z).left = 0 ∨ (V z).left ∈ T.ids) ∧ ((V z).right = 0 ∨ (V z).right ∈ T.ids)
  | .node l x r, y, u, z, ⟨h1, h2, h3, h4, h5, h6⟩, hz => by
    simp only [BT.ids, List.mem_append, List.mem_cons] at hz
    rcases hz with hz | hz | hz
    · obtain ⟨a, b⟩ := child_mem h4 hz
      exact ⟨a.imp id (fun h => by simp [BT.ids, h]), b.imp id (fun h => by simp [BT.ids, h])⟩
    · subst hz
      have e1 := h4.root
      have e2 := h5.root
      refine ⟨?_, ?_⟩
      · rcases root_mem h4 with h | h
        · exact .inr (by rw [e1]; simp [BT.ids, h])
        · exact .inl (e1.trans h)
      · rcases root_mem h5 with h | h
        · exact .inr (by rw [e2]; simp [BT.ids, h])
        · exact .inl (e2.trans h)
    · obtain ⟨a, b⟩ := child_mem h5 hz
      exact ⟨a.imp id (fun h => by simp [BT.ids, h]), b.imp id (fun h => by simp [BT.ids, h])⟩
theorem Fo.apart {V : Vs} {P : Nat → Nat} {vs : List Nat} {T : BT} {u : Nat} {F : List (BT × Nat)} (h : Fo V P vs ((T, u) :: F)) (hp : Par P vs) : T.ids.Nodup ∧ (∀ e ∈ F, ∀ z ∈ e.1.ids, z ∉ T.ids) ∧ (∀ z ∈ T.ids, z ∈ vs) := by
  have h1 := h.nodup hp
  rw [List.flatMap_cons, List.nodup_append] at h1
  obtain ⟨a, _, c⟩ := h1
  refine ⟨a, fun e he z hz hzT => c z hzT z (List.mem_flatMap.2 ⟨e, he, hz⟩) rfl, fun z hz => h.ids.mem_iff.1 (by rw [List.flatMap_cons]; simp [hz])⟩
theorem Fo.top {V : Vs} {P : Nat → Nat} {vs : List Nat} {T : BT} {u : Nat} {F : List (BT × Nat)} (h : Fo V P vs ((T, u) :: F)) (hp : Par P vs) : Top V T.ids u ∧ (u = 0 ∨ u ∈ vs ∧ u ∉ T.ids) := by
  obtain ⟨n1, n2, n3⟩ := h.apart hp
  obtain ⟨t1, t2, t3⟩ := h.tr (T, u) (by simp)
  by_cases hu : u = 0
  · exact ⟨.inl hu, .inl hu⟩
  have op := ord_perm V T false
  cases ho : ord V false T with
  | nil => exact absurd (ord_nil.1 ho) t1
  | cons x l =>
    have hx : x ∈ T.ids := op.mem_iff.1 (by rw [ho]; simp)
    have hPx : P x = u := by have h3 : Chain P u (ord V false T) := t3; rw [ho] at h3; exact h3.1
    have huv : u ∈ vs := by
      rcases hp.up x (n3 x hx) with h4 | h4
      · exact absurd (hPx.symm.trans h4) hu
      · exact hPx ▸ h4
    have huT : u ∉ T.ids := fun hm => by
      have h4 : u ∈ ord V false T := op.mem_iff.2 hm
      obtain ⟨o1, o2, e⟩ := List.append_of_mem h4
      obtain ⟨lu, hlu⟩ := hp.way u huv
      have h5 : Chain P u (ord V false T) := t3
      rw [e] at h5
      have h6 := Way.chain o1 u lu u (.inr ⟨hu, hlu⟩) (Chain.app.1 h5).1 (fun z hz => by
        have : z ∈ ord V false T := by rw [e]; simp at hz ⊢; rcases hz with h | h; exact .inl h; exact .inr (.inl h)
        exact fun e0 => hp.zero (e0 ▸ n3 z (op.mem_iff.1 this)))
      have h7 := congrArg List.length (hlu.uniq h6)
      simp at h7
    refine ⟨.inr ⟨huT, ?_, ?_⟩, .inr ⟨huv, huT⟩⟩
    all_goals
      have hm : u ∈ (((T, u) :: F).flatMap fun e => e.1.ids) := h.ids.mem_iff.2 huv
      obtain ⟨e, he, hue⟩ := List.mem_flatMap.1 hm
      rcases List.mem_cons.1 he with he | he
      · rw [he] at hue; exact absurd hue huT
      · obtain ⟨_, k2, _⟩ := h.tr e (by simp [he])
        obtain ⟨c1, c2⟩ := child_mem k2 hue
        first
          | (rcases c1 with c | c
             · rw [c]; exact fun h0 => hp.zero (n3 0 h0)
             · exact n2 e he _ c)
          | (rcases c2 with c | c
             · rw [c]; exact fun h0 => hp.zero (n3 0 h0)
             · exact n2 e he _ c)
/-- A tree is turned about. -/
theorem Fo.repl {V W : Vs} {P : Nat → Nat} {vs : List Nat} {T T' : BT} {u r : Nat} {F : List (BT × Nat)} (h : Fo V P vs ((T, u) :: F)) (hp : Par P vs) (hA : At V T.ids u (fun b => ord V b T) W T' r) : Fo W P vs ((T', u) :: F) ∧ (∀ e ∈ F, ∀ b, ord W b e.1 = ord V b e.1) := by
  obtain ⟨n1, n2, n3⟩ := h.apart hp
  have hs : ∀ e ∈ F, ∀ z ∈ e.1.ids, W z = V z := fun e he z hz => hA.frame z (n2 e he z hz)
  have ho : ∀ e ∈ F, ∀ b, ord W b e.1 = ord V b e.1 := fun e he b => ord_congr _ _ (fun z hz => by rw [hs e he z hz])
  refine ⟨⟨hA.zr, ?_, fun e he => ?_⟩, ho⟩
  · refine List.Perm.trans ?_ h.ids
    rw [List.flatMap_cons, List.flatMap_cons]
    exact hA.ids.append_right _
  · rcases List.mem_cons.1 he with he | he
    · subst he
      refine ⟨?_, ?_, ?_⟩
      · intro e
        have e2 : T' = .nil := e
        have := hA.ids.length_eq
        rw [e2] at this
        obtain ⟨t1, _, _⟩ := h.tr (T, u) (by simp)
        cases T with
        | nil => exact t1 rfl
        | node a x b => simp [BT.ids] at this
      · have := hA.tok.root; rw [this] at hA; exact hA.tok
      · show Chain P u (ord W false T'); rw [hA.ord]; exact (h.tr (T, u) (by simp)).2.2
    · obtain ⟨k1, k2, k3⟩ := h.tr e (by simp [he])
      exact ⟨k1, k2.same (hs e he), by rw [ho e he]; exact k3⟩
theorem Fo.at {V : Vs} {P : Nat → Nat} {vs : List Nat} {T : BT} {u : Nat} {F : List (BT × Nat)} (h : Fo V P vs ((T, u) :: F)) : At V T.ids u (fun b => ord V b T) V T T.root :=
  ⟨(h.tr (T, u) (by simp)).2.1, List.Perm.refl _, fun _ _ => rfl, rfl, h.zr, fun _ => rfl⟩
/-- splay, in a forest. -/
theorem splay_fo {G : Vs → Prop} {V : Vs} {P : Nat → Nat} {vs : List Nat} {T : BT} {u : Nat} {F : List (BT × Nat)} {x : Nat} (hG : ∀ V' F, Fo V' P vs F → wt V' = wt V → G V') (h : Fo V P vs ((T, u) :: F)) (hp : Par P vs) (hx : x ∈ T.ids) :
    ∃ k W a b, Splay G vs.length V x k W ∧ Fo W P vs ((.node a x b, u) :: F) ∧ At V T.ids u (fun b => ord V b T) W (.node a x b) x ∧ (W x).turned = false ∧ (∀ e ∈ F, ∀ b, ord W b e.1 = ord V b e.1) := by
  obtain ⟨n1, n2, n3⟩ := h.apart hp
  obtain ⟨k, W, a, b, ⟨l, r1, r2, r3, r4⟩, r5, r6⟩ := splay_ok (G := G) n1 (h.top hp).1 (fun V' T' r' hA => hG V' _ (h.repl hp hA).1 hA.wt) h.at hx
  obtain ⟨q1, q2⟩ := h.repl hp r5
  have hl : T.ids.length ≤ vs.length := by
    have := h.ids.length_eq
    rw [List.flatMap_cons, List.length_append] at this
    dsimp only at this
    omega
  exact ⟨k, W, a, b, ⟨l, r1, by omega, by omega, r4⟩, q1, r5, r6, q2⟩
/-- What hangs to the right is cut off, something else put there. -/
def cutF (V : Vs) (y last : Nat) : Vs := pullF (put V y { V y with right := last }) y
def app (S : BT) (y : Nat) (F : List (BT × Nat)) : List (BT × Nat) := match S with
  | .nil => F
  | .node a z b => (.node a z b, y) :: F
theorem app_ids (S : BT) (y : Nat) (F : List (BT × Nat)) : (app S y F).flatMap (fun e => e.1.ids) = S.ids ++ F.flatMap fun e => e.1.ids := by
  cases S with
  | nil => simp [app, BT.ids]
  | node a z b => simp [app]
theorem app_mem {S : BT} {y : Nat} {F : List (BT × Nat)} {e : BT × Nat} (h : e ∈ app S y F) : (e = (S, y) ∧ S ≠ .nil) ∨ e ∈ F := by
  cases S with
  | nil => exact .inr h
  | node a z b =>
    rcases List.mem_cons.1 h with h | h
    · exact .inl ⟨h, fun e => by cases e⟩
    · exact .inr h
theorem mem_app {S : BT} {y : Nat} {F : List (BT × Nat)} {e : BT × Nat} (h : e ∈ F) : e ∈ app S y F := by
  cases S with
  | nil => exact h
  | node a z b => exact List.mem_cons_of_mem _ h
theorem app_perm {S : BT} {y : Nat} {F F' : List (BT × Nat)} {e : BT × Nat} (h : F.Perm (e :: F')) : (app S y F).Perm (e :: app S y F') := by
  cases S with
  | nil => exact h
  | node a z b => exact (h.cons _).trans (List.Perm.swap _ _ _)
theorem cut_turned (V : Vs) (y last z : Nat) : (cutF V y last z).turned = (V z).turned := by
  unfold cutF pullF put
  by_cases h : z = y
  · subst h; simp
  · simp [h]
theorem cut_other {V : Vs} {y last z : Nat} (h : z ≠ y) : cutF V y last z = V z := by unfold cutF; rw [pull_other h, put_other h]
theorem wt_cut (V : Vs) (y last : Nat) : wt (cutF V y last) = wt V := by unfold cutF; rw [wt_pull]; exact wt_put rfl
theorem cut_ord (V : Vs) (y last : Nat) (b : Bool) (t : BT) : ord (cutF V y last) b t = ord V b t := ord_congr _ _ (fun z _ => cut_turned V y last z)
/-- The cut, in a forest. -/
theorem cut_fo {W : Vs} {P : Nat → Nat} {vs : List Nat} {a b S : BT} {y u last : Nat} {F : List (BT × Nat)} (hp : Par P vs) (h : Fo W P vs ((.node a y b, u) :: app S y F)) (ty : (W y).turned = false) (hS : TOK W S last y) :
    Fo (cutF W y last) P vs ((.node a y S, u) :: app b y F) ∧ y ∉ S.ids ∧ (cutF W y last y).up = u ∧ (∀ z ∈ S.ids, z ∉ b.ids) := by
  obtain ⟨n1, n2, n3⟩ := h.apart hp
  obtain ⟨_, ⟨_, y0, hu, ha, hb, _⟩, hc⟩ := h.tr _ (List.mem_cons_self ..)
  have hn := n1
  simp only [BT.ids, List.nodup_append, List.nodup_cons] at hn
  obtain ⟨na, ⟨nyb, nb⟩, nab⟩ := hn
  have ya : y ∉ a.ids := fun e => nab y e y (by simp) rfl
  have hSd : ∀ z ∈ S.ids, z ∉ (BT.node a y b).ids := fun z hz => by
    cases S with
    | nil => simp [BT.ids] at hz
    | node c w d => exact n2 (.node c w d, y) (by simp [app]) z hz
  have yS : y ∉ S.ids := fun e => hSd y e (by simp [BT.ids])
  have hcS : Chain P y (ord W false S) := by
    cases S with
    | nil => exact trivial
    | node c w d => exact (h.tr (.node c w d, y) (by simp [app])).2.2
  have hc' : Chain P u (ord W false a ++ y :: ord W false b) := by
    have h1 : Chain P u (ord W false (.node a y b)) := hc
    simp only [ord, ty] at h1
    exact h1
  obtain ⟨c1, c2⟩ := Chain.app.1 hc'
  obtain ⟨V2, hV2⟩ : ∃ V2, V2 = put W y { W y with right := last } := ⟨_, rfl⟩
  have e2 : ∀ z, z ≠ y → V2 z = W z := fun z hz => by rw [hV2, put_other hz]
  have ey : V2 y = { W y with right := last } := by rw [hV2, put_same]
  have hu' : (W y).up = u := hu
  have z2 : Zr V2 := by rw [hV2]; exact h.zr.put y0
  have P1 := pull_ok (V := V2) (x := y) (l := a) (r := S) z2 y0 (by rw [ey]; exact ty) (by rw [ey]; exact ha.same (fun z hz => e2 z (fun e => ya (e ▸ hz)))) (by rw [ey]; exact hS.same (fun z hz => e2 z (fun e => yS (e ▸ hz)))) ya yS
  have eC : pullF V2 y = cutF W y last := by rw [hV2]; rfl
  rw [eC, show (V2 y).up = u by rw [ey]; exact hu'] at P1
  have same : ∀ (t : BT) (r v : Nat), y ∉ t.ids → TOK W t r v → TOK (cutF W y last) t r v := fun t r v hy ht => ht.same (fun z hz => cut_other (fun e => hy (e ▸ hz)))
  refine ⟨⟨?_, ?_, fun e he => ?_⟩, yS, P1.2.2.1, fun z hz hb => hSd z hz (by simp [BT.ids, hb])⟩
  · unfold cutF; exact (h.zr.put y0).pull y0
  · refine List.Perm.trans ?_ h.ids
    rw [List.flatMap_cons, List.flatMap_cons, app_ids, app_ids]
    simp only [BT.ids, List.append_assoc, List.cons_append]
    refine (List.Perm.append_left _ (List.Perm.cons _ ?_))
    rw [← List.append_assoc, ← List.append_assoc]
    exact List.perm_append_comm.append_right _
  · rcases List.mem_cons.1 he with he | he
    · subst he
      refine ⟨(fun e => by cases e), P1, ?_⟩
      show Chain P u (ord (cutF W y last) false (.node a y S))
      rw [cut_ord]
      simp only [ord, ty]
      exact Chain.app.2 ⟨c1, hcS⟩
    · rcases app_mem he with ⟨he, hne⟩ | he
      · subst he
        refine ⟨hne, ?_, ?_⟩
        · have := hb.root; rw [this] at hb; exact same b _ _ nyb hb
        · show Chain P y (ord (cutF W y last) false b); rw [cut_ord]; exact c2
      · obtain ⟨k1, k2, k3⟩ := h.tr e (List.mem_cons_of_mem _ (mem_app he))
        refine ⟨k1, same _ _ _ (fun hy => n2 e (mem_app he) y hy (by simp [BT.ids])) k2, by rw [cut_ord]; exact k3⟩
/-- The loop of access. -/
inductive AcRun (G : Vs → Prop) (N : Nat) : Vs → Nat → Nat → Vs → Nat → Nat → Prop
  | done {V : Vs} {last : Nat} : AcRun G N V last 0 V last 0
  | step {V W V' : Vs} {last y k l' m : Nat} : y ≠ 0 → Splay G N V y k W → G (cutF W y last) → AcRun G N (cutF W y last) y (cutF W y last y).up V' l' m → AcRun G N V last y V' l' (k + m)
theorem access_loop {G : Vs → Prop} {P : Nat → Nat} {vs : List Nat} {w : Nat → Int} {V0 : Vs} {F0 : List (BT × Nat)} (hp : Par P vs) (hG : ∀ V F, Fo V P vs F → wt V = w → G V) (x : Nat) : ∀ (m : Nat) (V : Vs) (last y : Nat) (S : BT) (F : List (BT × Nat)) (ly : List Nat), ly.length ≤ m → Way P y ly → y ∈ vs →
    Fo V P vs (app S y F) → wt V = w → TOK V S last y → (∃ o, y :: ord V false S = o ++ [x]) → (∀ e ∈ F, e.2 = 0 → e ∈ F0 ∧ ord V false e.1 = ord V0 false e.1) →
    ∃ V' l' m' S' F', AcRun G vs.length V last y V' l' m' ∧ Fo V' P vs ((S', 0) :: F') ∧ wt V' = w ∧ (∃ o, ord V' false S' = o ++ [x]) ∧ m' ≤ m * vs.length ∧
      ∃ T0 o3 o4 oS, (T0, 0) ∈ F0 ∧ ord V0 false T0 = o3 ++ l' :: o4 ∧ ord V' false S' = o3 ++ l' :: oS ∧ ∀ z ∈ oS, z ∉ o4 := by
  intro m
  induction m with
  | zero =>
    intro V last y S F ly hm hw
    obtain ⟨o, e⟩ := hw.last
    rw [e] at hm; simp at hm
  | succ m ih =>
    intro V last y S F ly hm hw hy h hwt hS hx hF
    have y0 : y ≠ 0 := fun e => hp.zero (e ▸ hy)
    have yS : y ∉ S.ids := by
      cases S with
      | nil => simp [BT.ids]
      | node a z b => rcases (Fo.top (T := .node a z b) (u := y) h hp).2 with h1 | h1; exact absurd h1 y0; exact h1.2
    -- y's tree
    have hm1 : y ∈ (app S y F).flatMap fun e => e.1.ids := h.ids.mem_iff.2 hy
    rw [app_ids, List.mem_append] at hm1
    obtain ⟨⟨T, u⟩, he, hyT⟩ := List.mem_flatMap.1 (hm1.resolve_left yS)
    obtain ⟨s, t, hst⟩ := List.append_of_mem he
    have hperm : F.Perm ((T, u) :: (s ++ t)) := by rw [hst]; exact List.perm_middle
    have h1 := h.perm (app_perm (S := S) (y := y) hperm)
    obtain ⟨k, W, a, b, q1, q2, q3, q4, q5⟩ := splay_fo (fun V' F' hf hw' => hG V' F' hf (hw'.trans hwt)) h1 hp hyT
    have hSW : TOK W S last y := by
      cases S with
      | nil => exact hS
      | node c z d =>
        have := (q2.tr (.node c z d, y) (List.mem_cons_of_mem _ (by simp [app]))).2.1
        rw [hS.root]; exact this
    have hoS : ord W false S = ord V false S := by
      cases S with
      | nil => rfl
      | node c z d => exact q5 (.node c z d, y) (by simp [app]) false
    obtain ⟨c1, c2, c3, c4⟩ := cut_fo hp q2 q4 hSW
    have hwC : wt (cutF W y last) = w := by rw [wt_cut, q3.wt, hwt]
    have hord : ord (cutF W y last) false (.node a y S) = ord W false a ++ y :: ord V false S := by
      rw [cut_ord]; simp only [ord, q4]; rw [hoS]
    have hordT : ord V false T = ord W false a ++ y :: ord W false b := by
      rw [← q3.ord false]; simp only [ord, q4]
    have hchain : Chain P u (ord W false a ++ [y]) := by
      have := (q2.tr _ (List.mem_cons_self ..)).2.2
      simp only [ord, q4] at this
      exact (Chain.app.1 this).1
    obtain ⟨o, ho⟩ := hx
    have hF2 : ∀ e ∈ app b y (s ++ t), e.2 = 0 → e ∈ F0 ∧ ord (cutF W y last) false e.1 = ord V0 false e.1 := fun e he h0 => by
      rcases app_mem he with ⟨he, _⟩ | he
      · subst he; exact absurd h0 y0
      · obtain ⟨k1, k2⟩ := hF e (hperm.mem_iff.2 (List.mem_cons_of_mem _ he)) h0
        exact ⟨k1, by rw [cut_ord, q5 e (mem_app he)]; exact k2⟩
    have hk : k ≤ vs.length := by obtain ⟨_, _, _, h2, _⟩ := q1; exact h2
    have hGC := hG _ _ c1 hwC
    by_cases hu : u = 0
    · subst hu
      obtain ⟨k1, k2⟩ := hF (T, 0) he rfl
      refine ⟨cutF W y last, y, k + 0, .node a y S, app b y (s ++ t), .step y0 q1 hGC (by rw [c3]; exact .done), c1, hwC, ⟨ord W false a ++ o, by rw [hord, ho]; simp⟩, ?_, T, ord W false a, ord W false b, ord V false S, k1, by rw [← k2]; exact hordT, hord, fun z hz hb => ?_⟩
      · rw [Nat.succ_mul]; omega
      · exact c4 z ((ord_perm V S false).mem_iff.1 hz) ((ord_perm W b false).mem_iff.1 hb)
    · have huv : u ∈ vs := by rcases (h1.top hp).2 with h2 | h2; exact absurd h2 hu; exact h2.1
      obtain ⟨lu, hlu⟩ := hp.way u huv
      have hway := Way.chain (ord W false a) u lu y (.inr ⟨hu, hlu⟩) hchain (fun z hz => by
        rcases List.mem_append.1 hz with h2 | h2
        · exact ids_pos (q2.tr _ (List.mem_cons_self ..)).2.1 z (by simp [BT.ids, (ord_perm W a false).mem_iff.1 h2])
        · rw [List.mem_singleton] at h2; rw [h2]; exact y0)
      have hlen := congrArg List.length (hw.uniq hway)
      simp at hlen
      obtain ⟨V', l', m', S', F', r1, r2, r3, r4, r5, r6⟩ := ih (cutF W y last) y u (.node a y S) (app b y (s ++ t)) lu (by omega) hlu huv c1 hwC (c1.tr _ (List.mem_cons_self ..)).2.1 ⟨u :: (ord W false a ++ o), by rw [hord, ho]; simp⟩ hF2
      refine ⟨V', l', k + m', S', F', .step y0 q1 hGC (by rw [c3]; exact r1), r2, r3, r4, ?_, r6⟩
      rw [Nat.succ_mul]; omega
/-- access. -/
def Access (G : Vs → Prop) (N : Nat) (V : Vs) (x : Nat) (V' : Vs) (l' m : Nat) : Prop := ∃ V1 m1 k, AcRun G N V 0 x V1 l' m1 ∧ Splay G N V1 x k V' ∧ m = m1 + k
theorem nodup_len : ∀ (l vs : List Nat), l.Nodup → (∀ z ∈ l, z ∈ vs) → l.length ≤ vs.length
  | [], _, _, _ => Nat.zero_le _
  | x :: l, vs, hn, h => by
    have hx := h x (by simp)
    have h1 := nodup_len l (vs.erase x) (List.nodup_cons.1 hn).2 (fun z hz => (List.mem_erase_of_ne (fun (e : z = x) => (List.nodup_cons.1 hn).1 (e ▸ hz))).2 (h z (by simp [hz])))
    rw [List.length_erase_of_mem hx] at h1
    have h2 := List.length_pos_of_mem hx
    simp; omega
theorem Way.len {P : Nat → Nat} {vs : List Nat} (hp : Par P vs) {x : Nat} {l : List Nat} (h : Way P x l) (hx : x ∈ vs) : l.length ≤ vs.length := by
  have key : ∀ {x : Nat} {l : List Nat}, Way P x l → x ∈ vs → (∀ z ∈ l, z ∈ vs ∧ ∃ l1 l2, l = l1 ++ l2 ∧ Way P z l1) ∧ l.Nodup := by
    intro x l h
    induction h with
    | root h1 h2 => intro hx; exact ⟨fun z hz => by rw [List.mem_singleton] at hz; subst hz; exact ⟨hx, [z], [], rfl, .root h1 h2⟩, by simp⟩
    | @down x l h1 h2 h3 ih =>
      intro hx
      have hPx : P x ∈ vs := (hp.up x hx).resolve_left h2
      obtain ⟨i1, i2⟩ := ih hPx
      refine ⟨fun z hz => ?_, ?_⟩
      · rcases List.mem_append.1 hz with hz | hz
        · obtain ⟨k1, l1, l2, k2, k3⟩ := i1 z hz
          exact ⟨k1, l1, l2 ++ [x], by rw [k2]; simp, k3⟩
        · rw [List.mem_singleton] at hz
          subst hz
          exact ⟨hx, l ++ [z], [], by simp, .down h1 h2 h3⟩
      · rw [List.nodup_append]
        refine ⟨i2, by simp, fun z hz z' hz' e => ?_⟩
        rw [List.mem_singleton] at hz'
        subst hz'
        subst e
        obtain ⟨_, l1, l2, k2, k3⟩ := i1 z hz
        have := congrArg List.length (k3.uniq (.down h1 h2 h3))
        rw [k2] at this
        simp at this
  obtain ⟨k1, k2⟩ := key h hx
  exact nodup_len _ _ k2 (fun z hz => (k1 z hz).1)
theorem access_ok {G : Vs → Prop} {P : Nat → Nat} {vs : List Nat} {V : Vs} {F : List (BT × Nat)} {x : Nat} (hp : Par P vs) (hG : ∀ V' F, Fo V' P vs F → wt V' = wt V → G V') (h : Fo V P vs F) (hx : x ∈ vs) :
    ∃ V' l' m a F', Access G vs.length V x V' l' m ∧ Fo V' P vs ((.node a x .nil, 0) :: F') ∧ (V' x).turned = false ∧ wt V' = wt V ∧ Way P x (ord V' false a ++ [x]) ∧ m ≤ (vs.length + 1) * vs.length ∧
      ∃ T0 o3 o4 oS, (T0, 0) ∈ F ∧ ord V false T0 = o3 ++ l' :: o4 ∧ ord V' false a ++ [x] = o3 ++ l' :: oS ∧ ∀ z ∈ oS, z ∉ o4 := by
  obtain ⟨lx, hlx⟩ := hp.way x hx
  obtain ⟨V1, l', m', S', F', r1, r2, r3, ⟨o, r4⟩, r5, r6⟩ := access_loop (V0 := V) (F0 := F) hp hG x vs.length V 0 x .nil F lx (hlx.len hp hx) hlx hx h rfl rfl ⟨[], rfl⟩ (fun e he _ => ⟨he, rfl⟩)
  have hxS : x ∈ S'.ids := (ord_perm V1 S' false).mem_iff.1 (by rw [r4]; simp)
  obtain ⟨k, W, a, b, q1, q2, q3, q4, q5⟩ := splay_fo (fun V' F' hf hw' => hG V' F' hf (hw'.trans r3)) r2 hp hxS
  have ho : ord W false a ++ x :: ord W false b = o ++ [x] := by
    rw [← r4, ← q3.ord false]; simp only [ord, q4]
  have hb : b = .nil := by
    obtain ⟨n1, _, _⟩ := q2.apart hp
    simp only [BT.ids, List.nodup_append, List.nodup_cons] at n1
    have xb : x ∉ ord W false b := fun e => n1.2.1.1 ((ord_perm W b false).mem_iff.1 e)
    cases hob : ord W false b with
    | nil => exact ord_nil.1 hob
    | cons z l =>
      have h1 := congrArg List.getLast? ho
      rw [hob] at h1
      rw [List.getLast?_append, List.getLast?_cons_cons] at h1
      simp at h1
      have h2 : (z :: l).getLast? = some x := by
        cases l with
        | nil => simpa using h1
        | cons _ _ => simpa using h1
      exact absurd (hob ▸ List.mem_of_getLast? h2) xb
  subst hb
  have hoW : ord W false a ++ [x] = ord V1 false S' := (show ord W false a ++ [x] = o ++ [x] from ho).trans r4.symm
  refine ⟨W, l', m' + k, a, F', ⟨V1, m', k, r1, q1, rfl⟩, q2, q4, q3.wt.trans r3, ?_, ?_, ?_⟩
  · have hc := (q2.tr _ (List.mem_cons_self ..)).2.2
    simp only [ord, q4] at hc
    have := Way.chain (ord W false a) 0 [] x (.inl ⟨rfl, rfl⟩) hc (fun z hz => by
      rcases List.mem_append.1 hz with h2 | h2
      · exact ids_pos (q2.tr _ (List.mem_cons_self ..)).2.1 z (by simp [BT.ids, (ord_perm W a false).mem_iff.1 h2])
      · rw [List.mem_singleton] at h2; rw [h2]; exact fun e => hp.zero (e ▸ hx))
    simpa using this
  · obtain ⟨_, _, _, h2, _⟩ := q1
    rw [Nat.succ_mul]; omega
  · rw [hoW]; exact r6
def child (d : Bool) (V : Vs) (y : Nat) : Nat := if d then (V y).left else (V y).right
/-- The walk down on one side, with pushes. -/
inductive DnRun (d : Bool) : Vs → Nat → Vs → Nat → Prop
  | stop {V : Vs} {y : Nat} : child d (pushF V y) y = 0 → DnRun d V y (pushF V y) y
  | go {V V' : Vs} {y y' : Nat} : child d (pushF V y) y ≠ 0 → DnRun d (pushF V y) (child d (pushF V y) y) V' y' → DnRun d V y V' y'
def endOf (d : Bool) (l : List Nat) : Option Nat := if d then l.head? else l.getLast?
theorem endOf_one {V : Vs} {d : Bool} {y : Nat} {s t : BT} (hy : (V y).turned = false) : endOf d (ord V false (one d y s t)) = if t = .nil then some y else endOf d (ord V false t) := by
  by_cases ht : t = .nil
  · subst ht
    rw [if_pos rfl]
    cases d <;> simp [one, ord, hy, endOf]
  · rw [if_neg ht]
    have hne : ord V false t ≠ [] := fun e => ht (ord_nil.1 e)
    cases d with
    | true => 
      simp only [one, ord, hy, endOf, if_true]
      obtain ⟨z, l, e⟩ := List.exists_cons_of_ne_nil hne
      rw [e]; rfl
    | false =>
      simp only [one, ord, hy, endOf, Bool.false_eq_true, if_false]
      rw [List.getLast?_append]
      obtain ⟨z, l, e⟩ := List.exists_cons_of_ne_nil hne
      rw [e, List.getLast?_cons_cons]
      cases h : (z :: l).getLast? with
      | none => simp at h
      | some _ => rfl
theorem dn_run (d : Bool) : ∀ (m : Nat) (T : BT) (V : Vs) (y u : Nat), T.ids.length ≤ m → Zr V → T ≠ .nil → TOK V T y u → T.ids.Nodup →
    ∃ V' y' T', DnRun d V y V' y' ∧ At V T.ids u (fun b => ord V b T) V' T' y ∧ y' ∈ T.ids ∧ endOf d (ord V false T) = some y' := by
  intro m
  induction m with
  | zero => intro T V y u hm _ hne; cases T with
    | nil => exact absurd rfl hne
    | node l x r => simp [BT.ids] at hm
  | succ m ih =>
    intro T V y u hm hz hne h hn
    cases T with
    | nil => exact absurd rfl hne
    | node l x r =>
      have ey : y = x := h.1
      subst ey
      obtain ⟨l', r', k1, k2, k3, k4, k5, k6, k7, _, _, k8, k9, k10⟩ := push_ok hz h hn
      have hperm : (BT.node l' y r').ids.Perm (BT.node l y r).ids := k2.append (k3.cons y)
      obtain ⟨t, s, hts⟩ : ∃ t s, BT.node l' y r' = one d y s t := by
        cases d with
        | true => exact ⟨l', r', rfl⟩
        | false => exact ⟨r', l', rfl⟩
      have hn1 : (one d y s t).ids.Nodup := by rw [← hts]; exact hperm.nodup_iff.2 hn
      have hn2 := (one_ids d y s t).nodup_iff.1 hn1
      simp only [List.nodup_append, List.nodup_cons] at hn2
      obtain ⟨nt, ⟨ns, nss⟩, nts⟩ := hn2
      have yt : y ∉ t.ids := fun e => nts y e y (by simp) rfl
      rw [hts] at k1
      have k6' : ∀ b, ord (pushF V y) b (one d y s t) = ord V b (.node l y r) := by rw [← hts]; exact k6
      obtain ⟨_, y0, yu, ht, hs, hk⟩ := k1.one
      have hend : endOf d (ord V false (.node l y r)) = if t = .nil then some y else endOf d (ord (pushF V y) false t) := by
        rw [← k6' false]; exact endOf_one k7
      by_cases htn : t = .nil
      · subst htn
        have h0 : child d (pushF V y) y = 0 := ht
        rw [if_pos rfl] at hend
        refine ⟨pushF V y, y, _, .stop h0, ⟨k1, ?_, k8, k9, k10, k6'⟩, by simp [BT.ids], hend⟩
        rw [← hts]; exact hperm
      · rw [if_neg htn] at hend
        have h0 : child d (pushF V y) y ≠ 0 := fun e => htn (ht.zero.1 e)
        have hlen : t.ids.length ≤ m := by
          have e1 := (one_ids d y s t).length_eq
          rw [← hts, hperm.length_eq] at e1
          simp at e1
          omega
        obtain ⟨V', y', T', r1, r2, r3, r4⟩ := ih t (pushF V y) _ y hlen k10 htn ht nt
        have ey : V' y = pushF V y y := r2.frame y yt
        have es : ∀ z ∈ s.ids, V' z = pushF V y z := fun z hz => r2.frame z (fun e => nts z e z (by simp [hz]) rfl)
        have ho : ∀ b, ord V' b (one d y s T') = ord (pushF V y) b (one d y s t) := fun b => ord_one r2.ord (fun z hz => by rw [es z hz]) (by rw [ey]) b
        refine ⟨V', y', one d y s T', .go h0 r1, ⟨?_, ?_, fun z hz => ?_, r2.wt.trans k9, r2.zr, fun b => (ho b).trans (k6' b)⟩, ?_, hend.trans r4⟩
        · refine TOK.one_mk y0 (by rw [ey]; exact yu) ?_ ?_ ?_
          · rw [ey]; exact r2.tok
          · rw [ey]; exact hs.same es
          · rw [ho, ey, r2.wt]; exact hk
        · refine List.Perm.trans ?_ hperm
          rw [hts]
          exact (one_ids _ _ _ _).trans ((r2.ids.append_right _).trans (one_ids _ _ _ _).symm)
        · rw [r2.frame z (fun e => hz (hperm.mem_iff.1 (by rw [hts]; exact (one_ids d y s t).mem_iff.2 (by simp [e]))))]
          exact k8 z hz
        · exact hperm.mem_iff.1 (by rw [hts]; exact (one_ids d y s t).mem_iff.2 (by simp [r3]))
/-- root. -/
def RootR (G : Vs → Prop) (N : Nat) (V : Vs) (x : Nat) (W : Vs) (y m : Nat) : Prop := ∃ V1 l m1 V2 k, Access G N V x V1 l m1 ∧ DnRun true V1 x V2 y ∧ Splay G N V2 y k W ∧ m = m1 + k
theorem root_run {G : Vs → Prop} {P : Nat → Nat} {vs : List Nat} {V : Vs} {F : List (BT × Nat)} {x : Nat} (hp : Par P vs) (hG : ∀ V' F, Fo V' P vs F → wt V' = wt V → G V') (h : Fo V P vs F) (hx : x ∈ vs) :
    ∃ W y m F', RootR G vs.length V x W y m ∧ Fo W P vs F' ∧ wt W = wt V ∧ m ≤ (vs.length + 2) * vs.length ∧ y ∈ vs ∧ ∃ l, Way P x l ∧ l.head? = some y := by
  obtain ⟨V1, l', m1, a, F1, r1, r2, r3, r4, r5, r6, _⟩ := access_ok hp hG h hx
  obtain ⟨n1, n2, n3⟩ := r2.apart hp
  have hE : ord V1 false (.node a x .nil) = ord V1 false a ++ [x] := by simp only [ord, r3]
  obtain ⟨V2, y, T', d1, d2, d3, d4⟩ := dn_run true _ _ V1 x 0 (Nat.le_refl _) r2.zr (fun e => by cases e) (r2.tr _ (List.mem_cons_self ..)).2.1 n1
  obtain ⟨q1, q2⟩ := r2.repl hp d2
  have hy : y ∈ T'.ids := d2.ids.mem_iff.2 d3
  have w2 : wt V2 = wt V := d2.wt.trans r4
  obtain ⟨k, W, a2, b2, s1, s2, s3, s4, s5⟩ := splay_fo (fun V' F' hf hw' => hG V' F' hf (hw'.trans w2)) q1 hp hy
  rw [hE] at d4
  refine ⟨W, y, m1 + k, _, ⟨V1, l', m1, V2, k, r1, d1, s1, rfl⟩, s2, s3.wt.trans w2, ?_, n3 y d3, _, r5, d4⟩
  obtain ⟨_, _, _, h2, _⟩ := s1
  rw [Nat.succ_mul]; omega
/-- evert. -/
def EvertR (G : Vs → Prop) (N : Nat) (V : Vs) (x : Nat) (W : Vs) (m : Nat) : Prop := ∃ V1 l, Access G N V x V1 l m ∧ W = pushF (turnF V1 x) x
theorem evert_run {G : Vs → Prop} {P P' : Nat → Nat} {vs : List Nat} {V : Vs} {F : List (BT × Nat)} {x : Nat} {l : List Nat} (hp : Par P vs) (hG : ∀ V' F, Fo V' P vs F → wt V' = wt V → G V') (h : Fo V P vs F) (hx : x ∈ vs) (hl : Way P x l) (h1 : Chain P' 0 l.reverse) (h2 : ∀ z ∈ vs, z ∉ l → P' z = P z) :
    ∃ W m F', EvertR G vs.length V x W m ∧ Fo W P' vs F' ∧ wt W = wt V ∧ m ≤ (vs.length + 1) * vs.length := by
  obtain ⟨V1, l', m1, a, F1, r1, r2, r3, r4, r5, r6, _⟩ := access_ok hp hG h hx
  obtain ⟨n1, n2, n3⟩ := r2.apart hp
  have el := hl.uniq r5
  obtain ⟨t1, t2⟩ := turn_ok (r2.tr _ (List.mem_cons_self ..)).2.1 n1
  replace t1 : TOK (turnF V1 x) (mir (.node a x .nil)) x 0 := t1
  replace t2 : ∀ b, ord (turnF V1 x) b (mir (.node a x .nil)) = ord V1 (!b) (.node a x .nil) := t2
  have nm : (mir (.node a x .nil)).ids.Nodup := (mir_ids _).nodup_iff.2 n1
  obtain ⟨ta, tb, k1, k2, k3, k4, k5, k6, k7, _, _, k8, k9, k10⟩ := push_ok (r2.zr.turn x) t1 nm
  have hids : (BT.node ta x tb).ids.Perm (BT.node a x .nil).ids := (k2.append (k3.cons x)).trans (mir_ids (.node a x .nil))
  have hfr : ∀ z, z ∉ (BT.node a x .nil).ids → pushF (turnF V1 x) x z = V1 z := fun z hz => by
    rw [k8 z (fun e => hz ((mir_ids _).mem_iff.1 e))]
    exact turn_other (fun e => hz (by rw [e]; simp [BT.ids]))
  have hwt : wt (pushF (turnF V1 x) x) = wt V := k9.trans ((wt_turn V1 x).trans r4)
  have hord : ord (pushF (turnF V1 x) x) false (.node ta x tb) = l.reverse := by
    rw [k6 false]
    have := t2 false
    rw [show mir (.node a x .nil) = .node .nil x a from rfl] at this
    rw [this]
    show ord V1 true (.node a x .nil) = _
    rw [ord_rev, el]
    simp only [ord, r3]
  have hml : ∀ z, z ∈ l ↔ z ∈ (BT.node a x .nil).ids := fun z => by
    rw [el, ← (ord_perm V1 (.node a x .nil) false).mem_iff]
    simp only [ord, r3]
  refine ⟨_, m1, (.node ta x tb, 0) :: F1, ⟨V1, l', r1, rfl⟩, ⟨k10, ?_, fun e he => ?_⟩, hwt, r6⟩
  · refine List.Perm.trans ?_ r2.ids
    rw [List.flatMap_cons, List.flatMap_cons]
    exact hids.append_right _
  · rcases List.mem_cons.1 he with he | he
    · subst he
      refine ⟨(fun e => by cases e), k1, ?_⟩
      show Chain P' 0 (ord _ false (.node ta x tb))
      rw [hord]; exact h1
    · obtain ⟨j1, j2, j3⟩ := r2.tr e (List.mem_cons_of_mem _ he)
      have hs : ∀ z ∈ e.1.ids, pushF (turnF V1 x) x z = V1 z := fun z hz => hfr z (n2 e he z hz)
      refine ⟨j1, j2.same hs, ?_⟩
      rw [ord_congr (V := V1) e.1 false (fun z hz => by rw [hs z hz])]
      have hc : ∀ (o : List Nat) (u : Nat), (∀ z ∈ o, P' z = P z) → Chain P u o → Chain P' u o := by
        intro o
        induction o with
        | nil => intro u _ _; exact trivial
        | cons z o ih => intro u hz hc; exact ⟨(hz z (by simp)).trans hc.1, ih z (fun y hy => hz y (List.mem_cons_of_mem _ hy)) hc.2⟩
      refine hc _ _ (fun z hz => ?_) j3
      have hz' := (ord_perm V1 e.1 false).mem_iff.1 hz
      refine h2 z (r2.ids.mem_iff.1 ?_) (fun hzl => n2 e he z hz' ((hml z).1 hzl))
      rw [List.flatMap_cons, List.mem_append]
      exact .inr (List.mem_flatMap.2 ⟨e, he, hz'⟩)
theorem par_evert {P P' : Nat → Nat} {vs : List Nat} {x : Nat} {l : List Nat} (hp : Par P vs) (hx : x ∈ vs) (hl : Way P x l) (hv : ∀ z ∈ l, z ∈ vs) (h1 : Chain P' 0 l.reverse) (h2 : ∀ z ∈ vs, z ∉ l → P' z = P z) : Par P' vs := by
  have hin : ∀ z ∈ l, ∃ o, (∀ y ∈ o, y ∈ l) ∧ Way P' z (o ++ [z]) := fun z hz => by
    obtain ⟨o1, o2, e⟩ := List.append_of_mem (List.mem_reverse.2 hz)
    rw [e] at h1
    have hm : ∀ y ∈ o1 ++ [z], y ∈ l := fun y hy => List.mem_reverse.1 (by rw [e]; simp at hy ⊢; rcases hy with h | h; exact .inl h; exact .inr (.inl h))
    refine ⟨o1, fun y hy => hm y (by simp [hy]), ?_⟩
    have := Way.chain o1 0 [] z (.inl ⟨rfl, rfl⟩) (Chain.app.1 h1).1 (fun y hy => hl.pos y (hm y hy))
    simpa using this
  refine ⟨hp.nodup, hp.zero, fun z hz => ?_, fun z hz => ?_⟩
  · by_cases hzl : z ∈ l
    · obtain ⟨o, ho, hw⟩ := hin z hzl
      cases o with
      | nil =>
        exact .inl hw.isChain.1
      | cons y o =>
        have hc := hw.isChain
        obtain ⟨o2, y2, e⟩ : ∃ o2 y2, y :: o = o2 ++ [y2] := ⟨_, _, (List.dropLast_concat_getLast (List.cons_ne_nil y o)).symm⟩
        rw [e, List.append_assoc] at hc
        have := (Chain.app.1 hc).2.1
        rw [this]
        exact .inr (hv y2 (ho y2 (by rw [e]; simp)))
    · rw [h2 z hz hzl]; exact hp.up z hz
  · obtain ⟨lz, hlz⟩ := hp.way z hz
    induction hlz with
    | @root z h3 h4 =>
      by_cases hzl : z ∈ l
      · obtain ⟨o, _, hw⟩ := hin z hzl; exact ⟨_, hw⟩
      · exact ⟨_, .root h3 ((h2 z hz hzl).trans h4)⟩
    | @down z lz h3 h4 h5 ih =>
      by_cases hzl : z ∈ l
      · obtain ⟨o, _, hw⟩ := hin z hzl; exact ⟨_, hw⟩
      · obtain ⟨l2, hl2⟩ := ih ((hp.up z hz).resolve_left h4)
        have e := h2 z hz hzl
        exact ⟨_, .down h3 (by rw [e]; exact h4) (by rw [e]; exact hl2)⟩
theorem Chain.congr {P P' : Nat → Nat} : ∀ {o : List Nat} {u : Nat}, (∀ z ∈ o, P' z = P z) → Chain P u o → Chain P' u o
  | [], _, _, _ => trivial
  | z :: o, u, hz, hc => ⟨(hz z (by simp)).trans hc.1, Chain.congr (fun y hy => hz y (List.mem_cons_of_mem _ hy)) hc.2⟩
/-- Parents changed in one tree, where nothing moves. -/
theorem Fo.chains {V : Vs} {P P' : Nat → Nat} {vs : List Nat} {F : List (BT × Nat)} (h : Fo V P vs F) (hc : ∀ e ∈ F, Chain P' e.2 (ord V false e.1)) : Fo V P' vs F := ⟨h.zr, h.ids, fun e he => ⟨(h.tr e he).1, (h.tr e he).2.1, hc e he⟩⟩
/-- Way of one without a parent. -/
theorem Way.single {P : Nat → Nat} {x : Nat} {l : List Nat} (h : Way P x l) (h0 : P x = 0) : l = [x] := by
  cases h with
  | root _ _ => rfl
  | down _ h _ => exact absurd h0 h
theorem Way.parent {P : Nat → Nat} {x : Nat} {o : List Nat} (h : Way P x (o ++ [x])) : (o = [] → P x = 0) ∧ (o ≠ [] → P x ≠ 0 ∧ Way P (P x) o) := by
  by_cases h0 : P x = 0
  · have := h.single h0
    have e : o = [] := by simpa using this
    exact ⟨fun _ => h0, fun h => absurd e h⟩
  · obtain ⟨l, hl⟩ : ∃ l, Way P (P x) l ∧ Way P x (l ++ [x]) := by
      generalize o ++ [x] = q at h
      cases h with
      | root _ h => exact absurd h h0
      | down h1 h2 h3 => exact ⟨_, h3, .down h1 h2 h3⟩
    have e := h.uniq hl.2
    have e2 : o = l := by simpa using e
    subst e2
    refine ⟨fun e => ?_, fun _ => ⟨h0, hl.1⟩⟩
    subst e
    obtain ⟨o, e⟩ := hl.1.last
    simp at e
theorem Way.same {P P' : Nat → Nat} {x : Nat} {l : List Nat} (h : Way P x l) : (∀ z ∈ l, P' z = P z) → Way P' x l := by
  induction h with
  | root h1 h2 => intro h; exact .root h1 ((h _ (by simp)).trans h2)
  | @down x l h1 h2 h3 ih =>
    intro h
    have e := h x (by simp)
    exact .down h1 (by rw [e]; exact h2) (by rw [e]; exact ih (fun z hz => h z (by simp [hz])))
theorem par_link {P P' : Nat → Nat} {vs : List Nat} {v w : Nat} {lw : List Nat} (hp : Par P vs) (hw : w ∈ vs) (hlw : Way P w lw) (hvw : v ∉ lw) (h1 : P' v = w) (h2 : ∀ z ∈ vs, z ≠ v → P' z = P z) (hlv : ∀ z ∈ lw, z ∈ vs) : Par P' vs := by
  have w0 : w ≠ 0 := fun e => hp.zero (e ▸ hw)
  have hw' : Way P' w lw := hlw.same (fun z hz => h2 z (hlv z hz) (fun e => hvw (e ▸ hz)))
  refine ⟨hp.nodup, hp.zero, fun z hz => ?_, fun z hz => ?_⟩
  · by_cases e : z = v
    · rw [e, h1]; exact .inr hw
    · rw [h2 z hz e]; exact hp.up z hz
  · have hv : v ∈ vs → ∃ l, Way P' v l := fun hv => ⟨_, .down (fun e => hp.zero (e ▸ hv)) (by rw [h1]; exact w0) (by rw [h1]; exact hw')⟩
    obtain ⟨l, hl⟩ := hp.way z hz
    induction hl with
    | @root z h3 h4 =>
      by_cases e : z = v
      · subst e; exact hv hz
      · exact ⟨_, .root h3 ((h2 z hz e).trans h4)⟩
    | @down z l h3 h4 h5 ih =>
      by_cases e : z = v
      · subst e; exact hv hz
      · obtain ⟨l2, hl2⟩ := ih ((hp.up z hz).resolve_left h4)
        have e := h2 z hz e
        exact ⟨_, .down h3 (by rw [e]; exact h4) (by rw [e]; exact hl2)⟩
theorem par_cut {P P' : Nat → Nat} {vs : List Nat} {v : Nat} (hp : Par P vs) (h1 : P' v = 0) (h2 : ∀ z ∈ vs, z ≠ v → P' z = P z) : Par P' vs := by
  refine ⟨hp.nodup, hp.zero, fun z hz => ?_, fun z hz => ?_⟩
  · by_cases e : z = v
    · rw [e, h1]; exact .inl rfl
    · rw [h2 z hz e]; exact hp.up z hz
  · obtain ⟨l, hl⟩ := hp.way z hz
    induction hl with
    | @root z h3 h4 =>
      by_cases e : z = v
      · subst e; exact ⟨_, .root h3 h1⟩
      · exact ⟨_, .root h3 ((h2 z hz e).trans h4)⟩
    | @down z l h3 h4 h5 ih =>
      by_cases e : z = v
      · subst e; exact ⟨_, .root h3 h1⟩
      · obtain ⟨l2, hl2⟩ := ih ((hp.up z hz).resolve_left h4)
        have e := h2 z hz e
        exact ⟨_, .down h3 (by rw [e]; exact h4) (by rw [e]; exact hl2)⟩
/-- The end of Link. -/
theorem link_fo {V : Vs} {P P' : Nat → Nat} {vs : List Nat} {F : List (BT × Nat)} {a : BT} {v w : Nat} (hp : Par P vs) (h : Fo V P vs ((.node a v .nil, 0) :: F)) (ha : a = .nil) (h1 : P' v = w) (h2 : ∀ z ∈ vs, z ≠ v → P' z = P z) :
    Fo (put V v { V v with up := w }) P' vs ((.node .nil v .nil, w) :: F) ∧ wt (put V v { V v with up := w }) = wt V := by
  subst ha
  obtain ⟨n1, n2, n3⟩ := h.apart hp
  have hT := (h.tr _ (List.mem_cons_self ..)).2.1
  have v0 : v ≠ 0 := hT.2.1
  have hw : wt (put V v { V v with up := w }) = wt V := wt_put rfl
  have hF : ∀ e ∈ F, ∀ z ∈ e.1.ids, z ≠ v := fun e he z hz e' => n2 e he z hz (by rw [e']; simp [BT.ids])
  refine ⟨⟨h.zr.put v0, h.ids, fun e he => ?_⟩, hw⟩
  rcases List.mem_cons.1 he with he | he
  · subst he
    refine ⟨(fun e => by cases e), ?_, ?_⟩
    · exact hT.above hw (fun _ => put_same _ _ _) (fun z _ hz => put_other hz) n1
    · have : ord (put V v { V v with up := w }) false (.node .nil v .nil) = [v] := by simp only [ord]; cases (put V v { V v with up := w } v).turned <;> rfl
      show Chain P' w (ord (put V v { V v with up := w }) false (.node .nil v .nil))
      rw [this]; exact ⟨h1, trivial⟩
  · obtain ⟨j1, j2, j3⟩ := h.tr e (List.mem_cons_of_mem _ he)
    have hs : ∀ z ∈ e.1.ids, put V v { V v with up := w } z = V z := fun z hz => put_other (hF e he z hz)
    refine ⟨j1, j2.same hs, ?_⟩
    rw [ord_congr (V := V) e.1 false (fun z hz => by rw [hs z hz])]
    refine Chain.congr (fun z hz => ?_) j3
    have hz' := (ord_perm V e.1 false).mem_iff.1 hz
    exact h2 z (h.ids.mem_iff.1 (by rw [List.flatMap_cons, List.mem_append]; exact .inr (List.mem_flatMap.2 ⟨e, he, hz'⟩))) (hF e he z hz')
/-- The end of Cut. -/
def cutL (V : Vs) (v : Nat) : Vs := pullF (put (put V (V v).left { V (V v).left with up := 0 }) v { put V (V v).left { V (V v).left with up := 0 } v with left := 0 }) v
theorem cutL_fo {V : Vs} {P P' : Nat → Nat} {vs : List Nat} {F : List (BT × Nat)} {a : BT} {v : Nat} (hp : Par P vs) (h : Fo V P vs ((.node a v .nil, 0) :: F)) (ha : a ≠ .nil) (tv : (V v).turned = false) (h1 : P' v = 0) (h2 : ∀ z ∈ vs, z ≠ v → P' z = P z) :
    Fo (cutL V v) P' vs ((.node .nil v .nil, 0) :: (a, 0) :: F) ∧ wt (cutL V v) = wt V := by
  obtain ⟨n1, n2, n3⟩ := h.apart hp
  obtain ⟨_, ⟨_, v0, hu, hl, hr, _⟩, hc⟩ := h.tr _ (List.mem_cons_self ..)
  have hu' : (V v).up = 0 := hu
  have el := hl.root
  have va : v ∉ a.ids := fun e => by
    simp only [BT.ids, List.nodup_append] at n1
    exact n1.2.2 v e v (by simp) rfl
  have na : a.ids.Nodup := by simp only [BT.ids, List.nodup_append] at n1; exact n1.1
  have ra : a.root ∈ a.ids := (root_mem hl).resolve_right (fun e => ha (hl.zero.1 (el.trans e)))
  have rv : a.root ≠ v := fun e => va (e ▸ ra)
  obtain ⟨V1, hV1⟩ : ∃ V1, V1 = put V a.root { V a.root with up := 0 } := ⟨_, rfl⟩
  obtain ⟨V2, hV2⟩ : ∃ V2, V2 = put V1 v { V1 v with left := 0 } := ⟨_, rfl⟩
  have eC : cutL V v = pullF V2 v := by rw [hV2, hV1]; unfold cutL; rw [el]
  have r0 : a.root ≠ 0 := ids_pos hl _ ra
  have w1 : wt V1 = wt V := by rw [hV1]; exact wt_put rfl
  have w2 : wt V2 = wt V := by rw [hV2]; exact (wt_put (V := V1) (x := v) (n := { V1 v with left := 0 }) rfl).trans w1
  have z2 : Zr V2 := by rw [hV2, hV1]; exact (h.zr.put r0).put v0
  have e1 : V1 v = V v := by rw [hV1, put_other (Ne.symm rv)]
  have e2 : V2 v = { V v with left := 0 } := by rw [hV2, put_same, e1]
  have o2 : ∀ z, z ≠ v → V2 z = V1 z := fun z hz => by rw [hV2, put_other hz]
  have o1 : ∀ z, z ≠ a.root → V1 z = V z := fun z hz => by rw [hV1, put_other hz]
  have o3 : ∀ z, z ≠ v → cutL V v z = V1 z := fun z hz => by rw [eC, pull_other hz, o2 z hz]
  have w3 : wt (cutL V v) = wt V := by rw [eC, wt_pull, w2]
  have tt : ∀ z, (cutL V v z).turned = (V z).turned := fun z => by
    by_cases hz : z = v
    · subst hz; rw [eC]; unfold pullF; rw [put_same]; show (V2 z).turned = _; rw [e2]
    · rw [o3 z hz]
      by_cases hz2 : z = a.root
      · rw [hz2, hV1, put_same]
      · rw [o1 z hz2]
  have ho : ∀ (t : BT) b, ord (cutL V v) b t = ord V b t := fun t b => ord_congr t b (fun z _ => tt z)
  have P1 := pull_ok (V := V2) (x := v) (l := .nil) (r := .nil) z2 v0 (by rw [e2]; exact tv) (by rw [e2]; rfl) (by rw [e2]; exact hr) (by simp [BT.ids]) (by simp [BT.ids])
  rw [← eC, show (V2 v).up = 0 by rw [e2]; exact hu'] at P1
  have hcc : Chain P 0 (ord V false a ++ [v]) := by
    have h3 : Chain P 0 (ord V false (.node a v .nil)) := hc
    simp only [ord, tv] at h3
    exact h3
  have hva : ∀ z ∈ a.ids, P' z = P z := fun z hz => h2 z (n3 z (by simp [BT.ids, hz])) (fun e => va (e ▸ hz))
  refine ⟨⟨by rw [eC]; exact z2.pull v0, ?_, fun e he => ?_⟩, w3⟩
  · refine List.Perm.trans ?_ h.ids
    simp only [List.flatMap_cons, BT.ids, List.nil_append, List.append_assoc, List.cons_append]
    exact List.perm_middle.symm
  · rcases List.mem_cons.1 he with he | he
    · subst he
      refine ⟨(fun e => by cases e), P1, ?_⟩
      show Chain P' 0 (ord (cutL V v) false (.node .nil v .nil))
      rw [ho]; simp only [ord, tv]; exact ⟨h1, trivial⟩
    · rcases List.mem_cons.1 he with he | he
      · subst he
        refine ⟨ha, ?_, ?_⟩
        · rw [el] at hl
          have hA := hl.above (V' := V1) (u' := 0) w1 (fun _ => by rw [hV1, put_same]) (fun z _ hz => o1 z hz) na
          exact hA.same (fun z hz => o3 z (fun e => va (e ▸ hz)))
        · show Chain P' 0 (ord (cutL V v) false a)
          rw [ho]
          refine Chain.congr (fun z hz => hva z ((ord_perm V a false).mem_iff.1 hz)) ?_
          have hsub : ∀ (o : List Nat) (u : Nat), Chain P u (o ++ [v]) → Chain P u o := by
            intro o
            induction o with
            | nil => intro _ _; exact trivial
            | cons z o ih => intro u hc; exact ⟨hc.1, ih z hc.2⟩
          exact hsub _ _ hcc
      · obtain ⟨j1, j2, j3⟩ := h.tr e (List.mem_cons_of_mem _ he)
        have hne : ∀ z ∈ e.1.ids, z ≠ v ∧ z ≠ a.root := fun z hz => ⟨fun e' => n2 e he z hz (by rw [e']; simp [BT.ids]), fun e' => n2 e he z hz (by rw [e']; simp [BT.ids, ra])⟩
        refine ⟨j1, j2.same (fun z hz => by rw [o3 z (hne z hz).1, o1 z (hne z hz).2]), ?_⟩
        rw [ho]
        refine Chain.congr (fun z hz => ?_) j3
        have hz' := (ord_perm V e.1 false).mem_iff.1 hz
        exact h2 z (h.ids.mem_iff.1 (by rw [List.flatMap_cons, List.mem_append]; exact .inr (List.mem_flatMap.2 ⟨e, he, hz'⟩))) (hne z hz').1
/-- The end of Set. -/
def setW (V : Vs) (v : Nat) (n : Int) : Vs := pullF (put V v { V v with weight := n }) v
theorem setW_fo {V : Vs} {P : Nat → Nat} {vs : List Nat} {F : List (BT × Nat)} {a : BT} {v : Nat} {n : Int} (hp : Par P vs) (h : Fo V P vs ((.node a v .nil, 0) :: F)) (tv : (V v).turned = false) :
    Fo (setW V v n) P vs ((.node a v .nil, 0) :: F) ∧ wt (setW V v n) = fun z => if z = v then n else wt V z := by
  obtain ⟨n1, n2, n3⟩ := h.apart hp
  obtain ⟨_, ⟨_, v0, hu, hl, hr, _⟩, hc⟩ := h.tr _ (List.mem_cons_self ..)
  have hu' : (V v).up = 0 := hu
  have va : v ∉ a.ids := fun e => by
    simp only [BT.ids, List.nodup_append] at n1
    exact n1.2.2 v e v (by simp) rfl
  obtain ⟨V2, hV2⟩ : ∃ V2, V2 = put V v { V v with weight := n } := ⟨_, rfl⟩
  have e2 : V2 v = { V v with weight := n } := by rw [hV2, put_same]
  have o2 : ∀ z, z ≠ v → V2 z = V z := fun z hz => by rw [hV2, put_other hz]
  have eC : setW V v n = pullF V2 v := by rw [hV2]; rfl
  have o3 : ∀ z, z ≠ v → setW V v n z = V z := fun z hz => by rw [eC, pull_other hz, o2 z hz]
  have z2 : Zr V2 := by rw [hV2]; exact h.zr.put v0
  have P1 := pull_ok (V := V2) (x := v) (l := a) (r := .nil) z2 v0 (by rw [e2]; exact tv) (by rw [e2]; exact hl.same (fun z hz => o2 z (fun e => va (e ▸ hz)))) (by rw [e2]; exact hr) va (by simp [BT.ids])
  rw [← eC, show (V2 v).up = 0 by rw [e2]; exact hu'] at P1
  have tt : ∀ z, (setW V v n z).turned = (V z).turned := fun z => by
    by_cases hz : z = v
    · subst hz; rw [eC]; unfold pullF; rw [put_same]; show (V2 z).turned = _; rw [e2]
    · rw [o3 z hz]
  have ho : ∀ (t : BT) b, ord (setW V v n) b t = ord V b t := fun t b => ord_congr t b (fun z _ => tt z)
  refine ⟨⟨by rw [eC]; exact z2.pull v0, h.ids, fun e he => ?_⟩, ?_⟩
  · rcases List.mem_cons.1 he with he | he
    · subst he
      refine ⟨(fun e => by cases e), P1, ?_⟩
      rw [ho]; exact hc
    · obtain ⟨j1, j2, j3⟩ := h.tr e (List.mem_cons_of_mem _ he)
      refine ⟨j1, j2.same (fun z hz => o3 z (fun e' => n2 e he z hz (by rw [e']; simp [BT.ids]))), ?_⟩
      rw [ho]; exact j3
  · rw [eC, wt_pull]
    funext z
    unfold wt
    by_cases hz : z = v
    · subst hz; rw [e2, if_pos rfl]
    · rw [o2 z hz, if_neg hz]
/-- Depth. -/
theorem depth_fo {V : Vs} {P : Nat → Nat} {vs : List Nat} {F : List (BT × Nat)} {a : BT} {v : Nat} (h : Fo V P vs ((.node a v .nil, 0) :: F)) : (V (V v).left).size = (ord V false a).length ∧ ((V v).left = 0 ↔ a = .nil) := by
  obtain ⟨_, ⟨_, v0, hu, hl, hr, _⟩, hc⟩ := h.tr _ (List.mem_cons_self ..)
  refine ⟨?_, hl.zero⟩
  by_cases ha : a = .nil
  · subst ha
    have : (V v).left = 0 := hl
    rw [this, h.zr.size]; rfl
  · exact (hl.kn ha).2.size
/-- Parent, from where it goes down. -/
theorem parent_run {G : Vs → Prop} {P : Nat → Nat} {vs : List Nat} {V : Vs} {F : List (BT × Nat)} {a : BT} {v : Nat} (hp : Par P vs) (hG : ∀ V' F, Fo V' P vs F → wt V' = wt V → G V') (h : Fo V P vs ((.node a v .nil, 0) :: F)) (ha : a ≠ .nil) :
    ∃ V2 y k W F', DnRun false V (V v).left V2 y ∧ Splay G vs.length V2 y k W ∧ Fo W P vs F' ∧ wt W = wt V ∧ k ≤ vs.length ∧ (ord V false a).getLast? = some y := by
  obtain ⟨n1, n2, n3⟩ := h.apart hp
  obtain ⟨_, ⟨_, v0, hu, hl, hr, hk⟩, hc⟩ := h.tr _ (List.mem_cons_self ..)
  have n1' := n1
  simp only [BT.ids, List.nodup_append] at n1'
  have va : v ∉ a.ids := fun e => n1'.2.2 v e v (by simp) rfl
  obtain ⟨V2, y, a', d1, d2, d3, d4⟩ := dn_run false _ a V _ v (Nat.le_refl _) h.zr ha hl n1'.1
  have ev : V2 v = V v := d2.frame v va
  have ho : ∀ b, ord V2 b (.node a' v .nil) = ord V b (.node a v .nil) := fun b => ord_one (d := true) (s := .nil) d2.ord (fun z hz => by simp [BT.ids] at hz) (by rw [ev]) b
  have hA : At V (BT.node a v .nil).ids 0 (fun b => ord V b (.node a v .nil)) V2 (.node a' v .nil) v := by
    refine ⟨?_, ?_, fun z hz => d2.frame z (fun e => hz (by simp [BT.ids, e])), d2.wt, d2.zr, ho⟩
    · refine ⟨rfl, v0, by rw [ev]; exact hu, by rw [ev]; exact d2.tok, by rw [ev]; exact hr, ?_⟩
      rw [ho, ev, d2.wt]; exact hk
    · exact d2.ids.append_right _
  obtain ⟨q1, q2⟩ := h.repl hp hA
  obtain ⟨k, W, a2, b2, s1, s2, s3, s4, s5⟩ := splay_fo (fun V' F' hf hw' => hG V' F' hf (hw'.trans d2.wt)) q1 hp (x := y) (by simp [BT.ids, d2.ids.mem_iff.2 d3])
  refine ⟨V2, y, k, W, _, d1, s1, s2, s3.wt.trans d2.wt, ?_, d4⟩
  obtain ⟨_, _, _, h2, _⟩ := s1
  exact h2
/-- Common. -/
theorem common_run {G : Vs → Prop} {P : Nat → Nat} {vs : List Nat} {V : Vs} {F : List (BT × Nat)} {v w : Nat} (hp : Par P vs) (hG : ∀ V' F, Fo V' P vs F → wt V' = wt V → G V') (h : Fo V P vs F) (hv : v ∈ vs) (hw : w ∈ vs) {lv lw : List Nat} (hlv : Way P v lv) (hlw : Way P w lw) (hr : lv.head? = lw.head?) :
    ∃ V1 l1 m1 V2 c m2 F', Access G vs.length V v V1 l1 m1 ∧ Access G vs.length V1 w V2 c m2 ∧ Fo V2 P vs F' ∧ wt V2 = wt V ∧ m1 ≤ (vs.length + 1) * vs.length ∧ m2 ≤ (vs.length + 1) * vs.length ∧
      ∃ o3 o4 oS, lv = o3 ++ c :: o4 ∧ lw = o3 ++ c :: oS ∧ ∀ z ∈ oS, z ∉ o4 := by
  obtain ⟨V1, l1, m1, a, F1, r1, r2, r3, r4, r5, r6, _⟩ := access_ok hp hG h hv
  obtain ⟨V2, c, m2, a2, F2, q1, q2, q3, q4, q5, q6, T0, o3, o4, oS, q7, q8, q9, q10⟩ := access_ok hp (fun V' F' hf hw' => hG V' F' hf (hw'.trans r4)) r2 hw
  have ev := hlv.uniq r5
  have ew := hlw.uniq q5
  refine ⟨V1, l1, m1, V2, c, m2, _, r1, q1, q2, q4.trans r4, r6, q6, o3, o4, oS, ?_, ew.trans q9, q10⟩
  have hord : ord V1 false (.node a v .nil) = lv := by rw [ev]; simp only [ord, r3]
  rcases List.mem_cons.1 q7 with e | e
  · have : T0 = .node a v .nil := (Prod.mk.inj e).1
    rw [this, hord] at q8; exact q8
  · exfalso
    obtain ⟨n1, n2, n3⟩ := r2.apart hp
    -- the root lies in both
    obtain ⟨r, hr0⟩ : ∃ r, (ord V1 false T0).head? = some r := by rw [q8]; cases o3 <;> exact ⟨_, rfl⟩
    have hrw : lw.head? = some r := by rw [ew, q9, ← hr0, q8]; cases o3 <;> rfl
    have hrv : lv.head? = some r := hr.trans hrw
    have m1' : r ∈ T0.ids := (ord_perm V1 T0 false).mem_iff.1 (List.mem_of_head? hr0)
    have m2' : r ∈ (BT.node a v .nil).ids := (ord_perm V1 _ false).mem_iff.1 (by rw [hord]; exact List.mem_of_head? hrv)
    exact n2 _ e r m1' m2'
/-- The way between two vertices of a tree, in the tree turned around. -/
theorem Way.between {P P1 : Nat → Nat} {vs : List Nat} {v w c : Nat} {o3 o4 oS : List Nat} (hv : Way P v (o3 ++ c :: o4)) (hw : Way P w (o3 ++ c :: oS)) (hd : ∀ z ∈ oS, z ∉ o4) (hn : (o3 ++ c :: oS).Nodup) (hvs : ∀ z ∈ o3 ++ c :: oS, z ∈ vs) (h1 : Chain P1 0 (o3 ++ c :: o4).reverse) (h2 : ∀ z ∈ vs, z ∉ o3 ++ c :: o4 → P1 z = P z) :
    Way P1 w (o4.reverse ++ c :: oS) := by
  have hc1 : Chain P1 0 (o4.reverse ++ [c]) := by
    have : (o3 ++ c :: o4).reverse = o4.reverse ++ c :: o3.reverse := by simp
    rw [this] at h1
    exact (Chain.app.1 h1).1
  have hc2 : Chain P1 c oS := by
    refine Chain.congr (fun z hz => ?_) (Chain.app.1 hw.isChain).2
    refine h2 z (hvs z (by simp [hz])) (fun hm => ?_)
    rw [List.nodup_append] at hn
    rcases List.mem_append.1 hm with h | h
    · exact hn.2.2 z h z (by simp [hz]) rfl
    · rcases List.mem_cons.1 h with h | h
      · rw [h] at hz; exact (List.nodup_cons.1 hn.2.1).1 hz
      · exact hd z hz h
  have hch := Chain.app.2 ⟨hc1, hc2⟩
  obtain ⟨o, eo⟩ : ∃ o, o4.reverse ++ c :: oS = o ++ [w] := by
    obtain ⟨o, e⟩ := hw.last
    rcases List.eq_nil_or_concat oS with e2 | ⟨q, z, e2⟩
    · subst e2
      have : c = w := by
        have := congrArg List.getLast? e
        simpa using this
      subst this
      exact ⟨o4.reverse, rfl⟩
    · subst e2
      have : z = w := by
        have h9 := congrArg List.getLast? e
        have e9 : o3 ++ c :: q.concat z = (o3 ++ c :: q) ++ [z] := by simp
        rw [e9, List.getLast?_concat, List.getLast?_concat] at h9
        exact Option.some.inj h9
      subst this
      exact ⟨o4.reverse ++ c :: q, by simp⟩
  rw [eo] at hch ⊢
  have := Way.chain o 0 [] w (.inl ⟨rfl, rfl⟩) hch (fun z hz => by
    rw [← eo] at hz
    rcases List.mem_append.1 hz with h | h
    · exact hv.pos z (by simp [List.mem_reverse.1 h])
    · exact hw.pos z (by rw [List.mem_append]; exact .inr h))
  simpa using this
/-- path: what its root knows, and that all is as before. -/
theorem path_run {G : Vs → Prop} {P P1 : Nat → Nat} {vs : List Nat} {V : Vs} {F : List (BT × Nat)} {v w r : Nat} (hp : Par P vs) (hp1 : Par P1 vs) (hG : ∀ V' F P', Fo V' P' vs F → wt V' = wt V → G V') (h : Fo V P vs F) (hv : v ∈ vs) (hw : w ∈ vs) (hr : r ∈ vs) {lv lp : List Nat} (hlv : Way P v lv)
    (hrv : lv.head? = some r) (hvv : ∀ z ∈ lv, z ∈ vs) (h1 : Chain P1 0 lv.reverse) (h2 : ∀ z ∈ vs, z ∉ lv → P1 z = P z) (hlp : Way P1 w lp) :
    ∃ V1 m1 V2 l2 m2 V3 m3 F', EvertR G vs.length V v V1 m1 ∧ Access G vs.length V1 w V2 l2 m2 ∧ EvertR G vs.length V2 r V3 m3 ∧ Fo V3 P vs F' ∧ wt V3 = wt V ∧ m1 ≤ (vs.length + 1) * vs.length ∧ m2 ≤ (vs.length + 1) * vs.length ∧ m3 ≤ (vs.length + 1) * vs.length ∧ Kn (wt V) (V2 w) lp := by
  obtain ⟨V1, m1, F1, r1, r2, r3, r4⟩ := evert_run (P' := P1) hp (fun V' F' hf => hG V' F' _ hf) h hv hlv h1 h2
  obtain ⟨V2, l2, m2, a, F2, q1, q2, q3, q4, q5, q6, _⟩ := access_ok hp1 (fun V' F' hf hw' => hG V' F' _ hf (hw'.trans r3)) r2 hw
  have w2 : wt V2 = wt V := q4.trans r3
  have hwr : Way P1 r lv.reverse := by
    obtain ⟨o, e⟩ : ∃ o, lv = r :: o := by cases lv with
      | nil => simp at hrv
      | cons z o => simp at hrv; exact ⟨o, by rw [hrv]⟩
    have e2 : lv.reverse = o.reverse ++ [r] := by rw [e]; simp
    rw [e2] at h1 ⊢
    have := Way.chain o.reverse 0 [] r (.inl ⟨rfl, rfl⟩) h1 (fun z hz => hlv.pos z (by rw [← e2] at hz; exact List.mem_reverse.1 hz))
    simpa using this
  obtain ⟨V3, m3, F3, s1, s2, s3, s4⟩ := evert_run (P' := P) hp1 (fun V' F' hf hw' => hG V' F' _ hf (hw'.trans w2)) q2 hr hwr (by rw [List.reverse_reverse]; exact hlv.isChain) (fun z hz hzl => (h2 z hz (fun e => hzl (List.mem_reverse.2 e))).symm)
  refine ⟨V1, m1, V2, l2, m2, V3, m3, F3, r1, q1, s1, s2, s3.trans w2, r4, q6, s4, ?_⟩
  obtain ⟨_, ⟨_, _, _, _, _, hk⟩, _⟩ := q2.tr _ (List.mem_cons_self ..)
  have e : ord V2 false (.node a w .nil) = lp := by rw [hlp.uniq q5]; simp only [ord, q3]
  rw [e, w2] at hk
  exact hk
end K
end Go.Proofs.Ytfeokafjehpgnaa
