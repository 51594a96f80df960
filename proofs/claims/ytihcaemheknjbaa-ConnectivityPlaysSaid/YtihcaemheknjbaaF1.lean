/- The plain forest: names of sets, what a union leaves, and what undoes it. -/
import Derived.Test.YtihcaemheknjbaaComAll
namespace Go.Proofs.Ytihcaemheknjbaa
open Go.RowKit
/-- The parents, the sizes, the least vertices, and the number of sets. -/
structure FS where
  P : List Nat
  Z : List Nat
  L : List Nat
  c : Nat
/-- The root of a vertex. -/
inductive Rt (P : List Nat) : Nat → Nat → Prop
  | root {v : Nat} : P[v]? = some v → Rt P v v
  | up {v u r : Nat} : P[v]? = some u → u ≠ v → Rt P u r → Rt P v r
theorem Rt.fix {P : List Nat} {v r : Nat} (h : Rt P v r) : P[r]? = some r := by
  induction h with
  | root h => exact h
  | up _ _ _ ih => exact ih
theorem Rt.uniq {P : List Nat} {v r s : Nat} (h : Rt P v r) (h' : Rt P v s) : r = s := by
  induction h with
  | root h => cases h' with
    | root _ => rfl
    | up h1 h2 _ => rw [h] at h1; injection h1 with h1; exact absurd h1.symm h2
  | up h1 h2 _ ih => cases h' with
    | root h => rw [h] at h1; injection h1 with h1; exact absurd h1.symm h2
    | up h3 h4 h5 => rw [h1] at h3; injection h3 with h3; subst h3; exact ih h5
theorem Rt.lt {P : List Nat} {v r : Nat} (h : Rt P v r) : v < P.length := by
  cases h with
  | root h => exact (List.getElem?_eq_some_iff.1 h).1
  | up h _ _ => exact (List.getElem?_eq_some_iff.1 h).1
theorem Rt.ltr {P : List Nat} {v r : Nat} (h : Rt P v r) : r < P.length := (List.getElem?_eq_some_iff.1 h.fix).1
theorem Rt.move {P : List Nat} {a b v r : Nat} (ha : P[a]? = some a) (hb : P[b]? = some b) (hab : a ≠ b) (h : Rt P v r) : Rt (P.set b a) v (if r = b then a else r) := by
  have hbl := (List.getElem?_eq_some_iff.1 hb).1
  have ea : (P.set b a)[a]? = some a := by rw [List.getElem?_set_ne (Ne.symm hab)]; exact ha
  have eb : (P.set b a)[b]? = some a := by rw [List.getElem?_set_self hbl]
  induction h with
  | @root v h =>
    by_cases e : v = b
    · subst e; rw [if_pos rfl]; exact .up eb hab (.root ea)
    · rw [if_neg e]; exact .root (by rw [List.getElem?_set_ne (Ne.symm e)]; exact h)
  | @up v u r h1 h2 _ ih =>
    have e : v ≠ b := by rintro rfl; rw [hb] at h1; injection h1 with h1; exact h2 h1.symm
    exact .up (by rw [List.getElem?_set_ne (Ne.symm e)]; exact h1) h2 ih
/-- The number of sets of a partition by names. -/
def cntP (p : List Nat) : Nat := (List.range p.length).countP (fun i => p[i]? == some i)
/-- Two sets put together. -/
def mrg (lo hi : Nat) (p : List Nat) : List Nat := p.map (fun x => if x = hi then lo else x)
theorem mrg_get {lo hi : Nat} {p : List Nat} {v : Nat} : (mrg lo hi p)[v]? = (p[v]?).map (fun x => if x = hi then lo else x) := by unfold mrg; rw [List.getElem?_map]
/-- A partition that a forest has. -/
structure Pt (n : Nat) (S : FS) (p : List Nat) : Prop where
  lP : S.P.length = n
  lZ : S.Z.length = n
  lL : S.L.length = n
  lp : p.length = n
  ex : ∀ v x, p[v]? = some x → ∃ r, Rt S.P v r ∧ S.L[r]? = some x ∧ S.Z[r]? = some (p.count x)
  inj : ∀ v w r s x, p[v]? = some x → p[w]? = some x → Rt S.P v r → Rt S.P w s → r = s
  nm : ∀ x ∈ p, p[x]? = some x
  lo : ∀ (v x : Nat), p[v]? = some x → x ≤ v
  cnt : S.c = cntP p
theorem countP_one {f g : Nat → Bool} {h : Nat} (hf : f h = true) (hg : g h = false) (he : ∀ i, i ≠ h → f i = g i) : ∀ {l : List Nat}, l.Nodup → h ∈ l → l.countP f = l.countP g + 1
  | [], _, hm => by simp at hm
  | x :: l, hn, hm => by
    obtain ⟨hx, hl⟩ := List.nodup_cons.1 hn
    by_cases e : x = h
    · subst e
      have : l.countP f = l.countP g := List.countP_congr (fun i hi => by rw [he i (fun e => hx (e ▸ hi))])
      rw [List.countP_cons_of_pos hf, List.countP_cons_of_neg (by simp [hg]), this]
    · have hm2 : h ∈ l := (List.mem_cons.1 hm).resolve_left (fun e2 => e e2.symm)
      have ih := countP_one hf hg he hl hm2
      rw [List.countP_cons, List.countP_cons, ih, he x e]
      omega
theorem count_two {A B : Nat} (h : A ≠ B) : ∀ l : List Nat, l.count A + l.count B ≤ l.length
  | [] => by simp
  | x :: l => by
    have := count_two h l
    rw [List.count_cons, List.count_cons, List.length_cons]
    by_cases e : x = A
    · subst e; simp [h]; omega
    · by_cases e2 : x = B
      · subst e2; simp [e]; omega
      · simp [e, e2]; omega
theorem count_mrg_lo {lo hi : Nat} (h : lo ≠ hi) : ∀ l : List Nat, (mrg lo hi l).count lo = l.count lo + l.count hi
  | [] => rfl
  | x :: l => by
    have := count_mrg_lo h l
    unfold mrg at this ⊢
    rw [List.map_cons, List.count_cons, List.count_cons, List.count_cons, this]
    by_cases e : x = hi
    · subst e; simp [Ne.symm h]; omega
    · rw [if_neg e]; simp [e]
      omega
theorem count_mrg_ne {lo hi x : Nat} (h1 : x ≠ lo) (h2 : x ≠ hi) : ∀ l : List Nat, (mrg lo hi l).count x = l.count x
  | [] => rfl
  | y :: l => by
    have := count_mrg_ne h1 h2 l
    unfold mrg at this ⊢
    rw [List.map_cons, List.count_cons, List.count_cons, this]
    by_cases e : y = hi
    · subst e; simp [Ne.symm h1, Ne.symm h2]
    · rw [if_neg e]
theorem Pt.lt {n : Nat} {S : FS} {p : List Nat} (h : Pt n S p) {v x : Nat} (hx : p[v]? = some x) : x < n ∧ v < n := by
  have h1 := (List.getElem?_eq_some_iff.1 hx).1
  have h2 := h.lo v x hx
  rw [h.lp] at h1
  omega
theorem Pt.root {n : Nat} {S : FS} {p : List Nat} (h : Pt n S p) {v x r : Nat} (hx : p[v]? = some x) (hr : Rt S.P v r) : S.L[r]? = some x ∧ S.Z[r]? = some (p.count x) := by
  obtain ⟨s, h1, h2, h3⟩ := h.ex v x hx
  rw [hr.uniq h1]; exact ⟨h2, h3⟩
/-- What a union makes of the forest: b below a. -/
def uni (S : FS) (a b : Nat) : FS := ⟨S.P.set b a, S.Z.set a (S.Z.getD a 0 + S.Z.getD b 0), S.L.set a (min (S.L.getD a 0) (S.L.getD b 0)), S.c - 1⟩
theorem Pt.union {n : Nat} {S : FS} {p : List Nat} (h : Pt n S p) {v w x y a b : Nat} (hx : p[v]? = some x) (hy : p[w]? = some y) (ha : Rt S.P v a) (hb : Rt S.P w b) (hxy : x ≠ y) : Pt n (uni S a b) (mrg (min x y) (max x y) p) ∧ a ≠ b ∧ 1 ≤ S.c := by
  obtain ⟨hLa, hZa⟩ := h.root hx ha
  obtain ⟨hLb, hZb⟩ := h.root hy hb
  have hab : a ≠ b := by rintro rfl; rw [hLa] at hLb; injection hLb with hLb; exact hxy hLb
  have hxl := h.lt hx
  have hyl := h.lt hy
  have hpx := h.nm x (List.mem_of_getElem? hx)
  have hpy := h.nm y (List.mem_of_getElem? hy)
  have hne : min x y ≠ max x y := by omega
  have hal := ha.ltr
  have hbl := hb.ltr
  have gLa : S.L.getD a 0 = x := by rw [List.getD_eq_getElem?_getD, hLa]; rfl
  have gLb : S.L.getD b 0 = y := by rw [List.getD_eq_getElem?_getD, hLb]; rfl
  have gZa : S.Z.getD a 0 = p.count x := by rw [List.getD_eq_getElem?_getD, hZa]; rfl
  have gZb : S.Z.getD b 0 = p.count y := by rw [List.getD_eq_getElem?_getD, hZb]; rfl
  have mv : ∀ {u r : Nat}, Rt S.P u r → Rt (uni S a b).P u (if r = b then a else r) := fun hr => hr.move ha.fix hb.fix hab
  -- the root of a vertex of either set
  have key : ∀ (u z : Nat), p[u]? = some z → (z = x ∨ z = y) → Rt (uni S a b).P u a := fun u z hz hd => by
    obtain ⟨r, hr, _⟩ := h.ex u z hz
    have := mv hr
    rcases hd with rfl | rfl
    · have e : r = a := h.inj u v r a z hz hx hr ha
      rw [e, if_neg hab] at this; exact this
    · have e : r = b := h.inj u w r b z hz hy hr hb
      rw [e, if_pos rfl] at this; exact this
  have key2 : ∀ (u z : Nat), p[u]? = some z → z ≠ x → z ≠ y → ∃ r, Rt S.P u r ∧ Rt (uni S a b).P u r ∧ r ≠ a ∧ r ≠ b := fun u z hz h1 h2 => by
    obtain ⟨r, hr, hL, _⟩ := h.ex u z hz
    have e1 : r ≠ a := by rintro rfl; rw [hLa] at hL; injection hL with hL; exact h1 hL.symm
    have e2 : r ≠ b := by rintro rfl; rw [hLb] at hL; injection hL with hL; exact h2 hL.symm
    have := mv hr
    rw [if_neg e2] at this
    exact ⟨r, hr, this, e1, e2⟩
  have inv : ∀ (u z : Nat), (mrg (min x y) (max x y) p)[u]? = some z → ∃ z0, p[u]? = some z0 ∧ ((z = min x y ∧ (z0 = x ∨ z0 = y)) ∨ (z = z0 ∧ z0 ≠ x ∧ z0 ≠ y)) := fun u z hz => by
    rw [mrg_get] at hz
    cases hp : p[u]? with
    | none => rw [hp] at hz; cases hz
    | some z0 =>
      rw [hp] at hz
      injection hz with hz
      dsimp only at hz
      refine ⟨z0, rfl, ?_⟩
      by_cases e : z0 = max x y
      · rw [if_pos e] at hz; exact .inl ⟨hz.symm, by omega⟩
      · rw [if_neg e] at hz
        by_cases e2 : z0 = min x y
        · exact .inl ⟨by omega, by omega⟩
        · exact .inr ⟨by omega, by omega, by omega⟩
  have fixe : ∀ i, i ≠ max x y → ((mrg (min x y) (max x y) p)[i]? == some i) = (p[i]? == some i) := fun i hi => by
    rw [mrg_get]
    cases hp : p[i]? with
    | none => rfl
    | some z =>
      show (some (if z = max x y then min x y else z) == some i) = (some z == some i)
      by_cases e : z = max x y
      · rw [if_pos e]
        have e1 : i ≠ min x y := by
          intro e1
          have : p[min x y]? = some (min x y) := by
            rcases Nat.le_total x y with h | h
            · rw [Nat.min_eq_left h]; exact hpx
            · rw [Nat.min_eq_right h]; exact hpy
          rw [← e1, hp] at this
          injection this with this
          omega
        have e2 : z ≠ i := by omega
        have e3 : min x y ≠ i := fun e => e1 e.symm
        show (min x y == i) = (z == i)
        rw [beq_eq_false_iff_ne.2 e3, beq_eq_false_iff_ne.2 e2]
      · rw [if_neg e]
  have fixhi : (p[max x y]? == some (max x y)) = true := by
    rcases Nat.le_total x y with h | h
    · rw [Nat.max_eq_right h, hpy]; simp
    · rw [Nat.max_eq_left h, hpx]; simp
  have unhi : ((mrg (min x y) (max x y) p)[max x y]? == some (max x y)) = false := by
    rw [mrg_get]
    have : p[max x y]? = some (max x y) := by simpa using fixhi
    rw [this]
    show (some (if max x y = max x y then min x y else max x y) == some (max x y)) = false
    rw [if_pos rfl]
    simpa using hne
  have hcnt : cntP p = cntP (mrg (min x y) (max x y) p) + 1 := by
    unfold cntP
    have hl : (mrg (min x y) (max x y) p).length = p.length := by unfold mrg; simp
    rw [hl]
    exact countP_one (f := fun i => p[i]? == some i) (g := fun i => (mrg (min x y) (max x y) p)[i]? == some i) fixhi unhi (fun i hi => (fixe i hi).symm) List.nodup_range (List.mem_range.2 (by rw [h.lp]; omega))
  refine ⟨⟨by show (S.P.set b a).length = n; rw [List.length_set]; exact h.lP, by show (S.Z.set _ _).length = n; rw [List.length_set]; exact h.lZ, by show (S.L.set _ _).length = n; rw [List.length_set]; exact h.lL, by unfold mrg; rw [List.length_map]; exact h.lp, ?_, ?_, ?_, ?_, ?_⟩, hab, by rw [h.cnt, hcnt]; omega⟩
  · intro u z hz
    obtain ⟨z0, hz0, hd⟩ := inv u z hz
    rcases hd with ⟨rfl, hd⟩ | ⟨rfl, h1, h2⟩
    · refine ⟨a, key u z0 hz0 hd, ?_, ?_⟩
      · show (S.L.set a _)[a]? = _
        rw [List.getElem?_set_self (by rw [h.lL]; have := ha.ltr; rw [h.lP] at this; exact this), gLa, gLb]
      · show (S.Z.set a _)[a]? = _
        rw [List.getElem?_set_self (by rw [h.lZ]; have := ha.ltr; rw [h.lP] at this; exact this), gZa, gZb, count_mrg_lo hne]
        rcases Nat.le_total x y with h | h
        · rw [Nat.min_eq_left h, Nat.max_eq_right h]
        · rw [Nat.min_eq_right h, Nat.max_eq_left h, Nat.add_comm]
    · obtain ⟨r, hr, hr', e1, e2⟩ := key2 u z hz0 h1 h2
      obtain ⟨hL, hZ⟩ := h.root hz0 hr
      refine ⟨r, hr', ?_, ?_⟩
      · show (S.L.set a _)[r]? = _
        rw [List.getElem?_set_ne (Ne.symm e1)]; exact hL
      · show (S.Z.set a _)[r]? = _
        rw [List.getElem?_set_ne (Ne.symm e1), hZ, count_mrg_ne (by omega) (by omega)]
  · intro u u' r s z hu hu' hr hs
    obtain ⟨z0, hz0, hd⟩ := inv u z hu
    obtain ⟨z1, hz1, hd1⟩ := inv u' z hu'
    rcases hd with ⟨e, hd⟩ | ⟨e, h1, h2⟩
    · rcases hd1 with ⟨_, hd1⟩ | ⟨e1, h3, h4⟩
      · rw [hr.uniq (key u z0 hz0 hd), hs.uniq (key u' z1 hz1 hd1)]
      · omega
    · rcases hd1 with ⟨e1, hd1⟩ | ⟨e1, h3, h4⟩
      · omega
      · have ez : z0 = z1 := by omega
        subst ez
        obtain ⟨r0, hr0, hr0', _⟩ := key2 u z0 hz0 h1 h2
        obtain ⟨s0, hs0, hs0', _⟩ := key2 u' z0 hz1 h3 h4
        rw [hr.uniq hr0', hs.uniq hs0']
        exact h.inj u u' r0 s0 z0 hz0 hz1 hr0 hs0
  · intro z hz
    obtain ⟨u, hu⟩ := List.mem_iff_getElem?.1 hz
    obtain ⟨z0, hz0, hd⟩ := inv u z hu
    rw [mrg_get]
    rcases hd with ⟨rfl, hd⟩ | ⟨rfl, h1, h2⟩
    · have : p[min x y]? = some (min x y) := by
        rcases Nat.le_total x y with h | h
        · rw [Nat.min_eq_left h]; exact hpx
        · rw [Nat.min_eq_right h]; exact hpy
      rw [this]
      show some (if min x y = max x y then min x y else min x y) = _
      rw [if_neg hne]
    · rw [h.nm z (List.mem_of_getElem? hz0)]
      show some (if z = max x y then min x y else z) = _
      rw [if_neg (by omega)]
  · intro u z hu
    obtain ⟨z0, hz0, hd⟩ := inv u z hu
    have := h.lo u z0 hz0
    rcases hd with ⟨rfl, hd⟩ | ⟨rfl, _, _⟩
    · omega
    · exact this
  · show S.c - 1 = _
    rw [h.cnt, hcnt]
    omega
theorem mrg_same (x : Nat) (p : List Nat) : mrg x x p = p := by
  unfold mrg
  conv => rhs; rw [← List.map_id p]
  refine List.map_congr_left (fun z _ => ?_)
  by_cases e : z = x
  · rw [if_pos e, e]; rfl
  · rw [if_neg e]; rfl
end Go.Proofs.Ytihcaemheknjbaa
