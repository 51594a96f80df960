/- The plain law of intervals and partitions. -/
import Derived.Test.YtihcaemheknjbaaF22
import Derived.Test.YtihcaemheknjbaaF21
import Derived.Test.YtihcaemheknjbaaF19
namespace Go.Proofs.Ytihcaemheknjbaa
open Go.RowKit
/-- The interval that begins at i, as it is known behind k events. -/
def ivP (l : List Ev) (k i : Nat) : List Iv := match l[i]? with
  | some x => if x.1 = 1 then [(loE x, hiE x, i, if endF l (loE x) (hiE x) i < k then endF l (loE x) (hiE x) i else l.length)] else []
  | none => []
def updI (a b k N : Nat) (x : Iv) : Iv := if x.1 = a ∧ x.2.1 = b ∧ x.2.2.2 = N then (x.1, x.2.1, x.2.2.1, k) else x
theorem flatMap_map' {α β γ : Type} (f : α → List β) (g : β → γ) : ∀ xs : List α, (xs.flatMap f).map g = xs.flatMap (fun i => (f i).map g)
  | [] => rfl
  | x :: xs => by rw [List.flatMap_cons, List.flatMap_cons, List.map_append, flatMap_map' f g xs]
theorem ivP_same {l : List Ev} {k i : Nat} (hi : i < k) (hk : k < l.length) (h : ∀ x, l[i]? = some x → remB l (loE x) (hiE x) k = false) : ivP l (k + 1) i = ivP l k i := by
  unfold ivP
  split
  · rename_i x hx
    split
    · obtain ⟨h1, h2, h3, h4⟩ := endF_spec l (loE x) (hiE x) i (by omega)
      have hne : endF l (loE x) (hiE x) i ≠ k := fun e => by
        have := h4 (by omega)
        rw [e, h x hx] at this; cases this
      by_cases c : endF l (loE x) (hiE x) i < k
      · rw [if_pos c, if_pos (by omega)]
      · rw [if_neg c, if_neg (by omega)]
    · rfl
  · rfl
theorem ivP_last {l : List Ev} {k : Nat} {x : Ev} (hk : k < l.length) (hx : l[k]? = some x) : ivP l (k + 1) k = if x.1 = 1 then [(loE x, hiE x, k, l.length)] else [] := by
  unfold ivP
  rw [hx]
  dsimp only
  split
  · obtain ⟨h1, _⟩ := endF_spec l (loE x) (hiE x) k hk
    rw [if_neg (by omega)]
  · rfl
theorem rem_kind {l : List Ev} {k : Nat} {x : Ev} (hx : l[k]? = some x) (h : x.1 ≠ 2) (a b : Nat) : remB l a b k = false := by
  unfold remB
  rw [hx]
  have : (x.1 == 2) = false := by simpa using h
  dsimp only
  rw [this]; rfl
theorem rem_iff {n : Nat} {l : List Ev} {k : Nat} {x : Ev} (hx : l[k]? = some x) (hok : okE n x = true) (h : x.1 = 2) {a b : Nat} (hab : a ≤ b) : remB l a b k = true ↔ (a, b) = (loE x, hiE x) := by
  have h1 := jE_nrm (e := (a, b)) hok
  have h2 : nrm (a, b) = (a, b) := by unfold nrm; rw [Nat.min_eq_left hab, Nat.max_eq_right hab]
  rw [h2] at h1
  rw [← h1]
  unfold remB jE
  rw [hx]
  dsimp only
  rw [h]; simp
theorem lohi (x : Ev) : loE x ≤ hiE x := by unfold loE hiE; omega
theorem out_ivP (n : Nat) (l : List Ev) : ∀ k, k ≤ l.length → ∀ s, rdS n l.length (l.take k) = some s → s.out = (List.range k).flatMap (ivP l k)
  | 0, _, s, h => by rw [List.take_zero] at h; injection h with h; subst h; rfl
  | k + 1, hk, s', h' => by
    obtain ⟨x, hx⟩ : ∃ x, l[k]? = some x := ⟨_, List.getElem?_eq_getElem (by omega)⟩
    rw [take_snoc hx, rdS_snoc] at h'
    cases h : rdS n l.length (l.take k) with
    | none => rw [h] at h'; cases h'
    | some s =>
      rw [h] at h'
      have ih := out_ivP n l k (by omega) s h
      have hi := (rdS_inv n l.length _ h).i
      rw [List.length_take, Nat.min_eq_left (by omega)] at hi
      have hbi : ∃ E, Bi n l.length (l.take k) s E := by
        rcases bi_all n l.length (l.take k) (by rw [List.length_take]; omega) with ⟨h1, _⟩ | ⟨s1, E, h1, _, b⟩
        · rw [h] at h1; cases h1
        · rw [h] at h1; injection h1 with h1; subst h1; exact ⟨E, b⟩
      obtain ⟨E, b⟩ := hbi
      have hlk : (l.take k).length = k := by rw [List.length_take]; omega
      change stq n l.length s x = some s' at h'
      unfold stq at h'
      have same : x.1 ≠ 2 → (List.range k).flatMap (ivP l (k + 1)) = (List.range k).flatMap (ivP l k) := fun h2 =>
        flatMap_cong (fun i hi => ivP_same (List.mem_range.1 hi) (by omega) (fun y _ => rem_kind hx h2 _ _))
      rw [List.range_succ, List.flatMap_append]
      have last : [k].flatMap (ivP l (k + 1)) = if x.1 = 1 then [(loE x, hiE x, k, l.length)] else [] := by
        rw [List.flatMap_cons, List.flatMap_nil, List.append_nil, ivP_last (by omega) hx]
      rw [last]
      split at h'
      · rename_i hok
        split at h'
        · split at h'
          · rename_i g
            injection h' with h'; subst h'
            rw [same (by omega), if_pos g.1, ← ih, hi]
          · split at h'
            · rename_i g3
              injection h' with h'; subst h'
              rw [same (by omega), if_neg (by omega), List.append_nil]; exact ih
            · cases h'
        · rename_i j hm
          split at h'
          · rename_i g2
            injection h' with h'; subst h'
            rw [if_neg (by omega), List.append_nil]
            show endI s.out j s.i = _
            obtain ⟨f0, hf0⟩ := b.C' _ _ j hm
            have hjl := (List.getElem?_eq_some_iff.1 hf0).1
            have e1 : endI s.out j s.i = s.out.map (updI (loE x) (hiE x) k l.length) := by
              unfold endI
              rw [hf0]
              refine List.ext_getElem? (fun i => ?_)
              rw [List.getElem?_map]
              by_cases c : i = j
              · subst c
                rw [List.getElem?_set_self hjl, hf0]
                show some _ = some (updI _ _ _ _ (loE x, hiE x, f0, l.length))
                unfold updI
                rw [if_pos ⟨rfl, rfl, rfl⟩, hi]
              · dsimp only
                rw [List.getElem?_set_ne (Ne.symm c)]
                cases hy : s.out[i]? with
                | none => rfl
                | some y =>
                  show some y = some (updI _ _ _ _ y)
                  unfold updI
                  rw [if_neg]
                  rintro ⟨h1, h2, h3⟩
                  rcases b.C i y hy with ⟨h4, _⟩ | ⟨_, h4⟩
                  · rw [h1, h2, hm] at h4; injection h4 with h4; exact c h4.symm
                  · rw [hlk] at h4; omega
            have e2 : (List.range k).flatMap (ivP l (k + 1)) = ((List.range k).flatMap (ivP l k)).map (updI (loE x) (hiE x) k l.length) := by
              rw [flatMap_map']
              refine flatMap_cong (fun i hik => ?_)
              rw [List.mem_range] at hik
              cases hy : l[i]? with
              | none => unfold ivP; rw [hy]; rfl
              | some y =>
                by_cases g : y.1 = 1
                · obtain ⟨q1, q2, q3, q4⟩ := endF_spec l (loE y) (hiE y) i (by omega)
                  have hr := rem_iff hx hok g2 (lohi y)
                  unfold ivP
                  rw [hy]
                  dsimp only
                  rw [if_pos g, if_pos g, List.map_cons, List.map_nil]
                  unfold updI
                  dsimp only
                  by_cases c : (loE y, hiE y) = (loE x, hiE x)
                  · have hrt := hr.2 c
                    have hle : endF l (loE y) (hiE y) i ≤ k := by
                      rcases Nat.lt_or_ge k (endF l (loE y) (hiE y) i) with h | h
                      · rw [q3 k hik h] at hrt; cases hrt
                      · exact h
                    injection c with c1 c2
                    generalize endF l (loE y) (hiE y) i = t at *
                    have a1 : t < k + 1 := by omega
                    by_cases c3 : t < k
                    · rw [if_pos a1, if_pos c3, if_neg (show ¬ (loE y = loE x ∧ hiE y = hiE x ∧ t = l.length) from fun h => by have := h.2.2; omega)]
                    · rw [if_pos a1, if_neg c3, if_pos (show (loE y = loE x ∧ hiE y = hiE x ∧ l.length = l.length) from ⟨c1, c2, rfl⟩), show t = k by omega]
                  · have hne : endF l (loE y) (hiE y) i ≠ k := fun e => c (hr.1 (e ▸ q4 (by omega)))
                    generalize endF l (loE y) (hiE y) i = t at *
                    rw [if_neg (show ¬ (loE y = loE x ∧ hiE y = hiE x ∧ (if t < k then t else l.length) = l.length) from fun h => c (by rw [h.1, h.2.1]))]
                    by_cases c3 : t < k
                    · rw [if_pos c3, if_pos (show t < k + 1 by omega)]
                    · rw [if_neg c3, if_neg (show ¬ t < k + 1 by omega)]
                · unfold ivP
                  rw [hy]
                  dsimp only
                  rw [if_neg g, if_neg g]; rfl
            rw [e1, e2, ih]
          · split at h'
            · rename_i g3
              injection h' with h'; subst h'
              rw [same (by omega), if_neg (by omega), List.append_nil]; exact ih
            · cases h'
      · cases h'
theorem readS_refI {n : Int} {l : List Ev} {out : List Iv} (h : readS n l = some out) : out = refI l := by
  unfold readS at h
  split at h
  · cases h1 : rdS n.toNat l.length l with
    | none => rw [h1] at h; cases h
    | some s =>
      rw [h1] at h; injection h with h; subst h
      have := out_ivP n.toNat l l.length (Nat.le_refl _) s (by rw [List.take_length]; exact h1)
      rw [this]
      unfold refI
      refine flatMap_cong (fun i hi => ?_)
      rw [List.mem_range] at hi
      unfold ivP ivAt
      cases hx : l[i]? with
      | none => rfl
      | some x =>
        dsimp only
        by_cases g : x.1 = 1
        · rw [if_pos g, if_pos g]
          obtain ⟨q1, q2, _, _⟩ := endF_spec l (loE x) (hiE x) i hi
          by_cases c : endF l (loE x) (hiE x) i < l.length
          · rw [if_pos c]
          · rw [if_neg c, show endF l (loE x) (hiE x) i = l.length by omega]
        · rw [if_neg g, if_neg g]
  · cases h
/-! Partitions. -/
/-- Connected by edges. -/
inductive Cn (X : List Ed) : Nat → Nat → Prop
  | refl (v : Nat) : Cn X v v
  | edge {e : Ed} : e ∈ X → Cn X e.1 e.2
  | symm {v w : Nat} : Cn X v w → Cn X w v
  | trans {v w u : Nat} : Cn X v w → Cn X w u → Cn X v u
theorem Cn.mono {X Y : List Ed} (h : ∀ e ∈ X, Cn Y e.1 e.2) {v w : Nat} (c : Cn X v w) : Cn Y v w := by
  induction c with
  | refl v => exact .refl v
  | edge he => exact h _ he
  | symm _ ih => exact ih.symm
  | trans _ _ i1 i2 => exact i1.trans i2
structure Gd (n : Nat) (p : List Nat) : Prop where
  len : p.length = n
  nm : ∀ (v x : Nat), p[v]? = some x → p[x]? = some x
  lo : ∀ (v x : Nat), p[v]? = some x → x ≤ v
theorem Gd.join {n : Nat} {p : List Nat} (h : Gd n p) {a b : Nat} (ha : a < n) (hb : b < n) : Gd n (joinP p a b) ∧ (∀ v, v < n → (joinP p a b).getD v 0 = if p.getD v 0 = max (p.getD a 0) (p.getD b 0) then min (p.getD a 0) (p.getD b 0) else p.getD v 0) := by
  have hx : p[a]? = some (p.getD a 0) := by rw [List.getD_eq_getElem?_getD, List.getElem?_eq_getElem (by rw [h.len]; exact ha)]; rfl
  have hy : p[b]? = some (p.getD b 0) := by rw [List.getD_eq_getElem?_getD, List.getElem?_eq_getElem (by rw [h.len]; exact hb)]; rfl
  generalize p.getD a 0 = x at hx ⊢
  generalize hyy : p.getD b 0 = y at hy ⊢
  have ej : joinP p a b = mrg (min x y) (max x y) p := by unfold joinP; rw [gd hx, gd hy]
  rw [ej]
  have px := h.nm a x hx
  have py := h.nm b y hy
  have pm : p[min x y]? = some (min x y) := by
    rcases Nat.le_total x y with c | c
    · rw [Nat.min_eq_left c]; exact px
    · rw [Nat.min_eq_right c]; exact py
  refine ⟨⟨by unfold mrg; rw [List.length_map]; exact h.len, fun v z hz => ?_, fun v z hz => ?_⟩, fun v hv => ?_⟩
  · rw [mrg_get] at hz
    cases hp : p[v]? with
    | none => rw [hp] at hz; cases hz
    | some z0 =>
      rw [hp] at hz
      injection hz with hz
      rw [mrg_get]
      dsimp only at hz
      by_cases c : z0 = max x y
      · rw [if_pos c] at hz
        subst hz
        rw [pm]
        show some (if min x y = max x y then min x y else min x y) = some (min x y)
        split <;> rfl
      · rw [if_neg c] at hz
        subst hz
        rw [h.nm v z0 hp]
        show some (if z0 = max x y then min x y else z0) = some z0
        rw [if_neg c]
  · rw [mrg_get] at hz
    cases hp : p[v]? with
    | none => rw [hp] at hz; cases hz
    | some z0 =>
      rw [hp] at hz
      injection hz with hz
      have := h.lo v z0 hp
      dsimp only at hz
      split at hz <;> omega
  · have hp : p[v]? = some (p.getD v 0) := by rw [List.getD_eq_getElem?_getD, List.getElem?_eq_getElem (by rw [h.len]; exact hv)]; rfl
    have : (mrg (min x y) (max x y) p)[v]? = some (if p.getD v 0 = max x y then min x y else p.getD v 0) := by rw [mrg_get, hp]; rfl
    exact gd this
theorem gd_range (n : Nat) : Gd n (List.range n) :=
  ⟨by simp, fun v x hx => by
    have hv : v < n := by simpa using (List.getElem?_eq_some_iff.1 hx).1
    have := range_get hv
    rw [this] at hx; injection hx with hx; subst hx; exact this, fun v x hx => by
    have hv : v < n := by simpa using (List.getElem?_eq_some_iff.1 hx).1
    have := range_get hv
    rw [this] at hx; injection hx with hx; omega⟩
theorem range_getD {n v : Nat} (h : v < n) : (List.range n).getD v 0 = v := gd (range_get h)
theorem foldP_spec (n : Nat) : ∀ X : List Ed, (∀ e ∈ X, e.1 < n ∧ e.2 < n) → Gd n (foldP n X) ∧ ∀ v w, v < n → w < n → ((foldP n X).getD v 0 = (foldP n X).getD w 0 ↔ Cn X v w) := by
  refine snoc_ind ?_ ?_
  · intro _
    refine ⟨gd_range n, fun v w hv hw => ?_⟩
    show (List.range n).getD v 0 = (List.range n).getD w 0 ↔ _
    rw [range_getD hv, range_getD hw]
    constructor
    · rintro rfl; exact .refl _
    · intro h
      have : ∀ {a b : Nat}, Cn [] a b → a = b := fun c => by
        induction c with
        | refl _ => rfl
        | edge he => cases he
        | symm _ ih => exact ih.symm
        | trans _ _ i1 i2 => exact i1.trans i2
      exact this h
  · intro X e ih hX
    obtain ⟨g, hc⟩ := ih (fun e' he' => hX e' (List.mem_append_left _ he'))
    obtain ⟨ha, hb⟩ := hX e (List.mem_append_right _ (List.mem_singleton.2 rfl))
    have hfold : foldP n (X ++ [e]) = joinP (foldP n X) e.1 e.2 := by unfold foldP; rw [List.foldl_append]; rfl
    rw [hfold]
    obtain ⟨g2, hv2⟩ := g.join ha hb
    refine ⟨g2, fun v w hv hw => ?_⟩
    have up : ∀ {v w : Nat}, Cn X v w → Cn (X ++ [e]) v w := fun c => c.mono (fun e' he' => .edge (List.mem_append_left _ he'))
    have new : Cn (X ++ [e]) e.1 e.2 := .edge (List.mem_append_right _ (List.mem_singleton.2 rfl))
    constructor
    · intro h
      rw [hv2 v hv, hv2 w hw] at h
      have iv := hc v e.1 hv ha
      have iv' := hc v e.2 hv hb
      have iw := hc w e.1 hw ha
      have iw' := hc w e.2 hw hb
      have ivw := hc v w hv hw
      generalize (foldP n X).getD v 0 = pv at *
      generalize (foldP n X).getD w 0 = pw at *
      generalize (foldP n X).getD e.1 0 = pa at *
      generalize (foldP n X).getD e.2 0 = pb at *
      have cv : pv = pa → Cn (X ++ [e]) v e.1 := fun h => up (iv.1 h)
      have cv' : pv = pb → Cn (X ++ [e]) v e.1 := fun h => (up (iv'.1 h)).trans new.symm
      have cw : pw = pa → Cn (X ++ [e]) w e.1 := fun h => up (iw.1 h)
      have cw' : pw = pb → Cn (X ++ [e]) w e.1 := fun h => (up (iw'.1 h)).trans new.symm
      by_cases c : pv = pw
      · exact up (ivw.1 c)
      · have h1 : pv = pa ∨ pv = pb := by split at h <;> split at h <;> omega
        have h2 : pw = pa ∨ pw = pb := by split at h <;> split at h <;> omega
        exact (h1.elim cv cv').trans (h2.elim cw cw').symm
    · intro h
      have key : ∀ {v w : Nat}, Cn (X ++ [e]) v w → (joinP (foldP n X) e.1 e.2).getD v 0 = (joinP (foldP n X) e.1 e.2).getD w 0 := fun c => by
        induction c with
        | refl _ => rfl
        | symm _ ih => exact ih.symm
        | trans _ _ i1 i2 => exact i1.trans i2
        | @edge e' he' =>
          obtain ⟨h1, h2⟩ := hX e' he'
          rw [hv2 _ h1, hv2 _ h2]
          rcases List.mem_append.1 he' with he' | he'
          · rw [(hc _ _ h1 h2).2 (.edge he')]
          · rw [List.mem_singleton] at he'
            subst he'
            generalize (foldP n X).getD e'.1 0 = pa
            generalize (foldP n X).getD e'.2 0 = pb
            split <;> split <;> omega
      exact key h
theorem Gd.uniq {n : Nat} {p q : List Nat} (hp : Gd n p) (hq : Gd n q) (h : ∀ v w, v < n → w < n → (p.getD v 0 = p.getD w 0 ↔ q.getD v 0 = q.getD w 0)) : p = q := by
  have half : ∀ {p q : List Nat}, Gd n p → Gd n q → (∀ v w, v < n → w < n → (p.getD v 0 = p.getD w 0 ↔ q.getD v 0 = q.getD w 0)) → ∀ v, v < n → q.getD v 0 ≤ p.getD v 0 := by
    intro p q hp hq h v hv
    have h1 : p[v]? = some (p.getD v 0) := by rw [List.getD_eq_getElem?_getD, List.getElem?_eq_getElem (by rw [hp.len]; exact hv)]; rfl
    have h2 := hp.nm v _ h1
    have h3 := hp.lo v _ h1
    generalize hx : p.getD v 0 = x at *
    have hxn : x < n := by omega
    have h4 := (h v x hv hxn).1 (by rw [hx, gd h2])
    rw [h4]
    have h5 : q[x]? = some (q.getD x 0) := by rw [List.getD_eq_getElem?_getD, List.getElem?_eq_getElem (by rw [hq.len]; exact hxn)]; rfl
    exact hq.lo x _ h5
  refine List.ext_getElem (by rw [hp.len, hq.len]) (fun v h1 h2 => ?_)
  have hv : v < n := by rw [← hp.len]; exact h1
  have a := half hp hq h v hv
  have b := half hq hp (fun v w hv hw => (h v w hv hw).symm) v hv
  have e1 : p.getD v 0 = p[v] := gd (List.getElem?_eq_getElem h1)
  have e2 : q.getD v 0 = q[v] := gd (List.getElem?_eq_getElem h2)
  omega
theorem Cn.of_nrm {X : List Ed} {e e' : Ed} (he : e' ∈ X) (h : nrm e' = nrm e) : Cn X e.1 e.2 := by
  have h0 := Cn.edge he
  unfold nrm at h
  injection h with h1 h2
  obtain ⟨a, b⟩ := e
  obtain ⟨c, d⟩ := e'
  dsimp only at h0 h1 h2 ⊢
  by_cases q : c = a
  · subst q
    have : d = b := by omega
    subst this; exact h0
  · have : c = b ∧ d = a := by omega
    obtain ⟨rfl, rfl⟩ := this
    exact h0.symm
/-- Partitions hang on the edges alone. -/
theorem foldP_eq {n : Nat} {X Y : List Ed} (hX : ∀ e ∈ X, e.1 < n ∧ e.2 < n) (hY : ∀ e ∈ Y, e.1 < n ∧ e.2 < n) (h1 : ∀ e ∈ X, ∃ e' ∈ Y, nrm e' = nrm e) (h2 : ∀ e ∈ Y, ∃ e' ∈ X, nrm e' = nrm e) : foldP n X = foldP n Y := by
  obtain ⟨g1, c1⟩ := foldP_spec n X hX
  obtain ⟨g2, c2⟩ := foldP_spec n Y hY
  refine g1.uniq g2 (fun v w hv hw => ?_)
  rw [c1 v w hv hw, c2 v w hv hw]
  constructor
  · exact fun c => c.mono (fun e he => by obtain ⟨e', he', hn⟩ := h1 e he; exact Cn.of_nrm he' hn)
  · exact fun c => c.mono (fun e he => by obtain ⟨e', he', hn⟩ := h2 e he; exact Cn.of_nrm he' hn)
def edOf (x : Iv) : Ed := (x.1, x.2.1)
theorem joinE_fold (P : List Iv) : ∀ p : List Nat, P.foldl joinE p = (P.map edOf).foldl (fun p e => joinP p e.1 e.2) p := by
  induction P with
  | nil => intro p; rfl
  | cons x P ih => intro p; exact ih _
/-- What covers an index are the edges there. -/
theorem cover_fold {n : Int} {l : List Ev} {out : List Iv} (h : readS n l = some out) {P : List Iv} {i : Nat} (hi : i < l.length) (hP : ∀ y, y ∈ P ↔ (y ∈ out ∧ y.2.2.1 ≤ i ∧ i < y.2.2.2)) :
    P.foldl joinE (List.range n.toNat) = foldP n.toNat (edS n.toNat l (i + 1)) := by
  have hbd := readS_bd h
  unfold readS at h
  split at h
  · rename_i c
    cases h1 : rdS n.toNat l.length l with
    | none => rw [h1] at h; cases h
    | some s =>
      rw [h1] at h; injection h with h; subst h
      rcases bi_all n.toNat l.length l (Nat.le_refl _) with ⟨h2, _⟩ | ⟨s', E, h2, h3, b⟩
      · rw [h1] at h2; cases h2
      · rw [h1] at h2; injection h2 with h2; subst h2
        have hD := b.D i hi
        rw [joinE_fold]
        have hpre : ∃ E0, refS n.toNat (l.take (i + 1)) = some E0 := by
          cases h4 : refS n.toNat (l.take (i + 1)) with
          | none =>
            have := refS_none (r := l.drop (i + 1)) h4
            rw [List.take_append_drop, h3] at this; cases this
          | some E0 => exact ⟨E0, rfl⟩
        obtain ⟨E0, hE0⟩ := hpre
        unfold edS
        rw [hE0] at hD ⊢
        show foldP n.toNat (P.map edOf) = foldP n.toNat E0
        refine foldP_eq (fun e he => ?_) (refS_bd _ _ hE0) (fun e he => ?_) (fun e he => ?_)
        · obtain ⟨y, hy, rfl⟩ := List.mem_map.1 he
          have := hbd y ((hP y).1 hy).1
          unfold edOf; dsimp only; omega
        · obtain ⟨y, hy, rfl⟩ := List.mem_map.1 he
          obtain ⟨h5, h6, h7⟩ := (hP y).1 hy
          obtain ⟨e', he', hn⟩ := (hD y.1 y.2.1).1 ⟨y, h5, rfl, rfl, h6, h7⟩
          refine ⟨e', he', ?_⟩
          rw [hn]
          unfold nrm at hn ⊢
          injection hn with q1 q2
          unfold edOf
          dsimp only
          rw [Nat.min_eq_left (by omega), Nat.max_eq_right (by omega)]
        · obtain ⟨y, hy, q1, q2, q3, q4⟩ := (hD (nrm e).1 (nrm e).2).2 ⟨e, he, rfl⟩
          refine ⟨edOf y, List.mem_map.2 ⟨y, (hP y).2 ⟨hy, q3, q4⟩, rfl⟩, ?_⟩
          unfold edOf nrm at *
          dsimp only at *
          rw [q1, q2]
          rw [Nat.min_eq_left (by omega), Nat.max_eq_right (by omega)]
  · cases h
end Go.Proofs.Ytihcaemheknjbaa
