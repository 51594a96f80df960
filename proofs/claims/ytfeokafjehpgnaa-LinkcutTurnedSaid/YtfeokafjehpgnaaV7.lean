/- The way through the tree stays what it is when the tree is turned to another root. -/
import Derived.Test.YtfeokafjehpgnaaV5
namespace Go.Proofs.Ytfeokafjehpgnaa
open Go.RowKit
/-- Each next one hangs on the one before it, or the other way round. -/
def Lk (P : Nat → Nat) : List Nat → Prop
  | [] => True
  | [_] => True
  | a :: b :: l => (P a = b ∨ P b = a) ∧ Lk P (b :: l)
theorem way_dn {P : Nat → Nat} {v y : Nat} {l : List Nat} (h : K.Way P v (l ++ [y])) (hl : l ≠ []) : y = v ∧ P v ≠ 0 ∧ K.Way P (P v) l := by
  generalize hL : l ++ [y] = L at h
  cases h with
  | root h1 h2 =>
    have := congrArg List.length hL
    cases l with
    | nil => exact absurd rfl hl
    | cons a t => simp at this
  | down h1 h2 h3 =>
    have := List.append_inj' hL rfl
    rw [this.1]
    exact ⟨by injection this.2, h2, h3⟩
theorem way_one {P : Nat → Nat} {v y : Nat} (h : K.Way P v [y]) : y = v ∧ P v = 0 := by
  generalize hL : [y] = L at h
  cases h with
  | root h1 h2 =>
    injection hL with hL
    exact ⟨hL, h2⟩
  | @down _ l h1 h2 h3 =>
    have := congrArg List.length hL
    have hp := way_pos h3
    simp at this
    rw [this] at hp
    simp at hp
theorem way_hd {P : Nat → Nat} {v c : Nat} {o3 o4 : List Nat} (h : K.Way P v (o3 ++ c :: o4)) (oS : List Nat) : ∃ t, o4.reverse ++ c :: oS = v :: t := by
  obtain ⟨o, e⟩ := h.last
  rcases List.eq_nil_or_concat o4 with h1 | ⟨q, y, h1⟩
  · subst h1
    have := (List.append_inj' e rfl).2
    injection this with this
    exact ⟨oS, by rw [this]; rfl⟩
  · rw [List.concat_eq_append] at h1
    subst h1
    have e2 : (o3 ++ c :: q) ++ [y] = o ++ [v] := by rw [← e]; simp
    have := (List.append_inj' e2 rfl).2
    injection this with this
    exact ⟨q.reverse ++ c :: oS, by rw [this]; simp⟩
theorem lk_down {P : Nat → Nat} : ∀ {oS o3 : List Nat} {c u : Nat}, (o3 ++ c :: oS).Nodup → K.Way P u (o3 ++ c :: oS) → Lk P (c :: oS)
  | [], _, _, _, _, _ => trivial
  | d :: oS, o3, c, u, hn, h => by
    have e : o3 ++ c :: d :: oS = (o3 ++ [c]) ++ d :: oS := by simp
    rw [e] at h hn
    have hw := way_cut h hn
    have h1 := way_dn hw (by simp)
    obtain ⟨o, e2⟩ := h1.2.2.last
    have e3 := (List.append_inj' e2 rfl).2
    injection e3 with e3
    exact ⟨.inr e3.symm, lk_down hn h⟩
theorem lk_up {P : Nat → Nat} {o3 oS : List Nat} {c : Nat} (hS : Lk P (c :: oS)) : ∀ (k : Nat) (o4 : List Nat) (v : Nat), o4.length = k → K.Way P v (o3 ++ c :: o4) → Lk P (o4.reverse ++ c :: oS)
  | 0, o4, v, hk, h => by
    have : o4 = [] := List.eq_nil_of_length_eq_zero hk
    subst this
    exact hS
  | k + 1, o4, v, hk, h => by
    rcases List.eq_nil_or_concat o4 with h1 | ⟨q, y, h1⟩
    · rw [h1] at hk; simp at hk
    · rw [List.concat_eq_append] at h1
      subst h1
      rw [show o3 ++ c :: (q ++ [y]) = (o3 ++ c :: q) ++ [y] by simp] at h
      have h1 := way_dn h (by simp)
      have ih := lk_up hS k q _ (by simpa using hk) h1.2.2
      obtain ⟨t, e⟩ := way_hd h1.2.2 oS
      rw [e] at ih
      rw [show (q ++ [y]).reverse ++ c :: oS = y :: (q.reverse ++ c :: oS) by simp, e, h1.1]
      exact ⟨.inl rfl, ih⟩
theorem Pth.lk {P : Nat → Nat} {n v u : Nat} {lp : List Nat} (hp : K.Par P (vts n)) (hu : u ∈ vts n) (h : Pth P v u lp) : Lk P lp ∧ lp.head? = some v ∧ lp.getLast? = some u := by
  obtain ⟨o3, o4, oS, c, h1, h2, h3, rfl⟩ := h
  refine ⟨lk_up (lk_down (way_all hp h2 hu).2 h2) _ o4 v rfl h1, ?_, ?_⟩
  · obtain ⟨t, e⟩ := way_hd h1 oS
    rw [e]; rfl
  · obtain ⟨t, e⟩ := way_hd h2 o4
    have : o4.reverse ++ c :: oS = (oS.reverse ++ c :: o4).reverse := by simp
    rw [this, List.getLast?_reverse, e]; rfl
theorem Pth.mk {P : Nat → Nat} {n : Nat} (hp : K.Par P (vts n)) : ∀ (rest : List Nat) (v u : Nat), (v :: rest).Nodup → (∀ z ∈ v :: rest, z ∈ vts n) → Lk P (v :: rest) → (v :: rest).getLast? = some u → Pth P v u (v :: rest)
  | [], v, u, hn, hv, hl, hu => by
    have : v = u := by simpa using hu
    subst this
    obtain ⟨l, hw⟩ := hp.way v (hv v (by simp))
    obtain ⟨o, e⟩ := hw.last
    rw [e] at hw
    exact ⟨o, [], [], v, hw, hw, by simp, rfl⟩
  | y :: r, v, u, hn, hv, hl, hu => by
    have hn1 := List.nodup_cons.1 hn
    obtain ⟨o3, o4, oS, c, h1, h2, h3, h4⟩ := Pth.mk hp r y u hn1.2 (fun z hz => hv z (List.mem_cons_of_mem _ hz)) hl.2 (by simpa using hu)
    have hv0 := (mem_vts.1 (hv v (by simp))).1
    have hy0 := (mem_vts.1 (hv y (by simp))).1
    have hno : v ∉ o4.reverse ++ c :: oS := by rw [← h4]; exact hn1.1
    rcases hl.1 with e | e
    · have hw : K.Way P v ((o3 ++ c :: o4) ++ [v]) := .down hv0 (by rw [e]; exact hy0) (by rw [e]; exact h1)
      refine ⟨o3, o4 ++ [v], oS, c, by simpa using hw, h2, fun z k1 k2 => ?_, by rw [h4]; simp⟩
      rcases List.mem_append.1 k2 with k2 | k2
      · exact h3 z k1 k2
      · rw [List.mem_singleton] at k2
        subst k2
        exact hno (by simp [k1])
    · rcases List.eq_nil_or_concat o4 with h5 | ⟨q, t, h5⟩
      · subst h5
        by_cases h6 : o3 = []
        · subst h6
          exfalso
          exact hv0 (by rw [← e, (way_one h1).2])
        · have hd := way_dn h1 h6
          rw [e] at hd
          obtain ⟨o, e2⟩ := hd.2.2.last
          subst e2
          rw [List.reverse_nil, List.nil_append] at h4
          refine ⟨o, [], c :: oS, v, hd.2.2, by simpa using h2, by simp, by rw [h4]; rfl⟩
      · rw [List.concat_eq_append] at h5
        subst h5
        exfalso
        rw [show o3 ++ c :: (q ++ [t]) = (o3 ++ c :: q) ++ [t] by simp] at h1
        have hd := way_dn h1 (by simp)
        rw [e] at hd
        obtain ⟨w, e2⟩ := way_hd hd.2.2 oS
        apply hno
        rw [show (q ++ [t]).reverse ++ c :: oS = t :: (q.reverse ++ c :: oS) by simp, e2]
        simp
theorem ev_lk {n x : Nat} {P P' : Nat → Nat} (hp : K.Par P (vts n)) (hx : x < n) (hE : Ev n P x P') {a b : Nat} (ha : a ∈ vts n) (hb : b ∈ vts n) : (P a = b → P' a = b ∨ P' b = a) ∧ (P' a = b → P a = b ∨ P b = a) := by
  obtain ⟨l, h1, h2, h3, h4⟩ := hE.ex
  have hnd := (way_all hp h1 (mem_succ hx)).2
  have a0 := (mem_vts.1 ha).1
  have b0 := (mem_vts.1 hb).1
  by_cases hm : a ∈ l
  · obtain ⟨l1, l2, e1, w1⟩ := way_pre h1 a hm
    obtain ⟨o, e2⟩ := w1.last
    subst e2
    constructor
    · intro e
      right
      have ho : o ≠ [] := by
        intro e3
        subst e3
        exact b0 (by rw [← e, (way_one w1).2])
      have hd := way_dn w1 ho
      rw [e] at hd
      obtain ⟨o', e4⟩ := hd.2.2.last
      subst e4
      rw [e1, show ((o' ++ [b]) ++ [a] ++ l2).reverse = l2.reverse ++ a :: (b :: o'.reverse) by simp] at h2
      exact (K.Chain.app.1 h2).2.1
    · intro e
      cases l2 with
      | nil =>
        rw [e1, List.append_nil, List.reverse_append] at h2
        exact absurd (h2.1.symm.trans e) (Ne.symm b0)
      | cons d l2 =>
        right
        have h2' := h2
        rw [e1, show (o ++ [a] ++ d :: l2).reverse = l2.reverse ++ d :: (a :: o.reverse) by simp] at h2'
        have k1 := (K.Chain.app.1 h2').2.1
        rw [e] at k1
        subst k1
        have w2 := h1
        rw [e1, show o ++ [a] ++ b :: l2 = (o ++ [a]) ++ b :: l2 by simp] at w2
        have hd := way_dn (way_cut w2 (by rw [← show o ++ [a] ++ b :: l2 = (o ++ [a]) ++ b :: l2 by simp, ← e1]; exact hnd)) (by simp)
        obtain ⟨o', e4⟩ := hd.2.2.last
        have e5 := (List.append_inj' e4 rfl).2
        injection e5 with e5
        exact e5.symm
  · have e := h3 a ha hm
    exact ⟨fun k => .inl (e.trans k), fun k => .inl (e.symm.trans k)⟩
theorem lk_map {P P' : Nat → Nat} {n : Nat} (h : ∀ a b, a ∈ vts n → b ∈ vts n → (P a = b ∨ P b = a) → (P' a = b ∨ P' b = a)) : ∀ (l : List Nat), (∀ z ∈ l, z ∈ vts n) → Lk P l → Lk P' l
  | [], _, _ => trivial
  | [_], _, _ => trivial
  | a :: b :: l, hv, hl => ⟨h a b (hv a (by simp)) (hv b (by simp)) hl.1, lk_map h (b :: l) (fun z hz => hv z (List.mem_cons_of_mem _ hz)) hl.2⟩
theorem Pth.move {P P' : Nat → Nat} {n v u : Nat} {lp : List Nat} (hp : K.Par P (vts n)) (hp' : K.Par P' (vts n)) (hv : v ∈ vts n) (hu : u ∈ vts n) (h : ∀ a b, a ∈ vts n → b ∈ vts n → (P a = b ∨ P b = a) → (P' a = b ∨ P' b = a)) (hq : Pth P v u lp) : Pth P' v u lp := by
  obtain ⟨f1, f2, _, f4⟩ := hq.facts hp hv hu
  obtain ⟨k1, k2, k3⟩ := hq.lk hp hu
  cases lp with
  | nil => simp at f2
  | cons a rest =>
    have : a = v := by simpa using k2
    subst this
    exact Pth.mk hp' rest a u f4 f1 (lk_map h _ f1 k1) k3
theorem last_in {p : Nat → Prop} : ∀ (l : List Nat), (∃ z ∈ l, p z) → ∃ o c l2, l = o ++ c :: l2 ∧ p c ∧ ∀ z ∈ l2, ¬ p z
  | [], h => by obtain ⟨z, hz, _⟩ := h; cases hz
  | x :: l, h => by
    by_cases h1 : ∃ z ∈ l, p z
    · obtain ⟨o, c, l2, e, k1, k2⟩ := last_in l h1
      exact ⟨x :: o, c, l2, by rw [e]; rfl, k1, k2⟩
    · obtain ⟨z, hz, hpz⟩ := h
      rcases List.mem_cons.1 hz with e | e
      · subst e
        exact ⟨[], z, l, rfl, hpz, fun y hy h2 => h1 ⟨y, hy, h2⟩⟩
      · exact absurd ⟨z, e, hpz⟩ h1
theorem Pth.exists {P : Nat → Nat} {n v u : Nat} {lv lw : List Nat} (hp : K.Par P (vts n)) (hv : v ∈ vts n) (h1 : K.Way P v lv) (h2 : K.Way P u lw) (he : lv.head? = lw.head?) : ∃ lp, Pth P v u lp := by
  have hpos := way_pos h1
  have hx : ∃ z ∈ lv, z ∈ lw := by
    cases lv with
    | nil => simp at hpos
    | cons t r => exact ⟨t, by simp, List.mem_of_mem_head? (by rw [← he]; rfl)⟩
  obtain ⟨o, c, l2, e, k1, k2⟩ := last_in lv hx
  subst e
  obtain ⟨oS, _, hc⟩ := cmn_of h1 (way_cut h1 (way_all hp h1 hv).2) h2 k1 k2
  exact Pth.of h1 h2 hc
theorem Pth.heads {P : Nat → Nat} {v u : Nat} {lp lv lw : List Nat} (h : Pth P v u lp) (h1 : K.Way P v lv) (h2 : K.Way P u lw) : lv.head? = lw.head? := by
  obtain ⟨o3, o4, oS, c, k1, k2, _, _⟩ := h
  rw [h1.uniq k1, h2.uniq k2]
  cases o3 <;> rfl
theorem turn_ex {P : Nat → Nat} {n x v u : Nat} (hp : K.Par P (vts n)) (hx : x < n) (hv : v < n) (hu : u < n) : ∃ P', Ev n P x P' ∧ K.Par P' (vts n) ∧ Rt P' x (x + 1) ∧ (∀ lp, Pth P (v + 1) (u + 1) lp → Pth P' (v + 1) (u + 1) lp) ∧ ∀ lp, Pth P' (v + 1) (u + 1) lp → Pth P (v + 1) (u + 1) lp := by
  obtain ⟨l, r, hl, _⟩ := rt_ex hp hx
  have A := way_all hp hl (mem_succ hx)
  obtain ⟨P', h1, h2⟩ := chain_ex l.reverse 0 P ((List.reverse_perm l).nodup_iff.2 A.2)
  have h2' : ∀ z ∈ vts n, z ∉ l → P' z = P z := fun z _ hz => h2 z (fun e => hz (List.mem_reverse.1 e))
  have hE : Ev n P x P' := ⟨l, hl, h1, h2', A.1⟩
  have hp' := K.par_evert hp (mem_succ hx) hl A.1 h1 h2'
  refine ⟨P', hE, hp', ⟨[x + 1], .root (by omega) ?_, rfl⟩, fun lp h => ?_, fun lp h => ?_⟩
  · obtain ⟨o, e⟩ := hl.last
    rw [e, List.reverse_append] at h1
    exact h1.1
  · exact h.move hp hp' (mem_succ hv) (mem_succ hu) (fun a b ha hb k => by
      rcases k with k | k
      · exact (ev_lk hp hx hE ha hb).1 k
      · exact ((ev_lk hp hx hE hb ha).1 k).symm)
  · exact h.move hp' hp (mem_succ hv) (mem_succ hu) (fun a b ha hb k => by
      rcases k with k | k
      · exact (ev_lk hp hx hE ha hb).2 k
      · exact ((ev_lk hp hx hE hb ha).2 k).symm)
theorem turn_fin {P : Nat → Nat} {n v u : Nat} {lp : List Nat} (hp : K.Par P (vts n)) (hn : n ≤ 60) (hv : v < n) (hu : u < n) (h : Pth P (v + 1) (u + 1) lp) : ∃ lv lw lc c d1 d2 d3, K.Way P (v + 1) lv ∧ lv.length = d1 + 1 ∧ K.Way P (u + 1) lw ∧ lw.length = d2 + 1 ∧ Cmn lv lw (c + 1) ∧ lv.head? = lw.head? ∧ K.Way P (c + 1) lc ∧ lc.length = d3 + 1 ∧ c < n ∧ d1 + d2 + 1 = 2 * d3 + lp.length ∧ d1 ≤ 60 ∧ d2 ≤ 60 ∧ d3 ≤ 60 := by
  obtain ⟨o3, o4, oS, c, h1, h2, h3, rfl⟩ := h
  have A1 := way_all hp h1 (mem_succ hv)
  have L1 := h1.len hp (mem_succ hv)
  have L2 := h2.len hp (mem_succ hu)
  rw [vts_length] at L1 L2
  have hc := mem_vts.1 (A1.1 c (by simp))
  obtain ⟨c, rfl⟩ : ∃ q, c = q + 1 := ⟨c - 1, by omega⟩
  simp at L1 L2
  refine ⟨_, _, _, c, o3.length + o4.length, o3.length + oS.length, o3.length, h1, by simp; omega, h2, by simp; omega, ⟨o3, o4, oS, rfl, rfl, h3⟩, by cases o3 <;> rfl, way_cut h1 A1.2, by simp, by omega, by simp; omega, by omega, by omega, by omega⟩
theorem Common_pth {w : World} {f b n : Nat} {s : Int} {wt : Nat → Int} {P : Nat → Nat} {v u c : Nat} (h : LF w f b n s P wt) (hs1 : 0 ≤ s) (hs2 : s ≤ 2305843009213680000) (hv : v < n) (hu : u < n) {lv lw : List Nat} (hlv : K.Way P (v + 1) lv) (hlw : K.Way P (u + 1) lw) (hr : lv.head? = lw.head?) (hc : Cmn lv lw (c + 1)) :
    Calls Try.prog 12 #[.pointer (some ⟨f, 0, none⟩), .int .i64 (v : Nat), .int .i64 (u : Nat)] w fun e w' => e = .returned (.tuple #[.int .i64 (c : Nat), .int .i64 0]) ∧ Kp w w' f b n s 15200 P wt := by
  refine (Common_ok h hs1 hs2 hv hu hlv hlw hr).mono ?_
  rintro e w' ⟨c', rfl, k1, k2⟩
  have := cmn_uniq k1 hc
  subst this
  exact ⟨by rw [show ((c + 1 : Nat) : Int) - 1 = (c : Nat) by omega], k2⟩
end Go.Proofs.Ytfeokafjehpgnaa
