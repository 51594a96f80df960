/- Forests of a soft heap (plain law). -/
import Derived.Test.YtdphademoeofkaaS4
namespace Go.Proofs.Ytdphademoeofkaa
def Tr.rank : Tr → Nat
  | .nil => 0
  | .nd _ _ _ _ _ k _ => k
def Tr.wt : Tr → Nat
  | .nil => 0
  | .nd _ _ _ _ _ k _ => 2 ^ k
def flat (ts : List Tr) : List Int := ts.flatMap Tr.ids
def wts (ts : List Tr) : Nat := (ts.map Tr.wt).sum
/-- A tree of a rank, in order. -/
def Gt (k : Nat) : Tr → Prop
  | .nil => True
  | .nd b l r it key rk sz => rk = k ∧ sz ≤ 2 ^ k ∧ (Tr.nd b l r it key rk sz).Ok
theorem flat_set {ts : List Tr} {k : Nat} {y : Tr} (h : ts[k]? = some y) (x : Tr) : (y.ids ++ flat (ts.set k x)).Perm (x.ids ++ flat ts) := by
  induction ts generalizing k with
  | nil => simp at h
  | cons t ts ih =>
    cases k with
    | zero =>
      simp at h
      subst h
      simp only [List.set_cons_zero, flat, List.flatMap_cons]
      rw [← List.append_assoc, ← List.append_assoc]
      exact List.perm_append_comm.append_right _
    | succ k =>
      simp at h
      have := ih h
      simp only [List.set_cons_succ, flat, List.flatMap_cons] at this ⊢
      have e1 : (y.ids ++ (t.ids ++ List.flatMap Tr.ids (ts.set k x))).Perm (t.ids ++ (y.ids ++ List.flatMap Tr.ids (ts.set k x))) := by
        rw [← List.append_assoc, ← List.append_assoc]
        exact List.perm_append_comm.append_right _
      have e2 : (t.ids ++ (x.ids ++ List.flatMap Tr.ids ts)).Perm (x.ids ++ (t.ids ++ List.flatMap Tr.ids ts)) := by
        rw [← List.append_assoc, ← List.append_assoc]
        exact List.perm_append_comm.append_right _
      exact e1.trans ((this.append_left t.ids).trans e2)
theorem wts_set {ts : List Tr} {k : Nat} {y : Tr} (h : ts[k]? = some y) (x : Tr) : y.wt + wts (ts.set k x) = x.wt + wts ts := by
  induction ts generalizing k with
  | nil => simp at h
  | cons t ts ih =>
    cases k with
    | zero =>
      simp at h
      subst h
      simp [wts]; omega
    | succ k =>
      simp at h
      have := ih h
      simp [wts] at this ⊢
      omega
def pad (ts : List Tr) (k : Nat) : List Tr := ts ++ List.replicate (k - ts.length) .nil
theorem flat_pad (ts : List Tr) (k : Nat) : flat (pad ts k) = flat ts := by
  unfold flat pad
  rw [List.flatMap_append]
  have : List.flatMap Tr.ids (List.replicate (k - ts.length) .nil) = [] := by
    rw [List.flatMap_eq_nil_iff]
    intro x hx
    rw [List.eq_of_mem_replicate hx]; rfl
  rw [this, List.append_nil]
theorem wts_pad (ts : List Tr) (k : Nat) : wts (pad ts k) = wts ts := by
  unfold wts pad
  rw [List.map_append, List.sum_append]
  simp [Tr.wt]
theorem pad_get {ts : List Tr} {k i : Nat} {t : Tr} (h : (pad ts k)[i]? = some t) : ts[i]? = some t ∨ t = .nil := by
  unfold pad at h
  rw [List.getElem?_append] at h
  split at h
  · exact .inl h
  · right
    obtain ⟨_, h⟩ := List.getElem?_eq_some_iff.1 h
    simpa using h.symm
theorem nodup_bound : ∀ (m : Nat) (l : List Int), l.Nodup → (∀ i ∈ l, 0 ≤ i ∧ i < (m : Int)) → l.length ≤ m
  | 0, l, _, h => by
    cases l with
    | nil => simp
    | cons a l => have := h a (List.mem_cons.2 (.inl rfl)); omega
  | m + 1, l, hn, h => by
    by_cases hm : (m : Int) ∈ l
    · have h1 := List.length_erase_of_mem hm
      have h2 := nodup_bound m (l.erase (m : Int)) (hn.erase _) (fun i hi => by
        have h3 := h i (List.mem_of_mem_erase hi)
        have h4 : i ≠ (m : Int) := fun e => by rw [e] at hi; exact (hn.mem_erase_iff.1 hi).1 rfl
        omega)
      omega
    · have := nodup_bound m l hn (fun i hi => by
        have h3 := h i hi
        have h4 : i ≠ (m : Int) := fun e => hm (e ▸ hi)
        omega)
      omega
theorem le_sum : ∀ {l : List Nat} {a : Nat}, a ∈ l → a ≤ l.sum
  | b :: l, a, h => by
    rcases List.mem_cons.1 h with rfl | h
    · simp
    · have := le_sum h; simp; omega
/-- A forest in order, with trees that are not in it yet. -/
structure Gd (m : Nat) (ts xs : List Tr) : Prop where
  tr : ∀ i t, ts[i]? = some t → Gt i t
  ex : ∀ x ∈ xs, Gt x.rank x
  nd : (flat xs ++ flat ts).Nodup
  bd : ∀ i ∈ flat xs ++ flat ts, 0 ≤ i ∧ i < (m : Int)
  wt : wts xs + wts ts ≤ m
  m2 : m ≤ 2000
  tl : ts.length ≤ 11
theorem Gd.rank {m : Nat} {ts xs : List Tr} (h : Gd m ts xs) {b l r it key rk sz} (hx : Tr.nd b l r it key rk sz ∈ xs) : rk ≤ 10 ∧ sz ≤ 1024 := by
  have h1 := h.ex _ hx
  have h2 : 2 ^ rk ≤ wts xs := by
    have : (Tr.nd b l r it key rk sz).wt ∈ xs.map Tr.wt := List.mem_map_of_mem hx
    exact le_sum this
  have h3 := h.wt
  have h4 := h.m2
  have h5 : rk ≤ 10 := by
    refine Nat.le_of_not_lt fun e => ?_
    have : 2 ^ 11 ≤ 2 ^ rk := Nat.pow_le_pow_right (by decide) e
    omega
  exact ⟨h5, Nat.le_trans h1.2.1 (Nat.pow_le_pow_right (n := 2) (by decide) h5)⟩
theorem Gd.padded {m : Nat} {ts xs : List Tr} (h : Gd m ts xs) {k : Nat} (hk : k ≤ 11) : Gd m (pad ts k) xs :=
  { h with
    tl := by have := h.tl; simp [pad]; omega
    tr := fun i t ht => (pad_get ht).elim (h.tr i t) (fun e => e ▸ trivial)
    nd := by rw [flat_pad]; exact h.nd
    bd := by rw [flat_pad]; exact h.bd
    wt := by rw [wts_pad]; exact h.wt }
/-- A tree is put where there is none. -/
theorem Gd.put {m : Nat} {ts xs : List Tr} {x : Tr} (h : Gd m ts (x :: xs)) (hk : ts[x.rank]? = some .nil) : Gd m (ts.set x.rank x) xs := by
  have hp := flat_set hk x
  have hw := wts_set hk x
  simp only [Tr.ids, List.nil_append] at hp
  rw [show Tr.wt .nil = 0 from rfl, Nat.zero_add] at hw
  have e : (flat xs ++ flat (ts.set x.rank x)).Perm (flat (x :: xs) ++ flat ts) := by
    refine (hp.append_left (flat xs)).trans ?_
    simp only [flat, List.flatMap_cons]
    rw [← List.append_assoc]
    exact List.perm_append_comm.append_right _
  refine ⟨fun i t ht => ?_, fun y hy => h.ex y (List.mem_cons.2 (.inr hy)), e.nodup_iff.2 h.nd, fun i hi => h.bd i (e.mem_iff.1 hi), ?_, h.m2, by simpa using h.tl⟩
  · rw [List.getElem?_set] at ht
    split at ht
    · next e =>
      split at ht
      · injection ht with ht
        rw [← ht, ← e]
        exact h.ex x (List.mem_cons.2 (.inl rfl))
      · cases ht
    · exact h.tr i t ht
  · have := h.wt
    simp only [wts, List.map_cons, List.sum_cons] at this ⊢
    simp only [wts] at hw
    omega
/-- A tree is taken out. -/
theorem Gd.out {m : Nat} {ts xs : List Tr} {k : Nat} {y : Tr} (h : Gd m ts xs) (hk : ts[k]? = some y) (hy : y ≠ .nil) : Gd m (ts.set k .nil) (y :: xs) ∧ y.rank = k := by
  have hp := flat_set hk .nil
  have hw := wts_set hk .nil
  simp only [Tr.ids, List.nil_append] at hp
  rw [show Tr.wt .nil = 0 from rfl, Nat.zero_add] at hw
  have e : (flat (y :: xs) ++ flat (ts.set k .nil)).Perm (flat xs ++ flat ts) := by
    refine List.Perm.trans ?_ (hp.append_left (flat xs))
    simp only [flat, List.flatMap_cons]
    rw [← List.append_assoc]
    exact List.perm_append_comm.append_right _
  have hg := h.tr k y hk
  have hr : y.rank = k := by
    cases y with
    | nil => exact absurd rfl hy
    | nd => exact hg.1
  refine ⟨⟨fun i t ht => ?_, fun z hz => ?_, e.nodup_iff.2 h.nd, fun i hi => h.bd i (e.mem_iff.1 hi), ?_, h.m2, by simpa using h.tl⟩, hr⟩
  · rw [List.getElem?_set] at ht
    split at ht
    · split at ht
      · injection ht with ht
        rw [← ht]; exact trivial
      · cases ht
    · exact h.tr i t ht
  · rcases List.mem_cons.1 hz with rfl | hz
    · rw [hr]; exact hg
    · exact h.ex z hz
  · have := h.wt
    simp only [wts, List.map_cons, List.sum_cons] at this hw ⊢
    omega
/-- Two trees are combined. -/
theorem Gd.comb {m : Nat} {ts xs : List Tr} {x y z : Tr} (h : Gd m ts (y :: x :: xs)) (hr : y.rank = x.rank) (hx : x ≠ .nil) (hy : y ≠ .nil) (hz : z.ids.Perm (y.ids ++ x.ids)) (hg : Gt (x.rank + 1) z) (hzn : z ≠ .nil) : Gd m ts (z :: xs) := by
  have hzr : z.rank = x.rank + 1 := by
    cases z with
    | nil => exact absurd rfl hzn
    | nd => exact hg.1
  have e : (flat (z :: xs) ++ flat ts).Perm (flat (y :: x :: xs) ++ flat ts) := by
    simp only [flat, List.flatMap_cons]
    rw [← List.append_assoc y.ids]
    exact (hz.append_right _).append_right _
  refine ⟨h.tr, fun u hu => ?_, e.nodup_iff.2 h.nd, fun i hi => h.bd i (e.mem_iff.1 hi), ?_, h.m2, h.tl⟩
  · rcases List.mem_cons.1 hu with rfl | hu
    · rw [hzr]; exact hg
    · exact h.ex u (List.mem_cons.2 (.inr (List.mem_cons.2 (.inr hu))))
  · have hw := h.wt
    have w1 : z.wt = 2 ^ (x.rank + 1) := by
      cases z with
      | nil => exact absurd rfl hzn
      | nd => show 2 ^ _ = _; rw [hg.1]
    have w2 : y.wt = 2 ^ x.rank := by
      cases y with
      | nil => exact absurd rfl hy
      | nd => rw [← hr]; rfl
    have w3 : x.wt = 2 ^ x.rank := by
      cases x with
      | nil => exact absurd rfl hx
      | nd => rfl
    simp only [wts, List.map_cons, List.sum_cons, w1, w2, w3, Nat.pow_succ] at hw ⊢
    omega
end Go.Proofs.Ytdphademoeofkaa
