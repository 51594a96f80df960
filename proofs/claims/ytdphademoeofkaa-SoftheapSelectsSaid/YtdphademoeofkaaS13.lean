/- Melding: new names (plain law). -/
import Derived.Test.YtdphademoeofkaaS12
namespace Go.Proofs.Ytdphademoeofkaa
/-- The names that the items of another heap get. -/
def names (m : Nat) : List (Option Nat) → List Int
  | [] => []
  | none :: l => -1 :: names m l
  | some _ :: l => (m : Int) :: names (m + 1) l
def cnt (l : List (Option Nat)) : Nat := (l.filter Option.isSome).length
theorem cnt_le (l : List (Option Nat)) : cnt l ≤ l.length := List.length_filter_le _ _
theorem names_len : ∀ (l : List (Option Nat)) (m : Nat), (names m l).length = l.length
  | [], _ => rfl
  | none :: l, m => by simp [names, names_len l]
  | some _ :: l, m => by simp [names, names_len l]
theorem names_none : ∀ (l : List (Option Nat)) (m : Nat), names m (l ++ [none]) = names m l ++ [-1]
  | [], _ => rfl
  | none :: l, m => by simp [names, names_none l]
  | some _ :: l, m => by simp [names, names_none l]
theorem names_some (b : Nat) : ∀ (l : List (Option Nat)) (m : Nat), names m (l ++ [some b]) = names m l ++ [((m + cnt l : Nat) : Int)]
  | [], _ => rfl
  | none :: l, m => by simp [names, names_some b l, cnt]
  | some c :: l, m => by
    simp only [List.cons_append, names, names_some b l]
    have : m + 1 + cnt l = m + cnt (some c :: l) := by simp [cnt]; omega
    rw [this]
theorem cnt_none (l : List (Option Nat)) : cnt (l ++ [none]) = cnt l := by simp [cnt]
theorem cnt_some (l : List (Option Nat)) (b : Nat) : cnt (l ++ [some b]) = cnt l + 1 := by simp [cnt]
theorem names_get {l : List (Option Nat)} {m i b : Nat} (h : l[i]? = some (some b)) : (names m l)[i]? = some ((m + cnt (l.take i) : Nat) : Int) := by
  induction l generalizing m i with
  | nil => simp at h
  | cons x l ih =>
    cases i with
    | zero =>
      simp at h
      subst h
      simp [names, cnt]
    | succ i =>
      simp at h
      cases x with
      | none => simp [names, ih h, cnt]
      | some c =>
        simp only [names, List.getElem?_cons_succ, ih h, List.take_succ_cons]
        congr 2
        simp [cnt]; omega
theorem nm_some {I : List (Option Nat)} {m : Nat} {i : Int} (h : Sm I i) : nm (names m I) i = ((m + cnt (I.take i.toNat) : Nat) : Int) := by
  obtain ⟨b, h⟩ := h
  unfold nm
  rw [List.getD_eq_getElem?_getD, names_get h]
  rfl
theorem cnt_lt {I : List (Option Nat)} {i j b : Nat} (h : I[i]? = some (some b)) (hij : i < j) : cnt (I.take i) < cnt (I.take j) := by
  obtain ⟨hi, he⟩ := List.getElem?_eq_some_iff.1 h
  have e : I.take j = I.take (i + 1) ++ (I.take j).drop (i + 1) := by
    have := List.take_append_drop (i + 1) (I.take j)
    rw [List.take_take, Nat.min_eq_left (by omega)] at this
    exact this.symm
  have e2 : I.take (i + 1) = I.take i ++ [some b] := by rw [← List.take_append_getElem hi, he]
  rw [e, e2]
  simp only [cnt, List.filter_append, List.length_append]
  simp
  omega
theorem nm_inj {I : List (Option Nat)} {m : Nat} {i j : Int} (hi0 : 0 ≤ i) (hj0 : 0 ≤ j) (hi : Sm I i) (hj : Sm I j) (h : nm (names m I) i = nm (names m I) j) : i = j := by
  rw [nm_some hi, nm_some hj] at h
  obtain ⟨b, hb⟩ := hi
  obtain ⟨c, hc⟩ := hj
  rcases Nat.lt_trichotomy i.toNat j.toNat with g | g | g
  · have := cnt_lt hb g; omega
  · omega
  · have := cnt_lt hc g; omega
theorem nm_bd {I : List (Option Nat)} {m : Nat} {i : Int} (hi : Sm I i) : (m : Int) ≤ nm (names m I) i ∧ nm (names m I) i < ((m + I.length : Nat) : Int) := by
  rw [nm_some hi]
  obtain ⟨b, hb⟩ := hi
  have h1 := (List.getElem?_eq_some_iff.1 hb).1
  have h2 := cnt_le (I.take i.toNat)
  simp only [List.length_take] at h2
  omega
theorem Rn.rank (f : Int → Int) (t : Tr) : (Rn f t).rank = t.rank := by cases t <;> rfl
theorem Rn.wt (f : Int → Int) (t : Tr) : (Rn f t).wt = t.wt := by cases t <;> rfl
theorem Rn.ok (f : Int → Int) : ∀ {t : Tr}, t.Ok → (Rn f t).Ok
  | .nil, _ => trivial
  | .nd .., h => ⟨by simp [h.1], h.2.1, Rn.ok f h.2.2.1, Rn.ok f h.2.2.2⟩
theorem Rn.gt (f : Int → Int) {k : Nat} : ∀ {t : Tr}, Gt k t → Gt k (Rn f t)
  | .nil, _ => trivial
  | .nd .., h => ⟨h.1, h.2.1, Rn.ok f h.2.2⟩
theorem flat_rn (f : Int → Int) (ts : List Tr) : flat (ts.map (Rn f)) = (flat ts).map f := by
  unfold flat
  induction ts with
  | nil => rfl
  | cons t ts ih => simp [Rn.ids, ih]
theorem wts_rn (f : Int → Int) (ts : List Tr) : wts (ts.map (Rn f)) = wts ts := by
  unfold wts
  rw [List.map_map]
  congr 1
  exact List.map_congr_left fun t _ => Rn.wt f t
theorem nodup_map {f : Int → Int} : ∀ {l : List Int}, l.Nodup → (∀ i ∈ l, ∀ j ∈ l, f i = f j → i = j) → (l.map f).Nodup
  | [], _, _ => by simp
  | a :: l, h, hf => by
    obtain ⟨h1, h2⟩ := List.nodup_cons.1 h
    refine List.nodup_cons.2 ⟨fun e => ?_, nodup_map h2 (fun i hi j hj => hf i (List.mem_cons.2 (.inr hi)) j (List.mem_cons.2 (.inr hj)))⟩
    obtain ⟨b, hb, e⟩ := List.mem_map.1 e
    have := hf b (List.mem_cons.2 (.inr hb)) a (List.mem_cons.2 (.inl rfl)) e
    exact h1 (this ▸ hb)
/-- The forests of two heaps that are melded. -/
theorem Gd.meld {mA mB : Nat} {tsA tsB : List Tr} {IB : List (Option Nat)} (hA : Gd mA tsA []) (hB : Gd mB tsB []) (hl : IB.length = mB) (hs : ∀ i ∈ flat tsB, Sm IB i) (hm : mA + mB ≤ 2000) : Gd (mA + mB) tsA (tsB.map (Rn (nm (names mA IB)))) := by
  have b0 : ∀ i ∈ flat tsB, 0 ≤ i := fun i hi => (hB.bdf i hi).1
  refine ⟨hA.tr, fun x hx => ?_, ?_, fun i hi => ?_, ?_, hm, hA.tl⟩
  · obtain ⟨t, ht, rfl⟩ := List.mem_map.1 hx
    obtain ⟨i, hi⟩ := List.mem_iff_getElem?.1 ht
    have hg := hB.tr i t hi
    rw [Rn.rank]
    refine Rn.gt _ ?_
    cases t with
    | nil => trivial
    | nd => exact ⟨rfl, by have := hg.2.1; rw [← hg.1] at this; exact this, hg.2.2⟩
  · rw [flat_rn]
    refine List.nodup_append.2 ⟨nodup_map hB.nodup (fun i hi j hj e => nm_inj (b0 i hi) (b0 j hj) (hs i hi) (hs j hj) e), hA.nodup, fun i hi j hj e => ?_⟩
    obtain ⟨q, hq, rfl⟩ := List.mem_map.1 hi
    have h1 := (nm_bd (m := mA) (hs q hq)).1
    have h2 := (hA.bdf j hj).2
    omega
  · rw [flat_rn] at hi
    rcases List.mem_append.1 hi with hi | hi
    · obtain ⟨q, hq, rfl⟩ := List.mem_map.1 hi
      have h1 := nm_bd (m := mA) (hs q hq)
      rw [hl] at h1
      omega
    · have := hA.bdf i hi
      omega
  · rw [wts_rn]
    have h1 := hA.wt
    have h2 := hB.wt
    simp only [wts, List.map_nil, List.sum_nil] at h1 h2 ⊢
    omega
theorem Ad.wts {rate : Nat} {ts : List Tr} {x : Tr} {I : List (Option Nat)} {ts' : List Tr} {I' : List (Option Nat)} (h : Ad rate ts x I ts' I') (hk : ∀ i t, ts[i]? = some t → Gt i t) (hx : x ≠ .nil) : wts ts' = x.wt + wts ts := by
  induction h with
  | @put ts x I h =>
    have := wts_set h x
    rw [wts_pad, show Tr.wt .nil = 0 from rfl] at this
    omega
  | @comb ts x I y z I1 ts' I' n bz h hy hR h2 ih =>
    have h3 := wts_set h .nil
    rw [wts_pad, show Tr.wt .nil = 0 from rfl] at h3
    obtain ⟨l', r', it', key', hz⟩ := hR.shape rfl
    have hyr : y.wt = 2 ^ x.rank := by
      rcases pad_get h with e | e
      · have := hk _ _ e
        cases y with
        | nil => exact absurd rfl hy
        | nd => show 2 ^ _ = _; rw [this.1]
      · exact absurd e hy
    have hxw : x.wt = 2 ^ x.rank := by
      cases x with
      | nil => exact absurd rfl hx
      | nd => rfl
    have hzw : z.wt = 2 ^ (x.rank + 1) := by rw [hz]; rfl
    rw [ih (fun i t ht => ?_) (by rw [hz]; simp), hzw, Nat.pow_succ]
    · omega
    · rw [List.getElem?_set] at ht
      split at ht
      · split at ht
        · injection ht with ht; rw [← ht]; trivial
        · cases ht
      · rcases pad_get ht with e | e
        · exact hk _ _ e
        · rw [e]; trivial
/-- One of the trees to come was added. -/
theorem Gd.next {m rate : Nat} {ts ts' xs : List Tr} {x : Tr} {I I' : List (Option Nat)} (h : Gd m ts (x :: xs)) (hx : x ≠ .nil) (hA : Ad rate ts x I ts' I') (h' : Gd m ts' []) : Gd m ts' xs := by
  have hp := hA.perm
  have hw := hA.wts h.tr hx
  have e : (flat xs ++ flat ts').Perm (flat (x :: xs) ++ flat ts) := by
    refine (hp.append_left (flat xs)).trans ?_
    simp only [flat, List.flatMap_cons]
    rw [← List.append_assoc]
    exact List.perm_append_comm.append_right _
  refine ⟨h'.tr, fun y hy => h.ex y (List.mem_cons.2 (.inr hy)), e.nodup_iff.2 h.nd, fun i hi => h.bd i (e.mem_iff.1 hi), ?_, h.m2, h'.tl⟩
  have := h.wt
  simp only [Go.Proofs.Ytdphademoeofkaa.wts, List.map_cons, List.sum_cons] at this hw ⊢
  omega
theorem Gd.skip {m : Nat} {ts xs : List Tr} (h : Gd m ts (.nil :: xs)) : Gd m ts xs := by
  have e : flat (.nil :: xs) = flat xs := rfl
  have e2 : wts (.nil :: xs) = wts xs := by simp [wts, Tr.wt]
  exact ⟨h.tr, fun y hy => h.ex y (List.mem_cons.2 (.inr hy)), by rw [← e]; exact h.nd, by rw [← e]; exact h.bd, by rw [← e2]; exact h.wt, h.m2, h.tl⟩
theorem Gd.only {m : Nat} {ts xs : List Tr} {x : Tr} (h : Gd m ts (x :: xs)) : Gd m ts [x] := by
  have hn := h.nd
  have hb := h.bd
  have hw := h.wt
  simp only [flat, List.flatMap_cons, List.append_assoc] at hn hb
  simp only [wts, List.map_cons, List.sum_cons] at hw
  have hsub : (x.ids ++ List.flatMap Tr.ids ts).Sublist (x.ids ++ (List.flatMap Tr.ids xs ++ List.flatMap Tr.ids ts)) := (List.Sublist.refl _).append (List.sublist_append_right _ _)
  refine ⟨h.tr, fun y hy => by rw [List.mem_singleton.1 hy]; exact h.ex x (List.mem_cons.2 (.inl rfl)), ?_, fun i hi => ?_, ?_, h.m2, h.tl⟩
  · simp only [flat, List.flatMap_cons, List.flatMap_nil, List.append_nil]
    exact hn.sublist hsub
  · simp only [flat, List.flatMap_cons, List.flatMap_nil, List.append_nil] at hi
    exact hb i (hsub.subset hi)
  · simp only [wts, List.map_cons, List.map_nil, List.sum_cons, List.sum_nil]
    omega
end Go.Proofs.Ytdphademoeofkaa
