/- Deleting some items of a heap: what was removed, and what stays (plain law). -/
import Derived.Test.YtdphademoeofkaaS21
namespace Go.Proofs.Ytdphademoeofkaa
theorem Cl.le {r : Nat} {ks : List Int} {i k : Int} : ∀ {t : Tr} {rk : Nat}, Cl r ks t rk → (i, k) ∈ t.curs → ks.getD i.toNat 0 ≤ k
  | .nd b l r' it key _ _, _, h, hi => by
    simp only [Tr.curs, List.mem_append] at hi
    rcases hi with hi | hi | hi
    · obtain ⟨j, hj, e⟩ := List.mem_map.1 hi
      cases e
      exact h.1.2.1 i hj
    · exact Cl.le h.2.1 hi
    · exact Cl.le h.2.2 hi
theorem SX.own_le {r : Nat} {ks : List Int} {ts : List Tr} {I : List (Option Nat)} (S : SX r ks ts [] I) {i k : Int} (h : (i, k) ∈ cf ts) : ks.getD i.toNat 0 ≤ k := by
  obtain ⟨t, ht, hi⟩ := List.mem_flatMap.1 h
  obtain ⟨j, hj⟩ := List.mem_iff_getElem?.1 ht
  exact (S.g j t hj).cl.le hi
/-- Own keys of some items. -/
def owns (xs : List Int) (l : List Int) : List Int := l.map fun i => xs.getD i.toNat 0
/-- Some items were removed: out; the greatest of these own keys: most. -/
structure Hv (r : Nat) (xs : List Int) (ts : List Tr) (I : List (Option Nat)) (out : List Int) (most : Int) : Prop where
  sx : SX r xs ts [] I
  len : I.length = xs.length
  p : (out ++ owns xs (flat ts)).Perm xs
  om : ∀ a ∈ out, a ≤ most
  mo : (out = [] ∧ most = -1048576) ∨ most ∈ out
  hx : ∀ x ∈ xs, -1048576 ≤ x
  mc : ∀ q ∈ cf ts, most ≤ q.2
theorem getD_range (xs : List Int) : (List.range xs.length).map (fun i => xs.getD i 0) = xs := by
  refine List.ext_getElem? fun i => ?_
  rw [List.getElem?_map]
  by_cases h : i < xs.length
  · rw [List.getElem?_range h, List.getElem?_eq_getElem h]
    simp [h]
  · rw [List.getElem?_eq_none (by simpa using h), List.getElem?_eq_none (by omega)]
    rfl
/-- All items are in the heap. -/
theorem Hv.start {r : Nat} {xs : List Int} {ts : List Tr} {I : List (Option Nat)} (S : SX r xs ts [] I) (hl : I.length = xs.length) (hf : (flat ts).Perm ((List.range xs.length).map fun (i : Nat) => (i : Int))) (hx : ∀ x ∈ xs, -1048576 ≤ x) : Hv r xs ts I [] (-1048576) := by
  have hp : (owns xs (flat ts)).Perm xs := by
    have h1 := hf.map (fun i : Int => xs.getD i.toNat 0)
    rw [List.map_map] at h1
    have h2 : (List.range xs.length).map ((fun i : Int => xs.getD i.toNat 0) ∘ fun (i : Nat) => (i : Int)) = xs := by
      rw [← getD_range xs]
      simp only [List.length_map, List.length_range]
      refine List.map_congr_left fun i hi => ?_
      show (_ : List Int).getD ((i : Int)).toNat 0 = _
      rw [Int.toNat_natCast, getD_range]
    rw [h2] at h1
    exact h1
  refine ⟨S, hl, by simpa using hp, by simp, .inl ⟨rfl, rfl⟩, hx, fun q hq => ?_⟩
  have h1 := S.own_le (i := q.1) (k := q.2) hq
  have h2 : xs.getD q.1.toNat 0 ∈ xs := hp.mem_iff.1 (List.mem_map.2 ⟨q.1, cf_flat (k := q.2) hq, rfl⟩)
  have := hx _ h2
  omega
/-- One item more is removed. -/
theorem Hv.dm {r : Nat} {xs : List Int} {ts : List Tr} {I : List (Option Nat)} {out : List Int} {most id key : Int} {ts' : List Tr} {I' : List (Option Nat)} (H : Hv r xs ts I out most) (h : Dm ts I id key ts' I') :
    Hv r xs ts' I' (out ++ [xs.getD id.toNat 0]) (max most (xs.getD id.toNat 0)) ∧ 0 ≤ id ∧ id < (xs.length : Int) ∧ (flat ts).Perm (id :: flat ts') ∧ (2 ^ r > xs.length → wts ts ≤ xs.length → ∀ i ∈ flat ts, xs.getD id.toNat 0 ≤ xs.getD i.toNat 0) := by
  obtain ⟨a1, a2, a3, ⟨C, c1, c2⟩, a5, a6⟩ := H.sx.dm h
  have hid : id ∈ flat ts := a3.mem_iff.2 (List.mem_cons.2 (.inl rfl))
  have hb := H.sx.bd id (by simp [hid])
  rw [H.len] at hb
  have hck : (id, key) ∈ cf ts := c1.mem_iff.2 (List.mem_cons.2 (.inl rfl))
  have hok := H.sx.own_le hck
  -- what stays has a current key that was not greater
  have old : ∀ q ∈ cf ts', ∃ k, (q.1, k) ∈ cf ts ∧ k ≤ q.2 := by
    rintro ⟨i, k'⟩ hq
    have hi : i ∈ flat ts' := cf_flat hq
    have pp : (id :: flat ts').Perm (id :: C.map (·.1)) := by
      refine a3.symm.trans ?_
      rw [← cf_ids]
      exact c1.map (·.1)
    have hiC := (List.perm_cons id |>.1 pp).mem_iff.1 hi
    obtain ⟨⟨i2, q⟩, g1, rfl⟩ := List.mem_map.1 hiC
    obtain ⟨q', g3, g4⟩ := c2 _ _ g1
    have := a1.uq g4 hq
    exact ⟨q, c1.mem_iff.2 (List.mem_cons.2 (.inr g1)), by show q ≤ k'; omega⟩
  refine ⟨⟨a1, by rw [a2]; exact H.len, ?_, fun a ha => ?_, .inr ?_, H.hx, fun q hq => ?_⟩, hb.1, hb.2, a3, fun hr hw i hi => ?_⟩
  · have h1 : (owns xs (flat ts)).Perm (xs.getD id.toNat 0 :: owns xs (flat ts')) := a3.map _
    rw [List.append_assoc]
    exact ((h1.symm.append_left out)).trans H.p
  · rcases List.mem_append.1 ha with ha | ha
    · have := H.om a ha; omega
    · rw [List.mem_singleton.1 ha]; omega
  · have hm : xs.getD id.toNat 0 ∈ xs := by
      rw [List.getD_eq_getElem?_getD, List.getElem?_eq_getElem (by omega)]
      exact List.getElem_mem _
    have hge := H.hx _ hm
    rcases H.mo with ⟨e, e2⟩ | e
    · subst e
      subst e2
      rw [Int.max_eq_right hge]
      simp
    · rcases Int.le_total most (xs.getD id.toNat 0) with g | g
      · rw [Int.max_eq_right g]; simp
      · rw [Int.max_eq_left g]; simp [e]
  · obtain ⟨k, h1, h2⟩ := old q hq
    have h3 := H.mc _ h1
    have h4 := a5 _ h1
    have h5 : most ≤ k := h3
    have h6 : key ≤ k := h4
    omega
  · have h0 := H.sx.few (m := xs.length) hw
    rw [Nat.div_eq_of_lt hr] at h0
    have hnb : ∀ q ∈ cf ts, ¬ xs.getD q.1.toNat 0 < q.2 := by
      intro q hq hlt
      have : q ∈ (cf ts).filter fun p => decide (xs.getD p.1.toNat 0 < p.2) := List.mem_filter.2 ⟨hq, by simpa using hlt⟩
      have h1 : 0 < bad xs (cf ts) := List.length_pos_of_mem this
      omega
    obtain ⟨k, hk⟩ := flat_cf hi
    have h1 := hnb _ hk
    have h2 := a5 _ hk
    have h3 := hnb _ hck
    have h4 : ¬ xs.getD i.toNat 0 < k := h1
    have h5 : key ≤ k := h2
    have h6 : ¬ xs.getD id.toNat 0 < key := h3
    omega
/-- The number of items that are left. -/
theorem Hv.count {r : Nat} {xs : List Int} {ts : List Tr} {I : List (Option Nat)} {out : List Int} {most : Int} (H : Hv r xs ts I out most) : out.length + (flat ts).length = xs.length := by
  have := H.p.length_eq
  rw [List.length_append] at this
  simpa [owns] using this
/-- Few own keys are below the greatest one that was removed. -/
theorem Hv.low {r : Nat} {xs : List Int} {ts : List Tr} {I : List (Option Nat)} {out : List Int} {most : Int} (H : Hv r xs ts I out most) : out.length ≤ xs.countP fun k => decide (k ≤ most) := by
  rw [← H.p.countP_eq, List.countP_append]
  have : out.countP (fun k => decide (k ≤ most)) = out.length := List.countP_eq_length.2 fun a ha => by simpa using H.om a ha
  omega
theorem Hv.high {r : Nat} {xs : List Int} {ts : List Tr} {I : List (Option Nat)} {out : List Int} {most : Int} (H : Hv r xs ts I out most) (hw : wts ts ≤ xs.length) : (flat ts).length ≤ (xs.countP fun k => decide (most ≤ k)) + xs.length / 2 ^ r := by
  rw [← H.p.countP_eq, List.countP_append]
  have h1 : (flat ts).length ≤ (owns xs (flat ts)).countP (fun k => decide (most ≤ k)) + bad xs (cf ts) := by
    have e : (owns xs (flat ts)).countP (fun k => decide (most ≤ k)) = (cf ts).countP (fun q => decide (most ≤ xs.getD q.1.toNat 0)) := by
      unfold owns
      rw [← cf_ids, List.map_map, List.countP_map]
      rfl
    have e2 : bad xs (cf ts) = (cf ts).countP (fun q => decide (xs.getD q.1.toNat 0 < q.2)) := by
      unfold bad
      rw [List.countP_eq_length_filter]
    have e3 : (flat ts).length = (cf ts).length := by rw [← cf_ids, List.length_map]
    rw [e, e2, e3]
    have hall : ∀ q ∈ cf ts, decide (most ≤ xs.getD q.1.toNat 0) = true ∨ decide (xs.getD q.1.toNat 0 < q.2) = true := by
      intro q hq
      have := H.mc q hq
      simp only [decide_eq_true_eq]
      omega
    revert hall
    generalize cf ts = c
    intro hall
    induction c with
    | nil => simp
    | cons q c ih =>
      have h1 := ih (fun p hp => hall p (List.mem_cons.2 (.inr hp)))
      rw [List.countP_cons, List.countP_cons, List.length_cons]
      rcases hall q (List.mem_cons.2 (.inl rfl)) with h | h
      · simp only [h, if_true]
        omega
      · simp only [h, if_true]
        omega
  have h2 := H.sx.few hw
  omega
/-- Removed in order. -/
def Srt (xs out fs : List Int) : Prop := out.Pairwise (· ≤ ·) ∧ ∀ a ∈ out, ∀ i ∈ fs, a ≤ xs.getD i.toNat 0
theorem Srt.next {xs out fs fs' : List Int} {id : Int} (h : Srt xs out fs) (hp : fs.Perm (id :: fs')) (hm : ∀ i ∈ fs, xs.getD id.toNat 0 ≤ xs.getD i.toNat 0) : Srt xs (out ++ [xs.getD id.toNat 0]) fs' := by
  refine ⟨List.pairwise_append.2 ⟨h.1, by simp, fun a ha b hb => ?_⟩, fun a ha i hi => ?_⟩
  · rw [List.mem_singleton.1 hb]
    exact h.2 a ha id (hp.mem_iff.2 (List.mem_cons.2 (.inl rfl)))
  · rcases List.mem_append.1 ha with ha | ha
    · exact h.2 a ha i (hp.mem_iff.2 (List.mem_cons.2 (.inr hi)))
    · rw [List.mem_singleton.1 ha]
      exact hm i (hp.mem_iff.2 (List.mem_cons.2 (.inr hi)))
theorem sorted_unique : ∀ {l m : List Int}, l.Pairwise (· ≤ ·) → m.Pairwise (· ≤ ·) → l.Perm m → l = m
  | [], m, _, _, h => (List.nil_perm.1 h).symm
  | a :: l, [], _, _, h => absurd h.length_eq (by simp)
  | a :: l, b :: m, hl, hm, h => by
    obtain ⟨h1, h2⟩ := List.pairwise_cons.1 hl
    obtain ⟨h3, h4⟩ := List.pairwise_cons.1 hm
    have e : a = b := by
      have p1 := h.mem_iff.1 (List.mem_cons.2 (.inl rfl))
      have p2 := h.mem_iff.2 (List.mem_cons.2 (.inl (rfl : b = b)))
      rcases List.mem_cons.1 p1 with e | e
      · exact e
      · rcases List.mem_cons.1 p2 with e2 | e2
        · exact e2.symm
        · have := h1 b e2; have := h3 a e; omega
    subst e
    rw [sorted_unique h2 h4 ((List.perm_cons a).1 h)]
/-- What was removed are the first ones in order. -/
theorem Srt.take {xs out fs s : List Int} (h : Srt xs out fs) (hp : (out ++ owns xs fs).Perm xs) (hs : s.Perm xs) (ho : s.Pairwise (· ≤ ·)) : s.take out.length = out := by
  have hm := List.mergeSort_perm (owns xs fs) (fun x y => decide (x ≤ y))
  have hw : ((owns xs fs).mergeSort fun x y => decide (x ≤ y)).Pairwise (· ≤ ·) := by
    have := List.pairwise_mergeSort (le := fun x y : Int => decide (x ≤ y)) (fun a b c h1 h2 => by simp at *; omega) (fun a b => by simp; omega) (owns xs fs)
    exact this.imp (fun h => by simpa using h)
  have e : s = out ++ (owns xs fs).mergeSort fun x y => decide (x ≤ y) := by
    refine sorted_unique ho (List.pairwise_append.2 ⟨h.1, hw, fun a ha b hb => ?_⟩) ((hs.trans hp.symm).trans (hm.symm.append_left out))
    obtain ⟨i, hi, rfl⟩ := List.mem_map.1 (hm.mem_iff.1 hb)
    exact h.2 a ha i hi
  rw [e, List.take_left]
end Go.Proofs.Ytdphademoeofkaa
