/- Melds and what is known; how many items are corrupted (plain law). -/
import Derived.Test.YtdphademoeofkaaS20
namespace Go.Proofs.Ytdphademoeofkaa
/-- A list of items and where they are fit. -/
def Mt (l : List It) (I : List (Option Nat)) : Prop := l.map It.inn = I.map Option.isSome
theorem Mt.sel : ∀ {l : List It} {I : List (Option Nat)}, Mt l I → selO (l.map It.own) I = (l.filter It.inn).map It.own ∧ selN (l.map It.own) I = (l.filter fun x => !x.inn).map It.own ∧ cnt I = (l.filter It.inn).length
  | [], [], _ => ⟨rfl, rfl, rfl⟩
  | x :: l, o :: I, h => by
    obtain ⟨h1, h2⟩ := List.cons.inj h
    obtain ⟨a, b, c⟩ := Mt.sel (l := l) (I := I) h2
    cases o with
    | none =>
      have hx : x.inn = false := h1
      refine ⟨?_, ?_, ?_⟩
      · simp [selO, hx, a]
      · simp [selN, hx, b]
      · simp [cnt, hx]; exact c
    | some q =>
      have hx : x.inn = true := h1
      refine ⟨?_, ?_, ?_⟩
      · simp [selO, hx, a]
      · simp [selN, hx, b]
      · simp [cnt, hx]; exact c
theorem Mt.inv : ∀ {l : List It} {I : List (Option Nat)}, Mt l I → ∀ {j : Nat} {x : It}, (l.filter It.inn)[j]? = some x → ∃ (i : Nat) (b : Nat), l[i]? = some x ∧ I[i]? = some (some b) ∧ cnt (I.take i) = j
  | [], _, _, j, x, h => by simp at h
  | y :: l, o :: I, hM, j, x, h => by
    obtain ⟨h1, h2⟩ := List.cons.inj hM
    cases o with
    | none =>
      have hy : y.inn = false := h1
      rw [List.filter_cons_of_neg (by simp [hy])] at h
      obtain ⟨i, b, g1, g2, g3⟩ := Mt.inv (l := l) (I := I) h2 h
      exact ⟨i + 1, b, by simpa using g1, by simpa using g2, by simpa [cnt] using g3⟩
    | some q =>
      have hy : y.inn = true := h1
      rw [List.filter_cons_of_pos hy] at h
      cases j with
      | zero =>
        simp at h
        subst h
        exact ⟨0, q, rfl, rfl, rfl⟩
      | succ j =>
        simp at h
        obtain ⟨i, b, g1, g2, g3⟩ := Mt.inv (l := l) (I := I) h2 h
        exact ⟨i + 1, b, by simpa using g1, by simpa using g2, by simpa [cnt] using g3⟩
section
variable {r : Nat} {l : List It} {own : List Int} {ts : List Tr} {I : List (Option Nat)}
theorem KN.mt (K : KN r l own ts I) : Mt l I := by
  refine List.ext_getElem? fun i => ?_
  rw [List.getElem?_map, List.getElem?_map]
  cases hx : l[i]? with
  | none =>
    have : I[i]? = none := List.getElem?_eq_none (by rw [K.len]; exact List.getElem?_eq_none_iff.1 hx)
    rw [this]; rfl
  | some x =>
    have hlt := (List.getElem?_eq_some_iff.1 hx).1
    obtain ⟨o, ho⟩ : ∃ o, I[i]? = some o := ⟨_, List.getElem?_eq_getElem (by rw [K.len]; exact hlt)⟩
    obtain ⟨g1, g2⟩ := K.iff hx
    rw [ho]
    show some x.inn = some o.isSome
    cases o with
    | none =>
      cases hi : x.inn with
      | false => rfl
      | true =>
        obtain ⟨b, hb⟩ := g2.1 (g1.1 hi)
        rw [ho] at hb; cases hb
    | some b => rw [g1.2 (g2.2 ⟨b, ho⟩)]; rfl
/-- Two heaps are melded. -/
theorem KN.md {lB : List It} {ownB : List Int} {tsB tsF : List Tr} {IB IF : List (Option Nat)} (A : KN r l own ts I) (B : KN r lB ownB tsB IB)
    (h : Ads r ts (tsB.map (Rn (nm (names own.length IB)))) (I ++ somes IB ++ List.replicate (ownB.length - cnt IB) none) tsF IF) :
    KN r (l ++ lB.filter It.inn ++ lB.filter fun x => !x.inn) (own ++ selO ownB IB ++ List.replicate (ownB.length - cnt IB) 0) tsF IF := by
  obtain ⟨m1, m2, m3⟩ := B.mt.sel
  have eA : own.length = (l.map It.own).length := by rw [A.ol, List.length_map]
  have eB : ownB.length = (lB.map It.own).length := by rw [B.ol, List.length_map]
  have S := A.sx.md B.sx (by rw [A.len, List.length_map]) (by rw [B.len, List.length_map])
  rw [m1, m2, ← List.map_append, ← List.map_append, ← eA, ← eB] at S
  obtain ⟨a1, a2, a3⟩ := SX.ads h S
  have hp := h.perm
  rw [flat_rn] at hp
  rw [cf_rn] at a3
  have hlB : IB.length = ownB.length := by rw [B.len, B.ol]
  have hcl := cnt_le IB
  have hsB : ∀ i ∈ flat tsB, Sm IB i := fun i hi => B.sx.sm (by simp [hi])
  have hfl : (lB.filter It.inn).length + (lB.filter fun x => !x.inn).length = lB.length := by
    rw [← List.length_append]
    exact (List.filter_append_perm _ lB).length_eq
  have hO := selO_len hlB
  refine ⟨a1, ?_, ?_, fun j hj => ?_, fun i x hx hin => ?_, fun i x hx hin e => ?_⟩
  · rw [a2]
    simp only [List.length_append, List.length_replicate, somes_len, A.len, B.ol]
    omega
  · simp only [List.length_append, List.length_replicate, hO, A.ol, B.ol]
    omega
  · rcases List.mem_append.1 (hp.mem_iff.1 hj) with hj | hj
    · obtain ⟨i, hi, rfl⟩ := List.mem_map.1 hj
      have hw := B.ow i hi
      obtain ⟨b, hb⟩ := hsB i hi
      have hf : (nm (names own.length IB) i).toNat = own.length + cnt (IB.take i.toNat) := by rw [nm_some (hsB i hi)]; rfl
      have h1 := cnt_all hb
      rw [hf, List.append_assoc, List.append_assoc, List.map_append, List.map_append, ← m1, List.getD_eq_getElem?_getD, List.getD_eq_getElem?_getD, List.getElem?_append_right (by omega), Nat.add_sub_cancel_left, List.getElem?_append_left (by omega), selO_get hlB hb]
      rw [List.getElem?_append_right (by rw [List.length_map, A.ol]; omega), List.length_map, ← A.ol, Nat.add_sub_cancel_left, List.getElem?_append_left (by rw [selO_len (by rw [← eB, hlB])]; exact h1), selO_get (by rw [← eB, hlB]) hb, ← List.getD_eq_getElem?_getD, ← List.getD_eq_getElem?_getD]
      exact hw
    · have hb := A.bd hj
      rw [List.append_assoc, List.append_assoc, List.map_append, getD_left (by rw [A.ol]; omega), getD_left (by rw [List.length_map]; omega)]
      exact A.ow j hj
  · rw [List.append_assoc, List.getElem?_append] at hx
    split at hx
    · obtain ⟨k, h1, h2⟩ := A.on i x hx hin
      obtain ⟨k', h3, h4⟩ := a3 _ _ (List.mem_append.2 (.inr h2))
      exact ⟨k', by omega, h4⟩
    · next hge =>
      rw [List.getElem?_append] at hx
      split at hx
      · obtain ⟨i', b, g1, g2, g3⟩ := B.mt.inv hx
        obtain ⟨k, h1, h2⟩ := B.on i' x g1 hin
        obtain ⟨k', h3, h4⟩ := a3 _ _ (List.mem_append.2 (.inl (List.mem_map.2 ⟨_, h2, rfl⟩)))
        refine ⟨k', by omega, ?_⟩
        have hs : Sm IB (i' : Int) := ⟨b, g2⟩
        rw [nm_some hs, Int.toNat_natCast, g3, A.ol] at h4
        have : l.length + (i - l.length) = i := by omega
        rwa [this] at h4
      · have := List.mem_filter.1 (List.mem_of_getElem? hx)
        rw [hin] at this
        simp at this
  · rcases List.mem_append.1 (hp.mem_iff.1 e) with e | e
    · obtain ⟨q, hq, e⟩ := List.mem_map.1 e
      obtain ⟨b, hb⟩ := hsB q hq
      rw [nm_some ⟨b, hb⟩] at e
      have h1 := cnt_all hb
      have hi : i = l.length + cnt (IB.take q.toNat) := by have := A.ol; omega
      rw [List.append_assoc, List.getElem?_append_right (by omega), List.getElem?_append_left (by omega)] at hx
      have := List.mem_filter.1 (List.mem_of_getElem? hx)
      rw [hin] at this
      simp at this
    · have hb := A.bd e
      rw [List.append_assoc, List.getElem?_append_left (by omega)] at hx
      exact A.off i x hx hin e
end
/-- How many items are corrupted. -/
def bad (ks : List Int) (c : List (Int × Int)) : Nat := (c.filter fun p => decide (ks.getD p.1.toNat 0 < p.2)).length
theorem bad_app (ks : List Int) (c d : List (Int × Int)) : bad ks (c ++ d) = bad ks c + bad ks d := by simp [bad]
theorem bad_perm {ks : List Int} {c d : List (Int × Int)} (h : c.Perm d) : bad ks c = bad ks d := (h.filter _).length_eq
/-- At most so many in a tree of a rank. -/
def FB (r : Nat) : Nat → Nat
  | 0 => 0
  | k + 1 => 2 * FB r k + (if k + 1 ≤ r + 5 then 0 else bF r (k + 1))
theorem FB_low (r : Nat) : ∀ k, k ≤ r + 5 → FB r k = 0
  | 0, _ => rfl
  | k + 1, h => by unfold FB; rw [FB_low r k (by omega), if_pos h]
theorem FB_le (r : Nat) : ∀ j, FB r (r + 5 + j) + bF r (r + 5 + j) + 6 * (szF r (r + 5 + j) - 1) + 8 ≤ 32 * 2 ^ j
  | 0 => by
    have h1 := bF_low r (r + 5) (Nat.le_refl _)
    have h2 := FB_low r (r + 5) (Nat.le_refl _)
    show FB r (r + 5) + bF r (r + 5) + 6 * (szF r (r + 5) - 1) + 8 ≤ 32 * 2 ^ 0
    rw [h1.1, h1.2, h2]
    decide
  | j + 1 => by
    have ih := FB_le r j
    have e1 : FB r (r + 5 + (j + 1)) = 2 * FB r (r + 5 + j) + bF r (r + 5 + (j + 1)) := by
      show 2 * FB r (r + 5 + j) + (if r + 5 + j + 1 ≤ r + 5 then 0 else bF r (r + 5 + j + 1)) = _
      rw [if_neg (by omega)]
      rfl
    have e2 : bF r (r + 5 + (j + 1)) = bF r (r + 5 + j) + szF r (r + 5 + (j + 1)) - 1 := rfl
    have e3 : szF r (r + 5 + (j + 1)) = (3 * szF r (r + 5 + j) + 1) / 2 := by
      show (if r + 5 < r + 5 + j + 1 then (3 * szF r (r + 5 + j) + 1) / 2 else 1) = _
      rw [if_pos (by omega)]
    have h1 := szF_pos r (r + 5 + j)
    have e4 : 32 * 2 ^ (j + 1) = 2 * (32 * 2 ^ j) := by rw [Nat.pow_succ]; omega
    rw [e1, e2, e3, e4]
    generalize 32 * 2 ^ j = P at *
    generalize FB r (r + 5 + j) = F at *
    generalize bF r (r + 5 + j) = B at *
    generalize szF r (r + 5 + j) = s at *
    omega
theorem FB_pow (r k : Nat) : FB r k * 2 ^ r ≤ 2 ^ k := by
  rcases Nat.lt_or_ge k (r + 5) with h | h
  · rw [FB_low r k (by omega), Nat.zero_mul]; exact Nat.zero_le _
  · obtain ⟨j, rfl⟩ : ∃ j, k = r + 5 + j := ⟨k - (r + 5), by omega⟩
    have h1 := FB_le r j
    have h2 : FB r (r + 5 + j) ≤ 32 * 2 ^ j := by omega
    have h3 : 2 ^ (r + 5 + j) = 32 * 2 ^ j * 2 ^ r := by rw [Nat.pow_add, Nat.pow_add, Nat.mul_comm (32 * 2 ^ j), ← Nat.mul_assoc]
    rw [h3]
    exact Nat.mul_le_mul_right _ h2
theorem bad_tree {r : Nat} {ks : List Int} : ∀ {t : Tr} {k : Nat}, St r t k → Cl r ks t k → bad ks t.curs ≤ FB r k
  | .nil, _, _, _ => Nat.zero_le _
  | .nd b l r' it key rk sz, k, h, c => by
    have h1 := bad_tree h.2.2.2.2.1 c.2.1
    have h2 := bad_tree h.2.2.2.2.2 c.2.2
    show bad ks (it.map (fun i => (i, key)) ++ (l.curs ++ r'.curs)) ≤ _
    rw [bad_app, bad_app]
    have h3 : bad ks (it.map fun i => (i, key)) ≤ it.length := by
      have := List.length_filter_le (fun p : Int × Int => decide (ks.getD p.1.toNat 0 < p.2)) (it.map fun i => (i, key))
      rwa [List.length_map] at this
    have h4 : k ≤ r + 5 → bad ks (it.map fun i => (i, key)) = 0 := by
      intro hk
      unfold bad
      rw [List.length_eq_zero_iff, List.filter_eq_nil_iff]
      intro p hp
      obtain ⟨i, hi, rfl⟩ := List.mem_map.1 hp
      have := c.1.2.2 hk i hi
      simp only [decide_eq_true_eq]
      omega
    cases k with
    | zero =>
      obtain ⟨rfl, rfl⟩ := h.2.2.2.1 rfl
      rw [h4 (by omega)]
      exact Nat.zero_le _
    | succ k =>
      rw [Nat.add_sub_cancel] at h1 h2
      have h5 := h.2.2.1
      show _ ≤ 2 * FB r k + (if k + 1 ≤ r + 5 then 0 else bF r (k + 1))
      split
      · next hk => rw [h4 hk]; omega
      · omega
theorem bad_flat (r : Nat) (ks : List Int) : ∀ (ts : List Tr) (o : Nat), (∀ i t, ts[i]? = some t → Gx r ks t (o + i)) → bad ks (cf ts) * 2 ^ r ≤ wts ts
  | [], _, _ => by simp [bad, cf]
  | t :: ts, o, h => by
    have ih := bad_flat r ks ts (o + 1) (fun i t ht => by have := h (i + 1) t (by simpa using ht); rwa [show o + 1 + i = o + (i + 1) by omega])
    have h0 := h 0 t rfl
    have h1 : bad ks t.curs * 2 ^ r ≤ t.wt := by
      cases t with
      | nil => simp [bad, Tr.curs]
      | nd b l r' it key rk sz =>
        have h2 := bad_tree h0.st h0.cl
        have h3 : rk = o + 0 := h0.st.1
        refine Nat.le_trans (Nat.mul_le_mul_right _ h2) ?_
        rw [← h3]
        exact FB_pow r rk
    have e : cf (t :: ts) = t.curs ++ cf ts := rfl
    rw [e, bad_app, Nat.add_mul]
    have e2 : wts (t :: ts) = t.wt + wts ts := by simp [wts]
    omega
/-- The promise: few items are corrupted. -/
theorem SX.few {r : Nat} {ks : List Int} {ts : List Tr} {I : List (Option Nat)} (S : SX r ks ts [] I) {m : Nat} (hw : wts ts ≤ m) : bad ks (cf ts) ≤ m / 2 ^ r := by
  have := bad_flat r ks ts 0 (fun i t ht => by rw [Nat.zero_add]; exact S.g i t ht)
  exact (Nat.le_div_iff_mul_le (Nat.pow_pos (by decide))).2 (Nat.le_trans this hw)
/-- The items in the heap, in order. -/
def itl : Nat → List (Option Nat) → List Int
  | _, [] => []
  | m, none :: I => itl (m + 1) I
  | m, some _ :: I => (m : Int) :: itl (m + 1) I
theorem itl_none : ∀ (I : List (Option Nat)) (m : Nat), itl m (I ++ [none]) = itl m I
  | [], _ => rfl
  | none :: I, m => itl_none I (m + 1)
  | some _ :: I, m => by simp [itl, itl_none I (m + 1)]
theorem itl_some (b : Nat) : ∀ (I : List (Option Nat)) (m : Nat), itl m (I ++ [some b]) = itl m I ++ [((m + I.length : Nat) : Int)]
  | [], _ => rfl
  | none :: I, m => by simp only [List.cons_append, itl, itl_some b I (m + 1), List.length_cons]; congr 3; omega
  | some _ :: I, m => by simp only [List.cons_append, itl, itl_some b I (m + 1), List.length_cons]; congr 4; omega
theorem itl_mem {i : Int} : ∀ {I : List (Option Nat)} {m : Nat}, i ∈ itl m I ↔ ∃ j b : Nat, I[j]? = some (some b) ∧ i = ((m + j : Nat) : Int)
  | [], m => by simp [itl]
  | none :: I, m => by
    rw [itl, itl_mem]
    constructor
    · rintro ⟨j, b, h1, h2⟩
      exact ⟨j + 1, b, by simpa using h1, by omega⟩
    · rintro ⟨j, b, h1, h2⟩
      cases j with
      | zero => simp at h1
      | succ j => exact ⟨j, b, by simpa using h1, by omega⟩
  | some q :: I, m => by
    rw [itl, List.mem_cons, itl_mem]
    constructor
    · rintro (h | ⟨j, b, h1, h2⟩)
      · exact ⟨0, q, rfl, by omega⟩
      · exact ⟨j + 1, b, by simpa using h1, by omega⟩
    · rintro ⟨j, b, h1, h2⟩
      cases j with
      | zero => exact .inl (by omega)
      | succ j => exact .inr ⟨j, b, by simpa using h1, by omega⟩
theorem itl_nodup : ∀ (I : List (Option Nat)) (m : Nat), (itl m I).Nodup
  | [], _ => by simp [itl]
  | none :: I, m => itl_nodup I (m + 1)
  | some _ :: I, m => by
    rw [itl]
    refine List.nodup_cons.2 ⟨fun e => ?_, itl_nodup I (m + 1)⟩
    obtain ⟨j, b, _, h⟩ := itl_mem.1 e
    omega
theorem SX.items {r : Nat} {ks : List Int} {ts : List Tr} {I : List (Option Nat)} (S : SX r ks ts [] I) : (itl 0 I).Perm (flat ts) := by
  refine (List.perm_ext_iff_of_nodup (itl_nodup I 0) (by have := S.nd; simpa [flat] using this)).2 fun i => ?_
  rw [itl_mem]
  constructor
  · rintro ⟨j, b, h1, h2⟩
    have := S.no j b h1
    rw [h2, Nat.zero_add]
    simpa [flat] using this
  · intro h
    have hb := S.bd i (by simp [h])
    obtain ⟨b, hb2⟩ := S.sm (i := i) (by simp [h])
    exact ⟨i.toNat, b, hb2, by omega⟩
/-- The current key of an item. -/
def cu (ts : List Tr) (i : Int) : Int := (((cf ts).find? fun p => p.1 == i).map (·.2)).getD 0
theorem SX.cu {r : Nat} {ks : List Int} {ts : List Tr} {I : List (Option Nat)} (_S : SX r ks ts [] I) {i : Int} (h : i ∈ flat ts) : (i, cu ts i) ∈ cf ts := by
  obtain ⟨k, hk⟩ := flat_cf h
  unfold Go.Proofs.Ytdphademoeofkaa.cu
  cases hf : (cf ts).find? fun p => p.1 == i with
  | none =>
    have := List.find?_eq_none.1 hf (i, k) hk
    simp at this
  | some p =>
    have h1 := List.find?_some hf
    have h2 := List.mem_of_find?_eq_some hf
    simp at h1
    rw [← h1]
    exact h2
/-- Corrupted items are counted in any order. -/
theorem SX.count {r : Nat} {ks : List Int} {ts : List Tr} {I : List (Option Nat)} (S : SX r ks ts [] I) : ((itl 0 I).filter fun i => decide (ks.getD i.toNat 0 < Go.Proofs.Ytdphademoeofkaa.cu ts i)).length = bad ks (cf ts) := by
  rw [(S.items.filter _).length_eq, ← cf_ids, List.filter_map, List.length_map]
  unfold bad
  congr 1
  refine List.filter_congr fun p hp => ?_
  have h1 : p.1 ∈ flat ts := by rw [← cf_ids]; exact List.mem_map.2 ⟨p, hp, rfl⟩
  have h2 := S.uq (S.cu h1) (show (p.1, p.2) ∈ cf ts from hp)
  show decide (ks.getD p.1.toNat 0 < Go.Proofs.Ytdphademoeofkaa.cu ts p.1) = _
  rw [h2]
end Go.Proofs.Ytdphademoeofkaa
