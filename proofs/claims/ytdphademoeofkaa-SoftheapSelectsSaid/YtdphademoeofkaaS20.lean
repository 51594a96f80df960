/- Melds and the promises; what is known of the items (plain law). -/
import Derived.Test.YtdphademoeofkaaS19
namespace Go.Proofs.Ytdphademoeofkaa
def selN : List Int → List (Option Nat) → List Int
  | k :: ks, none :: I => k :: selN ks I
  | _ :: ks, some _ :: I => selN ks I
  | _, _ => []
theorem sel_mem {k : Int} : ∀ {ks : List Int} {I : List (Option Nat)}, I.length = ks.length → k ∈ ks → k ∈ selO ks I ∨ k ∈ selN ks I
  | q :: ks, o :: I, h, hk => by
    have ih := fun hk => sel_mem (k := k) (ks := ks) (I := I) (by simpa using h) hk
    rcases List.mem_cons.1 hk with rfl | hk
    · cases o
      · exact .inr (by simp [selN])
      · exact .inl (by simp [selO])
    · cases o
      · exact (ih hk).imp (fun e => e) (fun e => List.mem_cons.2 (.inr e))
      · exact (ih hk).imp (fun e => List.mem_cons.2 (.inr e)) (fun e => e)
theorem selO_get {ks : List Int} {I : List (Option Nat)} {i b : Nat} (hl : I.length = ks.length) (h : I[i]? = some (some b)) : (selO ks I)[cnt (I.take i)]? = ks[i]? := by
  induction ks generalizing I i with
  | nil =>
    have : I = [] := List.length_eq_zero_iff.1 hl
    subst this
    simp at h
  | cons k ks ih =>
    cases I with
    | nil => simp at hl
    | cons o I =>
      cases i with
      | zero =>
        simp at h
        subst h
        simp [selO, cnt]
      | succ i =>
        simp at h
        have := ih (by simpa using hl) h
        cases o with
        | none => simpa [selO, cnt] using this
        | some c => simpa [selO, cnt] using this
theorem somes_inv {I : List (Option Nat)} {j b : Nat} (h : (somes I)[j]? = some (some b)) : ∃ i, I[i]? = some (some b) ∧ cnt (I.take i) = j := by
  induction I generalizing j with
  | nil => simp [somes] at h
  | cons o I ih =>
    cases o with
    | none =>
      obtain ⟨i, h1, h2⟩ := ih (j := j) (by simpa [somes] using h)
      exact ⟨i + 1, by simpa using h1, by simpa [cnt] using h2⟩
    | some c =>
      cases j with
      | zero => exact ⟨0, by simpa [somes] using h, rfl⟩
      | succ j =>
        obtain ⟨i, h1, h2⟩ := ih (j := j) (by simpa [somes] using h)
        exact ⟨i + 1, by simpa using h1, by simpa [cnt] using h2⟩
theorem cnt_all {I : List (Option Nat)} {i b : Nat} (h : I[i]? = some (some b)) : cnt (I.take i) < cnt I := by
  have := cnt_lt (j := I.length) h (List.getElem?_eq_some_iff.1 h).1
  rwa [List.take_length] at this
/-- Two forests that are melded. -/
theorem SX.md {r : Nat} {ksA ksB : List Int} {tsA tsB : List Tr} {IA IB : List (Option Nat)} (A : SX r ksA tsA [] IA) (B : SX r ksB tsB [] IB) (lA : IA.length = ksA.length) (lB : IB.length = ksB.length) :
    SX r (ksA ++ selO ksB IB ++ selN ksB IB) tsA (tsB.map (Rn (nm (names ksA.length IB)))) (IA ++ somes IB ++ List.replicate (ksB.length - cnt IB) none) := by
  have hA : ∀ i ∈ flat tsA, 0 ≤ i ∧ i < (IA.length : Int) := fun i hi => A.bd i (by simp [hi])
  have hB : ∀ i ∈ flat tsB, 0 ≤ i ∧ i < (IB.length : Int) := fun i hi => B.bd i (by simp [hi])
  have hs : ∀ i ∈ flat tsB, Sm IB i := fun i hi => B.sm (by simp [hi])
  have nA : (flat tsA).Nodup := by have := A.nd; simpa [flat] using this
  have nB : (flat tsB).Nodup := by have := B.nd; simpa [flat] using this
  have hO := selO_len lB
  have hcl := cnt_le IB
  have hf : ∀ i ∈ flat tsB, (nm (names ksA.length IB) i).toNat = ksA.length + cnt (IB.take i.toNat) := fun i hi => by rw [nm_some (hs i hi)]; rfl
  have hI' : ∀ i ∈ flat tsB, (IA ++ somes IB ++ List.replicate (ksB.length - cnt IB) none)[(nm (names ksA.length IB) i).toNat]? = IB[i.toNat]? := fun i hi => by
    rw [hf i hi]
    obtain ⟨b, hb⟩ := hs i hi
    have h1 := cnt_all hb
    have h2 := somes_len IB
    rw [List.append_assoc, List.getElem?_append_right (by omega), lA, Nat.add_sub_cancel_left, List.getElem?_append_left (by omega), somes_get hb, hb]
  have hk' : ∀ i ∈ flat tsB, (ksA ++ selO ksB IB ++ selN ksB IB).getD (nm (names ksA.length IB) i).toNat 0 = ksB.getD i.toNat 0 := fun i hi => by
    rw [hf i hi]
    obtain ⟨b, hb⟩ := hs i hi
    have h1 := cnt_all hb
    rw [List.getD_eq_getElem?_getD, List.getD_eq_getElem?_getD, List.append_assoc, List.getElem?_append_right (by omega), Nat.add_sub_cancel_left, List.getElem?_append_left (by omega), selO_get lB hb]
  have hm : ∀ k ∈ ksB, k ∈ ksA ++ selO ksB IB ++ selN ksB IB := fun k hk => by
    rcases sel_mem lB hk with e | e <;> simp [e]
  refine ⟨fun i t ht => ?_, fun x hx => ?_, fun t ht => ?_, fun x hx => ?_, ?_, fun i hi => ?_, fun j b hj => ?_⟩
  · rw [List.append_assoc]
    exact (A.g i t ht).more (fun j hj => by rw [← lA]; exact hA j (flat_mem (List.mem_iff_getElem?.2 ⟨i, ht⟩) hj)) _
  · obtain ⟨t, ht, rfl⟩ := List.mem_map.1 hx
    obtain ⟨i, hi⟩ := List.mem_iff_getElem?.1 ht
    have hg := B.g i t hi
    rw [Rn.rank]
    have hr : Gx r ksB t t.rank := by
      cases t with
      | nil => exact Gx.nil _ _ _
      | nd => have : _ = i := hg.st.1; subst this; exact hg
    exact hr.rn hm fun j hj => hk' j (flat_mem ht hj)
  · rw [List.append_assoc]
    exact (A.pl t ht).app fun j hj => hA j (flat_mem ht hj)
  · obtain ⟨t, ht, rfl⟩ := List.mem_map.1 hx
    exact (B.pl t ht).rn fun j hj => hI' j (flat_mem ht hj)
  · rw [flat_rn]
    refine List.nodup_append.2 ⟨nodup_map nB (fun i hi j hj e => nm_inj (hB i hi).1 (hB j hj).1 (hs i hi) (hs j hj) e), nA, fun i hi j hj e => ?_⟩
    obtain ⟨q, hq, rfl⟩ := List.mem_map.1 hi
    have h1 := (nm_bd (m := ksA.length) (hs q hq)).1
    have h2 := (hA j hj).2
    omega
  · rw [flat_rn] at hi
    simp only [List.length_append, List.length_replicate, somes_len]
    rcases List.mem_append.1 hi with hi | hi
    · obtain ⟨q, hq, rfl⟩ := List.mem_map.1 hi
      have h1 := nm_bd (m := ksA.length) (hs q hq)
      omega
    · have := hA i hi; omega
  · rw [flat_rn]
    rw [List.append_assoc, List.getElem?_append] at hj
    split at hj
    · have := A.no j b hj
      exact List.mem_append.2 (.inr (by simpa [flat] using this))
    · next hge =>
      rw [List.getElem?_append] at hj
      split at hj
      · obtain ⟨i, h1, h2⟩ := somes_inv hj
        have hi := B.no i b h1
        have hi : (i : Int) ∈ flat tsB := by simpa [flat] using hi
        refine List.mem_append.2 (.inl (List.mem_map.2 ⟨_, hi, ?_⟩))
        rw [nm_some (hs _ hi), Int.toNat_natCast, h2]
        omega
      · have := (List.getElem?_eq_some_iff.1 hj).2
        simp at this
/-- What is known of an item. -/
structure It where
  own : Int
  now : Int
  inn : Bool
/-- What is known of a heap's items. -/
structure KN (r : Nat) (l : List It) (own : List Int) (ts : List Tr) (I : List (Option Nat)) : Prop where
  sx : SX r (l.map It.own) ts [] I
  len : I.length = l.length
  ol : own.length = l.length
  ow : ∀ i ∈ flat ts, own.getD i.toNat 0 = (l.map It.own).getD i.toNat 0
  on : ∀ (i : Nat) x, l[i]? = some x → x.inn = true → ∃ k, x.now ≤ k ∧ ((i : Int), k) ∈ cf ts
  off : ∀ (i : Nat) x, l[i]? = some x → x.inn = false → (i : Int) ∉ flat ts
theorem cf_flat {ts : List Tr} {i k : Int} (h : (i, k) ∈ cf ts) : i ∈ flat ts := by
  rw [← cf_ids]
  exact List.mem_map.2 ⟨_, h, rfl⟩
theorem flat_cf {ts : List Tr} {i : Int} (h : i ∈ flat ts) : ∃ k, (i, k) ∈ cf ts := by
  rw [← cf_ids] at h
  obtain ⟨⟨j, k⟩, h1, rfl⟩ := List.mem_map.1 h
  exact ⟨k, h1⟩
section
variable {r : Nat} {l : List It} {own : List Int} {ts : List Tr} {I : List (Option Nat)}
theorem KN.bd (K : KN r l own ts I) {i : Int} (hi : i ∈ flat ts) : 0 ≤ i ∧ i < (l.length : Int) := by
  have := K.sx.bd i (by simp [hi])
  rwa [K.len] at this
theorem KN.nodup (K : KN r l own ts I) : (flat ts).Nodup := by have := K.sx.nd; simpa [flat] using this
/-- An item is in the heap exactly if it is somewhere. -/
theorem KN.iff (K : KN r l own ts I) {i : Nat} {x : It} (h : l[i]? = some x) : (x.inn = true ↔ (i : Int) ∈ flat ts) ∧ ((i : Int) ∈ flat ts ↔ ∃ b, I[i]? = some (some b)) := by
  refine ⟨⟨fun e => ?_, fun e => ?_⟩, fun e => ?_, fun ⟨b, e⟩ => ?_⟩
  · obtain ⟨k, _, h2⟩ := K.on i x h e
    exact cf_flat h2
  · cases hx : x.inn with
    | true => rfl
    | false => exact absurd e (K.off i x h hx)
  · have := K.sx.sm (i := (i : Int)) (by simp [e])
    exact this
  · have := K.sx.no i b e
    simpa [flat] using this
theorem KN.nil (r : Nat) : KN r [] [] [] [] := ⟨⟨fun i t h => by simp at h, by simp, by simp, by simp, by simp [flat], by simp [flat], fun j b h => by simp at h⟩, rfl, rfl, by simp [flat], fun i x h => by simp at h, fun i x h => by simp at h⟩
theorem getD_left {l m : List Int} {i : Nat} (h : i < l.length) : (l ++ m).getD i 0 = l.getD i 0 := by
  rw [List.getD_eq_getElem?_getD, List.getD_eq_getElem?_getD, List.getElem?_append_left h]
/-- One item more. -/
theorem KN.ins (K : KN r l own ts I) {bx : Nat} {k : Int} {ts' : List Tr} {I' : List (Option Nat)} (h : Ad r ts (.nd bx .nil .nil [(own.length : Int)] k 0 1) (I ++ [some bx]) ts' I') : KN r (l ++ [⟨k, k, true⟩]) (own ++ [k]) ts' I' := by
  have e1 : own.length = (l.map It.own).length := by rw [K.ol, List.length_map]
  have S := K.sx.ins (by rw [K.len, List.length_map]) bx k
  have hp := h.perm
  rw [e1] at h
  obtain ⟨a1, a2, a3⟩ := SX.ad h [] S
  have hmem : ∀ i, i ∈ flat ts' ↔ i = (l.length : Int) ∨ i ∈ flat ts := fun i => by
    rw [hp.mem_iff]
    simp [Tr.ids, K.ol]
  have hc1 : ((l.length : Int), k) ∈ cf [.nd bx .nil .nil [((l.map It.own).length : Int)] k 0 1] ++ cf ts := by simp [cf, Tr.curs]
  have a3' : Grn (cf [.nd bx .nil .nil [((l.map It.own).length : Int)] k 0 1] ++ cf ts) (cf ts') := a3
  refine ⟨by simpa using a1, by rw [a2, List.length_append, List.length_append, K.len]; rfl, by simp [K.ol], fun i hi => ?_, fun i x hx hin => ?_, fun i x hx hin e => ?_⟩
  · rcases (hmem i).1 hi with rfl | hi
    · rw [Int.toNat_natCast, List.getD_eq_getElem?_getD, List.getD_eq_getElem?_getD, List.getElem?_append_right (by rw [K.ol]; exact Nat.le_refl _), K.ol, Nat.sub_self, List.map_append, List.getElem?_append_right (by simp)]
      simp
    · have hb := K.bd hi
      rw [List.map_append, getD_left (by rw [K.ol]; omega), getD_left (by rw [List.length_map]; omega)]
      exact K.ow i hi
  · rw [List.getElem?_append] at hx
    split at hx
    · obtain ⟨q, h1, h2⟩ := K.on i x hx hin
      obtain ⟨q', h3, h4⟩ := a3' _ _ (List.mem_append.2 (.inr h2))
      exact ⟨q', by omega, h4⟩
    · next hge =>
      have hlt := (List.getElem?_eq_some_iff.1 hx).1
      simp at hlt
      have hi : i = l.length := by omega
      subst hi
      simp at hx
      subst hx
      obtain ⟨q', h3, h4⟩ := a3' _ _ hc1
      exact ⟨q', h3, h4⟩
  · rw [List.getElem?_append] at hx
    split at hx
    · next hlt =>
      rcases (hmem i).1 e with e | e
      · omega
      · exact K.off i x hx hin e
    · next hge =>
      have hlt := (List.getElem?_eq_some_iff.1 hx).2
      simp at hlt
      rw [← hlt] at hin
      cases hin
/-- An item is deleted. -/
theorem KN.dm (K : KN r l own ts I) {id key : Int} {ts' : List Tr} {I' : List (Option Nat)} (h : Dm ts I id key ts' I') : ∃ x, 0 ≤ id ∧ l[id.toNat]? = some x ∧ x.inn = true ∧ x.now ≤ key ∧ key ∈ l.map It.own ∧ KN r (l.set id.toNat { x with inn := false }) own ts' I' ∧ ∀ p ∈ cf ts', key ≤ p.2 := by
  obtain ⟨a1, a2, a3, ⟨C, c1, c2⟩, a5, a6⟩ := K.sx.dm h
  have hid : id ∈ flat ts := a3.mem_iff.2 (List.mem_cons.2 (.inl rfl))
  have hb := K.bd hid
  obtain ⟨x, hx⟩ : ∃ x, l[id.toNat]? = some x := ⟨_, List.getElem?_eq_getElem (by omega)⟩
  have hin : x.inn = true := (K.iff hx).1.2 (by rw [Int.toNat_of_nonneg hb.1]; exact hid)
  obtain ⟨k, h1, h2⟩ := K.on _ x hx hin
  rw [Int.toNat_of_nonneg hb.1] at h2
  have hck : (id, key) ∈ cf ts := c1.mem_iff.2 (List.mem_cons.2 (.inl rfl))
  have hkk : k = key := K.sx.uq h2 hck
  have hn2 := List.nodup_cons.1 (a3.nodup_iff.1 K.nodup)
  have hmo : (l.set id.toNat { x with inn := false }).map It.own = l.map It.own := by
    rw [List.map_set]
    refine List.ext_getElem? fun j => ?_
    rw [List.getElem?_set]
    split
    · next e =>
      subst e
      rw [List.getElem?_map, hx]
      simp
      omega
    · rfl
  refine ⟨x, hb.1, hx, hin, by omega, a6, ⟨by rw [hmo]; exact a1, by rw [a2, List.length_set]; exact K.len, by rw [List.length_set]; exact K.ol, fun i hi => ?_, fun i y hy hyn => ?_, fun i y hy hyn e => ?_⟩, fun p hp => ?_⟩
  · rw [hmo]
    exact K.ow i (a3.mem_iff.2 (List.mem_cons.2 (.inr hi)))
  · rw [List.getElem?_set] at hy
    split at hy
    · split at hy
      · injection hy with hy
        rw [← hy] at hyn
        cases hyn
      · cases hy
    · next hne =>
      obtain ⟨q, g1, g2⟩ := K.on i y hy hyn
      rcases List.mem_cons.1 (c1.mem_iff.1 g2) with e | e
      · cases e
        simp at hne
      · obtain ⟨q', g3, g4⟩ := c2 _ _ e
        exact ⟨q', by omega, g4⟩
  · rw [List.getElem?_set] at hy
    split at hy
    · next e2 =>
      rw [← e2, Int.toNat_of_nonneg hb.1] at e
      exact hn2.1 e
    · exact K.off i y hy hyn (a3.mem_iff.2 (List.mem_cons.2 (.inr e)))
  · obtain ⟨i, k'⟩ := p
    have hi : i ∈ flat ts' := cf_flat hp
    have pp : (id :: flat ts').Perm (id :: C.map (·.1)) := by
      refine a3.symm.trans ?_
      rw [← cf_ids]
      exact c1.map (·.1)
    have hiC := (List.perm_cons id |>.1 pp).mem_iff.1 hi
    obtain ⟨⟨i2, q⟩, g1, rfl⟩ := List.mem_map.1 hiC
    have g2 := a5 _ (c1.mem_iff.2 (List.mem_cons.2 (.inr g1)))
    obtain ⟨q', g3, g4⟩ := c2 _ _ g1
    have := a1.uq g4 hp
    show key ≤ k'
    have g5 : key ≤ q := g2
    omega
/-- A current key is noted. -/
theorem KN.note (K : KN r l own ts I) {i : Nat} {x : It} {k : Int} (hx : l[i]? = some x) (hk : ((i : Int), k) ∈ cf ts) : KN r (l.set i { x with now := k }) own ts I := by
  have hmo : (l.set i { x with now := k }).map It.own = l.map It.own := by
    rw [List.map_set]
    refine List.ext_getElem? fun j => ?_
    rw [List.getElem?_set]
    split
    · next e =>
      subst e
      rw [List.getElem?_map, hx]
      have := (List.getElem?_eq_some_iff.1 hx).1
      simp [this]
    · rfl
  refine ⟨by rw [hmo]; exact K.sx, by rw [List.length_set]; exact K.len, by rw [List.length_set]; exact K.ol, by rw [hmo]; exact K.ow, fun j y hy hyn => ?_, fun j y hy hyn e => ?_⟩
  · rw [List.getElem?_set] at hy
    split at hy
    · next e =>
      split at hy
      · injection hy with hy
        subst e
        rw [← hy]
        exact ⟨k, Int.le_refl _, hk⟩
      · cases hy
    · exact K.on j y hy hyn
  · rw [List.getElem?_set] at hy
    split at hy
    · next e2 =>
      split at hy
      · injection hy with hy
        subst e2
        rw [← hy] at hyn
        exact K.off i x hx hyn e
      · cases hy
    · exact K.off j y hy hyn e
end
end Go.Proofs.Ytdphademoeofkaa
