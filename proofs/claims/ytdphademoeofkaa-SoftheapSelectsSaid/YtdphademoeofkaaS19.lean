/- What insertions, deletions and melds make of the promises (plain law). -/
import Derived.Test.YtdphademoeofkaaS18
namespace Go.Proofs.Ytdphademoeofkaa
theorem SX.skip {r : Nat} {ks : List Int} {ts xs : List Tr} {I : List (Option Nat)} (S : SX r ks ts (.nil :: xs) I) : SX r ks ts xs I :=
  ⟨S.g, fun x hx => S.gx x (List.mem_cons.2 (.inr hx)), S.pl, fun x hx => S.px x (List.mem_cons.2 (.inr hx)), S.nd, S.bd, S.no⟩
theorem SX.ads {r : Nat} {ks : List Int} {ts xs : List Tr} {I : List (Option Nat)} {ts' : List Tr} {I' : List (Option Nat)} (h : Ads r ts xs I ts' I') : SX r ks ts xs I → SX r ks ts' [] I' ∧ I'.length = I.length ∧ Grn (cf xs ++ cf ts) (cf ts') := by
  induction h with
  | done => exact fun S => ⟨S, rfl, Grn.refl _⟩
  | skip _ ih => exact fun S => ih S.skip
  | add h _ ih =>
    intro S
    obtain ⟨a1, a2, a3⟩ := SX.ad h _ S
    obtain ⟨b1, b2, b3⟩ := ih a1
    exact ⟨b1, by rw [b2, a2], a3.trans b3⟩
/-- An item that is known is somewhere. -/
theorem Pl.sm {I : List (Option Nat)} : ∀ {t : Tr} {i : Int}, Pl I t → i ∈ t.ids → Sm I i
  | .nd b l r it _ _ _, i, h, hi => by
    simp only [Tr.ids, List.mem_append] at hi
    rcases hi with hi | hi | hi
    · exact ⟨b, h.1 i hi⟩
    · exact Pl.sm h.2.1 hi
    · exact Pl.sm h.2.2 hi
theorem SX.sm {r : Nat} {ks : List Int} {ts xs : List Tr} {I : List (Option Nat)} (S : SX r ks ts xs I) {i : Int} (hi : i ∈ flat xs ++ flat ts) : Sm I i := by
  rcases List.mem_append.1 hi with hi | hi
  · obtain ⟨t, ht, hi⟩ := List.mem_flatMap.1 hi
    exact (S.px t ht).sm hi
  · obtain ⟨t, ht, hi⟩ := List.mem_flatMap.1 hi
    exact (S.pl t ht).sm hi
theorem HO.low : ∀ {t : Tr}, HO t → ∀ p ∈ t.curs, t.key ≤ p.2
  | .nd b l r it key _ _, h, p, hp => by
    simp only [Tr.curs, List.mem_append] at hp
    show key ≤ p.2
    rcases hp with hp | hp | hp
    · obtain ⟨i, _, rfl⟩ := List.mem_map.1 hp
      exact Int.le_refl _
    · have h1 := HO.low h.2.2.1 p hp
      have h2 := h.1
      cases l with
      | nil => simp [Tr.curs] at hp
      | nd => have h3 : key ≤ _ := h2; have h4 : _ ≤ p.2 := h1; exact Int.le_trans h3 h4
    · have h1 := HO.low h.2.2.2 p hp
      have h2 := h.2.1
      cases r with
      | nil => simp [Tr.curs] at hp
      | nd => have h3 : key ≤ _ := h2; have h4 : _ ≤ p.2 := h1; exact Int.le_trans h3 h4
theorem uniq {c : List (Int × Int)} (hn : (c.map (·.1)).Nodup) {i k k' : Int} (h : (i, k) ∈ c) (h' : (i, k') ∈ c) : k = k' := by
  induction c with
  | nil => cases h
  | cons p c ih =>
    obtain ⟨h1, h2⟩ := List.nodup_cons.1 hn
    rcases List.mem_cons.1 h with e | e <;> rcases List.mem_cons.1 h' with e' | e'
    · have := e.trans e'.symm; cases this; rfl
    · exact absurd (List.mem_map.2 ⟨_, e', by rw [← e]⟩) h1
    · exact absurd (List.mem_map.2 ⟨_, e, by rw [← e']⟩) h1
    · exact ih h2 e e'
theorem SX.uq {r : Nat} {ks : List Int} {ts : List Tr} {I : List (Option Nat)} (S : SX r ks ts [] I) {i k k' : Int} (h : (i, k) ∈ cf ts) (h' : (i, k') ∈ cf ts) : k = k' := by
  refine uniq ?_ h h'
  rw [cf_ids]
  have := S.nd
  simpa [flat] using this
/-- Another tree stands for a tree: an item is gone. -/
theorem SX.upd {r : Nat} {ks : List Int} {ts : List Tr} {I I' : List (Option Nat)} {i0 : Nat} {x x1 : Tr} {id : Int} (S : SX r ks ts [] I) (hi : ts[i0]? = some x) (hp : (id :: x1.ids).Perm x.ids) (hg : Gx r ks x1 i0) (hP : Pl I' x1) (hl : I'.length = I.length) (ho : ∀ j : Nat, (∀ i ∈ x.ids, i.toNat ≠ j) → I'[j]? = I[j]?) (hid : I'[id.toNat]? = some none) :
    SX r ks (ts.set i0 x1) [] I' ∧ (flat ts).Perm (id :: flat (ts.set i0 x1)) := by
  have hxm : x ∈ ts := List.mem_iff_getElem?.2 ⟨_, hi⟩
  have e1 : (x.ids ++ flat (ts.set i0 x1)).Perm (x1.ids ++ flat ts) := flat_set hi x1
  have e2 : (flat ts).Perm (id :: flat (ts.set i0 x1)) := by
    have h1 := (hp.append_right (flat (ts.set i0 x1))).trans e1
    rw [List.cons_append] at h1
    have h2 : (x1.ids ++ id :: flat (ts.set i0 x1)).Perm (x1.ids ++ flat ts) := List.perm_middle.trans h1
    exact ((List.perm_append_left_iff _).1 h2).symm
  have e3 : (x.ids ++ flat (ts.set i0 .nil)).Perm (flat ts) := flat_set hi .nil
  have hn : (flat ts).Nodup := by have := S.nd; simpa [flat] using this
  have hn2 := e2.nodup_iff.1 hn
  have hn3 := e3.nodup_iff.2 hn
  have hb : ∀ i ∈ flat ts, 0 ≤ i ∧ i < (I.length : Int) := fun i hi => S.bd i (by simp [hi])
  obtain ⟨m1, m2, m3⟩ := List.nodup_append.1 hn3
  have hx0 : ∀ i ∈ x.ids, 0 ≤ i := fun i hi => (hb i (e3.mem_iff.1 (by simp [hi]))).1
  refine ⟨⟨fun i t ht => ?_, by simp, fun t ht => ?_, by simp, ?_, fun i hi => ?_, fun j b hj => ?_⟩, e2⟩
  · rw [List.getElem?_set] at ht
    split at ht
    · next e =>
      split at ht
      · injection ht with ht
        rw [← ht, ← e]
        exact hg
      · cases ht
    · exact S.g i t ht
  · obtain ⟨j, hj⟩ := List.mem_iff_getElem?.1 ht
    rw [List.getElem?_set] at hj
    split at hj
    · split at hj
      · injection hj with hj; rw [← hj]; exact hP
      · cases hj
    · next e =>
      refine (S.pl t (List.mem_iff_getElem?.2 ⟨j, hj⟩)).same fun i hi => ?_
      have hmem : i ∈ flat (ts.set i0 .nil) := flat_mem (t := t) (List.mem_iff_getElem?.2 ⟨j, by rw [List.getElem?_set_ne e]; exact hj⟩) hi
      exact ho _ (other hx0 (hb i (e3.mem_iff.1 (by simp [hmem]))).1 (fun g => m3 i g i hmem rfl))
  · have := (List.nodup_cons.1 hn2).2
    simpa [flat] using this
  · rw [hl]
    exact hb i (e2.mem_iff.2 (by simp [flat] at hi ⊢; exact .inr hi))
  · have h0 : (j : Int) ∈ flat ts := by
      by_cases e : (j : Int) ∈ x.ids
      · exact e3.mem_iff.1 (by simp [e])
      · have := ho j (by have := other hx0 (Int.natCast_nonneg j) e; simpa using this)
        rw [this] at hj
        have := S.no j b hj
        simpa [flat] using this
    have h1 := e2.mem_iff.1 h0
    rcases List.mem_cons.1 h1 with e | e
    · rw [← e] at hid
      simp only [Int.toNat_natCast] at hid
      rw [hid] at hj
      cases hj
    · simpa [flat] using e
/-- What DeleteMin makes of the promises. -/
theorem SX.dm {r : Nat} {ks : List Int} {ts : List Tr} {I : List (Option Nat)} {id key : Int} {ts' : List Tr} {I' : List (Option Nat)} (S : SX r ks ts [] I) (h : Dm ts I id key ts' I') :
    SX r ks ts' [] I' ∧ I'.length = I.length ∧ (flat ts).Perm (id :: flat ts') ∧ (∃ C, (cf ts).Perm ((id, key) :: C) ∧ Grn C (cf ts')) ∧ (∀ p ∈ cf ts, key ≤ p.2) ∧ key ∈ ks := by
  obtain ⟨i0, b, l, r', it, rk, sz, hB, hi, hc⟩ := h
  have hxm : Tr.nd b l r' (it ++ [id]) key rk sz ∈ ts := List.mem_iff_getElem?.2 ⟨_, hi⟩
  have gx := S.g _ _ hi
  have px := S.pl _ hxm
  have hn : (flat ts).Nodup := by have := S.nd; simpa [flat] using this
  have e3 : ((it ++ [id]) ++ (l.ids ++ r'.ids) ++ flat (ts.set i0 .nil)).Perm (flat ts) := flat_set hi .nil
  have hn3 := e3.nodup_iff.2 hn
  have hb : ∀ i ∈ flat ts, 0 ≤ i ∧ i < (I.length : Int) := fun i hi => S.bd i (by simp [hi])
  obtain ⟨m1, m2, m3⟩ := List.nodup_append.1 hn3
  obtain ⟨m4, m5, m6⟩ := List.nodup_append.1 m1
  obtain ⟨m7, m8, m9⟩ := List.nodup_append.1 m4
  have hid : 0 ≤ id ∧ id < (I.length : Int) := hb id (e3.mem_iff.1 (by simp))
  have hlow : ∀ p ∈ cf ts, key ≤ p.2 := by
    intro p hp
    obtain ⟨t, ht, hp⟩ := List.mem_flatMap.1 hp
    obtain ⟨j, hj⟩ := List.mem_iff_getElem?.1 ht
    have h1 := (S.g j t hj).ho.low p hp
    have h2 := hB.2.2 j _ t (List.getElem?_eq_some_iff.1 hj).1 hi hj (by rintro rfl; simp [Tr.curs] at hp)
    have h3 : key ≤ t.key := h2.1
    exact Int.le_trans h3 h1
  have hkk : key ∈ ks := gx.cl.1.1.elim (fun e => by simp at e) (fun e => e)
  -- the node without its last item
  have dis : ∀ i ∈ it ++ (l.ids ++ r'.ids), i ≠ id ∧ 0 ≤ i := by
    intro i hj
    refine ⟨fun e => ?_, (hb i (e3.mem_iff.1 ?_)).1⟩
    · rcases List.mem_append.1 hj with hj | hj
      · exact m9 i hj id (by simp) e
      · exact m6 id (by simp) i hj e.symm
    · rcases List.mem_append.1 hj with hj | hj
      · simp [hj]
      · exact List.mem_append.2 (.inl (List.mem_append.2 (.inr hj)))
  have P0 : Pl (I.set id.toNat none) (.nd b l r' it key rk sz) := by
    have q : Pl I (.nd b l r' it key rk sz) := ⟨fun i hi => px.1 i (by simp [hi]), px.2⟩
    refine q.same fun i hi => List.getElem?_set_ne ?_
    have h1 := dis i hi
    omega
  have s0 : (I.set id.toNat none)[id.toNat]? = some none := List.getElem?_set_self (by omega)
  have o0 : ∀ j : Nat, (∀ i ∈ (it ++ [id]) ++ (l.ids ++ r'.ids), i.toNat ≠ j) → (I.set id.toNat none)[j]? = I[j]? := fun j hj => List.getElem?_set_ne (hj id (by simp))
  have pp : (id :: (it ++ (l.ids ++ r'.ids))).Perm ((it ++ [id]) ++ (l.ids ++ r'.ids)) := by
    rw [List.append_assoc]
    exact List.perm_middle.symm
  have cc : (cf ts).Perm ((id, key) :: ((it.map fun i => (i, key)) ++ (l.curs ++ r'.curs) ++ cf (ts.set i0 .nil))) := by
    have e : (((it ++ [id]).map fun i => (i, key)) ++ (l.curs ++ r'.curs) ++ cf (ts.set i0 .nil)).Perm (cf ts) := by
      have := fm_set Tr.curs hi .nil
      simpa [Tr.curs, cf] using this
    refine e.symm.trans ?_
    simp only [List.map_append, List.append_assoc, List.map_cons, List.map_nil, List.cons_append, List.nil_append]
    exact List.perm_middle
  have c2 : ∀ x1 : Tr, (cf (ts.set i0 x1)).Perm (x1.curs ++ cf (ts.set i0 .nil)) := fun x1 => by
    have h1 := fm_set Tr.curs (ts := ts.set i0 .nil) (k := i0) (y := .nil) (List.getElem?_set_self (List.getElem?_eq_some_iff.1 hi).1) x1
    simpa [Tr.curs, cf] using h1
  rcases hc with ⟨h1, h2, n, x', hR, hok, rfl⟩ | ⟨rfl, rfl, rfl, rfl, rfl⟩ | ⟨h1, h2, rfl, rfl⟩
  · have N : Nf r ks i0 l r' it key rk sz :=
      ⟨⟨gx.ok.2.2.1, gx.ho.2.2.1, gx.st.2.2.2.2.1, gx.cl.2.1⟩, ⟨gx.ok.2.2.2, gx.ho.2.2.2, gx.st.2.2.2.2.2, gx.cl.2.2⟩, .inr h2, .inr ⟨gx.ho.1, gx.ho.2.1⟩, gx.st.1, gx.st.2.1, by have := gx.st.2.2.1; simp at this; omega, gx.st.2.2.2.1, ⟨.inr hkk, fun i hi => gx.cl.1.2.1 i (by simp [hi]), fun e i hi => gx.cl.1.2.2 e i (by simp [hi])⟩⟩
    obtain ⟨a1, _, a3⟩ := hR.good rfl N
    have ndx : (it ++ (l.ids ++ r'.ids)).Nodup := (List.nodup_cons.1 (pp.nodup_iff.2 m1)).2
    obtain ⟨b1, b2, b3⟩ := hR.pl ndx (fun i hi => by
      rw [List.length_set]
      exact hb i (e3.mem_iff.1 (List.mem_append.2 (.inl (pp.mem_iff.1 (List.mem_cons.2 (.inr hi))))))) P0
    have hp := hR.perm
    obtain ⟨u1, u2⟩ := S.upd hi ((hp.cons id).trans pp) a1 b1 (by rw [b2, List.length_set]) (fun j hj => by
      rw [b3 j (fun i hi => hj i (pp.mem_iff.1 (List.mem_cons.2 (.inr hi))))]
      exact o0 j hj) (by
      rw [b3 id.toNat (fun i hi => by have := dis i hi; omega)]
      exact s0)
    refine ⟨u1, by rw [b2, List.length_set], u2, ⟨_, cc, Grn.perm (Grn.app a3 (Grn.refl (cf (ts.set i0 .nil)))) (List.Perm.refl _) (c2 x').symm⟩, hlow, hkk⟩
  · obtain ⟨u1, u2⟩ := S.upd (x1 := .nil) hi (by simp [Tr.ids]) (Gx.nil _ _ _) trivial (List.length_set ..) o0 s0
    exact ⟨u1, List.length_set .., u2, ⟨_, cc, Grn.perm (Grn.refl _) (List.Perm.refl _) (c2 .nil).symm⟩, hlow, hkk⟩
  · have g1 : Gx r ks (.nd b l r' it key rk sz) i0 :=
      ⟨⟨h1, gx.ok.2⟩, gx.ho, ⟨gx.st.1, gx.st.2.1, by have := gx.st.2.2.1; simp at this; omega, gx.st.2.2.2⟩, ⟨⟨.inr hkk, fun i hi => gx.cl.1.2.1 i (by simp [hi]), fun e i hi => gx.cl.1.2.2 e i (by simp [hi])⟩, gx.cl.2⟩⟩
    obtain ⟨u1, u2⟩ := S.upd hi pp g1 P0 (List.length_set ..) o0 s0
    exact ⟨u1, List.length_set .., u2, ⟨_, cc, Grn.perm (Grn.refl _) (List.Perm.refl _) (c2 (.nd b l r' it key rk sz)).symm⟩, hlow, hkk⟩
/-- New names, and more own keys. -/
theorem Cl.rn {r : Nat} {ks ks' : List Int} {f : Int → Int} (hm : ∀ k ∈ ks, k ∈ ks') : ∀ {t : Tr} {k : Nat}, Cl r ks t k → (∀ i ∈ t.ids, ks'.getD (f i).toNat 0 = ks.getD i.toNat 0) → Cl r ks' (Rn f t) k
  | .nil, _, _, _ => trivial
  | .nd b l r' it key rk sz, k, h, e => by
    have ei : ∀ i ∈ it, ks'.getD (f i).toNat 0 = ks.getD i.toNat 0 := fun i hi => e i (by simp [Tr.ids, hi])
    refine ⟨⟨?_, fun j hj => ?_, fun hk j hj => ?_⟩, Cl.rn hm h.2.1 (fun i hi => e i (by simp [Tr.ids, hi])), Cl.rn hm h.2.2 (fun i hi => e i (by simp [Tr.ids, hi]))⟩
    · exact h.1.1.imp (fun e => by rw [e]; rfl) (hm key)
    · obtain ⟨i, hi, rfl⟩ := List.mem_map.1 hj
      rw [ei i hi]
      exact h.1.2.1 i hi
    · obtain ⟨i, hi, rfl⟩ := List.mem_map.1 hj
      rw [ei i hi]
      exact h.1.2.2 hk i hi
theorem HO.rn (f : Int → Int) : ∀ {t : Tr}, HO t → HO (Rn f t)
  | .nil, _ => trivial
  | .nd b l r it key rk sz, h => by
    have hlb : ∀ t : Tr, Lb key t → Lb key (Rn f t) := fun t ht => by cases t <;> exact ht
    exact ⟨hlb _ h.1, hlb _ h.2.1, HO.rn f h.2.2.1, HO.rn f h.2.2.2⟩
theorem St.rn (r : Nat) (f : Int → Int) : ∀ {t : Tr} {k : Nat}, St r t k → St r (Rn f t) k
  | .nil, _, _ => trivial
  | .nd b l r' it key rk sz, k, h => ⟨h.1, h.2.1, by rw [List.length_map]; exact h.2.2.1, fun e => by obtain ⟨rfl, rfl⟩ := h.2.2.2.1 e; exact ⟨rfl, rfl⟩, St.rn r f h.2.2.2.2.1, St.rn r f h.2.2.2.2.2⟩
theorem Gx.rn {r : Nat} {ks ks' : List Int} {f : Int → Int} (hm : ∀ k ∈ ks, k ∈ ks') {t : Tr} {k : Nat} (h : Gx r ks t k) (e : ∀ i ∈ t.ids, ks'.getD (f i).toNat 0 = ks.getD i.toNat 0) : Gx r ks' (Rn f t) k :=
  ⟨Rn.ok f h.ok, h.ho.rn f, h.st.rn r f, h.cl.rn hm e⟩
theorem Rn_id : ∀ t : Tr, Rn id t = t
  | .nil => rfl
  | .nd b l r it _ _ _ => by simp [Rn, Rn_id l, Rn_id r]
theorem Gx.more {r : Nat} {ks : List Int} {t : Tr} {k : Nat} (h : Gx r ks t k) (e : ∀ i ∈ t.ids, 0 ≤ i ∧ i < (ks.length : Int)) (l : List Int) : Gx r (ks ++ l) t k := by
  have := h.rn (ks' := ks ++ l) (f := id) (fun k hk => List.mem_append.2 (.inl hk)) (fun i hi => by
    have := e i hi
    rw [List.getD_eq_getElem?_getD, List.getD_eq_getElem?_getD, List.getElem?_append_left (by simp only [id_eq]; omega)]
    rfl)
  rwa [Rn_id] at this
theorem Pl.rn {I I' : List (Option Nat)} {f : Int → Int} : ∀ {t : Tr}, Pl I t → (∀ i ∈ t.ids, I'[(f i).toNat]? = I[i.toNat]?) → Pl I' (Rn f t)
  | .nil, _, _ => trivial
  | .nd b l r it _ _ _, h, e => by
    refine ⟨fun j hj => ?_, Pl.rn h.2.1 (fun i hi => e i (by simp [Tr.ids, hi])), Pl.rn h.2.2 (fun i hi => e i (by simp [Tr.ids, hi]))⟩
    obtain ⟨i, hi, rfl⟩ := List.mem_map.1 hj
    rw [e i (by simp [Tr.ids, hi])]
    exact h.1 i hi
theorem curs_rn (f : Int → Int) : ∀ t : Tr, (Rn f t).curs = t.curs.map fun p => (f p.1, p.2)
  | .nil => rfl
  | .nd b l r it _ _ _ => by simp [Rn, Tr.curs, curs_rn f l, curs_rn f r]
theorem cf_rn (f : Int → Int) (ts : List Tr) : cf (ts.map (Rn f)) = (cf ts).map fun p => (f p.1, p.2) := by
  unfold cf
  induction ts with
  | nil => rfl
  | cons t ts ih => simp [curs_rn, ih]
theorem Pl.app {I J : List (Option Nat)} {t : Tr} (h : Pl I t) (e : ∀ i ∈ t.ids, 0 ≤ i ∧ i < (I.length : Int)) : Pl (I ++ J) t :=
  h.same fun i hi => List.getElem?_append_left (by have := e i hi; omega)
/-- One item more. -/
theorem SX.ins {r : Nat} {ks : List Int} {ts : List Tr} {I : List (Option Nat)} (S : SX r ks ts [] I) (hl : I.length = ks.length) (bx : Nat) (k : Int) : SX r (ks ++ [k]) ts [.nd bx .nil .nil [(ks.length : Int)] k 0 1] (I ++ [some bx]) := by
  have hb : ∀ i ∈ flat ts, 0 ≤ i ∧ i < (I.length : Int) := fun i hi => S.bd i (by simp [hi])
  have hn : (flat ts).Nodup := by have := S.nd; simpa [flat] using this
  have ef : flat [.nd bx .nil .nil [(ks.length : Int)] k 0 1] = [(ks.length : Int)] := rfl
  have ek : (ks ++ [k]).getD ks.length 0 = k := by simp [List.getD_eq_getElem?_getD]
  refine ⟨fun i t ht => (S.g i t ht).more (fun j hj => by rw [← hl]; exact hb j (flat_mem (List.mem_iff_getElem?.2 ⟨i, ht⟩) hj)) _, fun x hx => ?_, fun t ht => (S.pl t ht).app (fun j hj => hb j (flat_mem ht hj)), fun x hx => ?_, ?_, fun i hi => ?_, fun j b hj => ?_⟩
  · rw [List.mem_singleton.1 hx]
    refine ⟨⟨by simp, Nat.le_refl _, trivial, trivial⟩, ⟨trivial, trivial, trivial, trivial⟩, ⟨rfl, rfl, Nat.le_refl _, fun _ => ⟨rfl, rfl⟩, trivial, trivial⟩, ⟨⟨.inr (by simp), fun i hi => ?_, fun _ i hi => ?_⟩, trivial, trivial⟩⟩
    · rw [List.mem_singleton.1 hi, Int.toNat_natCast, ek]; exact Int.le_refl _
    · rw [List.mem_singleton.1 hi, Int.toNat_natCast, ek]
  · rw [List.mem_singleton.1 hx]
    refine ⟨fun i hi => ?_, trivial, trivial⟩
    rw [List.mem_singleton.1 hi, Int.toNat_natCast, List.getElem?_append_right (by omega), hl, Nat.sub_self]
    rfl
  · rw [ef]
    refine List.nodup_cons.2 ⟨fun e => ?_, hn⟩
    have := (hb _ e).2
    omega
  · rw [ef] at hi
    rw [List.length_append, List.length_singleton]
    rcases List.mem_cons.1 hi with rfl | hi
    · omega
    · have := hb i hi; omega
  · rw [ef]
    rw [List.getElem?_append] at hj
    split at hj
    · have := S.no j b hj
      exact List.mem_cons.2 (.inr (by simpa [flat] using this))
    · have h2 := (List.getElem?_eq_some_iff.1 hj).1
      simp at h2
      exact List.mem_cons.2 (.inl (by omega))
end Go.Proofs.Ytdphademoeofkaa
