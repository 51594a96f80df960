/- Where the items are, and forests as promised (plain law). -/
import Derived.Test.YtdphademoeofkaaS17
namespace Go.Proofs.Ytdphademoeofkaa
/-- Each item is noted where it is. -/
def Pl (I : List (Option Nat)) : Tr → Prop
  | .nil => True
  | .nd b l r it _ _ _ => (∀ i ∈ it, I[i.toNat]? = some (some b)) ∧ Pl I l ∧ Pl I r
theorem Pl.same {I I' : List (Option Nat)} : ∀ {t : Tr}, Pl I t → (∀ i ∈ t.ids, I'[i.toNat]? = I[i.toNat]?) → Pl I' t
  | .nil, _, _ => trivial
  | .nd b l r it _ _ _, h, e => ⟨fun i hi => by rw [e i (by simp [Tr.ids, hi])]; exact h.1 i hi, Pl.same h.2.1 (fun i hi => e i (by simp [Tr.ids, hi])), Pl.same h.2.2 (fun i hi => e i (by simp [Tr.ids, hi]))⟩
theorem setMany_other {b : Nat} : ∀ {l : List Int} {I : List (Option Nat)} {j : Nat}, (∀ i ∈ l, i.toNat ≠ j) → (setMany I l b)[j]? = I[j]?
  | [], _, _, _ => rfl
  | i :: l, I, j, h => by
    rw [setMany, setMany_other (fun i hi => h i (List.mem_cons.2 (.inr hi))), List.getElem?_set_ne (h i (List.mem_cons.2 (.inl rfl)))]
theorem setMany_self {b : Nat} : ∀ {l : List Int} {I : List (Option Nat)} {i : Int}, i ∈ l → (∀ i ∈ l, i.toNat < I.length) → (setMany I l b)[i.toNat]? = some (some b)
  | j :: l, I, i, hi, h => by
    rw [setMany]
    by_cases e : ∃ i' ∈ l, i'.toNat = i.toNat
    · obtain ⟨i', h1, h2⟩ := e
      rw [← h2]
      exact setMany_self h1 (fun q hq => by rw [List.length_set]; exact h q (List.mem_cons.2 (.inr hq)))
    · rw [setMany_other (fun q hq g => e ⟨q, hq, g⟩)]
      rcases List.mem_cons.1 hi with rfl | hi
      · exact List.getElem?_set_self (h i (List.mem_cons.2 (.inl rfl)))
      · exact absurd ⟨i, hi, rfl⟩ e
theorem other {A : List Int} {j : Int} (hA : ∀ i ∈ A, 0 ≤ i) (h : 0 ≤ j) (hn : j ∉ A) : ∀ i ∈ A, i.toNat ≠ j.toNat := fun i hi e => hn (by
  have := hA i hi
  have : i = j := by omega
  exact this ▸ hi)
/-- Refill notes where the items are. -/
theorem Rf.pl {n : Nat} {x x' : Tr} {I I' : List (Option Nat)} (h : Rf n x I x' I') : x.ids.Nodup → (∀ i ∈ x.ids, 0 ≤ i ∧ i < (I.length : Int)) → Pl I x → Pl I' x' ∧ I'.length = I.length ∧ ∀ j : Nat, (∀ i ∈ x.ids, i.toNat ≠ j) → I'[j]? = I[j]? := by
  induction h with
  | stop h => exact fun _ _ h => ⟨h, rfl, fun _ _ => rfl⟩
  | @leaf n b l r it key rank size I bY ity ky rky sy r1 x' I' h1 h2 hs h ih =>
    intro hn hb hP
    have p := sw_perm l r
    rw [hs] at p
    simp only [Tr.ids, List.append_nil] at p hn hb ih
    have pp : (it ++ (ity ++ r1.ids)).Perm (it ++ (l.ids ++ r.ids)) := p.append_left it
    have hn2 := pp.nodup_iff.2 hn
    have hb2 : ∀ i ∈ it ++ (ity ++ r1.ids), 0 ≤ i ∧ i < (I.length : Int) := fun i hi => hb i (pp.mem_iff.1 hi)
    obtain ⟨n1, n2, n3⟩ := List.nodup_append.1 hn2
    obtain ⟨n4, n5, n6⟩ := List.nodup_append.1 n2
    have hPr : Pl I r1 := by
      rcases sw_or l r with e | e
      · rw [e] at hs; cases hs; exact hP.2.2
      · rw [e] at hs; cases hs; exact hP.2.1
    have hy0 : ∀ i ∈ ity, 0 ≤ i := fun i hi => (hb2 i (by simp [hi])).1
    have q1 : Pl (setMany I ity b) (.nd b .nil r1 (it ++ ity) ky rank size) := by
      refine ⟨fun i hi => ?_, trivial, hPr.same fun i hi => setMany_other (other hy0 (hb2 i (by simp [hi])).1 (fun e => n6 i e i hi rfl))⟩
      rcases List.mem_append.1 hi with hi | hi
      · rw [setMany_other (other hy0 (hb2 i (by simp [hi])).1 (fun e => n3 i hi i (by simp [e]) rfl))]
        exact hP.1 i hi
      · exact setMany_self hi (fun q hq => by have := hb2 q (by simp [hq]); omega)
    obtain ⟨a1, a2, a3⟩ := ih (by rw [List.append_assoc]; simpa using hn2) (fun i hi => by rw [setMany_len]; exact hb2 i (by simpa using hi)) q1
    refine ⟨a1, by rw [a2, setMany_len], fun j hj => ?_⟩
    have hj2 : ∀ i ∈ it ++ (ity ++ r1.ids), i.toNat ≠ j := fun i hi => hj i (pp.mem_iff.1 hi)
    rw [a3 j (fun i hi => hj2 i (by simpa using hi)), setMany_other (fun i hi => hj2 i (by simp [hi]))]
  | @deep n b l r it key rank size I bY lY rY ity ky rky sy r1 y' I2 x' I' h1 h2 hs h3 hy h ihy ih =>
    intro hn hb hP
    have p := sw_perm l r
    rw [hs] at p
    simp only [Tr.ids, List.nil_append] at p hn hb ih ihy
    have pp : (it ++ (ity ++ (lY.ids ++ rY.ids) ++ r1.ids)).Perm (it ++ (l.ids ++ r.ids)) := p.append_left it
    have hn2 := pp.nodup_iff.2 hn
    have hb2 : ∀ i ∈ it ++ (ity ++ (lY.ids ++ rY.ids) ++ r1.ids), 0 ≤ i ∧ i < (I.length : Int) := fun i hi => hb i (pp.mem_iff.1 hi)
    obtain ⟨n1, n2, n3⟩ := List.nodup_append.1 hn2
    obtain ⟨n4, n5, n6⟩ := List.nodup_append.1 n2
    obtain ⟨n7, n8, n9⟩ := List.nodup_append.1 n4
    have hPr : Pl I r1 ∧ Pl I (.nd bY lY rY ity ky rky sy) := by
      rcases sw_or l r with e | e
      · rw [e] at hs; cases hs; exact ⟨hP.2.2, hP.2.1⟩
      · rw [e] at hs; cases hs; exact ⟨hP.2.1, hP.2.2⟩
    have hy0 : ∀ i ∈ ity, 0 ≤ i := fun i hi => (hb2 i (by simp [hi])).1
    have oy : ∀ i ∈ lY.ids ++ rY.ids, (setMany I ity b)[i.toNat]? = I[i.toNat]? := fun i hi => setMany_other (other hy0 (hb2 i (by simp only [List.mem_append]; exact .inr (.inl (.inr (List.mem_append.1 hi))))).1 (fun e => n9 i e i hi rfl))
    have q0 : Pl (setMany I ity b) (.nd bY lY rY [] ky rky sy) := ⟨by simp, hPr.2.2.1.same fun i hi => oy i (by simp [hi]), hPr.2.2.2.same fun i hi => oy i (by simp [hi])⟩
    obtain ⟨b1, b2, b3⟩ := ihy n8 (fun i hi => by rw [setMany_len]; exact hb2 i (by simp only [List.mem_append]; exact .inr (.inl (.inr (List.mem_append.1 hi))))) q0
    have hp := hy.perm
    simp only [Tr.ids, List.nil_append] at hp
    have ho0 : ∀ i ∈ lY.ids ++ rY.ids, 0 ≤ i := fun i hi => (hb2 i (by simp only [List.mem_append]; exact .inr (.inl (.inr (List.mem_append.1 hi))))).1
    have q1 : Pl I2 (.nd b y' r1 (it ++ ity) ky rank size) := by
      refine ⟨fun i hi => ?_, b1, hPr.1.same fun i hi => ?_⟩
      · rcases List.mem_append.1 hi with hi | hi
        · have i0 := (hb2 i (by simp [hi])).1
          rw [b3 _ (other ho0 i0 (fun e => n3 i hi i (List.mem_append.2 (.inl (List.mem_append.2 (.inr e)))) rfl)), setMany_other (other hy0 i0 (fun e => n3 i hi i (by simp [e]) rfl))]
          exact hP.1 i hi
        · have i0 := (hb2 i (by simp [hi])).1
          rw [b3 _ (other ho0 i0 (fun e => n9 i hi i e rfl))]
          exact setMany_self hi (fun q hq => by have := hb2 q (by simp [hq]); omega)
      · have i0 := (hb2 i (by simp [hi])).1
        rw [b3 _ (other ho0 i0 (fun e => n6 i (List.mem_append.2 (.inr e)) i hi rfl)), setMany_other (other hy0 i0 (fun e => n6 i (List.mem_append.2 (.inl e)) i hi rfl))]
    have p3 : (it ++ ity ++ (y'.ids ++ r1.ids)).Perm (it ++ (ity ++ (lY.ids ++ rY.ids) ++ r1.ids)) := by
      have := ((hp.append_left ity).append_right r1.ids).append_left it
      simpa only [List.append_assoc] using this
    obtain ⟨a1, a2, a3⟩ := ih (p3.nodup_iff.2 hn2) (fun i hi => by rw [b2, setMany_len]; exact hb2 i (p3.mem_iff.1 hi)) q1
    refine ⟨a1, by rw [a2, b2, setMany_len], fun j hj => ?_⟩
    have hj2 : ∀ i ∈ it ++ (ity ++ (lY.ids ++ rY.ids) ++ r1.ids), i.toNat ≠ j := fun i hi => hj i (pp.mem_iff.1 hi)
    rw [a3 j (fun i hi => hj2 i (p3.mem_iff.1 hi)), b3 j (fun i hi => hj2 i (by simp only [List.mem_append]; exact .inr (.inl (.inr (List.mem_append.1 hi))))), setMany_other (fun i hi => hj2 i (by simp [hi]))]
theorem fm_set {α : Type} (f : Tr → List α) {ts : List Tr} {k : Nat} {y : Tr} (h : ts[k]? = some y) (x : Tr) : (f y ++ (ts.set k x).flatMap f).Perm (f x ++ ts.flatMap f) := by
  induction ts generalizing k with
  | nil => simp at h
  | cons t ts ih =>
    cases k with
    | zero =>
      simp at h
      subst h
      simp only [List.set_cons_zero, List.flatMap_cons]
      rw [← List.append_assoc, ← List.append_assoc]
      exact List.perm_append_comm.append_right _
    | succ k =>
      simp at h
      have := ih h
      simp only [List.set_cons_succ, List.flatMap_cons] at this ⊢
      have e1 : (f y ++ (f t ++ List.flatMap f (ts.set k x))).Perm (f t ++ (f y ++ List.flatMap f (ts.set k x))) := by
        rw [← List.append_assoc, ← List.append_assoc]
        exact List.perm_append_comm.append_right _
      have e2 : (f t ++ (f x ++ List.flatMap f ts)).Perm (f x ++ (f t ++ List.flatMap f ts)) := by
        rw [← List.append_assoc, ← List.append_assoc]
        exact List.perm_append_comm.append_right _
      exact e1.trans ((this.append_left (f t)).trans e2)
theorem fm_pad {α : Type} (f : Tr → List α) (hf : f .nil = []) (ts : List Tr) (k : Nat) : (pad ts k).flatMap f = ts.flatMap f := by
  unfold pad
  rw [List.flatMap_append]
  have : List.flatMap f (List.replicate (k - ts.length) .nil) = [] := by
    rw [List.flatMap_eq_nil_iff]
    intro x hx
    rw [List.eq_of_mem_replicate hx]; exact hf
  rw [this, List.append_nil]
/-- The current keys in a forest. -/
def cf (ts : List Tr) : List (Int × Int) := ts.flatMap Tr.curs
theorem cf_ids (ts : List Tr) : (cf ts).map (·.1) = flat ts := by
  unfold cf flat
  rw [List.map_flatMap]
  congr 1
  funext t
  exact t.curs_ids
/-- A forest as promised, with trees that are not in it yet. -/
structure SX (r : Nat) (ks : List Int) (ts xs : List Tr) (I : List (Option Nat)) : Prop where
  g : ∀ i t, ts[i]? = some t → Gx r ks t i
  gx : ∀ x ∈ xs, Gx r ks x x.rank
  pl : ∀ t ∈ ts, Pl I t
  px : ∀ x ∈ xs, Pl I x
  nd : (flat xs ++ flat ts).Nodup
  bd : ∀ i ∈ flat xs ++ flat ts, 0 ≤ i ∧ i < (I.length : Int)
  no : ∀ j b : Nat, I[j]? = some (some b) → (j : Int) ∈ flat xs ++ flat ts
theorem pad_mem {ts : List Tr} {k : Nat} {t : Tr} (h : t ∈ pad ts k) : t ∈ ts ∨ t = .nil := by
  obtain ⟨i, hi⟩ := List.mem_iff_getElem?.1 h
  exact (pad_get hi).imp (fun e => List.mem_iff_getElem?.2 ⟨i, e⟩) id
theorem flat_mem {ts : List Tr} {t : Tr} {i : Int} (h : t ∈ ts) (hi : i ∈ t.ids) : i ∈ flat ts := List.mem_flatMap.2 ⟨t, h, hi⟩
/-- A node over two trees. -/
theorem Nf.over {r : Nat} {ks : List Int} {x y : Tr} {k : Nat} (hx : Gx r ks x k) (hy : Gx r ks y k) (hyn : y ≠ .nil) : Nf r ks (k + 1) y x [] 0 (k + 1) (szOf r y) := by
  refine ⟨hy, hx, .inr (fun e => hyn e.1), .inl rfl, rfl, ?_, Nat.zero_le _, fun e => by omega, ⟨.inl rfl, by simp, by simp⟩⟩
  cases y with
  | nil => exact absurd rfl hyn
  | nd b l r' it key rk sz =>
    have h1 : rk = k := hy.st.1
    have h2 : sz = szF r k := hy.st.2.1
    subst h1
    rw [h2]
    rfl
/-- What adding a tree makes of the promises. -/
theorem SX.ad {r : Nat} {ks : List Int} {ts : List Tr} {x : Tr} {I : List (Option Nat)} {ts' : List Tr} {I' : List (Option Nat)} (h : Ad r ts x I ts' I') : ∀ xs, SX r ks ts (x :: xs) I → SX r ks ts' xs I' ∧ I'.length = I.length ∧ Grn (cf (x :: xs) ++ cf ts) (cf xs ++ cf ts') := by
  induction h with
  | @put ts x I h =>
    intro xs S
    have e1 := flat_set h x
    have e2 := fm_set Tr.curs h x
    rw [flat_pad] at e1
    rw [fm_pad Tr.curs rfl] at e2
    simp only [Tr.ids, Tr.curs, List.nil_append] at e1 e2
    have p1 : (flat xs ++ flat ((pad ts (x.rank + 1)).set x.rank x)).Perm (flat (x :: xs) ++ flat ts) := by
      refine (e1.append_left (flat xs)).trans ?_
      simp only [flat, List.flatMap_cons]
      rw [← List.append_assoc]
      exact List.perm_append_comm.append_right _
    have p2 : (cf xs ++ cf ((pad ts (x.rank + 1)).set x.rank x)).Perm (cf (x :: xs) ++ cf ts) := by
      refine (e2.append_left (cf xs)).trans ?_
      simp only [cf, List.flatMap_cons]
      rw [← List.append_assoc]
      exact List.perm_append_comm.append_right _
    refine ⟨⟨fun i t ht => ?_, fun y hy => S.gx y (List.mem_cons.2 (.inr hy)), fun t ht => ?_, fun y hy => S.px y (List.mem_cons.2 (.inr hy)), p1.nodup_iff.2 S.nd, fun i hi => S.bd i (p1.mem_iff.1 hi), fun j b hj => p1.mem_iff.2 (S.no j b hj)⟩, rfl, Grn.perm (Grn.refl _) (List.Perm.refl _) p2.symm⟩
    · rw [List.getElem?_set] at ht
      split at ht
      · next e =>
        split at ht
        · injection ht with ht
          rw [← ht, ← e]
          exact S.gx x (List.mem_cons.2 (.inl rfl))
        · cases ht
      · rcases pad_get ht with e | e
        · exact S.g i t e
        · rw [e]; exact Gx.nil _ _ _
    · rcases List.mem_or_eq_of_mem_set ht with e | e
      · rcases pad_mem e with e | e
        · exact S.pl t e
        · rw [e]; trivial
      · rw [e]; exact S.px x (List.mem_cons.2 (.inl rfl))
  | @comb ts x I y z I1 ts' I' n bz h hy hR h2 ih =>
    intro xs S
    have gx := S.gx x (List.mem_cons.2 (.inl rfl))
    have gy : Gx r ks y x.rank ∧ Pl I y := by
      rcases pad_get h with e | e
      · exact ⟨S.g _ _ e, S.pl y (List.mem_iff_getElem?.2 ⟨_, e⟩)⟩
      · exact absurd e hy
    have px := S.px x (List.mem_cons.2 (.inl rfl))
    obtain ⟨l', r', it', key', hz⟩ := hR.shape rfl
    have hzr : z.rank = x.rank + 1 := by rw [hz]; rfl
    obtain ⟨a1, _, a3⟩ := hR.good rfl (Nf.over gx gy.1 hy)
    have e1 := flat_set h .nil
    have e2 := fm_set Tr.curs h .nil
    rw [flat_pad] at e1
    rw [fm_pad Tr.curs rfl] at e2
    simp only [Tr.ids, Tr.curs, List.nil_append] at e1 e2
    have hzp := hR.perm
    simp only [Tr.ids, List.nil_append] at hzp
    have p0 : (flat (x :: xs) ++ flat ts).Perm (x.ids ++ flat xs ++ (y.ids ++ flat ((pad ts (x.rank + 1)).set x.rank .nil))) := by
      simp only [flat, List.flatMap_cons] at e1 ⊢
      exact e1.symm.append_left _
    have nd0 := p0.nodup_iff.1 S.nd
    obtain ⟨u1, u2, u3⟩ := List.nodup_append.1 nd0
    obtain ⟨u4, u5, u6⟩ := List.nodup_append.1 u1
    obtain ⟨u7, u8, u9⟩ := List.nodup_append.1 u2
    have bd0 : ∀ i ∈ x.ids ++ flat xs ++ (y.ids ++ flat ((pad ts (x.rank + 1)).set x.rank .nil)), 0 ≤ i ∧ i < (I.length : Int) := fun i hi => S.bd i (p0.mem_iff.2 hi)
    have ndn : (y.ids ++ x.ids).Nodup := List.nodup_append.2 ⟨u7, u4, fun i hi j hj e => u3 j (by simp [hj]) i (by simp [hi]) e.symm⟩
    have bdn : ∀ i ∈ y.ids ++ x.ids, 0 ≤ i ∧ i < (I.length : Int) := fun i hi => bd0 i (by rcases List.mem_append.1 hi with hi | hi <;> simp [hi])
    have b0n : ∀ i ∈ y.ids ++ x.ids, 0 ≤ i := fun i hi => (bdn i hi).1
    obtain ⟨c1, c2, c3⟩ := hR.pl (by simpa [Tr.ids] using ndn) (fun i hi => bdn i (by simpa [Tr.ids] using hi)) ⟨by simp, gy.2, px⟩
    simp only [Tr.ids, List.nil_append] at c3
    have p1 : (flat (z :: xs) ++ flat ((pad ts (x.rank + 1)).set x.rank .nil)).Perm (flat (x :: xs) ++ flat ts) := by
      refine List.Perm.trans ?_ p0.symm
      simp only [flat, List.flatMap_cons] at hzp ⊢
      refine ((hzp.append_right _).append_right _).trans ?_
      refine ((List.perm_append_comm.append_right _).append_right _).trans ?_
      simp only [List.append_assoc]
      refine List.Perm.append_left _ ?_
      rw [← List.append_assoc, ← List.append_assoc]
      exact List.perm_append_comm.append_right _
    have S2 : SX r ks ((pad ts (x.rank + 1)).set x.rank .nil) (z :: xs) I1 := by
      refine ⟨fun i t ht => ?_, fun w hw => ?_, fun t ht => ?_, fun w hw => ?_, p1.nodup_iff.2 S.nd, fun i hi => by rw [c2]; exact S.bd i (p1.mem_iff.1 hi), fun j b hj => p1.mem_iff.2 ?_⟩
      · rw [List.getElem?_set] at ht
        split at ht
        · split at ht
          · injection ht with ht; rw [← ht]; exact Gx.nil _ _ _
          · cases ht
        · rcases pad_get ht with e | e
          · exact S.g i t e
          · rw [e]; exact Gx.nil _ _ _
      · rcases List.mem_cons.1 hw with rfl | hw
        · rw [hzr]; exact a1
        · exact S.gx w (List.mem_cons.2 (.inr hw))
      · have hP : Pl I t := by
          rcases List.mem_or_eq_of_mem_set ht with e | e
          · rcases pad_mem e with e | e
            · exact S.pl t e
            · rw [e]; trivial
          · rw [e]; trivial
        refine hP.same fun i hi => c3 _ (other b0n (bd0 i (List.mem_append.2 (.inr (List.mem_append.2 (.inr (flat_mem ht hi)))))).1 fun e => ?_)
        rcases List.mem_append.1 e with e | e
        · exact u9 i e i (flat_mem ht hi) rfl
        · exact u3 i (by simp [e]) i (List.mem_append.2 (.inr (flat_mem ht hi))) rfl
      · rcases List.mem_cons.1 hw with rfl | hw
        · exact c1
        · refine (S.px w (List.mem_cons.2 (.inr hw))).same fun i hi => c3 _ (other b0n (bd0 i (List.mem_append.2 (.inl (List.mem_append.2 (.inr (flat_mem hw hi)))))).1 fun e => ?_)
          rcases List.mem_append.1 e with e | e
          · exact u3 i (List.mem_append.2 (.inr (flat_mem hw hi))) i (by simp [e]) rfl
          · exact u6 i e i (flat_mem hw hi) rfl
      · by_cases e : (j : Int) ∈ y.ids ++ x.ids
        · refine p0.mem_iff.2 ?_
          rcases List.mem_append.1 e with e | e <;> simp [e]
        · rw [c3 j (by have := other b0n (Int.natCast_nonneg j) e; simpa using this)] at hj
          exact S.no j b hj
    obtain ⟨d1, d2, d3⟩ := ih xs S2
    refine ⟨d1, by rw [d2, c2], Grn.trans ?_ d3⟩
    simp only [Tr.curs, List.map_nil, List.nil_append] at a3
    refine Grn.perm (Grn.app a3 (Grn.refl (cf xs ++ cf ((pad ts (x.rank + 1)).set x.rank .nil)))) ?_ ?_
    · simp only [cf, List.flatMap_cons] at e2 ⊢
      refine (e2.symm.append_left _).trans ?_
      simp only [List.append_assoc]
      refine List.Perm.trans ?_ (List.perm_append_comm_assoc _ _ _)
      refine List.Perm.append_left _ ?_
      exact List.perm_append_comm_assoc _ _ _
    · simp only [cf, List.flatMap_cons, List.append_assoc]
      exact List.Perm.refl _
end Go.Proofs.Ytdphademoeofkaa
