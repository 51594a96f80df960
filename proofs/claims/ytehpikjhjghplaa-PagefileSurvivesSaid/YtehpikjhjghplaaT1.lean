/- Changed bytes of the last record: plain law. -/
import Derived.Test.YtehpikjhjghplaaB15
namespace Go.Proofs.Ytehpikjhjghplaa
theorem mulp_inj {a b : Nat} (ha : a < 4294967296) (hb : b < 4294967296) (h : a * 16777619 % 4294967296 = b * 16777619 % 4294967296) : a = b := by
  have e : ∀ x : Nat, x < 4294967296 → (x * 16777619 % 4294967296) * 899433627 % 4294967296 = x := fun x hx => by
    rw [Nat.mod_mul_mod, Nat.mul_assoc]
    have : 16777619 * 899433627 = 3513497 * 4294967296 + 1 := by decide
    rw [this, Nat.mul_add, Nat.mul_one, ← Nat.mul_assoc, Nat.add_comm, Nat.add_mul_mod_self_right, Nat.mod_eq_of_lt hx]
  rw [← e a ha, ← e b hb, h]
theorem xor_inj_left {h c d : Nat} (e : h ^^^ c = h ^^^ d) : c = d := by
  have := congrArg (h ^^^ ·) e
  simpa [← Nat.xor_assoc] using this
theorem xor_inj_right {h c d : Nat} (e : c ^^^ h = d ^^^ h) : c = d := by
  rw [Nat.xor_comm c, Nat.xor_comm d] at e; exact xor_inj_left e
theorem xl32 {h c : Nat} (h1 : h < 4294967296) (h2 : c < 256) : h ^^^ c < 4294967296 := Nat.xor_lt_two_pow (n := 32) h1 (by omega)
theorem fnvS_inj {h1 h2 : Nat} {c : UInt8} (l1 : h1 < 4294967296) (l2 : h2 < 4294967296) (e : fnvS h1 c = fnvS h2 c) : h1 = h2 :=
  xor_inj_right (mulp_inj (xl32 l1 (u8_lt c)) (xl32 l2 (u8_lt c)) e)
theorem fnvS_injc {h : Nat} {c d : UInt8} (l : h < 4294967296) (e : fnvS h c = fnvS h d) : c = d :=
  UInt8.toNat_inj.1 (xor_inj_left (mulp_inj (xl32 l (u8_lt c)) (xl32 l (u8_lt d)) e))
theorem fold_inj : ∀ (bs : List UInt8) {h1 h2 : Nat}, h1 < 4294967296 → h2 < 4294967296 → bs.foldl fnvS h1 = bs.foldl fnvS h2 → h1 = h2
  | [], _, _, _, _, e => e
  | c :: bs, _, _, l1, l2, e => fnvS_inj l1 l2 (fold_inj bs (fnvS_lt _ c) (fnvS_lt _ c) e)
theorem fnv_set {bs : List UInt8} {k : Nat} {c d : UInt8} (h : bs[k]? = some c) (hd : d ≠ c) : fnv (bs.set k d) ≠ fnv bs := by
  have hk := (List.getElem?_eq_some_iff.1 h).1
  have hc := (List.getElem?_eq_some_iff.1 h).2
  have e1 : bs = bs.take k ++ c :: bs.drop (k + 1) := by rw [← hc, ← List.drop_eq_getElem_cons hk, List.take_append_drop]
  have e2 : bs.set k d = bs.take k ++ d :: bs.drop (k + 1) := by rw [List.set_eq_take_append_cons_drop, if_pos hk]
  intro e
  rw [e2] at e
  rw [show fnv bs = fnv (bs.take k ++ c :: bs.drop (k + 1)) from congrArg fnv e1] at e
  unfold fnv at e
  rw [List.foldl_append, List.foldl_append, List.foldl_cons, List.foldl_cons] at e
  have l := fnv_fold_lt (bs.take k) 2166136261 (by decide)
  exact hd (fnvS_injc l (fold_inj _ (fnvS_lt _ _) (fnvS_lt _ _) e))
theorem bat_set_ne {bs : List UInt8} {k i : Nat} {d : UInt8} (h : i ≠ k) : bat (bs.set k d) i = bat bs i := by
  unfold bat; rw [List.getD_eq_getElem?_getD, List.getElem?_set_ne (fun e => h e.symm), ← List.getD_eq_getElem?_getD]
theorem bat_set_eq {bs : List UInt8} {k : Nat} {d : UInt8} (h : k < bs.length) : bat (bs.set k d) k = d.toNat := by
  unfold bat; rw [List.getD_eq_getElem?_getD, List.getElem?_set_self h]; rfl
theorem bat_take {bs : List UInt8} {m i : Nat} (h : i < m) : bat (bs.take m) i = bat bs i := by
  unfold bat; rw [List.getD_eq_getElem?_getD, List.getElem?_take, if_pos h, ← List.getD_eq_getElem?_getD]
theorem wd_congr {b1 b2 : List UInt8} {i : Nat} (h : ∀ j, i ≤ j → j < i + 4 → bat b1 j = bat b2 j) : wd b1 i = wd b2 i := by
  unfold wd; rw [h i (by omega) (by omega), h (i + 1) (by omega) (by omega), h (i + 2) (by omega) (by omega), h (i + 3) (by omega) (by omega)]
/-- Two lists of bytes that are alike from x to y. -/
def Alike (b1 b2 : List UInt8) (x y : Nat) : Prop := ∀ j, x ≤ j → j < y → b1[j]? = b2[j]?
theorem Alike.bat {b1 b2 : List UInt8} {x y : Nat} (h : Alike b1 b2 x y) {j : Nat} (h1 : x ≤ j) (h2 : j < y) : bat b1 j = bat b2 j := by
  unfold Ytehpikjhjghplaa.bat; rw [List.getD_eq_getElem?_getD, h j h1 h2, ← List.getD_eq_getElem?_getD]
theorem Alike.wd {b1 b2 : List UInt8} {x y i : Nat} (h : Alike b1 b2 x y) (h1 : x ≤ i) (h2 : i + 4 ≤ y) : wd b1 i = wd b2 i := wd_congr (fun j a b => h.bat (by omega) (by omega))
theorem Alike.cut {b1 b2 : List UInt8} {x y i n : Nat} (h : Alike b1 b2 x y) (h1 : x ≤ i) (h2 : i + n ≤ y) : (b1.drop i).take n = (b2.drop i).take n := by
  apply List.ext_getElem?
  intro j
  rw [List.getElem?_take, List.getElem?_take]
  split
  · rw [List.getElem?_drop, List.getElem?_drop, h (i + j) (by omega) (by omega)]
  · rfl
theorem Alike.sz {b1 b2 : List UInt8} {x y page : Nat} (h : Alike b1 b2 x y) (h2 : x + 4 ≤ y) : recSz b1 x page = recSz b2 x page := by unfold recSz; rw [h.wd (Nat.le_refl _) h2]
theorem Alike.ok {b1 b2 : List UInt8} {x page : Nat} (h : Alike b1 b2 x (x + recSz b1 x page + 4)) (hok : recOk b1 x page = true) (hl : x + recSz b1 x page + 4 ≤ b2.length) : recOk b2 x page = true := by
  have h4 : 4 ≤ recSz b1 x page := by unfold recSz; omega
  have hsz : recSz b1 x page = recSz b2 x page := h.sz (by omega)
  have hw : Ytehpikjhjghplaa.wd b1 x = Ytehpikjhjghplaa.wd b2 x := h.wd (Nat.le_refl _) (by omega)
  unfold recOk at hok ⊢
  rw [Bool.and_eq_true, Bool.and_eq_true] at hok ⊢
  obtain ⟨h1, h2, h3⟩ := hok
  obtain ⟨f1, f2, f3⟩ := fit_of h1
  refine ⟨?_, ?_, ?_⟩
  · unfold fitB
    simp only [Bool.and_eq_true, decide_eq_true_eq]
    rw [← hw, ← hsz]
    omega
  · unfold sumB at h2 ⊢
    rw [decide_eq_true_eq] at h2 ⊢
    rw [← hsz, ← h.cut (Nat.le_refl _) (by omega), h2, h.wd (by omega) (by omega)]
  · have e : recPs b1 x page = recPs b2 x page := by
      unfold recPs
      rw [← hw]
      refine List.map_congr_left (fun i hi => ?_)
      have hi := List.mem_range.1 hi
      have : (i + 1) * (4 + page) ≤ Ytehpikjhjghplaa.wd b1 x * (4 + page) := Nat.mul_le_mul_right _ (by omega)
      rw [Nat.add_mul] at this
      exact h.wd (by omega) (by unfold recSz; omega)
    rw [← e]; exact h3
/-- Changed bytes of the last record. -/
theorem torn_bad {bs : List UInt8} {x page k : Nat} {d : UInt8} (hok : recOk bs x page = true) (h1 : x + 4 ≤ k) (h2 : k < x + recSz bs x page + 4) (hd : ∀ c, bs[k]? = some c → d ≠ c) : recOk ((bs.take (x + recSz bs x page + 4)).set k d) x page = false := by
  obtain ⟨f1, f2, f3⟩ := fit_of (ok_fit hok)
  obtain ⟨z, hz⟩ : ∃ z, z = recSz bs x page := ⟨_, rfl⟩
  have hz4 : 4 ≤ z := by rw [hz]; unfold recSz; omega
  rw [← hz] at h2 f3 ⊢
  obtain ⟨b2, hb2⟩ : ∃ b2, b2 = (bs.take (x + z + 4)).set k d := ⟨_, rfl⟩
  rw [← hb2]
  have hkl : k < bs.length := by omega
  have hdc := hd bs[k] (List.getElem?_eq_getElem hkl)
  have hget : ∀ j, j < x + z + 4 → j ≠ k → b2[j]? = bs[j]? := fun j hj hjk => by
    rw [hb2, List.getElem?_set_ne (fun e => hjk e.symm), List.getElem?_take, if_pos hj]
  have hw : wd b2 x = wd bs x := wd_congr (fun j a b => by unfold bat; rw [List.getD_eq_getElem?_getD, hget j (by omega) (by omega), ← List.getD_eq_getElem?_getD])
  have hsz : recSz b2 x page = z := by rw [hz]; unfold recSz; rw [hw]
  have hs : sumB bs x page = true := by unfold recOk at hok; rw [Bool.and_eq_true, Bool.and_eq_true] at hok; exact hok.2.1
  have hs2 : sumB b2 x page = false := by
    unfold sumB at hs ⊢
    rw [decide_eq_true_eq] at hs
    rw [decide_eq_false_iff_not, hsz]
    rw [← hz] at hs
    by_cases hk : k < x + z
    · have e1 : wd b2 (x + z) = wd bs (x + z) := wd_congr (fun j a b => by unfold bat; rw [List.getD_eq_getElem?_getD, hget j (by omega) (by omega), ← List.getD_eq_getElem?_getD])
      have e2 : (b2.drop x).take z = ((bs.drop x).take z).set (k - x) d := by
        apply List.ext_getElem?
        intro j
        rw [List.getElem?_take, List.getElem?_set, List.getElem?_take, List.length_take, List.length_drop]
        by_cases hj : j < z
        · rw [if_pos hj, if_pos hj, List.getElem?_drop, List.getElem?_drop]
          by_cases hjk : k - x = j
          · rw [if_pos hjk, if_pos (by omega), show x + j = k by omega, hb2, List.getElem?_set_self (by rw [List.length_take]; omega)]
          · rw [if_neg hjk, hget (x + j) (by omega) (by omega)]
        · rw [if_neg hj, if_neg hj]
          split
          · rw [if_neg (by omega)]
          · rfl
      rw [e1, e2, ← hs]
      refine fnv_set (c := bs[k]) ?_ hdc
      rw [List.getElem?_take, if_pos (by omega), List.getElem?_drop, show x + (k - x) = k by omega, List.getElem?_eq_getElem hkl]
    · have e2 : (b2.drop x).take z = (bs.drop x).take z := by
        apply List.ext_getElem?
        intro j
        rw [List.getElem?_take, List.getElem?_take]
        split
        · rw [List.getElem?_drop, List.getElem?_drop, hget (x + j) (by omega) (by omega)]
        · rfl
      rw [e2, hs]
      have hne : bat b2 k ≠ bat bs k := by
        have e3 : bat b2 k = d.toNat := by rw [hb2]; exact bat_set_eq (by rw [List.length_take]; omega)
        have e4 : bat bs k = bs[k].toNat := by unfold bat; rw [List.getD_eq_getElem?_getD, List.getElem?_eq_getElem hkl]; rfl
        rw [e3, e4]
        exact fun e => hdc (UInt8.toNat_inj.1 e)
      have hsame : ∀ j, j < x + z + 4 → j ≠ k → bat b2 j = bat bs j := fun j a b => by unfold bat; rw [List.getD_eq_getElem?_getD, hget j a b, ← List.getD_eq_getElem?_getD]
      unfold wd
      have g0 := bat_lt b2 (x + z)
      have g1 := bat_lt b2 (x + z + 1)
      have g2 := bat_lt b2 (x + z + 2)
      have g3 := bat_lt b2 (x + z + 3)
      have k0 := bat_lt bs (x + z)
      have k1 := bat_lt bs (x + z + 1)
      have k2 := bat_lt bs (x + z + 2)
      have k3 := bat_lt bs (x + z + 3)
      have hcase : k = x + z ∨ k = x + z + 1 ∨ k = x + z + 2 ∨ k = x + z + 3 := by omega
      rcases hcase with rfl | rfl | rfl | rfl
      · have s1 := hsame (x + z + 1) (by omega) (by omega)
        have s2 := hsame (x + z + 2) (by omega) (by omega)
        have s3 := hsame (x + z + 3) (by omega) (by omega)
        omega
      · have s1 := hsame (x + z) (by omega) (by omega)
        have s2 := hsame (x + z + 2) (by omega) (by omega)
        have s3 := hsame (x + z + 3) (by omega) (by omega)
        omega
      · have s1 := hsame (x + z) (by omega) (by omega)
        have s2 := hsame (x + z + 1) (by omega) (by omega)
        have s3 := hsame (x + z + 3) (by omega) (by omega)
        omega
      · have s1 := hsame (x + z) (by omega) (by omega)
        have s2 := hsame (x + z + 1) (by omega) (by omega)
        have s3 := hsame (x + z + 2) (by omega) (by omega)
        omega
  unfold recOk
  rw [hs2]
  simp
/-- The records again, of a list that is alike up to where the last one begins. -/
theorem recs_again {b1 b2 : List UInt8} {page : Nat} : ∀ (f x : Nat) (L : List Rec) (r : Rec) (m : Nat), b1.length < f + x → recsAt b1 page x = (L ++ [r], m) → ∃ from', from' ≤ m ∧ x ≤ from' ∧ recOk b1 from' page = true ∧ m = from' + recSz b1 from' page + 4 ∧ r.fin = m ∧
    (∀ r' L', L = L' ++ [r'] → r'.fin = from') ∧ (L = [] → from' = x) ∧ (Alike b1 b2 0 from' → from' ≤ b2.length → recOk b2 from' page = false → (recsAt b2 page x).1.length = L.length ∧ (recsAt b2 page x).2 = from')
  | 0, x, L, r, m, hf, h => by
    exfalso
    cases hok : recOk b1 x page with
    | true => have := fit_of (ok_fit hok); omega
    | false => rw [recsAt_no hok] at h; injection h with h _; cases L <;> simp at h
  | f + 1, x, L, r, m, hf, h => by
    cases hok : recOk b1 x page with
    | false => rw [recsAt_no hok] at h; injection h with h _; cases L <;> simp at h
    | true =>
      have hft := fit_of (ok_fit hok)
      rw [recsAt_yes hok] at h
      injection h with h1 h2
      cases L with
      | nil =>
        simp only [List.nil_append, List.cons.injEq] at h1
        obtain ⟨h3, h4⟩ := h1
        have hm : m = x + recSz b1 x page + 4 := by
          rw [← h2]
          cases hk : recOk b1 (x + recSz b1 x page + 4) page with
          | true => rw [recsAt_yes hk] at h4; simp at h4
          | false => rw [recsAt_no hk]
        refine ⟨x, by omega, Nat.le_refl _, hok, hm, by rw [← h3, hm]; rfl, fun r' L' e => by cases L' <;> simp at e, fun _ => rfl, fun _ _ hno => ?_⟩
        rw [recsAt_no hno]; exact ⟨rfl, rfl⟩
      | cons l L =>
        simp only [List.cons_append, List.cons.injEq] at h1
        obtain ⟨h3, h4⟩ := h1
        obtain ⟨fr, g1, g2, g3, g4, g5, g6, g7, g8⟩ := recs_again (b1 := b1) (b2 := b2) (page := page) f (x + recSz b1 x page + 4) L r m (by omega) (by rw [← h4, ← h2])
        refine ⟨fr, g1, by omega, g3, g4, g5, ?_, fun e => by simp at e, fun ha hl hno => ?_⟩
        · intro r' L' e
          cases L' with
          | nil =>
            simp only [List.nil_append, List.cons.injEq] at e
            rw [g7 e.2, ← e.1, ← h3]; rfl
          | cons l' L' =>
            simp only [List.cons_append, List.cons.injEq] at e
            exact g6 r' L' e.2
        · have ha2 : Alike b1 b2 x (x + recSz b1 x page + 4) := fun j a b => ha j (by omega) (by omega)
          have h4z : 4 ≤ recSz b1 x page := by unfold recSz; omega
          have hok2 := ha2.ok hok (by omega)
          have hsz : recSz b1 x page = recSz b2 x page := ha2.sz (by omega)
          rw [recsAt_yes hok2, ← hsz]
          have := g8 ha hl hno
          exact ⟨by simp [this.1], this.2⟩

theorem torn_ct {page m : Nat} {bs : List UInt8} {L : List Rec} {r : Rec} (hv : recs bs page = (L ++ [r], m)) (h8 : 8 ≤ page) (hp : page ≤ 256) (hl : bs.length ≤ 1048576) : ∃ fr, (L = [] → fr = 0) ∧ (∀ r' L', L = L' ++ [r'] → r'.fin = fr) ∧ fr + 8 ≤ m ∧ m ≤ bs.length ∧
    ∀ k d, fr + 4 ≤ k → k < m → (∀ c, bs[k]? = some c → d ≠ c) → ctS (page : Int) ((bs.take m).set k d) (fr : Int) (-1) = ((L.length : Int), 0) := by
  have hm := recs_le bs page
  rw [hv] at hm
  simp only at hm
  have key := fun (b2 : List UInt8) => recs_again (b1 := bs) (b2 := b2) (page := page) (bs.length + 1) 0 L r m (by omega) hv
  obtain ⟨fr, g1, _, g3, g4, _, g6, g7, _⟩ := key []
  have h4 : 4 ≤ recSz bs fr page := by unfold recSz; omega
  refine ⟨fr, g7, g6, by omega, hm, fun k d k1 k2 hd => ?_⟩
  obtain ⟨b2, hb2⟩ : ∃ b2, b2 = (bs.take m).set k d := ⟨_, rfl⟩
  obtain ⟨fr', e1, _, e3, e4, _, e6, e7, e8⟩ := key b2
  have hff : fr' = fr := by
    rcases List.eq_nil_or_concat L with hL | ⟨L', r', hL⟩
    · rw [e7 hL, g7 hL]
    · rw [List.concat_eq_append] at hL
      rw [← e6 r' L' hL, ← g6 r' L' hL]
  subst hff
  have hbl : b2.length = m := by rw [hb2, List.length_set, List.length_take]; omega
  have hbad : recOk b2 fr' page = false := by
    have h := torn_bad (d := d) e3 k1 (by omega) hd
    rw [← e4] at h
    rw [hb2]; exact h
  have ha : Alike bs b2 0 fr' := fun j _ hj => by
    rw [hb2, List.getElem?_set_ne (by omega), List.getElem?_take, if_pos (by omega)]
  obtain ⟨q1, q2⟩ := e8 ha (by omega) hbad
  rw [← hb2]
  have hrl : (recs b2 page).1.length = L.length := q1
  have hr2 : (recs b2 page).2 = fr' := q2
  unfold ctS validB preB
  rw [Int.toNat_natCast, hr2, hrl, hbl, if_pos]
  simp only [Bool.and_eq_true, decide_eq_true_eq]
  omega
end Go.Proofs.Ytehpikjhjghplaa
