/- The bridges of a graph: the plain law of all searches, and the reference's list. -/
import Derived.Test.YtihcaemheknjbaaF26
import Derived.Test.YtihcaemheknjbaaF25
import Derived.Test.YtihcaemheknjbaaF23
namespace Go.Proofs.Ytihcaemheknjbaa
open Go.RowKit
theorem Lp.ex {n : Nat} {X : List Ed} {adj : Nat → List Nat} (hA : Adj n X adj) : ∀ (U : Nat) (s : DS), DOk n s → zer s < U → ∀ (is : List Nat) (v : Nat) (th : Int), (∀ i ∈ is, i ∈ adj v) → ∃ s', Lp X adj v th is s s' := by
  intro U
  induction U with
  | zero => intro s _ h; omega
  | succ U ih =>
    intro s hok hz is
    induction is generalizing s with
    | nil => intro v th _; exact ⟨s, .nil⟩
    | cons i is ihi =>
      intro v th hm
      have hm' : ∀ k ∈ is, k ∈ adj v := fun k hk => hm k (List.mem_cons_of_mem _ hk)
      by_cases ht : (i : Int) = th
      · obtain ⟨s', h⟩ := ihi s hok hz v th hm'
        exact ⟨s', .skip ht h⟩
      · by_cases h0 : 0 < s.num.getD (Go.Proofs.Ytihcaemheknjbaa.oth X i v) 0
        · obtain ⟨s', h⟩ := ihi (backD v (Go.Proofs.Ytihcaemheknjbaa.oth X i v) s) hok.back hz v th hm'
          exact ⟨s', .back ht h0 h⟩
        · obtain ⟨_, _, hlt, _⟩ := hA.oth (hm i (by simp))
          have h0' : s.num.getD (Go.Proofs.Ytihcaemheknjbaa.oth X i v) 0 = 0 := by omega
          obtain ⟨g1, g2⟩ := hok.start hlt h0'
          obtain ⟨s2, hL⟩ := ih (startD (Go.Proofs.Ytihcaemheknjbaa.oth X i v) s) g1 (by omega) (adj (Go.Proofs.Ytihcaemheknjbaa.oth X i v)) (Go.Proofs.Ytihcaemheknjbaa.oth X i v) i (fun _ h => h)
          obtain ⟨g3, g4⟩ := hL.ok hA (fun _ h => h) g1
          have e3 : zer (treeD v (Go.Proofs.Ytihcaemheknjbaa.oth X i v) i s2) = zer s2 := by unfold zer; rw [treeD_num]
          obtain ⟨s', hR⟩ := ih (treeD v (Go.Proofs.Ytihcaemheknjbaa.oth X i v) i s2) g3.tree (by omega) is v th hm'
          exact ⟨s', .tree ht h0' hL hR⟩
/-- Between searches: what was met is closed, and its bridges are known. -/
structure RInv (n : Nat) (X : List Ed) (s : DS) : Prop where
  ok : DOk n s
  mt : ∀ y, s.num.getD y 0 ≤ s.met
  cl : ∀ y, vis s y → ∀ j z, En X j y z → vis s z
  nd : s.br.Nodup
  bri : ∀ i ∈ s.br, Bri X i ∧ ∃ a b, En X i a b ∧ vis s a ∧ vis s b
  all : ∀ i, Bri X i → ∀ y z, En X i y z → vis s y → i ∈ s.br
  sz : s.br.length + zer s ≤ n
def D0 (n : Nat) : DS := ⟨List.replicate n 0, List.replicate n 0, 0, []⟩
theorem rep_getD (n y : Nat) : (List.replicate n 0).getD y 0 = 0 := by
  rw [List.getD_eq_getElem?_getD, List.getElem?_replicate]
  split <;> rfl
theorem zer_D0 (n : Nat) : zer (D0 n) = n := by
  show (List.replicate n 0).count 0 = n
  rw [List.count_replicate]; simp
theorem not_vis0 (n y : Nat) : ¬ vis (D0 n) y := by
  show ¬ 0 < (List.replicate n 0).getD y 0
  rw [rep_getD]; omega
theorem RInv.zero (n : Nat) (X : List Ed) : RInv n X (D0 n) where
  ok := ⟨List.length_replicate, List.length_replicate, by rw [zer_D0]; show 0 + n ≤ n; omega⟩
  mt := fun y => by show (List.replicate n 0).getD y 0 ≤ 0; rw [rep_getD]; exact Nat.le_refl _
  cl := fun y h => absurd h (not_vis0 n y)
  nd := List.nodup_nil
  bri := fun i h => by cases h
  all := fun i _ y z _ h => absurd h (not_vis0 n y)
  sz := by rw [zer_D0]; show 0 + n ≤ n; omega
theorem RInv.step {n : Nat} {X : List Ed} {adj : Nat → List Nat} (hA : Adj n X adj) {s s2 : DS} {v : Nat} (P : RInv n X s) (hv : v < n) (h0 : s.num.getD v 0 = 0) (hL : Lp X adj v (-1) (adj v) (startD v s) s2) :
    RInv n X s2 ∧ vis s2 v ∧ ∀ y, vis s y → vis s2 y := by
  have hnv : ¬ vis s v := by unfold vis; omega
  obtain ⟨ok1, z1⟩ := P.ok.start hv h0
  obtain ⟨ok2, _⟩ := hL.ok hA (fun _ h => h) ok1
  have bz := hL.brz hA (fun _ h => h) ok1
  have n1 : ∀ y, (startD v s).num.getD y 0 = if v = y then s.met + 1 else s.num.getD y 0 := fun y => by
    show (s.num.set v _).getD y 0 = _
    rw [set_get]
    by_cases c : v = y
    · rw [if_pos ⟨c, by rw [P.ok.ln]; exact hv⟩, if_pos c]
    · rw [if_neg (fun e => c e.1), if_neg c]
  have l1 : (startD v s).low.getD v 0 = s.met + 1 := by
    show (s.low.set v _).getD v 0 = _
    rw [set_get, if_pos ⟨rfl, by rw [P.ok.ll]; exact hv⟩]
  have v1 : ∀ y, vis (startD v s) y ↔ (y = v ∨ vis s y) := fun y => by
    unfold vis
    rw [n1]
    by_cases c : v = y
    · rw [if_pos c]; constructor
      · intro _; exact .inl c.symm
      · intro _; omega
    · rw [if_neg c]; constructor
      · exact .inr
      · rintro (h | h)
        · exact absurd h.symm c
        · exact h
  have Q := search hA hL (fun y => y = v) ⟨ok1, hv, rfl, fun y hy => by subst hy; exact ⟨(v1 _).2 (.inl rfl), Nat.le_refl _⟩, fun y => by
      rw [n1]; split
      · exact Nat.le_refl _
      · have := P.mt y; show _ ≤ s.met + 1; omega, by rw [l1, n1, if_pos rfl]; exact Nat.le_refl _, fun y hy => by subst hy; exact .refl _, fun y hy hO j z he => (v1 z).2 (.inr (P.cl y (((v1 y).1 hy).resolve_left hO) j z he)), fun k hk _ hy => by
        rcases (v1 _).1 hy with e | hy
        · rw [e]; exact .refl _
        · exact absurd (P.cl _ hy k v (hA.en hk).1.symm) hnv, fun k _ e => by omega, fun _ h => h, hA.nd v, fun i hi => by
        obtain ⟨_, a, b, h1, h2, h3⟩ := P.bri i hi
        exact ⟨a, b, h1, (v1 a).2 (.inr h2), (v1 b).2 (.inr h3)⟩⟩
  have up : ∀ y, vis s y → vis s2 y := fun y hy => Q.vis ((v1 y).2 (.inr hy))
  have upv : vis s2 v := Q.vis ((v1 v).2 (.inl rfl))
  have three : ∀ y, vis s2 y → y = v ∨ vis s y ∨ (vis s2 y ∧ ¬ vis (startD v s) y) := fun y hy => by
    by_cases c : vis (startD v s) y
    · rcases (v1 y).1 c with h | h
      · exact .inl h
      · exact .inr (.inl h)
    · exact .inr (.inr ⟨hy, c⟩)
  obtain ⟨add, ba, bn, bp⟩ := Q.br
  have bs : (startD v s).br = s.br := rfl
  rw [bs] at ba bz
  refine ⟨⟨ok2, Q.mt, fun y hy j z he => ?_, ?_, fun i hi => ?_, fun i hB y z he hy => ?_, by have := P.sz; omega⟩, upv, up⟩
  · rcases three y hy with rfl | h | h
    · have := Q.isv j (hA.mem he).1
      rwa [(hA.mem he).2] at this
    · exact up z (P.cl y h j z he)
    · exact Q.cln y h.1 h.2 j z he
  · rw [ba, List.nodup_append]
    refine ⟨P.nd, bn, fun a ha b hb e => ?_⟩
    subst e
    obtain ⟨_, c, d, e1, g1, g2⟩ := P.bri a ha
    obtain ⟨_, c', d', e2, _, g4⟩ := bp a hb
    rcases e1.ends e2 with ⟨_, rfl⟩ | ⟨rfl, _⟩
    · exact g4.2 ((v1 _).2 (.inr g2))
    · exact g4.2 ((v1 _).2 (.inr g1))
  · rw [ba] at hi
    rcases List.mem_append.1 hi with hi | hi
    · obtain ⟨h1, a, b, h2, h3, h4⟩ := P.bri i hi
      exact ⟨h1, a, b, h2, up a h3, up b h4⟩
    · obtain ⟨h1, a, b, h2, h3, h4⟩ := bp i hi
      refine ⟨h1, a, b, h2, ?_, h4.1⟩
      rcases h3 with rfl | h3
      · exact upv
      · exact h3.1
  · rcases three y hy with rfl | h | h
    · exact Q.B2 i hB (.inl ⟨(hA.mem he).1, by omega⟩)
    · rw [ba]; exact List.mem_append_left _ (P.all i hB y z he h)
    · exact Q.B2 i hB (.inr ⟨y, z, he, h.1, h.2⟩)
/-! The reference's list. -/
def isB (n : Nat) (X : List Ed) (i : Nat) : Bool := match X[i]? with
  | some e => decide ((foldP n (X.take i ++ X.drop (i + 1))).getD e.1 0 ≠ (foldP n (X.take i ++ X.drop (i + 1))).getD e.2 0)
  | none => false
def refB (n : Nat) (X : List Ed) : List Nat := (List.range X.length).filter (isB n X)
theorem without_get (X : List Ed) (i k : Nat) (hi : i < X.length) : (X.take i ++ X.drop (i + 1))[k]? = if k < i then X[k]? else X[k + 1]? := by
  rw [List.getElem?_append, List.length_take, Nat.min_eq_left (by omega)]
  split
  · rw [List.getElem?_take, if_pos (by assumption)]
  · rw [List.getElem?_drop]; congr 1; omega
theorem cx_cn {X : List Ed} {i : Nat} (hi : i < X.length) {a b : Nat} : Cx X (fun j => j ≠ i) a b ↔ Cn (X.take i ++ X.drop (i + 1)) a b := by
  constructor
  · intro c
    induction c with
    | refl v => exact .refl v
    | @edge j e he hj =>
      refine .edge ?_
      refine List.mem_of_getElem? (i := if j < i then j else j - 1) ?_
      rw [without_get X i _ hi]
      by_cases c : j < i
      · rw [if_pos c, if_pos c]; exact he
      · rw [if_neg c, if_neg (by omega), show j - 1 + 1 = j from by omega]; exact he
    | symm _ ih => exact ih.symm
    | trans _ _ p q => exact p.trans q
  · intro c
    induction c with
    | refl v => exact .refl v
    | @edge e he =>
      obtain ⟨k, hk⟩ := List.getElem?_of_mem he
      rw [without_get X i _ hi] at hk
      by_cases c : k < i
      · rw [if_pos c] at hk; exact .edge hk (by omega)
      · rw [if_neg c] at hk; exact .edge hk (by omega)
    | symm _ ih => exact ih.symm
    | trans _ _ p q => exact p.trans q
theorem without_lt {n : Nat} {X : List Ed} (h : ∀ e ∈ X, e.1 < n ∧ e.2 < n) (i : Nat) : ∀ e ∈ X.take i ++ X.drop (i + 1), e.1 < n ∧ e.2 < n := fun e he => by
  rcases List.mem_append.1 he with he | he
  · exact h e (List.mem_of_mem_take he)
  · exact h e (List.mem_of_mem_drop he)
theorem isB_bri {n : Nat} {X : List Ed} (h : ∀ e ∈ X, e.1 < n ∧ e.2 < n) {i : Nat} (hi : i < X.length) : isB n X i = true ↔ Bri X i := by
  have hX : X[i]? = some X[i] := List.getElem?_eq_getElem hi
  have hl := h _ (List.mem_of_getElem? hX)
  unfold isB
  rw [hX]
  dsimp only
  rw [decide_eq_true_iff, Ne, (foldP_spec n _ (without_lt h i)).2 _ _ hl.1 hl.2, ← cx_cn hi]
  constructor
  · intro hn
    exact ⟨_, _, ⟨_, hX, .inl ⟨rfl, rfl⟩⟩, hn⟩
  · rintro ⟨a, b, he, hn⟩ c
    exact not_bri ⟨_, hX, .inl ⟨rfl, rfl⟩⟩ c ⟨a, b, he, hn⟩
theorem RInv.fin {n : Nat} {X : List Ed} {s : DS} (P : RInv n X s) (hX : ∀ e ∈ X, e.1 < n ∧ e.2 < n) (hv : ∀ v, v < n → vis s v) (i : Nat) : i ∈ s.br ↔ i ∈ refB n X := by
  unfold refB
  rw [List.mem_filter, List.mem_range]
  constructor
  · intro h
    have hB := (P.bri i h).1
    obtain ⟨_, _, ⟨e, he, _⟩, _⟩ := hB
    have hi : i < X.length := (List.getElem?_eq_some_iff.1 he).1
    exact ⟨hi, (isB_bri hX hi).2 (P.bri i h).1⟩
  · rintro ⟨hi, h⟩
    have hB := (isB_bri hX hi).1 h
    obtain ⟨a, b, he, hn⟩ := hB
    have hE := he
    obtain ⟨e, hx, hd⟩ := he
    have hl := hX e (List.mem_of_getElem? hx)
    exact P.all i ⟨a, b, hE, hn⟩ a b hE (hv a (by omega))
/-- Sorted, what was found is the reference's list. -/
theorem sorted_uniq : ∀ (l m : List Nat), l.Pairwise (· < ·) → m.Pairwise (· < ·) → (∀ i, i ∈ l ↔ i ∈ m) → l = m := by
  intro l
  induction l with
  | nil =>
    intro m _ _ h
    cases m with
    | nil => rfl
    | cons y m => exact absurd ((h y).2 (by simp)) (by simp)
  | cons x l ih =>
    intro m hl hm h
    cases m with
    | nil => exact absurd ((h x).1 (by simp)) (by simp)
    | cons y m =>
      rw [List.pairwise_cons] at hl hm
      have e : x = y := by
        have h1 := (h x).1 (by simp)
        have h2 := (h y).2 (by simp)
        rcases List.mem_cons.1 h1 with h1 | h1
        · exact h1
        · rcases List.mem_cons.1 h2 with h2 | h2
          · exact h2.symm
          · have := hm.1 x h1; have := hl.1 y h2; omega
      subst e
      rw [ih m hl.2 hm.2 (fun i => ⟨fun hi => ?_, fun hi => ?_⟩)]
      · rcases List.mem_cons.1 ((h i).1 (List.mem_cons_of_mem _ hi)) with rfl | hh
        · have := hl.1 i hi; omega
        · exact hh
      · rcases List.mem_cons.1 ((h i).2 (List.mem_cons_of_mem _ hi)) with rfl | hh
        · have := hm.1 i hi; omega
        · exact hh
theorem refB_sorted (n : Nat) (X : List Ed) : (refB n X).Pairwise (· < ·) := List.Pairwise.filter _ List.pairwise_lt_range
theorem refB_len (n : Nat) (X : List Ed) : (refB n X).length ≤ X.length := by
  have := List.length_filter_le (isB n X) (List.range X.length)
  rw [List.length_range] at this; exact this
end Go.Proofs.Ytihcaemheknjbaa
