/- The search for bridges: the plain law. -/
import Derived.Test.YtihcaemheknjbaaF24
namespace Go.Proofs.Ytihcaemheknjbaa
open Go.RowKit
/-- Connected by the edges of which P holds. -/
inductive Cx (X : List Ed) (P : Nat → Prop) : Nat → Nat → Prop
  | refl (v : Nat) : Cx X P v v
  | edge {j : Nat} {e : Ed} : X[j]? = some e → P j → Cx X P e.1 e.2
  | symm {v w : Nat} : Cx X P v w → Cx X P w v
  | trans {v w u : Nat} : Cx X P v w → Cx X P w u → Cx X P v u
theorem Cx.mono {X : List Ed} {P Q : Nat → Prop} (h : ∀ j, P j → Q j) {v w : Nat} (c : Cx X P v w) : Cx X Q v w := by
  induction c with
  | refl v => exact .refl v
  | edge he hp => exact .edge he (h _ hp)
  | symm _ ih => exact ih.symm
  | trans _ _ i1 i2 => exact i1.trans i2
/-- The edge has these ends. -/
def En (X : List Ed) (j a b : Nat) : Prop := ∃ e, X[j]? = some e ∧ ((e.1 = a ∧ e.2 = b) ∨ (e.1 = b ∧ e.2 = a))
theorem En.symm {X : List Ed} {j a b : Nat} (h : En X j a b) : En X j b a := by obtain ⟨e, he, h⟩ := h; exact ⟨e, he, h.symm⟩
theorem En.cx {X : List Ed} {P : Nat → Prop} {j a b : Nat} (h : En X j a b) (hP : P j) : Cx X P a b := by
  obtain ⟨e, he, h⟩ := h
  have := Cx.edge he hP
  rcases h with ⟨rfl, rfl⟩ | ⟨rfl, rfl⟩
  · exact this
  · exact this.symm
theorem En.ends {X : List Ed} {j a b c d : Nat} (h : En X j a b) (h' : En X j c d) : (a = c ∧ b = d) ∨ (a = d ∧ b = c) := by
  obtain ⟨e, he, h⟩ := h
  obtain ⟨e', he', h'⟩ := h'
  rw [he] at he'; injection he' with he'; subst he'
  omega
/-- The edge lies within S. -/
def inS (X : List Ed) (S : Nat → Prop) (j : Nat) : Prop := ∀ a b, En X j a b → S a ∧ S b
theorem inS_mono {X : List Ed} {S T : Nat → Prop} (h : ∀ a, S a → T a) {j : Nat} (hj : inS X S j) : inS X T j := fun a b he => ⟨h a (hj a b he).1, h b (hj a b he).2⟩
/-- A bridge. -/
def Bri (X : List Ed) (i : Nat) : Prop := ∃ a b, En X i a b ∧ ¬ Cx X (fun j => j ≠ i) a b
theorem not_bri {X : List Ed} {i a b : Nat} (h : En X i a b) (c : Cx X (fun j => j ≠ i) a b) : ¬ Bri X i := by
  rintro ⟨a', b', h', hn⟩
  rcases h'.ends h with ⟨rfl, rfl⟩ | ⟨rfl, rfl⟩
  · exact hn c
  · exact hn c.symm
def vis (s : DS) (v : Nat) : Prop := 0 < s.num.getD v 0
structure Pre (n : Nat) (X : List Ed) (adj : Nat → List Nat) (O : Nat → Prop) (v : Nat) (th : Int) (is : List Nat) (s : DS) : Prop where
  ok : DOk n s
  vn : v < n
  vO : O v
  Ov : ∀ y, O y → vis s y ∧ s.num.getD y 0 ≤ s.num.getD v 0
  mt : ∀ y, s.num.getD y 0 ≤ s.met
  lw : s.low.getD v 0 ≤ s.num.getD v 0
  con : ∀ y, O y → Cx X (inS X (vis s)) y v
  cl : ∀ y, vis s y → ¬ O y → ∀ j z, En X j y z → vis s z
  q : ∀ i ∈ is, (i : Int) ≠ th → vis s (oth X i v) → Cx X (fun j => j ≠ i) (oth X i v) v
  pv : ∀ i ∈ is, (i : Int) = th → vis s (oth X i v)
  sub : ∀ i ∈ is, i ∈ adj v
  nd : is.Nodup
  bri : ∀ i ∈ s.br, ∃ a b, En X i a b ∧ vis s a ∧ vis s b
structure Post (X : List Ed) (v : Nat) (th : Int) (is : List Nat) (s s' : DS) : Prop where
  mono : ∀ y, vis s y → s'.num.getD y 0 = s.num.getD y 0
  mt : ∀ y, s'.num.getD y 0 ≤ s'.met
  mm : s.met ≤ s'.met
  nw : ∀ y, vis s' y → ¬ vis s y → s.met < s'.num.getD y 0
  lowo : ∀ y, vis s y → y ≠ v → s'.low.getD y 0 = s.low.getD y 0
  cln : ∀ y, vis s' y → ¬ vis s y → ∀ j z, En X j y z → vis s' z
  isv : ∀ i ∈ is, vis s' (oth X i v)
  cn : ∀ y, vis s' y → ¬ vis s y → Cx X (inS X (fun z => z = v ∨ (vis s' z ∧ ¬ vis s z))) y v
  lle : s'.low.getD v 0 ≤ s.low.getD v 0
  L1a : ∀ i ∈ is, (i : Int) ≠ th → vis s (oth X i v) → s'.low.getD v 0 ≤ s.num.getD (oth X i v) 0
  L1b : ∀ y, vis s' y → ¬ vis s y → ∀ j z, En X j y z → vis s z → s'.low.getD v 0 ≤ s.num.getD z 0
  L2 : s'.low.getD v 0 < s.low.getD v 0 → ∃ j y z, En X j y z ∧ vis s z ∧ s.num.getD z 0 ≤ s'.low.getD v 0 ∧ ((y = v ∧ j ∈ is ∧ (j : Int) ≠ th) ∨ (vis s' y ∧ ¬ vis s y))
  br : ∃ add, s'.br = s.br ++ add ∧ add.Nodup ∧ ∀ i ∈ add, Bri X i ∧ ∃ a b, En X i a b ∧ (a = v ∨ (vis s' a ∧ ¬ vis s a)) ∧ (vis s' b ∧ ¬ vis s b)
  B2 : ∀ i, Bri X i → ((i ∈ is ∧ (i : Int) ≠ th) ∨ ∃ y z, En X i y z ∧ vis s' y ∧ ¬ vis s y) → i ∈ s'.br
theorem Post.vis {X : List Ed} {v : Nat} {th : Int} {is : List Nat} {s s' : DS} (h : Post X v th is s s') {y : Nat} (hy : Go.Proofs.Ytihcaemheknjbaa.vis s y) : Go.Proofs.Ytihcaemheknjbaa.vis s' y := by
  unfold Go.Proofs.Ytihcaemheknjbaa.vis at hy ⊢
  rw [h.mono y hy]; exact hy
theorem Adj.en {n : Nat} {X : List Ed} {adj : Nat → List Nat} (h : Adj n X adj) {v i : Nat} (hi : i ∈ adj v) : En X i v (Go.Proofs.Ytihcaemheknjbaa.oth X i v) ∧ Go.Proofs.Ytihcaemheknjbaa.oth X i v < n := by
  obtain ⟨e, he, hl, hd, _⟩ := h.oth hi
  exact ⟨⟨e, he, by omega⟩, hl⟩
theorem Adj.mem {n : Nat} {X : List Ed} {adj : Nat → List Nat} (h : Adj n X adj) {i a b : Nat} (he : En X i a b) : i ∈ adj a ∧ Go.Proofs.Ytihcaemheknjbaa.oth X i a = b := by
  obtain ⟨e, he, hd⟩ := he
  have h1 := h.all i e he
  have hm : i ∈ adj a := by
    rcases hd with ⟨rfl, _⟩ | ⟨_, rfl⟩
    · exact h1.1
    · exact h1.2
  refine ⟨hm, ?_⟩
  unfold Go.Proofs.Ytihcaemheknjbaa.oth
  rw [he]
  dsimp only
  omega
theorem set_get {l : List Nat} {i j x : Nat} : (l.set i x).getD j 0 = if i = j ∧ i < l.length then x else l.getD j 0 := by
  rw [List.getD_eq_getElem?_getD, List.getD_eq_getElem?_getD, List.getElem?_set]
  by_cases c : i = j
  · subst c
    by_cases h : i < l.length
    · simp [h]
    · simp [h]
  · simp [c]
theorem search {n : Nat} {X : List Ed} {adj : Nat → List Nat} (hA : Adj n X adj) {v : Nat} {th : Int} {is : List Nat} {s s' : DS} (h : Lp X adj v th is s s') : ∀ O, Pre n X adj O v th is s → Post X v th is s s' := by
  induction h with
  | @nil v th s =>
    intro O P
    refine ⟨fun _ _ => rfl, P.mt, Nat.le_refl _, fun y h1 h2 => absurd h1 h2, fun _ _ _ => rfl, fun y h1 h2 => absurd h1 h2, fun i hi => ?_, fun y h1 h2 => absurd h1 h2, Nat.le_refl _, fun i hi => ?_, fun y h1 h2 => absurd h1 h2, fun h => ?_, ⟨[], ?_, List.nodup_nil, fun i hi => ?_⟩, fun i _ h => ?_⟩
    · cases hi
    · cases hi
    · omega
    · simp
    · cases hi
    · rcases h with ⟨h, _⟩ | ⟨y, z, _, h1, h2⟩
      · cases h
      · exact absurd h1 h2
  | @skip v i th is s s' hi _ ih =>
    intro O P
    have Q := ih O { P with q := fun k hk => P.q k (List.mem_cons_of_mem _ hk), pv := fun k hk => P.pv k (List.mem_cons_of_mem _ hk), sub := fun k hk => P.sub k (List.mem_cons_of_mem _ hk), nd := (List.nodup_cons.1 P.nd).2 }
    refine { Q with isv := fun k hk => ?_, L1a := fun k hk h1 h2 => ?_, L2 := fun h => ?_, B2 := fun k hB h => ?_ }
    · rcases List.mem_cons.1 hk with rfl | hk
      · exact Q.vis (P.pv k (by simp) hi)
      · exact Q.isv k hk
    · rcases List.mem_cons.1 hk with rfl | hk
      · exact absurd hi h1
      · exact Q.L1a k hk h1 h2
    · obtain ⟨j, y, z, h1, h2, h3, h4⟩ := Q.L2 h
      exact ⟨j, y, z, h1, h2, h3, h4.imp (fun h => ⟨h.1, List.mem_cons_of_mem _ h.2.1, h.2.2⟩) id⟩
    · refine Q.B2 k hB (h.imp (fun h => ?_) id)
      rcases List.mem_cons.1 h.1 with rfl | hk
      · exact absurd hi h.2
      · exact ⟨hk, h.2⟩
  | @back v i th is s s' hi hv _ ih =>
    intro O P
    have eV : ∀ y, vis (backD v (oth X i v) s) y ↔ vis s y := fun y => Iff.rfl
    have lowv : (backD v (oth X i v) s).low.getD v 0 = min (s.low.getD v 0) (s.num.getD (oth X i v) 0) := by
      show (s.low.set v _).getD v 0 = _
      rw [set_get, if_pos ⟨rfl, by rw [P.ok.ll]; exact P.vn⟩]
    have lowy : ∀ y, y ≠ v → (backD v (oth X i v) s).low.getD y 0 = s.low.getD y 0 := fun y hy => by
      show (s.low.set v _).getD y 0 = _
      rw [set_get, if_neg (fun e => hy e.1.symm)]
    have Q := ih O ⟨P.ok.back, P.vn, P.vO, P.Ov, P.mt, by rw [lowv]; have := P.lw; show _ ≤ s.num.getD v 0; omega, P.con, P.cl, fun k hk => P.q k (List.mem_cons_of_mem _ hk), fun k hk => P.pv k (List.mem_cons_of_mem _ hk), fun k hk => P.sub k (List.mem_cons_of_mem _ hk), (List.nodup_cons.1 P.nd).2, P.bri⟩
    have hle := Q.lle
    rw [lowv] at hle
    refine ⟨Q.mono, Q.mt, Q.mm, Q.nw, fun y h1 h2 => (Q.lowo y h1 h2).trans (lowy y h2), Q.cln, fun k hk => ?_, Q.cn, by omega, fun k hk h1 h2 => ?_, Q.L1b, fun h => ?_, Q.br, fun k hB h => ?_⟩
    · rcases List.mem_cons.1 hk with rfl | hk
      · exact Q.vis hv
      · exact Q.isv k hk
    · rcases List.mem_cons.1 hk with rfl | hk
      · omega
      · exact Q.L1a k hk h1 h2
    · by_cases c : s'.low.getD v 0 < (backD v (oth X i v) s).low.getD v 0
      · obtain ⟨j, y, z, h1, h2, h3, h4⟩ := Q.L2 c
        exact ⟨j, y, z, h1, h2, h3, h4.imp (fun h => ⟨h.1, List.mem_cons_of_mem _ h.2.1, h.2.2⟩) id⟩
      · rw [lowv] at c
        exact ⟨i, v, oth X i v, (hA.en (P.sub i (by simp))).1, hv, by omega, .inl ⟨rfl, by simp, hi⟩⟩
    · refine Q.B2 k hB ?_
      rcases h with ⟨hk, hkt⟩ | h
      · rcases List.mem_cons.1 hk with rfl | hk
        · exact absurd hB (not_bri (hA.en (P.sub k (by simp))).1 (P.q k (by simp) hi hv).symm)
        · exact .inl ⟨hk, hkt⟩
      · exact .inr h
  | @tree v i th is s s2 s' hi h0 hL1 _ ih1 ih2 =>
    intro O P
    have hiv := P.sub i (by simp)
    obtain ⟨eu, hun⟩ := hA.en hiv
    generalize hu : oth X i v = u at *
    have hnu : ¬ vis s u := by unfold vis; omega
    have hvv := (P.Ov v P.vO).1
    have huv : u ≠ v := fun e => hnu (e ▸ hvv)
    obtain ⟨ok1, _⟩ := P.ok.start hun h0
    obtain ⟨ok2, _⟩ := hL1.ok hA (fun _ h => h) ok1
    have n1 : ∀ y, (startD u s).num.getD y 0 = if u = y then s.met + 1 else s.num.getD y 0 := fun y => by
      show (s.num.set u _).getD y 0 = _
      rw [set_get]
      by_cases c : u = y
      · rw [if_pos ⟨c, by rw [P.ok.ln]; exact hun⟩, if_pos c]
      · rw [if_neg (fun e => c e.1), if_neg c]
    have l1 : ∀ y, (startD u s).low.getD y 0 = if u = y then s.met + 1 else s.low.getD y 0 := fun y => by
      show (s.low.set u _).getD y 0 = _
      rw [set_get]
      by_cases c : u = y
      · rw [if_pos ⟨c, by rw [P.ok.ll]; exact hun⟩, if_pos c]
      · rw [if_neg (fun e => c e.1), if_neg c]
    have v1 : ∀ y, vis (startD u s) y ↔ (y = u ∨ vis s y) := fun y => by
      unfold vis
      rw [n1]
      by_cases c : u = y
      · rw [if_pos c]; constructor
        · intro _; exact .inl c.symm
        · intro _; omega
      · rw [if_neg c]; constructor
        · exact .inr
        · rintro (h | h)
          · exact absurd h.symm c
          · exact h
    have n1o : ∀ y, vis s y → (startD u s).num.getD y 0 = s.num.getD y 0 := fun y hy => by rw [n1, if_neg (show ¬ u = y from fun e => hnu (e ▸ hy))]
    have n1u : (startD u s).num.getD u 0 = s.met + 1 := by rw [n1, if_pos rfl]
    have l1u : (startD u s).low.getD u 0 = s.met + 1 := by rw [l1, if_pos rfl]
    have toO : ∀ {j y z : Nat}, En X j y z → ¬ vis s y → vis s z → O z := fun {j y z} he hy hz => Classical.byContradiction fun hO => hy (P.cl z hz hO j y he.symm)
    -- the visit of u
    have Q1 : Post X u (i : Int) (adj u) (startD u s) s2 := by
      refine ih1 (fun y => O y ∨ y = u) ⟨ok1, hun, .inr rfl, fun y hy => ?_, fun y => ?_, ?_, fun y hy => ?_, fun y hy hO j z he => ?_, fun k hk hki hy => ?_, fun k hk hki => ?_, fun k hk => hk, hA.nd u, fun k hk => ?_⟩
      · rcases hy with hy | rfl
        · refine ⟨(v1 y).2 (.inr (P.Ov y hy).1), ?_⟩
          rw [n1o y (P.Ov y hy).1, n1u]
          have := P.mt y; omega
        · exact ⟨(v1 y).2 (.inl rfl), Nat.le_refl _⟩
      · rw [n1]; split
        · exact Nat.le_refl _
        · have := P.mt y; show _ ≤ s.met + 1; omega
      · rw [l1u, n1u]; exact Nat.le_refl _
      · rcases hy with hy | rfl
        · exact ((P.con y hy).mono (fun j hj => inS_mono (fun a ha => (v1 a).2 (.inr ha)) hj)).trans (eu.cx (fun a b he => by
            rcases he.ends eu with ⟨rfl, rfl⟩ | ⟨rfl, rfl⟩
            · exact ⟨(v1 _).2 (.inr hvv), (v1 _).2 (.inl rfl)⟩
            · exact ⟨(v1 _).2 (.inl rfl), (v1 _).2 (.inr hvv)⟩))
        · exact .refl _
      · have hy2 : vis s y := ((v1 y).1 hy).resolve_left (fun e => hO (.inr e))
        exact (v1 z).2 (.inr (P.cl y hy2 (fun h => hO (.inl h)) j z he))
      · obtain ⟨ek, _⟩ := hA.en hk
        rcases (v1 _).1 hy with e | hy
        · rw [e]; exact .refl _
        · have hO := toO ek hnu hy
          have hki' : k ≠ i := fun e => hki (by rw [e])
          refine ((P.con _ hO).mono (fun j hj e => ?_)).trans (eu.cx (fun e => hki' e.symm))
          subst e
          exact hnu (hj _ _ ek).1
      · have e : k = i := by omega
        subst e
        rw [(hA.mem eu.symm).2]
        exact (v1 v).2 (.inr hvv)
      · obtain ⟨a, b, h1, h2, h3⟩ := P.bri k hk
        exact ⟨a, b, h1, (v1 a).2 (.inr h2), (v1 b).2 (.inr h3)⟩
    have v2 : ∀ {y}, vis s y → vis s2 y := fun hy => Q1.vis ((v1 _).2 (.inr hy))
    have v2u : vis s2 u := Q1.vis ((v1 u).2 (.inl rfl))
    have n2 : ∀ y, vis s y → s2.num.getD y 0 = s.num.getD y 0 := fun y hy => (Q1.mono y ((v1 y).2 (.inr hy))).trans (n1o y hy)
    have n2u : s2.num.getD u 0 = s.met + 1 := (Q1.mono u ((v1 u).2 (.inl rfl))).trans n1u
    have newN : ∀ y, vis s2 y → ¬ vis s y → y = u ∨ (vis s2 y ∧ ¬ vis (startD u s) y) := fun y h1 h2 => by
      by_cases c : y = u
      · exact .inl c
      · exact .inr ⟨h1, fun h => ((v1 y).1 h).elim c h2⟩
    have notN : ∀ y, vis s2 y ∧ ¬ vis (startD u s) y → ¬ vis s y := fun y h hs => h.2 ((v1 y).2 (.inr hs))
    -- all that is new by now is closed
    have clN : ∀ y, vis s2 y → ¬ vis s y → ∀ j z, En X j y z → vis s2 z := fun y h1 h2 j z he => by
      rcases newN y h1 h2 with rfl | h
      · have := Q1.isv j (hA.mem he).1
        rwa [(hA.mem he).2] at this
      · exact Q1.cln y h.1 h.2 j z he
    have cnN : ∀ y, vis s2 y → ¬ vis s y → Cx X (inS X (fun z => vis s2 z ∧ ¬ vis s z)) y u := fun y h1 h2 => by
      rcases newN y h1 h2 with rfl | h
      · exact .refl _
      · refine (Q1.cn y h.1 h.2).mono (fun j hj => inS_mono (fun a ha => ?_) hj)
        rcases ha with rfl | ha
        · exact ⟨v2u, hnu⟩
        · exact ⟨ha.1, notN a ha⟩
    have lo2v : s2.low.getD v 0 = s.low.getD v 0 := (Q1.lowo v ((v1 v).2 (.inr hvv)) (Ne.symm huv)).trans (by rw [l1, if_neg huv])
    have lo2y : ∀ y, vis s y → s2.low.getD y 0 = s.low.getD y 0 := fun y hy => (Q1.lowo y ((v1 y).2 (.inr hy)) (show y ≠ u from fun e => hnu (e ▸ hy))).trans (by rw [l1, if_neg (show ¬ u = y from fun e => hnu (e ▸ hy))])
    -- an edge from the new ones back, other than i, has a number not less than low u
    have backN : ∀ y, vis s2 y → ¬ vis s y → ∀ j z, En X j y z → vis s z → j ≠ i → s2.low.getD u 0 ≤ s.num.getD z 0 := fun y h1 h2 j z he hz hji => by
      rw [← n1o z hz]
      rcases newN y h1 h2 with rfl | h
      · have hm := hA.mem he
        have := Q1.L1a j hm.1 (fun e => hji (by omega)) (by rw [hm.2]; exact (v1 z).2 (.inr hz))
        rwa [hm.2] at this
      · exact Q1.L1b y h.1 h.2 j z he ((v1 z).2 (.inr hz))
    have offN : ∀ {j}, inS X (fun z => vis s2 z ∧ ¬ vis s z) j → ∀ z, En X j v z → False := fun {j} hj z he => (hj v z he).1.2 hvv
    have neI : ∀ {j}, inS X (fun z => vis s2 z ∧ ¬ vis s z) j → j ≠ i := fun {j} hj e => by subst e; exact offN hj _ eu
    -- is i a bridge?
    have hBy : s.num.getD v 0 < s2.low.getD u 0 → Bri X i := fun hlt => by
      refine ⟨v, u, eu, fun c => ?_⟩
      have key : ∀ {a b}, Cx X (fun j => j ≠ i) a b → ((vis s2 a ∧ ¬ vis s a) ↔ (vis s2 b ∧ ¬ vis s b)) := by
        have one : ∀ {j y z}, j ≠ i → En X j y z → (vis s2 y ∧ ¬ vis s y) → (vis s2 z ∧ ¬ vis s z) := fun {j y z} hj he hy => by
          refine ⟨clN y hy.1 hy.2 j z he, fun hz => ?_⟩
          have h1 := backN y hy.1 hy.2 j z he hz hj
          have h2 := (P.Ov z (toO he hy.2 hz)).2
          omega
        intro a b c
        induction c with
        | refl _ => exact Iff.rfl
        | @edge j e he hj =>
          have e1 : En X j e.1 e.2 := ⟨e, he, .inl ⟨rfl, rfl⟩⟩
          exact ⟨one hj e1, one hj e1.symm⟩
        | symm _ ih => exact ih.symm
        | trans _ _ a b => exact a.trans b
      exact ((key c).2 ⟨v2u, hnu⟩).2 hvv
    have hNb : s2.low.getD u 0 ≤ s.num.getD v 0 → ¬ Bri X i := fun hle => by
      have hmv := P.mt v
      obtain ⟨j, y, z, he, hz, hzn, hd⟩ := Q1.L2 (by rw [l1u]; omega)
      have hzs : vis s z := ((v1 z).1 hz).resolve_left (fun e => by subst e; rw [n1u] at hzn; omega)
      have hy : (vis s2 y ∧ ¬ vis s y) ∧ j ≠ i := by
        rcases hd with ⟨rfl, _, h⟩ | h
        · exact ⟨⟨v2u, hnu⟩, fun e => h (by rw [e])⟩
        · refine ⟨⟨h.1, notN y h⟩, fun e => ?_⟩
          subst e
          rcases he.ends eu with ⟨h1, _⟩ | ⟨h1, _⟩
          · exact notN y h (h1 ▸ hvv)
          · exact h.2 ((v1 y).2 (.inl h1))
      have hO := toO he hy.1.2 hzs
      refine not_bri eu.symm ?_
      refine (((cnN y hy.1.1 hy.1.2).mono (fun j hj => neI hj)).symm.trans (he.cx hy.2)).trans ((P.con z hO).mono (fun k hk e => ?_))
      subst e
      exact hnu (hk _ _ eu).2
    -- the state behind the visit
    have n3 : (treeD v u i s2).num = s2.num := treeD_num _ _ _ _
    have m3 : (treeD v u i s2).met = s2.met := by unfold treeD; split <;> rfl
    have lw3 : (treeD v u i s2).low = s2.low.set v (min (s2.low.getD v 0) (s2.low.getD u 0)) := by unfold treeD; split <;> rfl
    have lv3 : (treeD v u i s2).low.getD v 0 = min (s.low.getD v 0) (s2.low.getD u 0) := by
      rw [lw3, set_get, if_pos ⟨rfl, by rw [ok2.ll]; exact P.vn⟩, lo2v]
    have ly3 : ∀ y, y ≠ v → (treeD v u i s2).low.getD y 0 = s2.low.getD y 0 := fun y hy => by rw [lw3, set_get, if_neg (fun e => hy e.1.symm)]
    have v3 : ∀ y, vis (treeD v u i s2) y ↔ vis s2 y := fun y => by unfold vis; rw [n3]
    have b3 : (treeD v u i s2).br = if s.num.getD v 0 < s2.low.getD u 0 then s2.br ++ [i] else s2.br := by
      unfold treeD
      have e1 : (lowD v u s2).num.getD v 0 = s.num.getD v 0 := n2 v hvv
      have e2 : (lowD v u s2).low.getD u 0 = s2.low.getD u 0 := by
        show (s2.low.set v _).getD u 0 = _
        rw [set_get, if_neg (fun e => huv e.1.symm)]
      rw [e1, e2]
      split <;> rfl
    obtain ⟨add1, ba1, bn1, bp1⟩ := Q1.br
    have bs1 : (startD u s).br = s.br := rfl
    rw [bs1] at ba1
    have Q2 := ih2 O ⟨ok2.tree, P.vn, P.vO, fun y hy => ⟨(v3 y).2 (v2 (P.Ov y hy).1), by rw [n3, n2 y (P.Ov y hy).1, n2 v hvv]; exact (P.Ov y hy).2⟩, fun y => by rw [n3, m3]; exact Q1.mt y, by rw [lv3, n3, n2 v hvv]; have := P.lw; omega,
      fun y hy => (P.con y hy).mono (fun j hj => inS_mono (fun a ha => (v3 a).2 (v2 ha)) hj), fun y hy hO j z he => ?_, fun k hk hkt hy => ?_, fun k hk hkt => (v3 _).2 (v2 (P.pv k (List.mem_cons_of_mem _ hk) hkt)), fun k hk => P.sub k (List.mem_cons_of_mem _ hk), (List.nodup_cons.1 P.nd).2, fun k hk => ?_⟩
    rotate_left
    · rw [v3] at hy ⊢
      by_cases c : vis s y
      · exact v2 (P.cl y c hO j z he)
      · exact clN y hy c j z he
    · rw [v3] at hy
      have hki : k ≠ i := fun e => (List.nodup_cons.1 P.nd).1 (e ▸ hk)
      by_cases c : vis s (oth X k v)
      · exact P.q k (List.mem_cons_of_mem _ hk) hkt c
      · obtain ⟨ek, _⟩ := hA.en (P.sub k (List.mem_cons_of_mem _ hk))
        refine ((cnN _ hy c).mono (fun j hj e => ?_)).trans (eu.symm.cx (fun e => hki e.symm))
        subst e
        exact offN hj _ ek
    · rw [b3] at hk
      have hb2 : ∀ k ∈ s2.br, ∃ a b, En X k a b ∧ vis s2 a ∧ vis s2 b := fun k hk => by
        rw [ba1] at hk
        rcases List.mem_append.1 hk with hk | hk
        · obtain ⟨a, b, h1, h2, h3⟩ := P.bri k hk
          exact ⟨a, b, h1, v2 h2, v2 h3⟩
        · obtain ⟨_, a, b, h1, h2, h3⟩ := bp1 k hk
          refine ⟨a, b, h1, ?_, h3.1⟩
          rcases h2 with rfl | h2
          · exact v2u
          · exact h2.1
      have hall : ∃ a b, En X k a b ∧ vis s2 a ∧ vis s2 b := by
        split at hk
        · rcases List.mem_append.1 hk with hk | hk
          · exact hb2 k hk
          · rw [List.mem_singleton] at hk; subst hk
            exact ⟨v, u, eu, v2 hvv, v2u⟩
        · exact hb2 k hk
      obtain ⟨a, b, h1, h2, h3⟩ := hall
      exact ⟨a, b, h1, (v3 a).2 h2, (v3 b).2 h3⟩
    have vv : ∀ {y}, vis s y → vis s' y := fun hy => Q2.vis ((v3 _).2 (v2 hy))
    have vv2 : ∀ {y}, vis s2 y → vis s' y := fun hy => Q2.vis ((v3 _).2 hy)
    have n3o : ∀ y, vis s y → (treeD v u i s2).num.getD y 0 = s.num.getD y 0 := fun y hy => by rw [n3, n2 y hy]
    have split2 : ∀ y, vis s' y → ¬ vis s y → (vis s2 y) ∨ (vis s' y ∧ ¬ vis (treeD v u i s2) y) := fun y h1 h2 => by
      by_cases c : vis s2 y
      · exact .inl c
      · exact .inr ⟨h1, fun h => c ((v3 y).1 h)⟩
    have un2 : ∀ y, vis s' y ∧ ¬ vis (treeD v u i s2) y → ¬ vis s y := fun y h hs => h.2 ((v3 y).2 (v2 hs))
    have mm12 : s.met + 1 ≤ s2.met := Q1.mm
    have mm23 : s2.met ≤ s'.met := by have := Q2.mm; rwa [m3] at this
    have nwN : ∀ y, vis s2 y → ¬ vis s y → s.met < s2.num.getD y 0 := fun y h1 h2 => by
      rcases newN y h1 h2 with rfl | h
      · rw [n2u]; omega
      · have := Q1.nw y h.1 h.2
        have e : (startD u s).met = s.met + 1 := rfl
        omega
    have hle := Q2.lle
    rw [lv3] at hle
    obtain ⟨add2, ba2, bn2, bp2⟩ := Q2.br
    refine ⟨fun y hy => (Q2.mono y ((v3 y).2 (v2 hy))).trans (n3o y hy), Q2.mt, by omega, fun y h1 h2 => ?_, fun y h1 h2 => ?_, fun y h1 h2 j z he => ?_, fun k hk => ?_, fun y h1 h2 => ?_, by omega, fun k hk h1 h2 => ?_, fun y h1 h2 j z he hz => ?_, fun h => ?_, ?_, fun k hB h => ?_⟩
    · rcases split2 y h1 h2 with c | c
      · rw [Q2.mono y ((v3 y).2 c), n3]; exact nwN y c h2
      · have := Q2.nw y c.1 c.2; rw [m3] at this; omega
    · rw [Q2.lowo y ((v3 y).2 (v2 h1)) h2, ly3 y h2, lo2y y h1]
    · rcases split2 y h1 h2 with c | c
      · exact vv2 (clN y c h2 j z he)
      · exact Q2.cln y c.1 c.2 j z he
    · rcases List.mem_cons.1 hk with rfl | hk
      · rw [hu]; exact vv2 v2u
      · exact Q2.isv k hk
    · rcases split2 y h1 h2 with c | c
      · refine ((cnN y c h2).mono (fun j hj => inS_mono (fun a ha => .inr ⟨vv2 ha.1, ha.2⟩) hj)).trans (eu.symm.cx (fun a b he => ?_))
        rcases he.ends eu with ⟨rfl, rfl⟩ | ⟨rfl, rfl⟩
        · exact ⟨.inl rfl, .inr ⟨vv2 v2u, hnu⟩⟩
        · exact ⟨.inr ⟨vv2 v2u, hnu⟩, .inl rfl⟩
      · exact (Q2.cn y c.1 c.2).mono (fun j hj => inS_mono (fun a ha => ha.imp id (fun h => ⟨h.1, un2 a h⟩)) hj)
    · rcases List.mem_cons.1 hk with rfl | hk
      · rw [hu] at h2; exact absurd h2 hnu
      · have := Q2.L1a k hk h1 ((v3 _).2 (v2 h2))
        rwa [n3o _ h2] at this
    · rcases split2 y h1 h2 with c | c
      · by_cases e : j = i
        · subst e
          have hzv : z = v := by
            rcases he.ends eu with ⟨q1, q2⟩ | ⟨q1, q2⟩
            · exact absurd hz (q2 ▸ hnu)
            · exact q2
          subst hzv
          have := P.lw; omega
        · have := backN y c h2 j z he hz e; omega
      · have := Q2.L1b y c.1 c.2 j z he ((v3 z).2 (v2 hz))
        rwa [n3o z hz] at this
    · have hmv := P.mt v
      have hlw := P.lw
      by_cases c : s'.low.getD v 0 < (treeD v u i s2).low.getD v 0
      · obtain ⟨j, y, z, h1, h2, h3, h4⟩ := Q2.L2 c
        rw [n3] at h3
        have hz : vis s z := Classical.byContradiction fun hz => by
          have := nwN z ((v3 z).1 h2) hz; omega
        exact ⟨j, y, z, h1, hz, by rw [n2 z hz] at h3; exact h3, h4.imp (fun h => ⟨h.1, List.mem_cons_of_mem _ h.2.1, h.2.2⟩) (fun h => ⟨h.1, un2 y h⟩)⟩
      · rw [lv3] at c
        obtain ⟨j, y, z, he, hz, hzn, hd⟩ := Q1.L2 (by rw [l1u]; omega)
        have hzs : vis s z := ((v1 z).1 hz).resolve_left (fun e => by subst e; rw [n1u] at hzn; omega)
        rw [n1o z hzs] at hzn
        refine ⟨j, y, z, he, hzs, by omega, .inr ?_⟩
        rcases hd with ⟨rfl, _, _⟩ | hd
        · exact ⟨vv2 v2u, hnu⟩
        · exact ⟨vv2 hd.1, notN y hd⟩
    · have p1 : ∀ k ∈ add1, Bri X k ∧ ∃ a b, En X k a b ∧ (vis s2 a ∧ ¬ vis s a) ∧ (vis s2 b ∧ ¬ vis s b) := fun k hk => by
        obtain ⟨h1, a, b, h2, h3, h4⟩ := bp1 k hk
        refine ⟨h1, a, b, h2, ?_, h4.1, notN b h4⟩
        rcases h3 with rfl | h3
        · exact ⟨v2u, hnu⟩
        · exact ⟨h3.1, notN a h3⟩
      have p2 : ∀ k ∈ add2, Bri X k ∧ ∃ a b, En X k a b ∧ (a = v ∨ (vis s' a ∧ ¬ vis s a)) ∧ (vis s' b ∧ ¬ vis s b ∧ ¬ vis s2 b) := fun k hk => by
        obtain ⟨h1, a, b, h2, h3, h4⟩ := bp2 k hk
        exact ⟨h1, a, b, h2, h3.imp id (fun h => ⟨h.1, un2 a h⟩), h4.1, un2 b h4, fun h => h4.2 ((v3 b).2 h)⟩
      have d12 : ∀ k, k ∈ add1 → k ∈ add2 → False := fun k h1 h2 => by
        obtain ⟨_, a, b, e1, g1, g2⟩ := p1 k h1
        obtain ⟨_, c, d, e2, _, g4⟩ := p2 k h2
        rcases e1.ends e2 with ⟨_, rfl⟩ | ⟨rfl, _⟩
        · exact g4.2.2 g2.1
        · exact g4.2.2 g1.1
      have di1 : i ∉ add1 := fun h1 => by
        obtain ⟨_, a, b, e1, g1, g2⟩ := p1 i h1
        rcases e1.ends eu with ⟨rfl, _⟩ | ⟨_, rfl⟩
        · exact g1.2 hvv
        · exact g2.2 hvv
      have di2 : i ∉ add2 := fun h1 => by
        obtain ⟨_, a, b, e1, _, g2⟩ := p2 i h1
        rcases e1.ends eu with ⟨_, rfl⟩ | ⟨_, rfl⟩
        · exact g2.2.2 v2u
        · exact g2.2.1 hvv
      by_cases c : s.num.getD v 0 < s2.low.getD u 0
      · rw [if_pos c] at b3
        refine ⟨add1 ++ ([i] ++ add2), by rw [ba2, b3, ba1]; simp, ?_, fun k hk => ?_⟩
        · rw [List.nodup_append]
          refine ⟨bn1, ?_, ?_⟩
          · rw [List.singleton_append, List.nodup_cons]; exact ⟨di2, bn2⟩
          · intro a ha b hb e
            subst e
            rcases List.mem_append.1 hb with hb | hb
            · rw [List.mem_singleton] at hb; subst hb; exact di1 ha
            · exact d12 a ha hb
        · rcases List.mem_append.1 hk with hk | hk
          · obtain ⟨h1, a, b, h2, h3, h4⟩ := p1 k hk
            exact ⟨h1, a, b, h2, .inr ⟨vv2 h3.1, h3.2⟩, vv2 h4.1, h4.2⟩
          · rcases List.mem_append.1 hk with hk | hk
            · rw [List.mem_singleton] at hk; subst hk
              exact ⟨hBy c, v, u, eu, .inl rfl, vv2 v2u, hnu⟩
            · obtain ⟨h1, a, b, h2, h3, h4⟩ := p2 k hk
              exact ⟨h1, a, b, h2, h3, h4.1, h4.2.1⟩
      · rw [if_neg c] at b3
        refine ⟨add1 ++ add2, by rw [ba2, b3, ba1]; simp, ?_, fun k hk => ?_⟩
        · rw [List.nodup_append]
          exact ⟨bn1, bn2, fun a ha b hb e => d12 a ha (e ▸ hb)⟩
        · rcases List.mem_append.1 hk with hk | hk
          · obtain ⟨h1, a, b, h2, h3, h4⟩ := p1 k hk
            exact ⟨h1, a, b, h2, .inr ⟨vv2 h3.1, h3.2⟩, vv2 h4.1, h4.2⟩
          · obtain ⟨h1, a, b, h2, h3, h4⟩ := p2 k hk
            exact ⟨h1, a, b, h2, h3, h4.1, h4.2.1⟩
    · have up2 : ∀ {k}, k ∈ s2.br → k ∈ s'.br := fun {k} hk => by
        rw [ba2, b3]
        refine List.mem_append_left _ ?_
        split
        · exact List.mem_append_left _ hk
        · exact hk
      have hI : Bri X i → i ∈ s'.br := fun hB => by
        have c : s.num.getD v 0 < s2.low.getD u 0 := Classical.byContradiction fun c => hNb (by omega) hB
        rw [ba2, b3, if_pos c]
        exact List.mem_append_left _ (List.mem_append_right _ (List.mem_singleton.2 rfl))
      rcases h with ⟨hk, hkt⟩ | ⟨y, z, he, h1, h2⟩
      · rcases List.mem_cons.1 hk with rfl | hk
        · exact hI hB
        · exact Q2.B2 k hB (.inl ⟨hk, hkt⟩)
      · rcases split2 y h1 h2 with c | c
        · rcases newN y c h2 with rfl | hn
          · by_cases e : k = i
            · subst e; exact hI hB
            · exact up2 (Q1.B2 k hB (.inl ⟨(hA.mem he).1, fun e' => e (by omega)⟩))
          · exact up2 (Q1.B2 k hB (.inr ⟨y, z, he, hn.1, hn.2⟩))
        · exact Q2.B2 k hB (.inr ⟨y, z, he, c.1, c.2⟩)
end Go.Proofs.Ytihcaemheknjbaa
