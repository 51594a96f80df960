/- Positions of the last references: plain law of distances and curves. -/
import Derived.Test.YtnlgjpcnnnilpaaD1
namespace Go.Proofs.Ytnlgjpcnnnilpaa
theorem cnt_at : ∀ {Pos : List Nat} {d p : Nat}, Pos.Pairwise (· > ·) → Pos[d]? = some p → Pos.countP (fun x => decide (x < p)) + (d + 1) = Pos.length
  | [], d, p, _, h => by simp at h
  | q :: r, d, p, hp, h => by
    obtain ⟨h1, h2⟩ := List.pairwise_cons.1 hp
    cases d with
    | zero =>
      simp at h
      subst h
      rw [List.countP_cons, if_neg (by simp)]
      have : r.countP (fun x => decide (x < q)) = r.length := by
        rw [List.countP_eq_length]
        intro x hx
        have := h1 x hx
        simp; omega
      simp [this]
    | succ d =>
      have hr : r[d]? = some p := by simpa using h
      have ih := cnt_at h2 hr
      have hq := h1 p (List.mem_of_getElem? hr)
      rw [List.countP_cons, if_neg (by simp; omega)]
      simp only [List.length_cons]
      omega
theorem cnt_all {Pos : List Nat} {k : Nat} (h : ∀ p ∈ Pos, p < k) : Pos.countP (fun x => decide (x < k)) = Pos.length := by
  rw [List.countP_eq_length]
  intro x hx
  simpa using h x hx
theorem cnt_erase {Pos : List Nat} {d p : Nat} (h : Pos[d]? = some p) (x : Nat) : (Pos.eraseIdx d).countP (fun y => decide (y < x)) + (if p < x then 1 else 0) = Pos.countP (fun y => decide (y < x)) := by
  induction Pos generalizing d with
  | nil => simp at h
  | cons q r ih =>
    cases d with
    | zero =>
      simp at h
      subst h
      rw [List.eraseIdx_cons_zero, List.countP_cons]
      simp
    | succ d =>
      have := ih (d := d) (by simpa using h)
      rw [List.eraseIdx_cons_succ, List.countP_cons, List.countP_cons]
      omega
theorem mapErase {α β : Type} (f : α → β) : ∀ (l : List α) (d : Nat), (l.eraseIdx d).map f = (l.map f).eraseIdx d
  | [], _ => rfl
  | _ :: _, 0 => rfl
  | x :: l, d + 1 => by rw [List.eraseIdx_cons_succ, List.map_cons, List.map_cons, List.eraseIdx_cons_succ, mapErase f l d]
/-- One reference: the blocks seen, the last one first, and the distances up to now. -/
def distF (s : List Int × List Int) (b : Int) : List Int × List Int :=
  (b :: (if s.1.any (· == b) = true then s.1.eraseIdx (s.1.findIdx (· == b)) else s.1), s.2 ++ [idxI s.1 b + 1])
def distL (l : List Int) : List Int := (l.foldl distF ([], [])).2
structure PosOk (P : List (Int × Nat)) (k : Nat) : Prop where
  dec : (P.map Prod.snd).Pairwise (· > ·)
  lt : ∀ q ∈ P, q.2 < k
  nd : (P.map Prod.fst).Nodup
def cntP (P : List (Int × Nat)) (x : Nat) : Nat := (P.map Prod.snd).countP (fun y => decide (y < x))
theorem posOk_nil : PosOk [] 0 := ⟨by simp, by simp, by simp⟩
theorem cntP_nil (x : Nat) : cntP [] x = 0 := rfl
theorem cntP_all {P : List (Int × Nat)} {k : Nat} (h : PosOk P k) : cntP P k = P.length := by
  unfold cntP
  rw [cnt_all (k := k) (fun p hp => by obtain ⟨q, hq, rfl⟩ := List.mem_map.1 hp; exact h.lt q hq), List.length_map]
theorem cntP_at {P : List (Int × Nat)} {k d p : Nat} {b : Int} (h : PosOk P k) (hd : P[d]? = some (b, p)) : cntP P p + (d + 1) = P.length := by
  have := cnt_at h.dec (show (P.map Prod.snd)[d]? = some p by rw [List.getElem?_map, hd]; rfl)
  rw [List.length_map] at this
  exact this
theorem PosOk.miss {P : List (Int × Nat)} {k : Nat} {b : Int} (h : PosOk P k) (hb : (P.map Prod.fst).any (· == b) = false) : PosOk ((b, k) :: P) (k + 1) := by
  refine ⟨?_, ?_, ?_⟩
  · rw [List.map_cons, List.pairwise_cons]
    exact ⟨fun x hx => by obtain ⟨q, hq, rfl⟩ := List.mem_map.1 hx; exact h.lt q hq, h.dec⟩
  · intro q hq
    rcases List.mem_cons.1 hq with rfl | hq
    · exact Nat.lt_succ_self _
    · exact Nat.lt_succ_of_lt (h.lt q hq)
  · rw [List.map_cons, List.nodup_cons]
    exact ⟨any_mem hb, h.nd⟩
theorem cntP_cons (P : List (Int × Nat)) (b : Int) (k x : Nat) : cntP ((b, k) :: P) x = cntP P x + if k < x then 1 else 0 := by
  unfold cntP
  rw [List.map_cons, List.countP_cons]
  simp
theorem PosOk.erase {P : List (Int × Nat)} {k : Nat} (h : PosOk P k) (d : Nat) : PosOk (P.eraseIdx d) k := by
  refine ⟨?_, fun q hq => h.lt q (List.mem_of_mem_eraseIdx hq), ?_⟩
  · exact h.dec.sublist ((List.eraseIdx_sublist P d).map _)
  · exact h.nd.sublist ((List.eraseIdx_sublist P d).map _)
theorem cntP_erase {P : List (Int × Nat)} {d p : Nat} {b : Int} (hd : P[d]? = some (b, p)) (x : Nat) : cntP (P.eraseIdx d) x + (if p < x then 1 else 0) = cntP P x := by
  unfold cntP
  rw [mapErase]
  exact cnt_erase (show (P.map Prod.snd)[d]? = some p by rw [List.getElem?_map, hd]; rfl) x
theorem any_erase {C : List Int} {b : Int} {d : Nat} (h : C.Nodup) (hd : C[d]? = some b) : (C.eraseIdx d).any (· == b) = false := by
  induction C generalizing d with
  | nil => simp at hd
  | cons c C ih =>
    obtain ⟨h1, h2⟩ := List.nodup_cons.1 h
    cases d with
    | zero =>
      simp at hd
      subst hd
      rw [List.eraseIdx_cons_zero, List.any_eq_false]
      intro x hx hxc
      simp at hxc
      subst hxc
      exact h1 hx
    | succ d =>
      have hb : b ∈ C := List.mem_of_getElem? (show C[d]? = some b by simpa using hd)
      rw [List.eraseIdx_cons_succ, List.any_cons, ih h2 (by simpa using hd), Bool.or_false]
      simp
      intro e
      subst e
      exact h1 hb
/-- The map of the last references. -/
structure FOf (f : Int → Option Value) (P : List (Int × Nat)) : Prop where
  hit : ∀ q ∈ P, f q.1 = some (.int .i64 q.2)
  miss : ∀ b, (P.map Prod.fst).any (· == b) = false → f b = none
theorem fOf_nil : FOf (fun _ => none) [] := ⟨by simp, fun _ _ => rfl⟩
theorem FOf.put {f : Int → Option Value} {P : List (Int × Nat)} {b : Int} {k : Nat} (h : FOf f P) (hb : (P.map Prod.fst).any (· == b) = false) : FOf (setV f b (some (.int .i64 k))) ((b, k) :: P) := by
  refine ⟨fun q hq => ?_, fun c hc => ?_⟩
  · rcases List.mem_cons.1 hq with rfl | hq
    · exact setV_same _ _ _
    · rw [setV_other (fun e => any_mem hb (by have h := List.mem_map_of_mem (f := Prod.fst) hq; rwa [e] at h))]
      exact h.hit q hq
  · rw [List.map_cons, List.any_cons, Bool.or_eq_false_iff] at hc
    rw [setV_other (fun e => by simp [e] at hc)]
    exact h.miss c hc.2
theorem FOf.swap {f : Int → Option Value} {P : List (Int × Nat)} {b : Int} {d p k : Nat} (h : FOf f P) (hn : (P.map Prod.fst).Nodup) (hd : P[d]? = some (b, p)) : FOf (setV f b (some (.int .i64 k))) ((b, k) :: P.eraseIdx d) := by
  have hb : ((P.eraseIdx d).map Prod.fst).any (· == b) = false := by
    rw [mapErase]
    exact any_erase hn (by rw [List.getElem?_map, hd]; rfl)
  refine ⟨fun q hq => ?_, fun c hc => ?_⟩
  · rcases List.mem_cons.1 hq with rfl | hq
    · exact setV_same _ _ _
    · rw [setV_other (fun e => any_mem hb (by have h := List.mem_map_of_mem (f := Prod.fst) hq; rwa [e] at h))]
      exact h.hit q (List.mem_of_mem_eraseIdx hq)
  · rw [List.map_cons, List.any_cons, Bool.or_eq_false_iff] at hc
    obtain ⟨hc1, hc2⟩ := hc
    have hne : c ≠ b := fun e => by simp [e] at hc1
    rw [setV_other hne]
    refine h.miss c ?_
    rw [List.any_eq_false] at hc2 ⊢
    intro x hx hxc
    simp at hxc
    subst hxc
    obtain ⟨q, hq, rfl⟩ := List.mem_map.1 hx
    obtain ⟨j, hj⟩ := List.mem_iff_getElem?.1 hq
    have hjd : j ≠ d := fun e => by rw [e, hd] at hj; injection hj with hj; rw [← hj] at hne; exact hne rfl
    have : q ∈ P.eraseIdx d := List.mem_eraseIdx_iff_getElem?.2 ⟨j, hjd, hj⟩
    have := hc2 q.1 (List.mem_map_of_mem (f := Prod.fst) this)
    simp at this
/-- The index of a block that was seen, and its position. -/
theorem seen_at {P : List (Int × Nat)} {b : Int} (h : (P.map Prod.fst).any (· == b) = true) : ∃ d p, d = (P.map Prod.fst).findIdx (· == b) ∧ P[d]? = some (b, p) := by
  have hl := List.findIdx_lt_length_of_exists (List.any_eq_true.1 h)
  have hg := List.findIdx_getElem (w := hl)
  obtain ⟨d, hd⟩ : ∃ d, d = (P.map Prod.fst).findIdx (· == b) := ⟨_, rfl⟩
  simp only [← hd] at hl hg
  have hl2 : d < P.length := by simpa using hl
  refine ⟨d, P[d].2, hd, ?_⟩
  rw [List.getElem?_eq_getElem hl2]
  have : P[d].1 = b := by simpa using hg
  rw [← this]
theorem distF_hit {P : List (Int × Nat)} {b : Int} {d k : Nat} {o : List Int} (h : (P.map Prod.fst).any (· == b) = true) (hd : d = (P.map Prod.fst).findIdx (· == b)) : distF (P.map Prod.fst, o) b = (((b, k) :: P.eraseIdx d).map Prod.fst, o ++ [(d : Int) + 1]) := by
  unfold distF
  simp only [h, if_true, idxI]
  rw [← hd, List.map_cons, mapErase]
theorem distF_miss {P : List (Int × Nat)} {b : Int} {k : Nat} {o : List Int} (h : (P.map Prod.fst).any (· == b) = false) : distF (P.map Prod.fst, o) b = (((b, k) :: P).map Prod.fst, o ++ [0]) := by
  unfold distF
  simp only [h, idxI]
  rfl
/-- The misses for a capacity. -/
def curveAt (D : List Int) (k : Nat) : Nat := D.countP (fun d => d == 0 || decide ((k : Int) < d))
def hitsAt (D : List Int) (k : Nat) : Nat := D.countP (fun d => d == (k : Int))
theorem curve_0 {D : List Int} (h : ∀ d ∈ D, 0 ≤ d) : curveAt D 0 = D.length := by
  unfold curveAt
  rw [List.countP_eq_length]
  intro d hd
  have := h d hd
  simp; omega
theorem curve_step (D : List Int) (k : Nat) : curveAt D (k + 1) + hitsAt D (k + 1) = curveAt D k := by
  unfold curveAt hitsAt
  induction D with
  | nil => rfl
  | cons d D ih =>
    rw [List.countP_cons, List.countP_cons, List.countP_cons]
    have e1 : (d == ((k + 1 : Nat) : Int)) = decide (d = (k : Int) + 1) := by rw [Bool.eq_iff_iff]; simp
    have e2 : (d == 0 || decide (((k + 1 : Nat) : Int) < d)) = decide (d = 0 ∨ (k : Int) + 1 < d) := by rw [Bool.eq_iff_iff]; simp
    have e3 : (d == 0 || decide ((k : Int) < d)) = decide (d = 0 ∨ (k : Int) < d) := by rw [Bool.eq_iff_iff]; simp
    rw [e1, e2, e3]
    simp only [decide_eq_true_eq]
    by_cases h1 : d = (k : Int) + 1
    · rw [if_neg (by omega), if_pos h1, if_pos (by omega)]; omega
    · by_cases h2 : d = 0 ∨ (k : Int) + 1 < d
      · rw [if_pos h2, if_neg h1, if_pos (by omega)]; omega
      · rw [if_neg h2, if_neg h1, if_neg (by omega)]; omega
end Go.Proofs.Ytnlgjpcnnnilpaa
