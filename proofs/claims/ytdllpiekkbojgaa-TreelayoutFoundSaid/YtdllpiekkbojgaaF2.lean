/- Each key of a laid out tree is found at its place, and no other integer is found. -/
import Derived.Test.YtdllpiekkbojgaaF1
namespace Go.Proofs.Ytdllpiekkbojgaa
open Go.RowKit Go.Maps

theorem chk1 : checkAll (layS 2 1) 1 = true := by decide +kernel
theorem chk2 : checkAll (layS 2 2) 3 = true := by decide +kernel
theorem chk3 : checkAll (layS 2 3) 7 = true := by decide +kernel
theorem chk4 : checkAll (layS 2 4) 15 = true := by decide +kernel
theorem chk5 : checkAll (layS 2 5) 31 = true := by decide +kernel
theorem chk6 : checkAll (layS 2 6) 63 = true := by decide +kernel
theorem chk7 : checkAll (layS 2 7) 127 = true := by decide +kernel
theorem chk {h : Nat} (h1 : 1 ≤ h) (h2 : h ≤ 7) : checkAll (layS 2 h) (cnt h) = true := by
  have hc : h = 1 ∨ h = 2 ∨ h = 3 ∨ h = 4 ∨ h = 5 ∨ h = 6 ∨ h = 7 := by omega
  rcases hc with rfl | rfl | rfl | rfl | rfl | rfl | rfl
  · exact chk1
  · exact chk2
  · exact chk3
  · exact chk4
  · exact chk5
  · exact chk6
  · exact chk7

theorem asc_adj {l : List Int} (h : ascB l = true) {j : Nat} (hj : j + 1 < l.length) : getI l j < getI l (j + 1 : Nat) := by
  unfold ascB ascK at h
  rw [List.all_eq_true] at h
  have := h j (by simp; omega)
  simpa [getI] using this
theorem asc_lt {l : List Int} (h : ascB l = true) : ∀ (d j : Nat), j + d + 1 < l.length → getI l j < getI l (j + d + 1 : Nat) := by
  intro d
  induction d with
  | zero => intro j hj; exact asc_adj h hj
  | succ d ih =>
    intro j hj
    have h1 := ih j (by omega)
    have h2 := asc_adj h (j := j + d + 1) (by omega)
    have e : j + (d + 1) + 1 = j + d + 1 + 1 := by omega
    rw [e]
    exact Int.lt_trans h1 h2
theorem asc_iff {l : List Int} (h : ascB l = true) {i j : Nat} (hi : i < l.length) (hj : j < l.length) : getI l i < getI l j ↔ i < j := by
  constructor
  · intro hlt
    by_cases e : i < j
    · exact e
    · exfalso
      by_cases e2 : i = j
      · subst e2; omega
      · have := asc_lt h (i - j - 1) j (by omega)
        rw [show j + (i - j - 1) + 1 = i by omega] at this
        omega
  · intro hlt
    have := asc_lt h (j - i - 1) i (by omega)
    rw [show i + (j - i - 1) + 1 = j by omega] at this
    exact this
theorem threshold (n : Nat) (P : Nat → Prop) (hP : ∀ i j, i ≤ j → j < n → P i → P j) : ∃ g, g ≤ n ∧ ∀ j, j < n → (P j ↔ g ≤ j) := by
  induction n with
  | zero => exact ⟨0, Nat.le_refl _, fun j hj => by omega⟩
  | succ n ih =>
    obtain ⟨g, hg, hgj⟩ := ih (fun i j h1 h2 => hP i j h1 (by omega))
    by_cases hp : P n
    · by_cases e : g = n
      · exact ⟨g, by omega, fun j hj => by
          by_cases ej : j = n
          · subst ej; exact ⟨fun _ => by omega, fun _ => hp⟩
          · exact hgj j (by omega)⟩
      · exact ⟨g, by omega, fun j hj => by
          by_cases ej : j = n
          · subst ej; exact ⟨fun _ => by omega, fun _ => hp⟩
          · exact hgj j (by omega)⟩
    · have hall : ∀ j, j < n → ¬ P j := fun j hj hpj => hp (hP j n (by omega) (by omega) hpj)
      exact ⟨n + 1, by omega, fun j hj => by
        by_cases ej : j = n
        · subst ej; exact ⟨fun h => absurd h hp, fun h => by omega⟩
        · exact ⟨fun h => absurd h (hall j (by omega)), fun h => by omega⟩⟩

/-- slices.Index. -/
def idxI (l : List Int) (x : Int) : Int := if l.any (· == x) then ((l.findIdx (· == x) : Nat) : Int) else -1
theorem blocksN_pos (s : Int) (p : Int) (ps : List Int) : 1 ≤ blocksN s (p :: ps) := by
  unfold blocksN
  have key : ∀ (ks acc : List Lit), acc.length ≤ (ks.foldl addKey acc).length := by
    intro ks
    induction ks with
    | nil => intro acc; exact Nat.le_refl _
    | cons k ks ih =>
      intro acc
      have h2 : acc.length ≤ (addKey acc k).length := by unfold addKey; split <;> simp
      exact Nat.le_trans h2 (ih _)
  have e : keys s (p :: ps) = .int .i64 (blk s p) :: keys s ps := rfl
  rw [e, List.foldl_cons]
  have h1 := key (keys s ps) (addKey [] (.int .i64 (blk s p)))
  have h2 : (addKey [] (Lit.int .i64 (blk s p))).length = 1 := rfl
  omega
theorem blocksN_len (s : Int) (ps : List Int) : blocksN s ps ≤ ps.length := by
  have key : ∀ (ks acc : List Lit), (ks.foldl addKey acc).length ≤ acc.length + ks.length := by
    intro ks
    induction ks with
    | nil => intro acc; simp
    | cons k ks ih =>
      intro acc
      simp only [List.foldl_cons, List.length_cons]
      have h1 := ih (addKey acc k)
      have h2 : (addKey acc k).length ≤ acc.length + 1 := by unfold addKey; split <;> simp
      omega
  have := key (keys s ps) []
  simpa [blocksN, keys] using this

theorem found_law {kind key size : Int} {h : Nat} {keys : List Int} (hk1 : 1 ≤ kind) (hk2 : kind ≤ 4) (h1 : 1 ≤ h) (h2 : h ≤ 7) (hlen : keys.length = cnt h) (hasc : ascB keys = true) :
    (∃ i nb : Nat, searchV kind (buildL kind h keys) key size = ((i : Int), (nb : Int), 0) ∧ idxI (buildL kind h keys) key = i ∧ 1 ≤ nb ∧ nb ≤ 7) ∨
    (searchV kind (buildL kind h keys) key size = (0, 0, 12) ∧ idxI (buildL kind h keys) key = -1) := by
  obtain ⟨lo, hlo⟩ := perm_ok8 hk1 hk2 (show h ≤ 8 by omega)
  obtain ⟨oo, hoo⟩ := perm_ok8 (k := 2) (by omega) (by omega) (show h ≤ 8 by omega)
  have Il := inv_of hlo
  have Io := inv_of hoo
  rw [layS_len] at Il Io
  have hc := chk h1 h2
  have hh := heightS_eq h1 (show h ≤ 16 by omega) (n := cnt h) rfl
  have hbl : (buildL kind h keys).length = cnt h := by unfold buildL; rw [buildK_len, hlen]
  have hun := unbuild Il Io hlen
  have hget := buildK_get Il hlen (order := layS 2 h) (cnt h) (Nat.le_refl _)
  have hS : searchV kind (buildL kind h keys) key size = match goS (cnt h) (layS kind h) (buildL kind h keys) key (cnt h) 0 [] with
    | none => (0, 0, 12)
    | some (p, path) => (p, ((blocksN size (path.map (getI (layS kind h))) : Nat) : Int), 0) := by
    unfold searchV
    have hn0 : h ≠ 0 := by omega
    rw [hbl, hh, if_neg hn0]
    unfold buildL
    rw [hun, if_neg (by rw [hasc]; decide)]
    rfl
  have hpos : 1 ≤ cnt h := by have := Nat.pow_le_pow_right (n := 2) (by omega) h1; unfold cnt; omega
  generalize hn : cnt h = n at *
  rw [hS]
  unfold buildL at *
  rw [hn] at *
  generalize layS kind h = l at *
  generalize layS 2 h = order at *
  unfold checkAll at hc
  rw [Bool.and_eq_true, List.all_eq_true, List.all_eq_true] at hc
  obtain ⟨c1, c2⟩ := hc
  -- every place of the tree holds some key
  have hplace : ∀ q : Nat, q < n → ∃ u : Nat, u < n ∧ getI l u = q ∧ getI (buildK l order keys n) q = getI keys (getI order u) := by
    intro q hq
    obtain ⟨u, hu⟩ := Int.eq_ofNat_of_zero_le (Il.or_ q hq).1
    have hu2 := (Il.or_ q hq).2
    have e := Il.ov q hq
    rw [hu] at e hu2
    refine ⟨u, by omega, e, ?_⟩
    rw [← e]
    exact hget u (by omega)
  by_cases hin : ∃ r : Nat, r < n ∧ getI keys r = key
  · obtain ⟨r, hr, hrk⟩ := hin
    left
    have hf := c1 r (by simp; exact hr)
    have hgo := goS_goC Il Io hlen key (fun j => decide (j = r)) (fun j => decide ((r : Int) < j))
      (fun j hj => by
        rw [decide_eq_true_eq, ← hrk]
        constructor
        · intro e; rw [e]
        · intro e
          have e1 := asc_iff hasc (i := r) (j := j) (by omega) (by omega)
          have e2 := asc_iff hasc (i := j) (j := r) (by omega) (by omega)
          omega)
      (fun j hj => by
        rw [decide_eq_true_eq, ← hrk, asc_iff hasc (by omega) (by omega)]; omega) n 0 []
    rw [hgo]
    unfold foundAt at hf
    cases hg : goC order n (fun j => decide (j = r)) (fun j => decide ((r : Int) < j)) n 0 [] with
    | none => rw [hg] at hf; cases hf
    | some vp =>
      obtain ⟨v, path⟩ := vp
      rw [hg] at hf
      simp only [Bool.and_eq_true, decide_eq_true_eq] at hf
      obtain ⟨⟨⟨f1, f2⟩, f3⟩, f4⟩ := hf
      obtain ⟨i, hi⟩ := Int.eq_ofNat_of_zero_le (Il.lr v f1).1
      have hi2 := (Il.lr v f1).2
      rw [hi] at hi2
      refine ⟨i, blocksN size (path.map (getI l)), by simp [hi], ?_, ?_, ?_⟩
      · have hti : getI (buildK l order keys n) (i : Int) = key := by rw [← hi, hget v f1, f2, hrk]
        have hil : i < (buildK l order keys n).length := by omega
        have hany : (buildK l order keys n).any (· == key) = true := by
          rw [List.any_eq_true]
          exact ⟨_, getI_in (x := (i : Int)) (by omega) (by omega), by simpa using hti⟩
        unfold idxI
        rw [if_pos hany]
        have : (buildK l order keys n).findIdx (· == key) = i := by
          rw [List.findIdx_eq hil]
          refine ⟨by rw [← getI_nat hil]; simpa using hti, fun j hj => ?_⟩
          have hjl : j < (buildK l order keys n).length := by omega
          obtain ⟨u, hu1, hu2, hu3⟩ := hplace j (by omega)
          rw [← getI_nat hjl, hu3]
          simp only [beq_eq_false_iff_ne]
          intro e
          obtain ⟨ou, hou⟩ := Int.eq_ofNat_of_zero_le (Io.lr u hu1).1
          have hou2 := (Io.lr u hu1).2
          rw [hou] at e hou2
          rw [← hrk] at e
          have e1 := asc_iff hasc (i := r) (j := ou) (by omega) (by omega)
          have e2 := asc_iff hasc (i := ou) (j := r) (by omega) (by omega)
          have e3 : ou = r := by omega
          have e4 : u = v := Io.inj hu1 f1 (by rw [hou, f2, e3])
          rw [e4, hi] at hu2
          omega
        rw [this]
      · cases path with
        | nil => simp at f3
        | cons p ps => exact blocksN_pos _ _ _
      · have := blocksN_len size (path.map (getI l))
        rw [List.length_map] at this
        omega
  · right
    have hne : ∀ j : Nat, j < n → getI keys j ≠ key := fun j hj e => hin ⟨j, hj, e⟩
    obtain ⟨g, hg1, hg2⟩ := threshold n (fun j => key < getI keys j) (fun i j hij hj hp => by
      by_cases e : i = j
      · subst e; exact hp
      · exact Int.lt_trans hp ((asc_iff hasc (by omega) (by omega)).2 (by omega)))
    have hlost := c2 g (by simp; omega)
    have hgo := goS_goC Il Io hlen key (fun _ => false) (fun j => decide ((g : Int) ≤ j))
      (fun j hj => by
        constructor
        · intro e; cases e
        · intro e; exact absurd e.symm (hne j hj))
      (fun j hj => by
        rw [decide_eq_true_eq, hg2 j hj]; omega) n 0 []
    unfold lostAt at hlost
    rw [hgo]
    cases hgc : goC order n (fun _ => false) (fun j => decide ((g : Int) ≤ j)) n 0 [] with
    | some vp => rw [hgc] at hlost; cases hlost
    | none =>
      refine ⟨rfl, ?_⟩
      unfold idxI
      rw [if_neg]
      rw [Bool.not_eq_true, List.any_eq_false]
      intro x hx
      obtain ⟨q, hq, rfl⟩ := List.mem_iff_getElem.1 hx
      obtain ⟨u, hu1, hu2, hu3⟩ := hplace q (by omega)
      rw [← getI_nat hq, hu3]
      obtain ⟨ou, hou⟩ := Int.eq_ofNat_of_zero_le (Io.lr u hu1).1
      have hou2 := (Io.lr u hu1).2
      rw [hou] at hou2 ⊢
      simpa using hne ou (by omega)

end Go.Proofs.Ytdllpiekkbojgaa
