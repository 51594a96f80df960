/- Plain facts: permutations and their inverses; the way down in a laid out tree. -/
import Derived.Test.YtdllpiekkbojgaaS4
namespace Go.Proofs.Ytdllpiekkbojgaa
open Go.RowKit Go.Maps

theorem getI_in {l : List Int} {x : Int} (h0 : 0 ≤ x) (h1 : x < l.length) : getI l x ∈ l := by
  unfold getI
  rw [List.getD_eq_getElem?_getD, List.getElem?_eq_getElem (by omega)]
  exact List.getElem_mem _
theorem getI_eq {l : List Int} {x y : Int} (h : l[x.toNat]? = some y) : getI l x = y := by simp [getI, h]
theorem getI_nat {l : List Int} {i : Nat} (h : i < l.length) : getI l (i : Int) = l[i] := by simp [getI, h]
theorem invK_inv {l : List Int} : ∀ {k : Nat} {out : List Int}, invK l k = some out → k ≤ l.length →
    (∀ v : Nat, v < k → getI out (l.getD v 0) = v) ∧ (∀ q : Nat, q < out.length → 0 ≤ out.getD q 0 → out.getD q 0 < k ∧ getI l (out.getD q 0) = q) := by
  intro k
  induction k with
  | zero =>
    intro out h _
    simp [invK] at h
    subst h
    refine ⟨fun v hv => by omega, fun q hq h0 => ?_⟩
    simp at hq
    simp [List.getD_eq_getElem?_getD, hq] at h0
  | succ k ih =>
    intro out h hk
    unfold invK at h
    split at h
    · cases h
    · rename_i o ho
      split at h
      · rename_i hok
        obtain ⟨h1, h2, h3⟩ := hok
        injection h with h
        obtain ⟨i1, i2⟩ := ih ho (by omega)
        generalize hp : l.getD k 0 = p at *
        have hpo : p.toNat < o.length := by omega
        subst h
        refine ⟨fun v hv => ?_, fun q hq h0 => ?_⟩
        · by_cases e : v = k
          · subst e; rw [hp]; simp [getI, hpo]
          · have hv2 := i1 v (by omega)
            unfold getI at *
            have hne : (l.getD v 0).toNat ≠ p.toNat := by
              intro e2
              rw [e2] at hv2
              omega
            rw [List.getD_eq_getElem?_getD, List.getElem?_set_ne (by omega), ← List.getD_eq_getElem?_getD]
            exact hv2
        · rw [List.length_set] at hq
          by_cases e : q = p.toNat
          · subst e
            rw [List.getD_eq_getElem?_getD, List.getElem?_set_self hpo] at h0 ⊢
            refine ⟨by show (k : Int) < ((k + 1 : Nat) : Int); omega, ?_⟩
            show getI l (k : Int) = _
            unfold getI
            rw [Int.toNat_natCast, hp]; omega
          · rw [List.getD_eq_getElem?_getD, List.getElem?_set_ne (by omega), ← List.getD_eq_getElem?_getD] at h0 ⊢
            have := i2 q hq h0
            exact ⟨by omega, this.2⟩
      · cases h
structure Inv (l out : List Int) (n : Nat) : Prop where
  ll : l.length = n
  lo : out.length = n
  lr : ∀ v : Nat, v < n → 0 ≤ getI l v ∧ getI l v < n
  or_ : ∀ q : Nat, q < n → 0 ≤ getI out q ∧ getI out q < n
  lv : ∀ v : Nat, v < n → getI out (getI l v) = v
  ov : ∀ q : Nat, q < n → getI l (getI out q) = q
theorem inv_of {l out : List Int} (h : invS l = some out) : Inv l out l.length := by
  have hr := invS_range h
  unfold invS at h
  split at h
  · cases h
  · have hall := invK_all h
    have hlen := invK_len h
    obtain ⟨i1, i2⟩ := invK_inv h (Nat.le_refl _)
    refine ⟨rfl, hlen, fun v hv => hr _ (getI_in (by omega) (by omega)), fun q hq => ?_, fun v hv => ?_, fun q hq => ?_⟩
    · have h0 := hall _ (getI_in (l := out) (x := (q : Int)) (by omega) (by omega))
      have := i2 q (by omega) (by simpa [getI] using h0)
      exact ⟨h0, by simpa [getI] using this.1⟩
    · have := i1 v hv; simpa [getI] using this
    · have h0 := hall _ (getI_in (l := out) (x := (q : Int)) (by omega) (by omega))
      have := i2 q (by omega) (by simpa [getI] using h0)
      simpa [getI] using this.2
theorem Inv.inj {l out : List Int} {n : Nat} (h : Inv l out n) {u v : Nat} (hu : u < n) (hv : v < n) (e : getI l u = getI l v) : u = v := by
  have h1 := h.lv u hu
  have h2 := h.lv v hv
  rw [e, h2] at h1
  omega

theorem getI_set {xs : List Int} {i j : Nat} {y : Int} (hi : i < xs.length) : getI (xs.set i y) (j : Int) = if i = j then y else getI xs (j : Int) := by
  unfold getI
  rw [Int.toNat_natCast, List.getD_eq_getElem?_getD, List.getElem?_set]
  by_cases e : i = j
  · rw [if_pos e, if_pos e, if_pos hi]; rfl
  · rw [if_neg e, if_neg e]; rfl
/-- Behind k steps: place l[v] holds keys[order[v]]. -/
theorem buildK_get {l out order keys : List Int} {n : Nat} (h : Inv l out n) (hk : keys.length = n) : ∀ k, k ≤ n → ∀ v : Nat, v < k → getI (buildK l order keys k) (getI l v) = getI keys (getI order v) := by
  intro k
  induction k with
  | zero => intro _ v hv; omega
  | succ k ih =>
    intro hkn v hv
    have hlv := h.lr v (by omega)
    have hlk := h.lr k (by omega)
    obtain ⟨j, hj⟩ := Int.eq_ofNat_of_zero_le hlv.1
    have e1 : (l.getD k 0).toNat = (getI l k).toNat := by simp [getI]
    have e2 : order.getD k 0 = getI order k := by simp [getI]
    rw [buildK, e1, e2, hj, getI_set (by rw [buildK_len]; omega)]
    by_cases e : v = k
    · subst e; rw [hj]; simp
    · rw [if_neg (by
        intro e3
        exact e (h.inj (by omega) (by omega) (by rw [hj]; omega)))]
      rw [← hj]
      exact ih (by omega) v (by omega)
theorem ext_getI {xs ys : List Int} {n : Nat} (hx : xs.length = n) (hy : ys.length = n) (h : ∀ q : Nat, q < n → getI xs q = getI ys q) : xs = ys := by
  apply List.ext_getElem (by omega)
  intro i h1 h2
  have := h i (by omega)
  rw [getI_nat h1, getI_nat h2] at this
  exact this
theorem unbuild {l lo order oo keys : List Int} {n : Nat} (hl : Inv l lo n) (ho : Inv order oo n) (hk : keys.length = n) :
    buildK order l (buildK l order keys n) n = keys := by
  have hbl : (buildK l order keys n).length = n := by rw [buildK_len, hk]
  refine ext_getI (n := n) (by rw [buildK_len, hbl]) hk (fun q hq => ?_)
  have hv := ho.or_ q hq
  obtain ⟨v, hv'⟩ := Int.eq_ofNat_of_zero_le hv.1
  have e := ho.ov q hq
  rw [hv'] at e
  rw [← e, buildK_get ho hbl n (Nat.le_refl _) v (by omega), buildK_get hl hk n (Nat.le_refl _) v (by omega)]

/-- The way down by a comparison of ranks: yes, left, right. -/
def goC (order : List Int) (n : Nat) (eqr lt : Int → Bool) : Nat → Nat → List Int → Option (Nat × List Int)
  | 0, _, _ => none
  | f + 1, v, path =>
    if v < n then
      (if eqr (getI order v) then some (v, path ++ [(v : Int)])
      else goC order n eqr lt f (if lt (getI order v) then 2 * v + 1 else 2 * v + 2) (path ++ [(v : Int)]))
    else none
theorem goS_goC {l lo order oo keys : List Int} {n : Nat} (hl : Inv l lo n) (ho : Inv order oo n) (hk : keys.length = n) (key : Int) (eqr lt : Int → Bool)
    (he : ∀ j : Nat, j < n → (eqr j = true ↔ key = getI keys j)) (hlt : ∀ j : Nat, j < n → (lt j = true ↔ key < getI keys j)) :
    ∀ f v path, goS n l (buildK l order keys n) key f v path = (goC order n eqr lt f v path).map fun r => (getI l r.1, r.2) := by
  intro f
  induction f with
  | zero => intro v path; rfl
  | succ f ih =>
    intro v path
    unfold goS goC
    by_cases hv : v < n
    · rw [if_pos hv, if_pos hv, buildK_get hl hk n (Nat.le_refl _) v hv]
      obtain ⟨j, hj⟩ := Int.eq_ofNat_of_zero_le (ho.lr v hv).1
      have hj2 := (ho.lr v hv).2
      rw [hj] at hj2 ⊢
      have h1 := he j (by omega)
      have h2 := hlt j (by omega)
      by_cases e : key = getI keys j
      · rw [if_pos e, if_pos (h1.2 e)]; rfl
      · rw [if_neg e, if_neg (fun h => e (h1.1 h)), ih]
        by_cases e2 : key < getI keys j
        · rw [if_pos e2, if_pos (h2.2 e2)]
        · rw [if_neg e2, if_neg (fun h => e2 (h2.1 h))]
    · rw [if_neg hv, if_neg hv]; rfl

def foundAt (order : List Int) (n r : Nat) : Bool :=
  match goC order n (fun j => decide (j = r)) (fun j => decide ((r : Int) < j)) n 0 [] with
  | none => false
  | some (v, path) => decide (v < n) && decide (getI order v = r) && decide (1 ≤ path.length) && decide (path.length ≤ 7)
def lostAt (order : List Int) (n g : Nat) : Bool := (goC order n (fun _ => false) (fun j => decide ((g : Int) ≤ j)) n 0 []).isNone
def checkAll (order : List Int) (n : Nat) : Bool := ((List.range n).all (foundAt order n)) && ((List.range (n + 1)).all (lostAt order n))

end Go.Proofs.Ytdllpiekkbojgaa
