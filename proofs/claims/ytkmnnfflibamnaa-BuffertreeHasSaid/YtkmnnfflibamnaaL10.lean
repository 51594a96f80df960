/- Buffer trees: the last update of a key; counting (plain law). -/
import Derived.Test.YtkmnnfflibamnaaL4
namespace Go.Proofs.Ytkmnnfflibamnaa
/-- A step that is an update and is not refused. -/
def effS (k key v : Int) : Bool := (decide (k = 2) && inK key) || (decide (k = 1) && (inK key && inK v))
def lastS (R : Nat → Nat → Int) : Nat → Int → Option (Int × Int × Int)
  | 0, _ => none
  | i + 1, z => if effS (R i 0) (R i 1) (R i 2) = true ∧ R i 1 = z then some (R i 0, R i 1, R i 2) else lastS R i z
def vlS (o : Option (Int × Int × Int)) : Option Int := match o with
  | some c => if c.1 = 1 then some c.2.2 else none
  | none => none
theorem stU_eff (k key v z : Int) : lk (stU k key v).reverse z = if effS k key v = true ∧ key = z then some (key, if k = 1 then v else 0, decide (k ≠ 1)) else none := by
  unfold stU effS
  by_cases h1 : k = 1
  · subst h1
    rw [if_pos rfl]
    cases hk : inK key <;> cases hv : inK v <;> simp [lk_cons, lk_nil]
  · rw [if_neg h1]
    by_cases h2 : k = 2
    · subst h2
      rw [if_pos rfl]
      cases hk : inK key <;> simp [lk_cons, lk_nil]
    · rw [if_neg h2]
      simp [h1, h2, lk_nil]
theorem ups_last (R : Nat → Nat → Int) (z : Int) : ∀ i, vl (lk (upsR R i).reverse z) = vlS (lastS R i z)
  | 0 => rfl
  | i + 1 => by
    show vl (lk (upsR R i ++ stU (R i 0) (R i 1) (R i 2)).reverse z) = vlS (if effS (R i 0) (R i 1) (R i 2) = true ∧ R i 1 = z then some (R i 0, R i 1, R i 2) else lastS R i z)
    rw [List.reverse_append, lk_append, stU_eff]
    by_cases h : effS (R i 0) (R i 1) (R i 2) = true ∧ R i 1 = z
    · rw [if_pos h, if_pos h]
      show vl (some _) = vlS (some _)
      unfold vl vlS
      by_cases h1 : R i 0 = 1 <;> simp [h1]
    · rw [if_neg h, if_neg h]
      exact ups_last R z i
theorem lastS_some {R : Nat → Nat → Int} {z : Int} {c : Int × Int × Int} : ∀ {i : Nat}, lastS R i z = some c → c.2.1 = z ∧ inK z = true
  | 0, h => by cases h
  | i + 1, h => by
    unfold lastS at h
    split at h
    · rename_i hc
      injection h with h
      subst h
      refine ⟨hc.2, ?_⟩
      have h1 := hc.1
      unfold effS at h1
      rw [hc.2] at h1
      revert h1
      cases inK z <;> simp
    · exact lastS_some h
theorem live_vl {L : List En} (h : ∀ e ∈ L, e.2.2 = false) (k : Int) : lk L k = (vl (lk L k)).map (fun v => (k, v, false)) := by
  cases hl : lk L k with
  | none => rfl
  | some e =>
    obtain ⟨h1, h2⟩ := lk_key hl
    have h3 := h e h2
    obtain ⟨e1, e2, e3⟩ := e
    dsimp only at h1 h3
    subst h1 h3
    rfl
theorem live_ext {L L' : List En} (h : Sd L) (h' : Sd L') (l1 : ∀ e ∈ L, e.2.2 = false) (l2 : ∀ e ∈ L', e.2.2 = false) (e : ∀ k, vl (lk L k) = vl (lk L' k)) : L = L' :=
  Sd.ext h h' (fun k => by rw [live_vl l1, live_vl l2, e])
/-- How many entries are no longer to come. -/
def cntD (L : List En) (todo : Int → Bool) : Nat := (L.filter (fun e => !todo e.1)).length
theorem cntD_start {L : List En} {todo : Int → Bool} (h : ∀ e ∈ L, todo e.1 = true) : cntD L todo = 0 := by
  unfold cntD
  rw [List.length_eq_zero_iff, List.filter_eq_nil_iff]
  intro e he
  rw [h e he]; simp
theorem cntD_end {L : List En} {todo : Int → Bool} (h : ∀ e ∈ L, todo e.1 = false) : cntD L todo = L.length := by
  unfold cntD
  rw [List.filter_eq_self.2]
  intro e he
  rw [h e he]; rfl
theorem cntD_step {k : Int} {todo : Int → Bool} (ht : todo k = true) : ∀ {L : List En}, Sd L → cntD L (fun z => todo z && decide (z ≠ k)) = cntD L todo + (if (lk L k).isSome then 1 else 0)
  | [], _ => rfl
  | x :: L, hs => by
    have ih := cntD_step ht hs.tail
    unfold cntD at ih ⊢
    dsimp only at ih ⊢
    rw [List.filter_cons, List.filter_cons, lk_cons]
    by_cases hx : x.1 = k
    · have h0 : lk L k = none := lk_low hs (by omega)
      rw [h0] at ih
      rw [if_pos hx, hx, ht]
      simp at ih ⊢
      exact ih
    · rw [if_neg hx]
      have e1 : (todo x.1 && decide (x.1 ≠ k)) = todo x.1 := by rw [decide_eq_true hx, Bool.and_true]
      rw [e1]
      cases todo x.1
      · simp only [Bool.not_false, if_true, List.length_cons]; omega
      · simp only [Bool.not_true]; exact ih
end Go.Proofs.Ytkmnnfflibamnaa
