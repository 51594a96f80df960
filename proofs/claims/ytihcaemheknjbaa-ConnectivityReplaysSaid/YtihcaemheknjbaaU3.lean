/- Replays: how many nodes an interval takes, and where an answer stands (plain law). -/
import Derived.Test.YtihcaemheknjbaaF16
import Derived.Test.YtihcaemheknjbaaF23
namespace Go.Proofs.Ytihcaemheknjbaa
open Go.RowKit
theorem nod_out {d f t a b : Nat} (h : b ≤ f ∨ t ≤ a) : nodN d f t a b = 0 := by
  cases d with
  | zero => rfl
  | succ d => unfold nodN; rw [if_pos h]
theorem nod_all {d f t a b : Nat} (ha : a ≤ f) (hb : t ≤ b) : nodN d f t a b ≤ 1 := by
  cases d with
  | zero => exact Nat.zero_le _
  | succ d =>
    unfold nodN
    split
    · exact Nat.zero_le _
    · rw [if_pos ⟨ha, hb⟩]; exact Nat.le_refl _
theorem nod_one {d f t a b : Nat} (h : t - f ≤ 1) : nodN d f t a b ≤ 1 := by
  cases d with
  | zero => exact Nat.zero_le _
  | succ d =>
    unfold nodN
    split
    · exact Nat.zero_le _
    · rw [if_pos (by omega)]; exact Nat.le_refl _
theorem nod_pos : ∀ (d f t a b : Nat), t - f ≤ d → f < t → a < b → a < t → f < b → 1 ≤ nodN d f t a b
  | 0, f, t, a, b, hd, hft, _, _, _ => by omega
  | d + 1, f, t, a, b, hd, hft, hab, hat, hfb => by
    unfold nodN
    rw [if_neg (by omega)]
    split
    · exact Nat.le_refl _
    · rename_i h2
      by_cases c : a < (f + t) / 2
      · have := nod_pos d f ((f + t) / 2) a b (by omega) (by omega) hab c hfb
        omega
      · have := nod_pos d ((f + t) / 2) t a b (by omega) (by omega) hab hat (by omega)
        omega
theorem nod_pre : ∀ (d h f t a b : Nat), t - f ≤ 2 ^ h → a ≤ f → b < t → nodN d f t a b ≤ h
  | 0, h, f, t, a, b, _, _, _ => Nat.zero_le _
  | d + 1, h, f, t, a, b, hs, ha, hb => by
    unfold nodN
    split
    · exact Nat.zero_le _
    · rename_i h1
      rw [if_neg (by omega)]
      cases h with
      | zero => rw [Nat.pow_zero] at hs; omega
      | succ h =>
        rw [Nat.pow_succ] at hs
        by_cases c : b ≤ (f + t) / 2
        · rw [nod_out (d := d) (f := (f + t) / 2) (.inl c)]
          by_cases c2 : b < (f + t) / 2
          · have := nod_pre d h f ((f + t) / 2) a b (by omega) ha c2; omega
          · have := nod_all (d := d) (f := f) (t := (f + t) / 2) (a := a) (b := b) ha (by omega); omega
        · have h3 := nod_all (d := d) (f := f) (t := (f + t) / 2) (a := a) (b := b) ha (by omega)
          have h4 := nod_pre d h ((f + t) / 2) t a b (by omega) (by omega) hb
          omega
theorem nod_suf : ∀ (d h f t a b : Nat), t - f ≤ 2 ^ h → f < a → t ≤ b → nodN d f t a b ≤ h
  | 0, h, f, t, a, b, _, _, _ => Nat.zero_le _
  | d + 1, h, f, t, a, b, hs, ha, hb => by
    unfold nodN
    split
    · exact Nat.zero_le _
    · rename_i h1
      rw [if_neg (by omega)]
      cases h with
      | zero => rw [Nat.pow_zero] at hs; omega
      | succ h =>
        rw [Nat.pow_succ] at hs
        by_cases c : (f + t) / 2 ≤ a
        · rw [nod_out (d := d) (f := f) (t := (f + t) / 2) (.inr c)]
          by_cases c2 : (f + t) / 2 < a
          · have := nod_suf d h ((f + t) / 2) t a b (by omega) c2 hb; omega
          · have := nod_all (d := d) (f := (f + t) / 2) (t := t) (a := a) (b := b) (by omega) hb; omega
        · have h3 := nod_all (d := d) (f := (f + t) / 2) (t := t) (a := a) (b := b) (by omega) hb
          have h4 := nod_suf d h f ((f + t) / 2) a b (by omega) ha (by omega)
          omega
/-- At most two nodes a level. -/
theorem nod_le : ∀ (d h f t a b : Nat), t - f ≤ 2 ^ h → 1 ≤ h → nodN d f t a b ≤ 2 * h
  | 0, h, f, t, a, b, _, _ => Nat.zero_le _
  | d + 1, h, f, t, a, b, hs, hh => by
    unfold nodN
    split
    · exact Nat.zero_le _
    · split
      · omega
      · rename_i h1 h2
        obtain ⟨g, rfl⟩ : ∃ g, h = g + 1 := ⟨h - 1, by omega⟩
        rw [Nat.pow_succ] at hs
        have half : ∀ f' t', t' - f' ≤ 2 ^ g → nodN d f' t' a b ≤ 2 * (g + 1) := fun f' t' hs' => by
          by_cases c : g = 0
          · subst c
            have := nod_one (d := d) (f := f') (t := t') (a := a) (b := b) (by simpa using hs')
            omega
          · have := nod_le d g f' t' a b hs' (by omega)
            omega
        by_cases c : b ≤ (f + t) / 2
        · rw [nod_out (d := d) (f := (f + t) / 2) (.inl c)]
          have := half f ((f + t) / 2) (by omega); omega
        by_cases c2 : (f + t) / 2 ≤ a
        · rw [nod_out (d := d) (f := f) (t := (f + t) / 2) (.inr c2)]
          have := half ((f + t) / 2) t (by omega); omega
        have hl : nodN d f ((f + t) / 2) a b ≤ g + 1 := by
          by_cases c3 : a ≤ f
          · have := nod_all (d := d) (f := f) (t := (f + t) / 2) (a := a) (b := b) c3 (by omega); omega
          · have := nod_suf d g f ((f + t) / 2) a b (by omega) (by omega) (by omega); omega
        have hr : nodN d ((f + t) / 2) t a b ≤ g + 1 := by
          by_cases c3 : t ≤ b
          · have := nod_all (d := d) (f := (f + t) / 2) (t := t) (a := a) (b := b) (by omega) c3; omega
          · have := nod_pre d g ((f + t) / 2) t a b (by omega) (by omega) (by omega); omega
        omega
theorem unS_bounds {N h : Nat} (hN : N ≤ 2 ^ h) (h1 : 1 ≤ h) : ∀ out : List Iv, (∀ x ∈ out, x.2.2.1 < x.2.2.2 ∧ x.2.2.2 ≤ N) → out.length ≤ unS N out ∧ unS N out ≤ 2 * h * out.length
  | [], _ => by simp [unS]
  | x :: out, hx => by
    obtain ⟨i1, i2⟩ := unS_bounds hN h1 out (fun y hy => hx y (List.mem_cons_of_mem _ hy))
    obtain ⟨b1, b2⟩ := hx x (List.mem_cons_self ..)
    have p1 := nod_pos N 0 N x.2.2.1 x.2.2.2 (by omega) (by omega) b1 (by omega) (by omega)
    have p2 := nod_le N h 0 N x.2.2.1 x.2.2.2 (by omega) h1
    unfold unS at i1 i2 ⊢
    rw [List.map_cons, List.sum_cons, List.length_cons, Nat.mul_succ]
    omega
/-- The answer of the query at i. -/
theorem refA_at {n : Nat} {l : List Ev} {N i : Nat} (hi : i < N) {x : Ev} (hx : l[i]? = some x) (hk : x.1 = 3) :
    (refA n l N)[(refA n l i).length]? = some ((foldP n (edS n l (i + 1))).getD x.2.1.toNat 0 == (foldP n (edS n l (i + 1))).getD x.2.2.toNat 0) ∧ (refA n l (i + 1)).length = (refA n l i).length + 1 := by
  have hl : leafA l (foldP n (edS n l (i + 1))) i = [(foldP n (edS n l (i + 1))).getD x.2.1.toNat 0 == (foldP n (edS n l (i + 1))).getD x.2.2.toNat 0] := by
    unfold leafA; rw [hx]; dsimp only; rw [if_pos hk]
  have hs := refA_succ n l i
  rw [hl] at hs
  obtain ⟨tl, ht⟩ : ∃ tl, refA n l N = refA n l (i + 1) ++ tl := by
    obtain ⟨k, rfl⟩ : ∃ k, N = i + 1 + k := ⟨N - (i + 1), by omega⟩
    clear hi
    induction k with
    | zero => exact ⟨[], by simp⟩
    | succ k ih =>
      obtain ⟨tl, ht⟩ := ih
      exact ⟨tl ++ leafA l (foldP n (edS n l (i + 1 + k + 1))) (i + 1 + k), by rw [show i + 1 + (k + 1) = (i + 1 + k) + 1 by omega, refA_succ, ht, List.append_assoc]⟩
  refine ⟨?_, by rw [hs, List.length_append]; rfl⟩
  rw [ht, hs, List.append_assoc, List.getElem?_append_right (Nat.le_refl _), Nat.sub_self]; rfl
theorem refA_skip {n : Nat} {l : List Ev} {i : Nat} {x : Ev} (hx : l[i]? = some x) (hk : x.1 ≠ 3) : (refA n l (i + 1)).length = (refA n l i).length := by
  have hl : leafA l (foldP n (edS n l (i + 1))) i = [] := by
    unfold leafA; rw [hx]; dsimp only; rw [if_neg hk]
  rw [refA_succ, hl, List.append_nil]
/-- The intervals that cover i. -/
def covB (i : Nat) (y : Iv) : Bool := decide (y.2.2.1 ≤ i) && decide (i < y.2.2.2)
theorem cov_fold {n : Int} {l : List Ev} {out : List Iv} (h : readS n l = some out) {i : Nat} (hi : i < l.length) :
    (out.filter (covB i)).foldl joinE (List.range n.toNat) = foldP n.toNat (edS n.toNat l (i + 1)) :=
  cover_fold h hi (fun y => by rw [List.mem_filter]; unfold covB; simp)
end Go.Proofs.Ytihcaemheknjbaa
