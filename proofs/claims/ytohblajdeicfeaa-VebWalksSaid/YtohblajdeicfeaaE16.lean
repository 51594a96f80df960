/- Sets: the exported functions. -/
import Derived.Test.YtohblajdeicfeaaE15
namespace Go.Proofs.Ytohblajdeicfeaa
open Go.RowKit
attribute [local go_sem ↓] Go.wp_at_zero Go.wp_at_succ
/-- The height that counts: a word, clusters of words, clusters of those. -/
def dk (k : Nat) : Nat := if k ≤ 6 then 0 else if k ≤ 12 then 1 else 2
theorem dk_le (k : Nat) : dk k ≤ 2 := by unfold dk; split <;> (try split) <;> omega
theorem dk_bits {k : Nat} (h : k ≤ 20) : k ≤ 6 * 2 ^ dk k := by
  unfold dk
  split
  · omega
  · split <;> simp <;> omega
abbrev memI (xs : List Int) : Nat → Prop := fun y => (y : Int) ∈ xs
/-- At block s lies a set of a universe of k bits, its elements xs in order, its blocks among N. -/
structure SR (w : World) (s k rb : Nat) (st : Int) (xs : List Int) (N : Nat → Prop) : Prop where
  k1 : 1 ≤ k
  k20 : k ≤ 20
  blk : Blk w s 57 (stC k xs.length st rb)
  tr : VT (dk k) w k rb (memI xs) N
  nf : ¬ N s
  so : xs.Pairwise (· < ·)
  pos : ∀ x ∈ xs, 0 ≤ x
  s0 : 0 ≤ st
  s1 : st ≤ 20
theorem SR.fr {w w' : World} {s k rb : Nat} {st : Int} {xs : List Int} {N F : Nat → Prop} (h : SR w s k rb st xs N) (f : Fr F w w') (hF : ∀ q, N q → ¬ F q) (hs : ¬ F s) : SR w' s k rb st xs N :=
  { h with blk := h.blk.fr f hs, tr := h.tr.fr f hF }
theorem SR.lt {w : World} {s k rb : Nat} {st : Int} {xs : List Int} {N : Nat → Prop} (h : SR w s k rb st xs N) : ∀ q, N q ∨ q = s → q < w.heap.size := fun q hq => hq.elim (h.tr.lt q) (fun e => e ▸ lt_of_block h.blk)
theorem SR.lim {w : World} {s k rb : Nat} {st : Int} {xs : List Int} {N : Nat → Prop} (h : SR w s k rb st xs N) {x : Int} (hx : x ∈ xs) : x < ((2 ^ k : Nat) : Int) := by
  have h0 := h.pos x hx
  have := h.tr.lim x.toNat (by show ((x.toNat : Nat) : Int) ∈ xs; rwa [Int.toNat_of_nonneg h0])
  omega
/-- Sorted insertion. -/
def insI : List Int → Int → List Int
  | [], x => [x]
  | y :: l, x => if x < y then x :: y :: l else if x = y then y :: l else y :: insI l x
theorem mem_insI {xs : List Int} {x y : Int} : y ∈ insI xs x ↔ y ∈ xs ∨ y = x := by
  induction xs with
  | nil => simp [insI]
  | cons a l ih =>
    simp only [insI]
    split
    · simp [or_comm]
    · split
      · next h => subst h; simp; exact fun e => .inl e
      · simp only [List.mem_cons, ih]; exact or_assoc.symm
theorem insI_sorted {xs : List Int} (h : xs.Pairwise (· < ·)) (x : Int) : (insI xs x).Pairwise (· < ·) := by
  induction xs with
  | nil => simp [insI]
  | cons a l ih =>
    obtain ⟨h1, h2⟩ := List.pairwise_cons.1 h
    simp only [insI]
    split
    · next g => exact List.pairwise_cons.2 ⟨fun b hb => by rcases List.mem_cons.1 hb with rfl | hb; exact g; have := h1 b hb; omega, h⟩
    · split
      · exact h
      · next g g' => exact List.pairwise_cons.2 ⟨fun b hb => by rcases mem_insI.1 hb with hb | rfl; exact h1 b hb; omega, ih h2⟩
theorem insI_has {xs : List Int} (h : xs.Pairwise (· < ·)) {x : Int} (hx : x ∈ xs) : insI xs x = xs := by
  induction xs with
  | nil => cases hx
  | cons a l ih =>
    obtain ⟨h1, h2⟩ := List.pairwise_cons.1 h
    simp only [insI]
    rcases List.mem_cons.1 hx with rfl | hx
    · rw [if_neg (by omega), if_pos rfl]
    · have := h1 x hx
      rw [if_neg (by omega), if_neg (by omega), ih h2 hx]
theorem insI_len {xs : List Int} {x : Int} (hx : x ∉ xs) : (insI xs x).length = xs.length + 1 := by
  induction xs with
  | nil => rfl
  | cons a l ih =>
    simp only [insI]
    split
    · rfl
    · split
      · next g => exact absurd (List.mem_cons.2 (.inl g)) hx
      · simp [ih (fun e => hx (List.mem_cons.2 (.inr e)))]
def delI (xs : List Int) (x : Int) : List Int := xs.filter (fun y => y != x)
theorem mem_delI {xs : List Int} {x y : Int} : y ∈ delI xs x ↔ y ∈ xs ∧ y ≠ x := by simp [delI]
theorem delI_no {xs : List Int} {x : Int} (h : x ∉ xs) : delI xs x = xs := by
  unfold delI
  rw [List.filter_eq_self]
  intro a ha
  simp
  exact fun e => h (e ▸ ha)
theorem delI_len {xs : List Int} (h : xs.Pairwise (· < ·)) {x : Int} (hx : x ∈ xs) : (delI xs x).length + 1 = xs.length := by
  induction xs with
  | nil => cases hx
  | cons a l ih =>
    obtain ⟨h1, h2⟩ := List.pairwise_cons.1 h
    by_cases e : a = x
    · subst e
      have hn : a ∉ l := fun e => by have := h1 a e; omega
      have : delI (a :: l) a = l := by
        have h3 := delI_no hn
        unfold delI at h3 ⊢
        simp [h3]
      rw [this]; rfl
    · have hx' : x ∈ l := (List.mem_cons.1 hx).elim (fun g => absurd g.symm e) id
      have : delI (a :: l) x = a :: delI l x := by unfold delI; simp [e]
      rw [this, List.length_cons, List.length_cons, ih h2 hx']
theorem outside_any {w : World} {s k : Nat} {vs : List Value} {x : Int} (hb : Blk w s 57 (.int .i64 k :: vs)) (hk : k ≤ 20) :
    Calls Try.prog 35 #[.pointer (some ⟨s, 0, none⟩), .int .i64 x] w fun e w' => e = .returned (.bool (decide (x < 0 ∨ ((2 ^ k : Nat) : Int) ≤ x))) ∧ w = w' := by
  have y0 := hb.cell (i := 0) rfl
  have HP := Lib.hid (wrapP (i := k) hk)
  obtain ⟨p, hpe⟩ : ∃ p, p = (2 : Nat) ^ k := ⟨_, rfl⟩
  have HPE := Lib.hid hpe
  rw [← hpe]
  clear hb hpe
  by_cases h0 : x < 0
  · go_enter Try.func35, Try.ntmps35
    go_wp2_with fail
    go_ret
    exact ⟨ret_bool (by simp [h0]), rfl⟩
  · go_enter Try.func35, Try.ntmps35
    go_wp2_with fail
    go_ret
    refine ⟨ret_bool ?_, rfl⟩
    rw [HP.out, show ((2 : Int) ^ k) = (p : Int) by rw [HPE.out]; simp]
    simp
    intro _
    omega
end Go.Proofs.Ytohblajdeicfeaa
