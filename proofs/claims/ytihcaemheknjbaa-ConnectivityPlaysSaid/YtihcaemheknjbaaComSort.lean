/- slices.Sort at ints: a slice that the call owns. -/
import Derived.Test.YtihcaemheknjbaaSortL
import Derived.Test.YtihcaemheknjbaaComAll
import Derived.Sort.OwnSortedInts
namespace Go.Proofs.Ytihcaemheknjbaa
open Go.RowKit
/-- What slices.Sort does to a slice that the call owns. -/
def SortP (f : FuncId) : Prop := ∀ (B n c : Nat) (a : Option Addr) (zs : List Int) (w : World), Own w B 3 a n c (ints zs) → n ≤ 1000000 →
  Calls Try.prog f #[.slice a n c] w fun e w' => e = .returned (.tuple #[]) ∧ ∃ ys, ys.Perm zs ∧ ys.Pairwise (· ≤ ·) ∧ Own w' B 3 a n c (ints ys) ∧ Fr (onBlk a) w w'
theorem Sort_any : SortP 52 := by
  intro B n c a zs w h hn
  have hl : zs.length = n := by simpa using h.len
  have none0 : ∀ p, n = 0 → Calls Try.prog 52 #[.slice p 0 c] w fun e w' => e = .returned (.tuple #[]) ∧ w' = w := fun p _ => Go.Proofs.AnyM.slices_Sort_int_none sortLay p c w
  by_cases h0 : n = 0
  · have hz : zs = [] := List.length_eq_zero_iff.1 (by omega)
    subst hz
    subst h0
    exact (none0 a rfl).mono fun e w' ⟨h1, h2⟩ => ⟨h1, [], List.Perm.refl _, List.Pairwise.nil, by rw [h2]; exact h, by rw [h2]; exact Fr.refl _ _⟩
  · rcases h.2 with ⟨_, hz⟩ | ⟨g, cap, cur, hv, hb, hh, h1, h2, h3, h4⟩
    · exact absurd hz h0
    · injection hv with ha _ hc
      subst ha
      subst hc
      have hblk : g < w.heap.size := (Array.getElem?_eq_some_iff.1 hh).1
      have h4' : cur.toList.take zs.length = zs.map (Value.int .i64) := by rw [hl]; simpa using h4
      have hs := Go.Proofs.AnyM.slices_Sort_int sortLay g 0 c zs w (holds_of_blockI hh h4') hblk (by omega)
      rw [hl] at hs
      refine hs.mono ?_
      rintro e w' ⟨he, q, os, rfl⟩
      obtain ⟨ys, hys⟩ : ∃ ys, ys = zs.mergeSort (fun x y => decide (x ≤ y)) := ⟨_, rfl⟩
      have hp : ys.Perm zs := by rw [hys]; exact List.mergeSort_perm _ _
      have hw : ys.Pairwise (· ≤ ·) := by
        rw [hys]
        have := List.pairwise_mergeSort (le := fun x y : Int => decide (x ≤ y)) (fun a b c h1 h2 => by simp at *; omega) (fun a b => by simp; omega) zs
        exact this.imp (fun h => by simpa using h)
      rw [← hys]
      have hown := ownsRow_sortedI (n := q) (os := os) (ts := ys) (ss := zs) hp.length_eq hb hh (by omega) h2 h3
      rw [hl] at hown
      exact ⟨he, ys, hp, hw, hown, Fr.of_grown (v := .slice (some ⟨g, 0, none⟩) n c) rfl (grownBy_sortedI _)⟩
end Go.Proofs.Ytihcaemheknjbaa
