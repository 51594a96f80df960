/- slices.Compact at ints: a slice that the call owns. -/
import Derived.Test.YtehpikjhjghplaaCompactL
import Derived.Test.YtehpikjhjghplaaCom4
import Derived.Sort.OwnSortedInts
namespace Go.Proofs.Ytehpikjhjghplaa
open Go.RowKit
theorem Compact_any {B n c : Nat} {a : Option Addr} {zs : List Int} {w : World} (h : Own w B 3 a n c (ints zs)) (hn : n ≤ 1000000) :
    Calls Try.prog 37 #[.slice a n c] w fun e w' => ∃ a' c', e = .returned (.slice a' (Lib.compact zs).length c') ∧ Fr (onBlk a) w w' := by
  have hl : zs.length = n := by simpa using h.len
  by_cases h0 : n = 0
  · have hz : zs = [] := List.length_eq_zero_iff.1 (by omega)
    subst hz
    subst h0
    exact (show Calls Try.prog 37 #[.slice a 0 c] w fun e w' => e = .returned (.slice a 0 c) ∧ w' = w from Go.Proofs.AnyG.slices_Compact_int_empty compactLay a c w).mono fun e w' ⟨h1, h2⟩ => ⟨a, c, h1, by rw [h2]; exact Fr.refl _ _⟩
  · rcases h.2 with ⟨_, hz⟩ | ⟨g, cap, cur, hv, hb, hh, h1, h2, h3, h4⟩
    · exact absurd hz h0
    · injection hv with ha _ hc
      subst ha
      subst hc
      have h4' : cur.toList.take zs.length = zs.map (Value.int .i64) := by rw [hl]; simpa using h4
      have hs : Calls Try.prog 37 #[.slice (some ⟨g, 0, none⟩) zs.length c] w _ := Go.Proofs.AnyG.slices_Compact_int compactLay g 0 c zs w (holds_of_blockI hh h4') (by omega) (by omega)
      rw [hl] at hs
      refine hs.mono ?_
      rintro e w' ⟨he, q, rfl⟩
      refine ⟨_, _, he, ?_⟩
      have hg := grownBy_sortedI (w := w) (g := g) (n := q) (os := #[]) (Lib.compact zs ++ List.replicate (n - (Lib.compact zs).length) 0).toArray
      rw [Sort.grow_empty] at hg
      exact Fr.of_grown (v := .slice (some ⟨g, 0, none⟩) n c) rfl hg
end Go.Proofs.Ytehpikjhjghplaa
