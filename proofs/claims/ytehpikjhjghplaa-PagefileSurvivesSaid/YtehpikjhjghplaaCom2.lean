/- More common lemmas: a slice appended whole to one that the call owns. -/
import Derived.Test.YtehpikjhjghplaaCom
namespace Go.Proofs.Ytehpikjhjghplaa
open Go.RowKit

/-- 'append(s, x...)': s owned, x another slice with elements of one cell. -/
theorem wpAppAll {P : Program} {w : World} {t T : TypeId} {z : Value} {bytes : Nat} (E : Elem1 P t T z bytes) {a : Option Addr} {n c B : Nat} {vs : List Value} (own : Own w B T a n c vs)
    {b o m cx : Nat} {us : List Value} (hl : us.length = m) (hc : ∀ i u, us[i]? = some u → w.cell? ⟨b, o + i, none⟩ = some u) (h1 : ∀ u ∈ us, u.oneCell' = true)
    (hlen : (n + m) * bytes ≤ 140737488355328) (hmax : n + m ≤ 9223372036854775807) (hB : B ≤ w.heap.size) (hm : 0 < m)
    {ops : Array Oper} {rest : List Oper} {act : Act} {Q : Exit → Act → World → Prop} {dst : Option Tmp} {ty : TypeId} {pos : String} {after : Array Edge} {s x : Operand}
    (hs : act.eval s = .slice a n c) (hx : act.eval x = .slice (some ⟨b, o, none⟩) m cx)
    (K : ∀ a' c' w', Own w' B T a' (n + m) c' (vs ++ us) → Fr (onBlk a) w w' → wpList P ops Q rest (act.put dst (.slice a' (n + m) c')) w') :
    wpList P ops Q ({ dst, op := .call { callee := .builtin .append, args := #[s, x], argTypes := #[t, t] }, type := ty, pos, after, guard := none } :: rest) act w := by
  obtain ⟨E1, E2, E3⟩ := E
  obtain ⟨i0, hi, hz0, hz1, hz2⟩ := info_parts E2
  refine wpList_append_own (w := w) rfl s x t rfl B T i0 z 1 bytes E1 hi hz0 hz1 hz2 E3 (by decide) (.slice a n c) n vs hs own ⟨b, o, none⟩ m cx us hx (by omega) ?_ h1 (by unfold maxLen; omega) hlen hB ?_
  · intro j u hj
    rw [Addr.add_lit]
    exact hc j u hj
  · intro v' w' hown hg _
    rcases hown.2 with ⟨_, hn⟩ | ⟨g, cap, cur, hv, r⟩
    · omega
    · subst hv
      exact K _ _ _ hown (Fr.of_grown rfl hg)
theorem oneCell_ints (xs : List Int) : ∀ u ∈ xs.map (Value.int .i64), u.oneCell' = true := by
  intro u hu
  obtain ⟨_, _, rfl⟩ := List.mem_map.1 hu
  rfl

end Go.Proofs.Ytehpikjhjghplaa
