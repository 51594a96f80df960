/- Two slices side by side: an append that says where; s[:k]; rows of slices. -/
import Derived.Test.YtehpikjhjghplaaSlBase
import Derived.Maps.AppendAt
namespace Go.Proofs.Ytehpikjhjghplaa
open Go.RowKit

theorem Own.take {w : World} {B T : Nat} {a : Option Addr} {n c k : Nat} {vs : List Value} (h : Own w B T a n c vs) (hk : k ≤ n) : Own w B T a k c (vs.take k) := by
  have hl := h.len
  refine ⟨by rw [List.length_take]; omega, ?_⟩
  rcases h.2 with ⟨hv, rfl⟩ | ⟨g, cap, cur, hv, hb, hh, h1, h2, h3, h4⟩
  · refine .inl ⟨?_, by omega⟩
    have : k = 0 := by omega
    subst this; exact hv
  · injection hv with ha hn hc
    refine .inr ⟨g, cap, cur, by rw [ha, hc], hb, hh, by omega, h2, h3, ?_⟩
    rw [← h4, List.take_take]
    congr 1; omega

theorem Own.cap {w : World} {B T : Nat} {a : Option Addr} {n c : Nat} {vs : List Value} (h : Own w B T a n c vs) : n ≤ c := by
  rcases h.2 with ⟨hv, rfl⟩ | ⟨g, cap, cur, hv, hb, hh, h1, h2, h3, h4⟩
  · omega
  · injection hv with ha hn hc
    omega

/-- 'append(s, u)', and where the result lies. -/
theorem wpAppAt {P : Program} {w : World} {t T : TypeId} {z : Value} {bytes : Nat} (E : Elem1 P t T z bytes) {a : Option Addr} {n c B : Nat} {vs : List Value} (own : Own w B T a n c vs)
    (hlen : (n + 1) * bytes ≤ 140737488355328) (hmax : n + 1 ≤ 9223372036854775807) (hB : B ≤ w.heap.size) {u : Value} (hu : u.oneCell' = true)
    {ops : Array Oper} {rest : List Oper} {act : Act} {Q : Exit → Act → World → Prop} {dst : Option Tmp} {ty : TypeId} {pos : String} {after : Array Edge} {s x : Operand}
    (hs : act.eval s = .slice a n c) (hx : act.eval x = .slice (some ⟨w.heap.size, 0, none⟩) 1 1)
    (K : ∀ a' c' w', Own w' B T a' (n + 1) c' (vs ++ [u]) → Fr (onBlk a) w w' → (∀ k, onBlk a' k → onBlk a k ∨ w.heap.size ≤ k) → wpList P ops Q rest (act.put dst (.slice a' (n + 1) c')) w') :
    wpList P ops Q ({ dst, op := .call { callee := .builtin .append, args := #[s, x], argTypes := #[t, t] }, type := ty, pos, after, guard := none } :: rest) act (w.alloc (.cells #[u] T)) := by
  obtain ⟨E1, E2, E3⟩ := E
  obtain ⟨i0, hi, hz0, hz1, hz2⟩ := info_parts E2
  refine wpList_append_own_at (w := w.alloc (.cells #[u] T)) rfl s x t rfl B T i0 z 1 bytes E1 hi hz0 hz1 hz2 E3 (by decide) (.slice a n c) n vs hs (Own.alloc own _) ⟨w.heap.size, 0, none⟩ 1 1 [u] hx rfl (cell_one_new _ _ _) ?_ (by unfold maxLen; omega) hlen (by simp; omega) ?_
  · intro u' hu'; simp at hu'; subst hu'; exact hu
  · intro v' w' hown hg hnil hat
    rcases hown.2 with ⟨_, hn⟩ | ⟨g, cap, cur, hv, r⟩
    · omega
    · subst hv
      refine K _ _ _ hown (Fr.trans ((Fr.refl (onBlk a) w).alloc _) (Fr.of_grown rfl hg) (fun _ _ h => h)) ?_
      intro k hk
      have hk' := (onBlk_some _ _ _ _).1 hk
      subst hk'
      rcases hat with hat | hat
      · left
        cases a with
        | none => simp [Value.ownBlock] at hat
        | some a => simp [Value.ownBlock] at hat; exact ⟨a.off, a.spot, by rw [hat]⟩
      · right
        simp [Value.ownBlock] at hat
        omega

/-- Two slices in different blocks. -/
def Apart (a b : Option Addr) : Prop := ∀ k, onBlk a k → ¬ onBlk b k
theorem Apart.symm {a b : Option Addr} (h : Apart a b) : Apart b a := fun k hb ha => h k ha hb
theorem apart_none (a : Option Addr) : Apart a none := fun _ _ h => onBlk_none _ h
theorem none_apart (a : Option Addr) : Apart none a := fun _ h => absurd h (onBlk_none _)
/-- Behind an append to the first. -/
theorem Apart.app {w : World} {a a' b : Option Addr} (h : Apart a b) (hat : ∀ k, onBlk a' k → onBlk a k ∨ w.heap.size ≤ k) (hb : ∀ k, onBlk b k → k < w.heap.size) : Apart a' b :=
  fun k hk hbk => (hat k hk).elim (fun h1 => h k h1 hbk) (fun h1 => absurd (hb k hbk) (by omega))

end Go.Proofs.Ytehpikjhjghplaa
