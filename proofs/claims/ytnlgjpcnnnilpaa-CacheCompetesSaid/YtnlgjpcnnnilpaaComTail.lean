/- A slice that a call owns and that may begin inside its block: s = s[1:], s = append(s, x). -/
import Derived.Test.YtnlgjpcnnnilpaaCom9
import Derived.ArgAppend
namespace Go.Proofs.Ytnlgjpcnnnilpaa
open Go.RowKit

structure OwnT (w : World) (B : Nat) (T : TypeId) (a : Option Addr) (n c : Nat) (vs : List Value) : Prop where
  len : vs.length = n
  cap : n ≤ c
  max : c ≤ 9223372036854775807
  cells : (a = none ∧ n = 0 ∧ c = 0) ∨ ∃ g o cur, a = some ⟨g, o, none⟩ ∧ B ≤ g ∧ w.heap[g]? = some (.cells cur T (0, 0)) ∧ o + c ≤ cur.size ∧ ∀ i u, vs[i]? = some u → cur[o + i]? = some u
section
variable {w w' : World} {B : Nat} {T : TypeId} {a : Option Addr} {n c : Nat} {vs : List Value}
theorem OwnT.nil (w : World) (B : Nat) (T : TypeId) : OwnT w B T none 0 0 [] := ⟨rfl, Nat.le_refl _, by omega, .inl ⟨rfl, rfl, rfl⟩⟩
theorem OwnT.of (h : Own w B T a n c vs) : OwnT w B T a n c vs := by
  have hl := h.len
  have hc := h.cap
  rcases h.2 with ⟨hv, hn⟩ | ⟨g, cap, cur, hv, hb, hh, h1, h2, h3, h4⟩
  · injection hv with e1 e2 e3
    subst e1; subst hn; subst e3
    exact ⟨hl, hc, by omega, .inl ⟨rfl, rfl, rfl⟩⟩
  · injection hv with e1 _ e3
    subst e3
    refine ⟨hl, hc, by have : c ≤ 9223372036854775807 := h2; exact this, .inr ⟨g, 0, cur, e1, hb, hh, by omega, fun i u hu => ?_⟩⟩
    rw [← h4, List.getElem?_take] at hu
    split at hu
    · rw [Nat.zero_add]; simpa using hu
    · cases hu
theorem OwnT.rd (h : OwnT w B T a n c vs) : Rd w a n vs := by
  refine ⟨h.len, by have := h.cap; have := h.max; omega, fun hn => ?_⟩
  rcases h.cells with ⟨_, h0, _⟩ | ⟨g, o, cur, ha, _, hh, _, hc⟩
  · omega
  · exact ⟨g, o, ha, fun i u hu => by rw [cell_of_row w g _ cur T (0, 0) hh]; exact hc i u hu⟩
theorem OwnT.blk (h : OwnT w B T a n c vs) : ∀ k, onBlk a k → B ≤ k ∧ k < w.heap.size := by
  intro k hk
  rcases h.cells with ⟨rfl, _⟩ | ⟨g, o, cur, rfl, hb, hh, _⟩
  · exact absurd hk (onBlk_none k)
  · rw [(onBlk_some _ _ _ _).1 hk]
    exact ⟨hb, (Array.getElem?_eq_some_iff.1 hh).1⟩
theorem OwnT.fr {S : Nat → Prop} (h : OwnT w B T a n c vs) (f : Fr S w w') (hS : ∀ k, onBlk a k → ¬ S k) : OwnT w' B T a n c vs := by
  refine ⟨h.len, h.cap, h.max, ?_⟩
  rcases h.cells with h1 | ⟨g, o, cur, ha, hb, hh, r⟩
  · exact .inl h1
  · exact .inr ⟨g, o, cur, ha, hb, (f.block g (Array.getElem?_eq_some_iff.1 hh).1 (hS g (by rw [ha]; exact (onBlk_some _ _ _ _).2 rfl))).trans hh, r⟩
theorem OwnT.mono {B' : Nat} (h : OwnT w B T a n c vs) (hB : B' ≤ B) : OwnT w B' T a n c vs := by
  refine ⟨h.len, h.cap, h.max, ?_⟩
  rcases h.cells with h1 | ⟨g, o, cur, ha, hb, r⟩
  · exact .inl h1
  · exact .inr ⟨g, o, cur, ha, by omega, r⟩
/-- 's[1:]'. -/
theorem OwnT.cut1 {v : Value} {vs : List Value} {n : Nat} (h : OwnT w B T a (n + 1) c (v :: vs)) : OwnT w B T (cutA a c 1) n (c - 1) vs := by
  have hc := h.cap
  have hm := h.max
  refine ⟨by simpa using h.len, by omega, by omega, ?_⟩
  rcases h.cells with ⟨_, h0, _⟩ | ⟨g, o, cur, rfl, hb, hh, hs, hcell⟩
  · omega
  · rw [cutA_some]
    by_cases h1 : c = 1
    · rw [if_pos h1]
      refine .inr ⟨g, o, cur, rfl, hb, hh, by omega, fun i u hu => ?_⟩
      have hl := h.len
      have hi := (List.getElem?_eq_some_iff.1 hu).1
      simp at hl
      omega
    · rw [if_neg h1]
      exact .inr ⟨g, o + 1, cur, rfl, hb, hh, by omega, fun i u hu => by rw [show o + 1 + i = o + (i + 1) by omega]; exact hcell (i + 1) u (by simpa using hu)⟩
end
/-- 'append(s, u)'. -/
theorem wpAppT {P : Program} {w : World} {t T : TypeId} {z : Value} {bytes : Nat} (E : Elem1 P t T z bytes) {a : Option Addr} {n c B : Nat} {vs : List Value} (own : OwnT w B T a n c vs)
    (hlen : (n + 1) * bytes ≤ 140737488355328) (hmax : n + 1 ≤ 9223372036854775807) (hB : B ≤ w.heap.size) {u : Value} (hu : u.oneCell' = true)
    {ops : Array Oper} {rest : List Oper} {act : Act} {Q : Exit → Act → World → Prop} {dst : Option Tmp} {ty : TypeId} {pos : String} {after : Array Edge} {s x : Operand}
    (hs : act.eval s = .slice a n c) (hx : act.eval x = .slice (some ⟨w.heap.size, 0, none⟩) 1 1)
    (K : ∀ a' c' w', OwnT w' B T a' (n + 1) c' (vs ++ [u]) → Fr (onBlk a) w w' → (∀ k, onBlk a' k → onBlk a k ∨ w.heap.size ≤ k) → wpList P ops Q rest (act.put dst (.slice a' (n + 1) c')) w') :
    wpList P ops Q ({ dst, op := .call { callee := .builtin .append, args := #[s, x], argTypes := #[t, t] }, type := ty, pos, after, guard := none } :: rest) act (w.alloc (.cells #[u] T)) := by
  have hlv := own.len
  rcases own.cells with ⟨rfl, rfl, rfl⟩ | ⟨g, o, cur, rfl, hb, hh, hsz, hcell⟩
  · have : vs = [] := List.length_eq_zero_iff.1 hlv
    subst this
    exact wpAppAt E (Own.nil w B T) hlen hmax hB hu hs hx (fun a' c' w' h1 h2 h3 => K a' c' w' (OwnT.of h1) h2 h3)
  · obtain ⟨E1, E2, E3⟩ := E
    obtain ⟨i0, hi, hz0, hz1, hz2⟩ := info_parts E2
    have hgl := (Array.getElem?_eq_some_iff.1 hh).1
    have hh1 : (w.alloc (.cells #[u] T)).heap[g]? = some (.cells cur T (0, 0)) := (Below.heap_alloc _ _ _ hgl).trans hh
    have hcu : ∀ j, (w.alloc (.cells #[u] T)).cell? ⟨g, j, none⟩ = cur[j]? := fun j => cell_of_row _ g j cur T (0, 0) hh1
    refine wpList_append_arg (w.alloc (.cells #[u] T)) rfl s x t rfl T i0 z 1 bytes E1 hi hz0 hz1 hz2 E3 (by decide) g o n c vs hs (by omega) (fun j v hj => by rw [hcu]; exact hcell j v hj)
      ⟨w.heap.size, 0, none⟩ 1 1 [u] hx rfl (cell_one_new _ _ _) (fun v hv => by simp at hv; subst hv; exact hu) (fun hr j hj => ?_) (by unfold maxLen; omega) hlen (fun hr => ?_) (fun hr v' w' hown hg => ?_)
    · simp at hj
      subst hj
      refine ⟨?_, by simp [World.frozen?, hh1]⟩
      rw [hcu, Array.getElem?_eq_getElem (by omega)]
      rfl
    · have e1 : (w.alloc (.cells #[u] T)).setCells g (o + n * 1) [u] = (w.alloc (.cells #[u] T)).setCell ⟨g, o + n, none⟩ u := by
        rw [Nat.mul_one]; rfl
      rw [e1]
      refine K _ _ _ ⟨by simp [hlv], by omega, own.max, .inr ⟨g, o, cur.setIfInBounds (o + n) u, rfl, hb, heap_setCell_same hh1 u, by simpa using hsz, fun i v hv => ?_⟩⟩ ?_ (fun k hk => .inl ?_)
      · rw [Array.getElem?_setIfInBounds]
        by_cases hin : i = n
        · subst hin
          rw [if_pos rfl, if_pos (by omega)]
          rw [List.getElem?_append_right (by omega), hlv, Nat.sub_self] at hv
          simpa using hv
        · have hi' : i < n := by
            have := (List.getElem?_eq_some_iff.1 hv).1
            simp [hlv] at this
            omega
          rw [if_neg (by omega)]
          rw [List.getElem?_append_left (by omega)] at hv
          exact hcell i v hv
      · exact Fr.setCell (p := ⟨g, o + n, none⟩) ((Fr.refl (onBlk (some ⟨g, o, none⟩)) w).alloc _) (fun _ => (onBlk_some _ _ _ _).2 rfl) u
      · exact (onBlk_some _ _ _ _).2 ((onBlk_some _ _ _ _).1 hk)
    · rcases hown.2 with ⟨_, hn⟩ | ⟨g', cap', cur', hv, r⟩
      · omega
      · subst hv
        have hB' : B ≤ (w.alloc (.cells #[u] T)).heap.size := by simp; omega
        refine K _ _ _ ((OwnT.of hown).mono hB') (Fr.trans0 ((Fr.refl _ w).alloc _) (Fr.of_grown0 hg)) (fun k hk => .inr ?_)
        have := ((OwnT.of hown).blk k hk).1
        simp at this
        omega

end Go.Proofs.Ytnlgjpcnnnilpaa
