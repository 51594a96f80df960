/- A slice appended whole, nil or empty or not, in the words of Com; in a plain region and at a step of a region that draws. -/
import Derived.Test.YtehpikjhjghplaaCom4
import Derived.Deep.AppendLies
import Derived.Deep.DrawnRows
import Derived.Deep.RegionHeld3
namespace Go.Proofs.Ytehpikjhjghplaa
open Go.RowKit

theorem runAppRd {P : Program} {w : World} {t T : TypeId} {z : Value} {bytes : Nat} (E : Elem1 P t T z bytes) {a : Option Addr} {n c B : Nat} {vs : List Value} (own : Own w B T a n c vs)
    {b : Option Addr} {m cx : Nat} {us : List Value} (hx : Rd w b m us) (h1 : ∀ u ∈ us, u.oneCell' = true)
    (hlen : (n + m) * bytes ≤ 140737488355328) (hmax : n + m ≤ 9223372036854775807) (hB : B ≤ w.heap.size) (ty : TypeId) :
    ∃ a' c' w', (Builtin.append_ #[t, t] ty #[.slice a n c, .slice b m cx]).run P w = .ok (.slice a' (n + m) c') w' ∧ Own w' B T a' (n + m) c' (vs ++ us) ∧ Fr (onBlk a) w w' ∧ (∀ k, onBlk a' k → onBlk a k ∨ w.heap.size ≤ k) := by
  obtain ⟨E1, E2, E3⟩ := E
  obtain ⟨i0, hi, hz0, hz1, hz2⟩ := info_parts E2
  have key : ∀ (v' w'), w'.ownsRow B T 1 v' (n + m) (vs ++ us) → w.grownBy w' (Value.slice a n c).ownBlock → (v'.ownBlock = (Value.slice a n c).ownBlock ∨ v'.ownBlock = some w.heap.size) →
      (v' = .slice none 0 0 → n + m = 0) →
      ∃ a' c', v' = .slice a' (n + m) c' ∧ Own w' B T a' (n + m) c' (vs ++ us) ∧ Fr (onBlk a) w w' ∧ (∀ k, onBlk a' k → onBlk a k ∨ w.heap.size ≤ k) := by
    intro v' w' ho hg hat hnil
    have hfr : Fr (onBlk a) w w' := Fr.of_grown rfl hg
    rcases ho.2 with ⟨hv, hn⟩ | ⟨g, cap, cur, hv, r⟩
    · refine ⟨none, 0, ?_, ?_, hfr, fun k hk => absurd hk (onBlk_none k)⟩
      · rw [hv, hn]
      · rw [hv] at ho; rw [hn] at ho ⊢; exact ho
    · subst hv
      refine ⟨_, _, rfl, ho, hfr, fun k hk => ?_⟩
      have hk' := (onBlk_some _ _ _ _).1 hk
      subst hk'
      rcases hat with hat | hat
      · left
        cases a with
        | none => simp [Value.ownBlock] at hat
        | some a => simp [Value.ownBlock] at hat; exact ⟨a.off, a.spot, by rw [hat]⟩
      · right
        simp [Value.ownBlock] at hat
        omega
  cases b with
  | none =>
    have hm : m = 0 := by
      rcases Nat.eq_zero_or_pos m with h0 | h0
      · exact h0
      · obtain ⟨_, _, h, _⟩ := hx.cells h0
        cases h
    subst hm
    have hu : us = [] := List.length_eq_zero_iff.1 hx.len
    subst hu
    refine ⟨a, c, w, ?_, by simpa using own, Fr.refl _ _, fun k hk => .inl hk⟩
    rcases own.2 with ⟨hv, hn⟩ | ⟨g, cap, cur, hv, _, _, hnc, _⟩
    · injection hv with e1 e2 e3
      subst e1 hn e3
      simp [Builtin.append_, run_underlying E1, sizeOf, typeInfo, hi, Builtin.lenOf, Builtin.firstCells]
    · injection hv with e1 e2 e3
      subst e1 e3
      simp [Builtin.append_, run_underlying E1, sizeOf, typeInfo, hi, Builtin.lenOf, Builtin.firstCells, hnc, storeCells]
  | some ad =>
    have hcells : ∀ j u, us[j]? = some u → w.cell? (ad.add j) = some u := by
      intro j u hu
      rcases Nat.eq_zero_or_pos m with h0 | h0
      · have : us = [] := List.length_eq_zero_iff.1 (by rw [hx.len]; exact h0)
        subst this; simp at hu
      · obtain ⟨g, o, h, hc⟩ := hx.cells h0
        injection h with h
        subst h
        rw [Addr.add_lit]; exact hc j u hu
    obtain ⟨v', w', hrun, h2, h3, h4, h5⟩ := run_append_own_at (P := P) w B t ty T i0 z 1 bytes E1 hi hz0 hz1 hz2 E3 (by decide) (.slice a n c) n vs own ad m cx us (by have := hx.len; omega) hcells h1 (by unfold maxLen; omega) hlen hB
    obtain ⟨a', c', hv, g1, g2, g3⟩ := key v' w' h2 h3 h5 (fun h => by have := h4.1 h; rcases own.2 with ⟨_, hn⟩ | ⟨g, cap, cur, hv, _⟩; · omega
                                                                       · rw [hv] at this; cases this.1)
    subst hv
    exact ⟨a', c', w', hrun, g1, g2, g3⟩

/-- 'append(s, x...)' in a plain region. -/
theorem wpAppRd {P : Program} {w : World} {t T : TypeId} {z : Value} {bytes : Nat} (E : Elem1 P t T z bytes) {a : Option Addr} {n c B : Nat} {vs : List Value} (own : Own w B T a n c vs)
    {b : Option Addr} {m cx : Nat} {us : List Value} (hr : Rd w b m us) (h1 : ∀ u ∈ us, u.oneCell' = true)
    (hlen : (n + m) * bytes ≤ 140737488355328) (hmax : n + m ≤ 9223372036854775807) (hB : B ≤ w.heap.size) (k : Nat) (hk : n + m = k)
    {ops : Array Oper} {rest : List Oper} {act : Act} {Q : Exit → Act → World → Prop} {dst : Option Tmp} {ty : TypeId} {pos : String} {after : Array Edge} {s x : Operand}
    (hs : act.eval s = .slice a n c) (hx : act.eval x = .slice b m cx)
    (K : ∀ a' c' w', Own w' B T a' k c' (vs ++ us) → Fr (onBlk a) w w' → (∀ k, onBlk a' k → onBlk a k ∨ w.heap.size ≤ k) → wpList P ops Q rest (act.put dst (.slice a' k c')) w') :
    wpList P ops Q ({ dst, op := .call { callee := .builtin .append, args := #[s, x], argTypes := #[t, t] }, type := ty, pos, after, guard := none } :: rest) act w := by
  subst hk
  refine wpList_plain rfl fun K' hK => ?_
  obtain ⟨a', c', w', hrun, g1, g2, g3⟩ := runAppRd E own hr h1 hlen hmax hB (cx := cx) ty
  unfold Oper.wp execOp
  simp only [resolve, invoke, builtin, Sem.run_bind, Sem.run_pure, Result.andThen_ok, List.map_toArray, List.map_cons, List.map_nil, hs, hx, hrun]
  exact hK _ _ (K a' c' w' g1 g2 g3)
/-- .. and at a step of a region that draws. -/
theorem stepAppRd {P : Program} {w : World} {t T : TypeId} {z : Value} {bytes : Nat} (E : Elem1 P t T z bytes) {a : Option Addr} {n c B : Nat} {vs : List Value}
    {b : Option Addr} {m cx : Nat} {us : List Value}
    {ops : Array Oper} {o : Oper} {act : Act} {K : Act → World → Prop} {Q : Exit → Act → World → Prop} {F : Prop} {s x : Operand} (hgd : o.guard = none)
    (ho : o.op = .call { callee := .builtin .append, args := #[s, x], argTypes := #[t, t] })
    (hs : act.eval s = .slice a n c) (hx : act.eval x = .slice b m cx) (own : Own w B T a n c vs) (hr : Rd w b m us) (h1 : ∀ u ∈ us, u.oneCell' = true)
    (hlen : (n + m) * bytes ≤ 140737488355328) (hmax : n + m ≤ 9223372036854775807) (hB : B ≤ w.heap.size) (k : Nat) (hk : n + m = k)
    (h : ∀ a' c' w', Own w' B T a' k c' (vs ++ us) → Fr (onBlk a) w w' → (∀ k, onBlk a' k → onBlk a k ∨ w.heap.size ≤ k) → K (act.put o.dst (.slice a' k c')) w') :
    if Region.wanted o (yielded ops act.tmps) = true then Oper.wp P o act w K Q else F := by
  subst hk
  have hw : Region.wanted o (yielded ops act.tmps) = true := by simp [Region.wanted, hgd]
  rw [if_pos hw]
  obtain ⟨a', c', w', hrun, g1, g2, g3⟩ := runAppRd E own hr h1 hlen hmax hB (cx := cx) o.type
  unfold Oper.wp execOp
  simp only [ho, resolve, invoke, builtin, Sem.run_bind, Sem.run_pure, Result.andThen_ok, List.map_toArray, List.map_cons, List.map_nil, hs, hx, hrun]
  exact h a' c' w' g1 g2 g3

end Go.Proofs.Ytehpikjhjghplaa
