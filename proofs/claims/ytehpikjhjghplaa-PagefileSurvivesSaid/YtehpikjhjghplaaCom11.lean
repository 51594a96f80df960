/- Appending one element of several cells, and where the result lies. -/
import Derived.Test.YtehpikjhjghplaaCom6
namespace Go.Proofs.Ytehpikjhjghplaa
open Go.RowKit
theorem wpAppZAt {P : Program} {w : World} {t T : TypeId} {z : Value} {s bytes : Nat} (E : ElemZ P t T z s bytes) (hs0 : 0 < s) {a : Option Addr} {n c B : Nat} {vs : List Value} (own : OwnZ w B T s a n c vs)
    {us : List Value} (hl : us.length = s) (h1 : ∀ u ∈ us, u.oneCell' = true)
    (hlen : (n + 1) * bytes ≤ 140737488355328) (hmax : n + 1 ≤ 9223372036854775807) (hB : B ≤ w.heap.size)
    {ops : Array Oper} {rest : List Oper} {act : Act} {Q : Exit → Act → World → Prop} {dst : Option Tmp} {ty : TypeId} {pos : String} {after : Array Edge} {sl x : Operand}
    (hs : act.eval sl = .slice a n c) (hx : act.eval x = .slice (some ⟨w.heap.size, 0, none⟩) 1 1)
    (K : ∀ a' c' w', OwnZ w' B T s a' (n + 1) c' (vs ++ us) → Fr (onBlk a) w w' → (∀ k, onBlk a' k → onBlk a k ∨ w.heap.size ≤ k) → wpList P ops Q rest (act.put dst (.slice a' (n + 1) c')) w') :
    wpList P ops Q ({ dst, op := .call { callee := .builtin .append, args := #[sl, x], argTypes := #[t, t] }, type := ty, pos, after, guard := none } :: rest) act (w.alloc (.cells us.toArray T)) := by
  obtain ⟨E1, E2, E3⟩ := E
  obtain ⟨i0, hi, hz0, hz1, hz2⟩ := info_parts E2
  obtain ⟨v', w', hrun, h2, h3, h4, h5⟩ := run_append_own_at (P := P) (w.alloc (.cells us.toArray T)) B t ty T i0 z s bytes E1 hi hz0 hz1 hz2 E3 hs0 (.slice a n c) n vs (OwnZ.alloc own _) ⟨w.heap.size, 0, none⟩ 1 1 us (by omega) (by
    intro j u hj
    rw [Addr.add_lit, Nat.zero_add, World.cell?_alloc_new]
    simpa using hj) h1 (by unfold maxLen; omega) hlen (by simp; omega)
  refine wpList_plain rfl fun K' hK => ?_
  unfold Oper.wp execOp
  simp only [resolve, invoke, builtin, Sem.run_bind, Sem.run_pure, Result.andThen_ok, List.map_toArray, List.map_cons, List.map_nil, hs, hx, hrun]
  rcases h2.2 with ⟨_, hn⟩ | ⟨g, cap, cur, hv, r⟩
  · omega
  · subst hv
    refine hK _ _ (K _ _ _ h2 (Fr.trans ((Fr.refl (onBlk a) w).alloc _) (Fr.of_grown rfl h3) (fun _ _ h => h)) ?_)
    intro k hk
    have hk' := (onBlk_some _ _ _ _).1 hk
    subst hk'
    rcases h5 with h5 | h5
    · left
      cases a with
      | none => simp [Value.ownBlock] at h5
      | some a => simp [Value.ownBlock] at h5; exact ⟨a.off, a.spot, by rw [h5]⟩
    · right
      simp [Value.ownBlock] at h5
      omega
end Go.Proofs.Ytehpikjhjghplaa
