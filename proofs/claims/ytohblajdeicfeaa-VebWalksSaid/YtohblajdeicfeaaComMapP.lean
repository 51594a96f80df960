/- A map from ints to pointers that a call has made: what it holds, as a function. -/
import Derived.Test.YtohblajdeicfeaaCom9
import Derived.Maps.OwnSet
import Derived.Maps.OwnOps
namespace Go.Proofs.Ytohblajdeicfeaa
open Go.RowKit Go.Maps

theorem keyI : Keyed Try.prog 3 := int_keyed (q := .i64) (by kernel_rfl)
abbrev wfI (k : Int) : Prop := (Lit.int .i64 k).wf = true
theorem wfI_of {k : Int} (h0 : -9223372036854775808 ≤ k) (h1 : k ≤ 9223372036854775807) : wfI k := WalkArith.wf_i64 ⟨h0, h1⟩
theorem keyI_mk {k : Int} (h : wfI k) : keyOf Try.prog 3 (.int .i64 k) = some (.int .i64 k) := keyOf_int_mk (by kernel_rfl) h
theorem litI {k : Int} (h : wfI k) : WideAt.IsKeyLit (.int .i64 k) := keyI.key (keyI_mk h)
/-- How an element that is a pointer reads. -/
def ptrR : Value → Option (DataW Unit × List MemPlace)
  | .pointer none => some (.lit (.int .i64 (-1)), [])
  | .pointer (some ⟨b, 0, none⟩) => some (.lit (.int .i64 b), [])
  | _ => none
theorem ptrR_inj : ∀ (v v' : Value) (x : DataW Unit × List MemPlace), ptrR v = some x → ptrR v' = some x → v = v' := by
  intro v v' x h h'
  unfold ptrR at h h'
  split at h <;> split at h' <;> first | rfl | (cases h; done) | (cases h'; done) | skip
  all_goals
    injection h with h
    injection h' with h'
    rw [← h] at h'
    injection h' with h' _
    injection h' with h'
    injection h' with _ h'
    first | omega | (have := Int.ofNat.inj h'; subst this; rfl)
theorem ptrR_nil : ptrR (.pointer none) = some (.lit (.int .i64 (-1)), []) := rfl
theorem ptrR_some (b : Nat) : ptrR (.pointer (some ⟨b, 0, none⟩)) = some (.lit (.int .i64 b), []) := rfl
theorem ptrR_places {v : Value} {z : DataW Unit × List MemPlace} (h : ptrR v = some z) : z.2 = [] := by
  unfold ptrR at h
  split at h <;> first | (cases h; done) | (cases h; rfl)
structure MapP (w : World) (b n : Nat) (f : Int → Option Value) : Prop where
  ex : ∃ D : DataW Unit, w.ownsMap Try.prog 3 ptrR b n D ∧ Maps.size D = n ∧ (∀ k, wfI k → Maps.has D (.int .i64 k) = (f k).isSome) ∧
    ∀ k v, wfI k → f k = some v → ∃ d, ptrR v = some (d, []) ∧ ∀ z, D.atKey (.int .i64 k) z = d
def setV (f : Int → Option Value) (k : Int) (v : Option Value) : Int → Option Value := fun k' => if k' = k then v else f k'
theorem setV_same (f : Int → Option Value) (k : Int) (v : Option Value) : setV f k v k = v := by simp [setV]
theorem setV_other {f : Int → Option Value} {k k' : Int} {v : Option Value} (h : k' ≠ k) : setV f k v k' = f k' := by simp [setV, h]
theorem owns_tight {w : World} {P : Program} {k : TypeId} {R : Value → Option (DataW Unit × List MemPlace)} {b n : Nat} {D : DataW Unit} (h : w.ownsMap P k R b n D) : w.ownsMap P k R b (Maps.size D) D := by
  obtain ⟨es, clock, hb, F, _, hD⟩ := h
  refine ⟨es, clock, hb, F, ?_, hD⟩
  rw [hD]
  simp [Maps.size, length_sorted]
theorem owns_fr {w w' : World} {P : Program} {k : TypeId} {R : Value → Option (DataW Unit × List MemPlace)} {b n : Nat} {D : DataW Unit} {S : Nat → Prop} (h : w.ownsMap P k R b n D) (f : Fr S w w') (hS : ¬ S b) : w'.ownsMap P k R b n D := by
  obtain ⟨es, clock, hb, r⟩ := h
  exact ⟨es, clock, (f.block b (Array.getElem?_eq_some_iff.1 hb).1 hS).trans hb, r⟩
theorem MapP.fr {w w' : World} {b n : Nat} {f : Int → Option Value} {S : Nat → Prop} (h : MapP w b n f) (F : Fr S w w') (hS : ¬ S b) : MapP w' b n f := by
  obtain ⟨D, h1, r⟩ := h.ex
  exact ⟨D, owns_fr h1 F hS, r⟩
theorem MapP.lt {w : World} {b n : Nat} {f : Int → Option Value} (h : MapP w b n f) : b < w.heap.size := by
  obtain ⟨D, h1, _⟩ := h.ex
  exact h1.lt
theorem MapP.made (w : World) : MapP (w.alloc (.map #[] 0)) w.heap.size 0 (fun _ => none) :=
  ⟨.map [], World.ownsMap_made _ _ _ _, rfl, fun _ _ => rfl, fun _ _ _ h => by cases h⟩
theorem Fr.of_turned {w w' : World} {b : Nat} (h : w.mapTurned w' b) : Fr (onB b) w w' := by
  have g := h.grown
  exact ⟨g.os, g.tape, g.output, g.size, fun k hk hn => g.block k hk (fun e => hn (by injection e with e))⟩
section
variable {w : World} {e : TypeId} {b n : Nat} {f : Int → Option Value} {T : TypeId} {z : Value}
theorem MapP.look_ok (h : MapP w b n f) (hT : Try.prog.underlying T = some (.map 3 e)) (hz : ∀ w : World, (zeroValue e).run Try.prog w = .ok (.pointer none) w) {k : Int} (hk : wfI k) :
    (Instr.lookup T (.map (some b)) (.int .i64 k) true).run Try.prog w = .ok (.tuple #[(f k).getD (.pointer none), .bool (f k).isSome]) w := by
  obtain ⟨D, h1, _, h3, h4⟩ := h.ex
  have hd0 := ptrR_nil
  obtain ⟨v, ps, hrun, hv⟩ := h1.look_ok keyI hT (hz w) hd0 (keyI_mk hk)
  rw [h3 k hk] at hrun
  rw [hrun]
  have hps := ptrR_places hv
  simp only at hps
  subst hps
  cases hf : f k with
  | none =>
    have hh := h3 k hk
    rw [hf] at hh
    rw [Maps.atKey_of_not_has hh] at hv
    rw [ptrR_inj _ _ _ hv hd0]
    rfl
  | some u =>
    obtain ⟨d, hd, hat⟩ := h4 k u hk hf
    rw [hat] at hv
    rw [ptrR_inj _ _ _ hv hd]
    rfl
theorem MapP.look (h : MapP w b n f) (hT : Try.prog.underlying T = some (.map 3 e)) (hz : ∀ w : World, (zeroValue e).run Try.prog w = .ok (.pointer none) w) {k : Int} (hk : wfI k) :
    (Instr.lookup T (.map (some b)) (.int .i64 k) false).run Try.prog w = .ok ((f k).getD (.pointer none)) w := by
  obtain ⟨D, h1, _, h3, h4⟩ := h.ex
  have hd0 := ptrR_nil
  obtain ⟨v, ps, hrun, hv⟩ := h1.lookup keyI hT (hz w) hd0 (keyI_mk hk)
  rw [hrun]
  have hps := ptrR_places hv
  simp only at hps
  subst hps
  cases hf : f k with
  | none =>
    have hh := h3 k hk
    rw [hf] at hh
    rw [Maps.atKey_of_not_has hh] at hv
    rw [ptrR_inj _ _ _ hv hd0]
    rfl
  | some u =>
    obtain ⟨d, hd, hat⟩ := h4 k u hk hf
    rw [hat] at hv
    rw [ptrR_inj _ _ _ hv hd]
    rfl
theorem MapP.len (h : MapP w b n f) (hT : Try.prog.underlying T = some (.map 3 e)) (ty : TypeId) : (Builtin.len_ #[T] ty #[.map (some b)]).run Try.prog w = .ok (.int .i64 n) w := by
  obtain ⟨D, h1, h2, _⟩ := h.ex
  rw [h1.len hT ty, h2]
theorem MapP.store (h : MapP w b n f) (hT : Try.prog.underlying T = some (.map 3 e)) (hn : n < 9223372036854775807) {k : Int} (hk : wfI k) {v : Value} (hv : ∃ d, ptrR v = some (d, [])) :
    ∃ w', (Instr.mapUpdate T (.map (some b)) (.int .i64 k) v).run Try.prog w = .ok () w' ∧ MapP w' b (if (f k).isSome then n else n + 1) (setV f k (some v)) ∧ Fr (onB b) w w' := by
  obtain ⟨D, h1, h2, h3, h4⟩ := h.ex
  obtain ⟨d, hd⟩ := hv
  obtain ⟨w', hrun, ho, ht⟩ := h1.store keyI hT (by unfold maxLen; omega) (keyI_mk hk) hd
  have hD := h1.tidy keyI
  have hs : Maps.size (D.put (.int .i64 k) d) = if (f k).isSome then n else n + 1 := by rw [Maps.size_put hD, h3 k hk, h2]
  refine ⟨w', hrun, ⟨_, by have := owns_tight ho; rwa [hs] at this, hs, fun k' hk' => ?_, fun k' v' hk' hv' => ?_⟩, Fr.of_turned ht⟩
  · by_cases e : k' = k
    · subst e; rw [Maps.has_put_same hD.isMap (litI hk'), setV_same]; rfl
    · rw [Maps.has_put_other (fun h => e (by injection h)), setV_other e, h3 k' hk']
  · by_cases e : k' = k
    · subst e
      rw [setV_same] at hv'
      injection hv' with hv'
      subst hv'
      exact ⟨d, hd, fun z => Maps.atKey_put_same hD.isMap (litI hk') _ _⟩
    · rw [setV_other e] at hv'
      obtain ⟨d', hd', hat⟩ := h4 k' v' hk' hv'
      exact ⟨d', hd', fun z => by rw [Maps.atKey_put_other (fun h => e (by injection h)), hat]⟩
theorem MapP.drop (h : MapP w b n f) (hT : Try.prog.underlying T = some (.map 3 e)) {k : Int} (hk : wfI k) (ty : TypeId) :
    ∃ w', (Builtin.delete_ #[T, 3] ty #[.map (some b), .int .i64 k]).run Try.prog w = .ok (.tuple #[]) w' ∧ MapP w' b (if (f k).isSome then n - 1 else n) (setV f k none) ∧ Fr (onB b) w w' := by
  obtain ⟨D, h1, h2, h3, h4⟩ := h.ex
  obtain ⟨w', hrun, ho, ht⟩ := h1.drop keyI hT (keyI_mk hk) ty
  have hD := h1.tidy keyI
  have hs : Maps.size (D.del (.int .i64 k)) = if (f k).isSome then n - 1 else n := by
    have := Maps.size_del (k := .int .i64 k) hD
    rw [h3 k hk, h2] at this
    split at this <;> simp_all <;> omega
  refine ⟨w', hrun, ⟨_, by have := owns_tight ho; rwa [hs] at this, hs, fun k' hk' => ?_, fun k' v' hk' hv' => ?_⟩, Fr.of_turned ht⟩
  · by_cases e : k' = k
    · subst e; rw [Maps.has_del_same, setV_same]; rfl
    · rw [Maps.has_del_other (fun h => e (by injection h)), setV_other e, h3 k' hk']
  · by_cases e : k' = k
    · subst e; rw [setV_same] at hv'; cases hv'
    · rw [setV_other e] at hv'
      obtain ⟨d', hd', hat⟩ := h4 k' v' hk' hv'
      exact ⟨d', hd', fun z => by rw [Maps.atKey_del_other (fun h => e (by injection h)), hat]⟩
end
section
variable {w : World} {e : TypeId} {b n : Nat} {f : Int → Option Value} {T : TypeId}
/-- 'm[k] = v' at the operation. -/
theorem wpMapStoreP (h : MapP w b n f) (hT : Try.prog.underlying T = some (.map 3 e)) (hn : n < 9223372036854775807) {k : Int} (hk : wfI k) {v : Value} (hv : ∃ d, ptrR v = some (d, []))
    {ops : Array Oper} {rest : List Oper} {act : Act} {Q : Exit → Act → World → Prop} {dst : Option Tmp} {ty : TypeId} {pos : String} {after : Array Edge} {m x y : Operand}
    (hm : act.eval m = .map (some b)) (hx : act.eval x = .int .i64 k) (hy : act.eval y = v)
    (K : ∀ w', MapP w' b (if (f k).isSome then n else n + 1) (setV f k (some v)) → Fr (onB b) w w' → wpList Try.prog ops Q rest (act.put dst undef) w') :
    wpList Try.prog ops Q ({ dst, op := .mapUpdate T m x y, type := ty, pos, after, guard := none } :: rest) act w := by
  refine wpList_plain rfl fun K' hK' => ?_
  obtain ⟨w', hrun, r1, r2⟩ := h.store hT hn hk hv
  unfold Oper.wp
  simp [execOp, hm, hx, hy, hrun, Result.andThen]
  exact hK' _ _ (K w' r1 r2)
/-- 'delete(m, k)' at the operation. -/
theorem wpMapDropP (h : MapP w b n f) (hT : Try.prog.underlying T = some (.map 3 e)) {k : Int} (hk : wfI k)
    {ops : Array Oper} {rest : List Oper} {act : Act} {Q : Exit → Act → World → Prop} {dst : Option Tmp} {ty : TypeId} {pos : String} {after : Array Edge} {m x : Operand}
    (hm : act.eval m = .map (some b)) (hx : act.eval x = .int .i64 k)
    (K : ∀ w', MapP w' b (if (f k).isSome then n - 1 else n) (setV f k none) → Fr (onB b) w w' → wpList Try.prog ops Q rest (act.put dst (.tuple #[])) w') :
    wpList Try.prog ops Q ({ dst, op := .call { callee := .builtin .delete, args := #[m, x], argTypes := #[T, 3] }, type := ty, pos, after, guard := none } :: rest) act w := by
  refine wpList_plain rfl fun K' hK' => ?_
  obtain ⟨w', hrun, r1, r2⟩ := h.drop hT hk ty
  unfold Oper.wp
  simp [execOp, resolve, invoke, builtin, hm, hx, hrun, Result.andThen]
  exact hK' _ _ (K w' r1 r2)
/-- .. at a step of a region that draws. -/
theorem stepMapDropP (h : MapP w b n f) (hT : Try.prog.underlying T = some (.map 3 e)) {k : Int} (hk : wfI k)
    {ops : Array Oper} {o : Oper} {act : Act} {K : Act → World → Prop} {Q : Exit → Act → World → Prop} {F : Prop} {m x : Operand} (hgd : o.guard = none)
    (ho : o.op = .call { callee := .builtin .delete, args := #[m, x], argTypes := #[T, 3] })
    (hm : act.eval m = .map (some b)) (hx : act.eval x = .int .i64 k)
    (h' : ∀ w', MapP w' b (if (f k).isSome then n - 1 else n) (setV f k none) → Fr (onB b) w w' → K (act.put o.dst (.tuple #[])) w') :
    if Region.wanted o (yielded ops act.tmps) = true then Oper.wp Try.prog o act w K Q else F := by
  have hw : Region.wanted o (yielded ops act.tmps) = true := by simp [Region.wanted, hgd]
  rw [if_pos hw]
  obtain ⟨w', hrun, r1, r2⟩ := h.drop hT hk o.type
  unfold Oper.wp execOp
  simp only [ho, resolve, invoke, builtin, Sem.run_bind, Sem.run_pure, Result.andThen_ok, List.map_toArray, List.map_cons, List.map_nil, hm, hx, hrun]
  exact h' _ r1 r2
end

end Go.Proofs.Ytohblajdeicfeaa
