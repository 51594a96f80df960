/- A map from pairs of ints that a call has made: what it holds, as a function. -/
import Derived.Test.YtihcaemheknjbaaComAll
import Derived.Maps.OwnSet
import Derived.Maps.OwnOps
import Derived.DeepKeys4
import Derived.WideKeyArr
namespace Go.Proofs.Ytihcaemheknjbaa
open Go.RowKit Go.Maps

theorem laidOutK : laidOutB Try.prog = true := by kernel_rfl
theorem rowK : (62 : TypeId) < Try.prog.types.size := of_decide_eq_true (by kernel_rfl)
theorem cellsK : Try.prog.cellsOf 62 = 2 := by kernel_rfl
theorem cellsK3 : Try.prog.cellsOf 3 = 1 := by kernel_rfl
theorem wideK : (match Try.prog.underlying 62 with | some (.array _ _) | some (.struct _) => true | _ => false) = true := by rw [Try.underlying62]
set_option maxRecDepth 100000 in
theorem keyP : Keyed Try.prog 62 := Keyed.of_law (deep_law_laid laidOutK (m := 2) (by omega) rowK (by kernel_rfl) wideK)
abbrev wfP (k : Int × Int) : Prop := (Lit.int .i64 k.1).wf = true ∧ (Lit.int .i64 k.2).wf = true
theorem wfI_of {k : Int} (h0 : -9223372036854775808 ≤ k) (h1 : k ≤ 9223372036854775807) : (Lit.int .i64 k).wf = true := WalkArith.wf_i64 ⟨h0, h1⟩
def litP (k : Int × Int) : Lit := .string (keyBytes [.int .i64 k.1, .int .i64 k.2])
abbrev pv (k : Int × Int) : Value := .agg #[.int .i64 k.1, .int .i64 k.2]
theorem keyLitsP (m : Nat) {k : Int × Int} (h : wfP k) : Try.prog.keyLits (m + 2) 62 [.int .i64 k.1, .int .i64 k.2] = some [.int .i64 k.1, .int .i64 k.2] := by
  simp only [Program.keyLits, Try.underlying62, Try.underlying3, cellsK, cellsK3]
  simp [h.1, h.2, List.range_succ]
theorem keyP_mk {k : Int × Int} (h : wfP k) : keyOf Try.prog 62 (pv k) = some (litP k) := by
  have hs : ∃ m, Try.prog.types.size + 1 = m + 2 := ⟨Try.prog.types.size - 1, by have : 62 < Try.prog.types.size := rowK; omega⟩
  obtain ⟨m, hm⟩ := hs
  have hk : Try.prog.keyType 62 = true := by kernel_rfl
  have hf : (pv k).formed Try.prog 62 = true := by simp [Value.formed, Try.underlying62, cellsK]
  unfold keyOf
  rw [hm, hk, hf]
  simp only [Try.underlying62]
  have := keyLitsP m h
  simp only [Value.cells, Bool.and_self, if_true]
  rw [this]
  rfl
theorem litI {k : Int × Int} (h : wfP k) : WideAt.IsKeyLit (litP k) := keyP.key (keyP_mk h)
theorem litP_inj {k k' : Int × Int} (h : wfP k) (h' : wfP k') (e : litP k = litP k') : k = k' := by
  have h1 := keyP_mk h
  rw [e] at h1
  have h2 := keyP.inj h1 (keyP_mk h')
  simp only [pv, Value.agg.injEq] at h2
  simp at h2
  exact Prod.ext h2.1 h2.2
/-- What the elements are: one value reads as one datum. -/
structure Plain (e : TypeId) (z : Value) : Prop where
  inj : ∀ (v v' : Value) (x : DataW Unit × List MemPlace), plainElem Try.prog e v = some x → plainElem Try.prog e v' = some x → v = v'
  zero : ∀ w : World, (zeroValue e).run Try.prog w = .ok z w
  read : ∃ d, plainElem (H := Unit) Try.prog e z = some (d, [])
set_option maxRecDepth 100000 in
theorem plainI : Plain 3 (.int .i64 0) := by
  have he : Try.prog.underlying 3 = some (.int .i64) := by kernel_rfl
  refine ⟨fun v v' x h h' => ?_, fun w => by kernel_rfl, ⟨_, plainElem_int he (by decide)⟩⟩
  obtain ⟨a, rfl, rfl, _⟩ := plainElem_int_inv he h
  obtain ⟨b, rfl, h2, _⟩ := plainElem_int_inv he h'
  injection h2 with h2 _
  injection h2 with h2
  injection h2 with _ h2
  rw [h2]
theorem plainB : Plain 4 (.bool false) := by
  have he : Try.prog.underlying 4 = some .bool := by kernel_rfl
  refine ⟨fun v v' x h h' => ?_, fun w => by kernel_rfl, ⟨_, plainElem_bool he false⟩⟩
  unfold plainElem at h h'
  rw [he] at h h'
  cases v <;> simp at h
  cases v' <;> simp at h'
  rw [← h] at h'
  simp at h'
  rw [h']
structure MapV (w : World) (e : TypeId) (b n : Nat) (f : Int × Int → Option Value) : Prop where
  ex : ∃ D : DataW Unit, w.ownsMap Try.prog 62 (plainElem Try.prog e) b n D ∧ Maps.size D = n ∧ (∀ k, wfP k → Maps.has D (litP k) = (f k).isSome) ∧
    ∀ k v, wfP k → f k = some v → ∃ d, plainElem (H := Unit) Try.prog e v = some (d, []) ∧ ∀ z, D.atKey (litP k) z = d
def setV (f : Int × Int → Option Value) (k : Int × Int) (v : Option Value) : Int × Int → Option Value := fun k' => if k' = k then v else f k'
theorem setV_same (f : Int × Int → Option Value) (k : Int × Int) (v : Option Value) : setV f k v k = v := by simp [setV]
theorem setV_other {f : Int × Int → Option Value} {k k' : Int × Int} {v : Option Value} (h : k' ≠ k) : setV f k v k' = f k' := by simp [setV, h]
theorem owns_tight {w : World} {P : Program} {k : TypeId} {R : Value → Option (DataW Unit × List MemPlace)} {b n : Nat} {D : DataW Unit} (h : w.ownsMap P k R b n D) : w.ownsMap P k R b (Maps.size D) D := by
  obtain ⟨es, clock, hb, F, _, hD⟩ := h
  refine ⟨es, clock, hb, F, ?_, hD⟩
  rw [hD]
  simp [Maps.size, length_sorted]
theorem owns_fr {w w' : World} {P : Program} {k : TypeId} {R : Value → Option (DataW Unit × List MemPlace)} {b n : Nat} {D : DataW Unit} {S : Nat → Prop} (h : w.ownsMap P k R b n D) (f : Fr S w w') (hS : ¬ S b) : w'.ownsMap P k R b n D := by
  obtain ⟨es, clock, hb, r⟩ := h
  exact ⟨es, clock, (f.block b (Array.getElem?_eq_some_iff.1 hb).1 hS).trans hb, r⟩
theorem MapV.fr {w w' : World} {e : TypeId} {b n : Nat} {f : Int × Int → Option Value} {S : Nat → Prop} (h : MapV w e b n f) (F : Fr S w w') (hS : ¬ S b) : MapV w' e b n f := by
  obtain ⟨D, h1, r⟩ := h.ex
  exact ⟨D, owns_fr h1 F hS, r⟩
theorem MapV.lt {w : World} {e : TypeId} {b n : Nat} {f : Int × Int → Option Value} (h : MapV w e b n f) : b < w.heap.size := by
  obtain ⟨D, h1, _⟩ := h.ex
  exact h1.lt
theorem MapV.made (w : World) (e : TypeId) : MapV (w.alloc (.map #[] 0)) e w.heap.size 0 (fun _ => none) :=
  ⟨.map [], World.ownsMap_made _ _ _ _, rfl, fun _ _ => rfl, fun _ _ _ h => by cases h⟩
theorem Fr.of_turned {w w' : World} {b : Nat} (h : w.mapTurned w' b) : Fr (onB b) w w' := by
  have g := h.grown
  exact ⟨g.os, g.tape, g.output, g.size, fun k hk hn => g.block k hk (fun e => hn (by injection e with e))⟩
section
variable {w : World} {e : TypeId} {b n : Nat} {f : Int × Int → Option Value} {T : TypeId} {z : Value}
theorem MapV.look_ok (h : MapV w e b n f) (hT : Try.prog.underlying T = some (.map 62 e)) (hP : Plain e z) {k : Int × Int} (hk : wfP k) :
    (Instr.lookup T (.map (some b)) (pv k) true).run Try.prog w = .ok (.tuple #[(f k).getD z, .bool (f k).isSome]) w := by
  obtain ⟨D, h1, _, h3, h4⟩ := h.ex
  obtain ⟨d0, hd0⟩ := hP.read
  obtain ⟨v, ps, hrun, hv⟩ := h1.look_ok keyP hT (hP.zero w) hd0 (keyP_mk hk)
  rw [h3 k hk] at hrun
  rw [hrun]
  have hps := plainElem_places hv
  simp only at hps
  subst hps
  cases hf : f k with
  | none =>
    have hh := h3 k hk
    rw [hf] at hh
    rw [Maps.atKey_of_not_has hh] at hv
    rw [hP.inj _ _ _ hv hd0]
    rfl
  | some u =>
    obtain ⟨d, hd, hat⟩ := h4 k u hk hf
    rw [hat] at hv
    rw [hP.inj _ _ _ hv hd]
    rfl
theorem MapV.look (h : MapV w e b n f) (hT : Try.prog.underlying T = some (.map 62 e)) (hP : Plain e z) {k : Int × Int} (hk : wfP k) :
    (Instr.lookup T (.map (some b)) (pv k) false).run Try.prog w = .ok ((f k).getD z) w := by
  obtain ⟨D, h1, _, h3, h4⟩ := h.ex
  obtain ⟨d0, hd0⟩ := hP.read
  obtain ⟨v, ps, hrun, hv⟩ := h1.lookup keyP hT (hP.zero w) hd0 (keyP_mk hk)
  rw [hrun]
  have hps := plainElem_places hv
  simp only at hps
  subst hps
  cases hf : f k with
  | none =>
    have hh := h3 k hk
    rw [hf] at hh
    rw [Maps.atKey_of_not_has hh] at hv
    rw [hP.inj _ _ _ hv hd0]
    rfl
  | some u =>
    obtain ⟨d, hd, hat⟩ := h4 k u hk hf
    rw [hat] at hv
    rw [hP.inj _ _ _ hv hd]
    rfl
theorem MapV.len (h : MapV w e b n f) (hT : Try.prog.underlying T = some (.map 62 e)) (ty : TypeId) : (Builtin.len_ #[T] ty #[.map (some b)]).run Try.prog w = .ok (.int .i64 n) w := by
  obtain ⟨D, h1, h2, _⟩ := h.ex
  rw [h1.len hT ty, h2]
theorem MapV.store (h : MapV w e b n f) (hT : Try.prog.underlying T = some (.map 62 e)) (hn : n < 9223372036854775807) {k : Int × Int} (hk : wfP k) {v : Value} (hv : ∃ d, plainElem (H := Unit) Try.prog e v = some (d, [])) :
    ∃ w', (Instr.mapUpdate T (.map (some b)) (pv k) v).run Try.prog w = .ok () w' ∧ MapV w' e b (if (f k).isSome then n else n + 1) (setV f k (some v)) ∧ Fr (onB b) w w' := by
  obtain ⟨D, h1, h2, h3, h4⟩ := h.ex
  obtain ⟨d, hd⟩ := hv
  obtain ⟨w', hrun, ho, ht⟩ := h1.store keyP hT (by unfold maxLen; omega) (keyP_mk hk) hd
  have hD := h1.tidy keyP
  have hs : Maps.size (D.put (litP k) d) = if (f k).isSome then n else n + 1 := by rw [Maps.size_put hD, h3 k hk, h2]
  refine ⟨w', hrun, ⟨_, by have := owns_tight ho; rwa [hs] at this, hs, fun k' hk' => ?_, fun k' v' hk' hv' => ?_⟩, Fr.of_turned ht⟩
  · by_cases e : k' = k
    · subst e; rw [Maps.has_put_same hD.isMap (litI hk'), setV_same]; rfl
    · rw [Maps.has_put_other (fun h => e (litP_inj (by assumption) (by assumption) h)), setV_other e, h3 k' hk']
  · by_cases e : k' = k
    · subst e
      rw [setV_same] at hv'
      injection hv' with hv'
      subst hv'
      exact ⟨d, hd, fun z => Maps.atKey_put_same hD.isMap (litI hk') _ _⟩
    · rw [setV_other e] at hv'
      obtain ⟨d', hd', hat⟩ := h4 k' v' hk' hv'
      exact ⟨d', hd', fun z => by rw [Maps.atKey_put_other (fun h => e (litP_inj (by assumption) (by assumption) h)), hat]⟩
theorem MapV.drop (h : MapV w e b n f) (hT : Try.prog.underlying T = some (.map 62 e)) {k : Int × Int} (hk : wfP k) (ty : TypeId) :
    ∃ w', (Builtin.delete_ #[T, 62] ty #[.map (some b), pv k]).run Try.prog w = .ok (.tuple #[]) w' ∧ MapV w' e b (if (f k).isSome then n - 1 else n) (setV f k none) ∧ Fr (onB b) w w' := by
  obtain ⟨D, h1, h2, h3, h4⟩ := h.ex
  obtain ⟨w', hrun, ho, ht⟩ := h1.drop keyP hT (keyP_mk hk) ty
  have hD := h1.tidy keyP
  have hs : Maps.size (D.del (litP k)) = if (f k).isSome then n - 1 else n := by
    have := Maps.size_del (k := litP k) hD
    rw [h3 k hk, h2] at this
    split at this <;> simp_all <;> omega
  refine ⟨w', hrun, ⟨_, by have := owns_tight ho; rwa [hs] at this, hs, fun k' hk' => ?_, fun k' v' hk' hv' => ?_⟩, Fr.of_turned ht⟩
  · by_cases e : k' = k
    · subst e; rw [Maps.has_del_same, setV_same]; rfl
    · rw [Maps.has_del_other (fun h => e (litP_inj (by assumption) (by assumption) h)), setV_other e, h3 k' hk']
  · by_cases e : k' = k
    · subst e; rw [setV_same] at hv'; cases hv'
    · rw [setV_other e] at hv'
      obtain ⟨d', hd', hat⟩ := h4 k' v' hk' hv'
      exact ⟨d', hd', fun z => by rw [Maps.atKey_del_other (fun h => e (litP_inj (by assumption) (by assumption) h)), hat]⟩
end
section
variable {w : World} {e : TypeId} {b n : Nat} {f : Int × Int → Option Value} {T : TypeId}
set_option maxRecDepth 100000 in
/-- 'm[k] = v' at the operation. -/
theorem wpMapStore (h : MapV w e b n f) (hT : Try.prog.underlying T = some (.map 62 e)) (hn : n < 9223372036854775807) {k : Int × Int} (hk : wfP k) {v : Value} (hv : ∃ d, plainElem (H := Unit) Try.prog e v = some (d, []))
    {ops : Array Oper} {rest : List Oper} {act : Act} {Q : Exit → Act → World → Prop} {dst : Option Tmp} {ty : TypeId} {pos : String} {after : Array Edge} {m x y : Operand}
    (hm : act.eval m = .map (some b)) (hx : act.eval x = pv k) (hy : act.eval y = v)
    (K : ∀ w', MapV w' e b (if (f k).isSome then n else n + 1) (setV f k (some v)) → Fr (onB b) w w' → wpList Try.prog ops Q rest (act.put dst undef) w') :
    wpList Try.prog ops Q ({ dst, op := .mapUpdate T m x y, type := ty, pos, after, guard := none } :: rest) act w := by
  refine wpList_plain rfl fun K' hK' => ?_
  obtain ⟨w', hrun, r1, r2⟩ := h.store hT hn hk hv
  unfold Oper.wp
  simp [execOp, hm, hx, hy, hrun, Result.andThen]
  exact hK' _ _ (K w' r1 r2)
set_option maxRecDepth 100000 in
/-- 'delete(m, k)' at the operation. -/
theorem wpMapDrop (h : MapV w e b n f) (hT : Try.prog.underlying T = some (.map 62 e)) {k : Int × Int} (hk : wfP k)
    {ops : Array Oper} {rest : List Oper} {act : Act} {Q : Exit → Act → World → Prop} {dst : Option Tmp} {ty : TypeId} {pos : String} {after : Array Edge} {m x : Operand}
    (hm : act.eval m = .map (some b)) (hx : act.eval x = pv k)
    (K : ∀ w', MapV w' e b (if (f k).isSome then n - 1 else n) (setV f k none) → Fr (onB b) w w' → wpList Try.prog ops Q rest (act.put dst (.tuple #[])) w') :
    wpList Try.prog ops Q ({ dst, op := .call { callee := .builtin .delete, args := #[m, x], argTypes := #[T, 62] }, type := ty, pos, after, guard := none } :: rest) act w := by
  refine wpList_plain rfl fun K' hK' => ?_
  obtain ⟨w', hrun, r1, r2⟩ := h.drop hT hk ty
  unfold Oper.wp
  simp [execOp, resolve, invoke, builtin, hm, hx, hrun, Result.andThen]
  exact hK' _ _ (K w' r1 r2)
set_option maxRecDepth 100000 in
/-- .. at a step of a region that draws. -/
theorem stepMapDrop (h : MapV w e b n f) (hT : Try.prog.underlying T = some (.map 62 e)) {k : Int × Int} (hk : wfP k)
    {ops : Array Oper} {o : Oper} {act : Act} {K : Act → World → Prop} {Q : Exit → Act → World → Prop} {F : Prop} {m x : Operand} (hgd : o.guard = none)
    (ho : o.op = .call { callee := .builtin .delete, args := #[m, x], argTypes := #[T, 62] })
    (hm : act.eval m = .map (some b)) (hx : act.eval x = pv k)
    (h' : ∀ w', MapV w' e b (if (f k).isSome then n - 1 else n) (setV f k none) → Fr (onB b) w w' → K (act.put o.dst (.tuple #[])) w') :
    if Region.wanted o (yielded ops act.tmps) = true then Oper.wp Try.prog o act w K Q else F := by
  have hw : Region.wanted o (yielded ops act.tmps) = true := by simp [Region.wanted, hgd]
  rw [if_pos hw]
  obtain ⟨w', hrun, r1, r2⟩ := h.drop hT hk o.type
  unfold Oper.wp execOp
  simp only [ho, resolve, invoke, builtin, Sem.run_bind, Sem.run_pure, Result.andThen_ok, List.map_toArray, List.map_cons, List.map_nil, hm, hx, hrun]
  exact h' _ r1 r2
end

end Go.Proofs.Ytihcaemheknjbaa
