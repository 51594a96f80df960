/- A map from ints that a call has made, its elements read by any reader: what it holds, as a function; its entries one by one. -/
import Derived.Test.YtkmnnfflibamnaaComAll
import Derived.Maps.OwnSet
import Derived.Maps.OwnOps
import Derived.Maps.RangeWalk
import Derived.Maps.Views
namespace Go.Proofs.Ytkmnnfflibamnaa
open Go.RowKit Go.Maps

theorem keyI : Keyed Try.prog 3 := int_keyed (q := .i64) (by kernel_rfl)
abbrev wfI (k : Int) : Prop := (Lit.int .i64 k).wf = true
theorem wfI_of {k : Int} (h0 : -9223372036854775808 ≤ k) (h1 : k ≤ 9223372036854775807) : wfI k := WalkArith.wf_i64 ⟨h0, h1⟩
theorem keyI_mk {k : Int} (h : wfI k) : keyOf Try.prog 3 (.int .i64 k) = some (.int .i64 k) := keyOf_int_mk (by kernel_rfl) h
theorem litI {k : Int} (h : wfI k) : WideAt.IsKeyLit (.int .i64 k) := keyI.key (keyI_mk h)
abbrev Rdr := Value → Option (DataW Unit × List MemPlace)
/-- What the elements are: one value reads as one datum. -/
structure PlainR (R : Rdr) (e : TypeId) (z : Value) : Prop where
  inj : ∀ (v v' : Value) (x : DataW Unit × List MemPlace), R v = some x → R v' = some x → v = v'
  zero : ∀ w : World, (zeroValue e).run Try.prog w = .ok z w
  read : ∃ d, R z = some (d, [])
  place : ∀ (v : Value) (x : DataW Unit × List MemPlace), R v = some x → x.2 = []
structure MapR (w : World) (R : Rdr) (b n : Nat) (f : Int → Option Value) : Prop where
  ex : ∃ D : DataW Unit, w.ownsMap Try.prog 3 R b n D ∧ Maps.size D = n ∧ (∀ k, wfI k → Maps.has D (.int .i64 k) = (f k).isSome) ∧
    ∀ k v, wfI k → f k = some v → ∃ d, R v = some (d, []) ∧ ∀ z, D.atKey (.int .i64 k) z = d
def setV (f : Int → Option Value) (k : Int) (v : Option Value) : Int → Option Value := fun k' => if k' = k then v else f k'
theorem setV_same (f : Int → Option Value) (k : Int) (v : Option Value) : setV f k v k = v := by simp [setV]
theorem setV_other {f : Int → Option Value} {k k' : Int} {v : Option Value} (h : k' ≠ k) : setV f k v k' = f k' := by simp [setV, h]
theorem owns_tight {w : World} {P : Program} {k : TypeId} {R : Rdr} {b n : Nat} {D : DataW Unit} (h : w.ownsMap P k R b n D) : w.ownsMap P k R b (Maps.size D) D := by
  obtain ⟨es, clock, hb, F, _, hD⟩ := h
  refine ⟨es, clock, hb, F, ?_, hD⟩
  rw [hD]
  simp [Maps.size, length_sorted]
theorem owns_fr {w w' : World} {P : Program} {k : TypeId} {R : Rdr} {b n : Nat} {D : DataW Unit} {S : Nat → Prop} (h : w.ownsMap P k R b n D) (f : Fr S w w') (hS : ¬ S b) : w'.ownsMap P k R b n D := by
  obtain ⟨es, clock, hb, r⟩ := h
  exact ⟨es, clock, (f.block b (Array.getElem?_eq_some_iff.1 hb).1 hS).trans hb, r⟩
section
variable {w w' : World} {R : Rdr} {e : TypeId} {b n : Nat} {f : Int → Option Value} {T : TypeId} {z : Value}
theorem MapR.fr {S : Nat → Prop} (h : MapR w R b n f) (F : Fr S w w') (hS : ¬ S b) : MapR w' R b n f := by
  obtain ⟨D, h1, r⟩ := h.ex
  exact ⟨D, owns_fr h1 F hS, r⟩
theorem MapR.lt (h : MapR w R b n f) : b < w.heap.size := by
  obtain ⟨D, h1, _⟩ := h.ex
  exact h1.lt
theorem MapR.made (w : World) (R : Rdr) : MapR (w.alloc (.map #[] 0)) R w.heap.size 0 (fun _ => none) :=
  ⟨.map [], World.ownsMap_made _ _ _ _, rfl, fun _ _ => rfl, fun _ _ _ h => by cases h⟩
theorem Fr.of_turned (h : w.mapTurned w' b) : Fr (onB b) w w' := by
  have g := h.grown
  exact ⟨g.os, g.tape, g.output, g.size, fun k hk hn => g.block k hk (fun e => hn (by injection e with e))⟩
theorem MapR.look_ok (h : MapR w R b n f) (hT : Try.prog.underlying T = some (.map 3 e)) (hP : PlainR R e z) {k : Int} (hk : wfI k) :
    (Instr.lookup T (.map (some b)) (.int .i64 k) true).run Try.prog w = .ok (.tuple #[(f k).getD z, .bool (f k).isSome]) w := by
  obtain ⟨D, h1, _, h3, h4⟩ := h.ex
  obtain ⟨d0, hd0⟩ := hP.read
  obtain ⟨v, ps, hrun, hv⟩ := h1.look_ok keyI hT (hP.zero w) hd0 (keyI_mk hk)
  rw [h3 k hk] at hrun
  rw [hrun]
  have hps := hP.place _ _ hv
  simp only at hps
  subst hps
  cases hf : f k with
  | none =>
    have hh := h3 k hk
    rw [hf] at hh
    rw [Maps.atKey_of_not_has hh] at hv
    rw [hP.inj _ _ _ hv hd0]
    rfl
  | some u =>
    obtain ⟨d, hd, hat⟩ := h4 k u hk hf
    rw [hat] at hv
    rw [hP.inj _ _ _ hv hd]
    rfl
theorem MapR.look (h : MapR w R b n f) (hT : Try.prog.underlying T = some (.map 3 e)) (hP : PlainR R e z) {k : Int} (hk : wfI k) :
    (Instr.lookup T (.map (some b)) (.int .i64 k) false).run Try.prog w = .ok ((f k).getD z) w := by
  obtain ⟨D, h1, _, h3, h4⟩ := h.ex
  obtain ⟨d0, hd0⟩ := hP.read
  obtain ⟨v, ps, hrun, hv⟩ := h1.lookup keyI hT (hP.zero w) hd0 (keyI_mk hk)
  rw [hrun]
  have hps := hP.place _ _ hv
  simp only at hps
  subst hps
  cases hf : f k with
  | none =>
    have hh := h3 k hk
    rw [hf] at hh
    rw [Maps.atKey_of_not_has hh] at hv
    rw [hP.inj _ _ _ hv hd0]
    rfl
  | some u =>
    obtain ⟨d, hd, hat⟩ := h4 k u hk hf
    rw [hat] at hv
    rw [hP.inj _ _ _ hv hd]
    rfl
theorem MapR.store (h : MapR w R b n f) (hT : Try.prog.underlying T = some (.map 3 e)) (hn : n < 9223372036854775807) {k : Int} (hk : wfI k) {v : Value} (hv : ∃ d, R v = some (d, [])) :
    ∃ w', (Instr.mapUpdate T (.map (some b)) (.int .i64 k) v).run Try.prog w = .ok () w' ∧ MapR w' R b (if (f k).isSome then n else n + 1) (setV f k (some v)) ∧ Fr (onB b) w w' := by
  obtain ⟨D, h1, h2, h3, h4⟩ := h.ex
  obtain ⟨d, hd⟩ := hv
  obtain ⟨w', hrun, ho, ht⟩ := h1.store keyI hT (by unfold maxLen; omega) (keyI_mk hk) hd
  have hD := h1.tidy keyI
  have hs : Maps.size (D.put (.int .i64 k) d) = if (f k).isSome then n else n + 1 := by rw [Maps.size_put hD, h3 k hk, h2]
  refine ⟨w', hrun, ⟨_, by have := owns_tight ho; rwa [hs] at this, hs, fun k' hk' => ?_, fun k' v' hk' hv' => ?_⟩, Fr.of_turned ht⟩
  · by_cases e : k' = k
    · subst e; rw [Maps.has_put_same hD.isMap (litI hk'), setV_same]; rfl
    · rw [Maps.has_put_other (fun h => e (by injection h)), setV_other e, h3 k' hk']
  · by_cases e : k' = k
    · subst e
      rw [setV_same] at hv'
      injection hv' with hv'
      subst hv'
      exact ⟨d, hd, fun z => Maps.atKey_put_same hD.isMap (litI hk') _ _⟩
    · rw [setV_other e] at hv'
      obtain ⟨d', hd', hat⟩ := h4 k' v' hk' hv'
      exact ⟨d', hd', fun z => by rw [Maps.atKey_put_other (fun h => e (by injection h)), hat]⟩
set_option maxRecDepth 100000 in
/-- 'm[k] = v' at the operation. -/
theorem wpMapRStore (h : MapR w R b n f) (hT : Try.prog.underlying T = some (.map 3 e)) (hn : n < 9223372036854775807) {k : Int} (hk : wfI k) {v : Value} (hv : ∃ d, R v = some (d, []))
    {ops : Array Oper} {rest : List Oper} {act : Act} {Q : Exit → Act → World → Prop} {dst : Option Tmp} {ty : TypeId} {pos : String} {after : Array Edge} {m x y : Operand}
    (hm : act.eval m = .map (some b)) (hx : act.eval x = .int .i64 k) (hy : act.eval y = v)
    (K : ∀ w', MapR w' R b (if (f k).isSome then n else n + 1) (setV f k (some v)) → Fr (onB b) w w' → wpList Try.prog ops Q rest (act.put dst undef) w') :
    wpList Try.prog ops Q ({ dst, op := .mapUpdate T m x y, type := ty, pos, after, guard := none } :: rest) act w := by
  refine wpList_plain rfl fun K' hK' => ?_
  obtain ⟨w', hrun, r1, r2⟩ := h.store hT hn hk hv
  unfold Oper.wp
  simp [execOp, hm, hx, hy, hrun, Result.andThen]
  exact hK' _ _ (K w' r1 r2)
/-- A range over the map under way: what is still to come, and how many. -/
structure RgR (w : World) (R : Rdr) (b r n : Nat) (f : Int → Option Value) (todo : Int → Bool) (cnt : Nat) : Prop where
  ex : ∃ (D : DataW Unit) (left : Lit → Bool), w.ranges Try.prog 3 R b r n D left cnt ∧ Maps.size D = n ∧ (∀ k, wfI k → Maps.has D (.int .i64 k) = (f k).isSome) ∧
    (∀ k v, wfI k → f k = some v → ∃ d, R v = some (d, []) ∧ ∀ z, D.atKey (.int .i64 k) z = d) ∧ (∀ k, wfI k → left (.int .i64 k) = todo k) ∧ ∀ kl, left kl = true → Maps.has D kl = true
theorem RgR.map {r : Nat} {todo : Int → Bool} {cnt : Nat} (h : RgR w R b r n f todo cnt) : MapR w R b n f := by
  obtain ⟨D, left, h1, h2, h3, h4, _⟩ := h.ex
  exact ⟨D, h1.owns, h2, h3, h4⟩
theorem RgR.left_eq {r : Nat} {todo : Int → Bool} {cnt : Nat} (h : RgR w R b r n f todo cnt) : w.rangeLeft b r = cnt := by
  obtain ⟨D, left, h1, _⟩ := h.ex
  exact h1.left_eq
theorem RgR.fr {r : Nat} {todo : Int → Bool} {cnt : Nat} {S : Nat → Prop} (h : RgR w R b r n f todo cnt) (F : Fr S w w') (hb : ¬ S b) (hr : ¬ S r) : RgR w' R b r n f todo cnt := by
  obtain ⟨D, left, ⟨es, clock, since, seen, c0, q1, q2, q3, q4, q5, q6⟩, rest⟩ := h.ex
  exact ⟨D, left, ⟨es, clock, since, seen, c0, (F.block b (Array.getElem?_eq_some_iff.1 q1).1 hb).trans q1, q2, q3, q4, (F.block r (Array.getElem?_eq_some_iff.1 q5).1 hr).trans q5, q6⟩, rest⟩
set_option maxRecDepth 100000 in
/-- 'range m' at the operation. -/
theorem wpRangeR (h : MapR w R b n f) (hT : Try.prog.underlying T = some (.map 3 e))
    {ops : Array Oper} {rest : List Oper} {act : Act} {Q : Exit → Act → World → Prop} {dst : Option Tmp} {ty : TypeId} {pos : String} {after : Array Edge} {m : Operand}
    (hm : act.eval m = .map (some b))
    (K : ∀ w', RgR w' R b w.heap.size n f (fun k => (f k).isSome) n → Fr F0 w w' → wpList Try.prog ops Q rest (act.put dst (.pointer (some ⟨w.heap.size, 0, none⟩))) w') :
    wpList Try.prog ops Q ({ dst, op := .range T m, type := ty, pos, after, guard := none } :: rest) act w := by
  obtain ⟨D, h1, h2, h3, h4⟩ := h.ex
  refine wpList_range_own w rfl m T rfl 3 e keyI hT R b n D hm h1 ?_
  intro w' hr hg _
  rw [h2] at hr
  exact K w' ⟨D, _, hr, h2, h3, h4, h3, fun _ h => h⟩ (Fr.of_grown0 hg)
set_option maxRecDepth 100000 in
/-- The loop's step. -/
theorem wpNextR {r : Nat} {todo : Int → Bool} {cnt : Nat} (h : RgR w R b r n f todo cnt) (hP : PlainR R e z) {β : Type} (mkV : β → Value) (invV : ∀ v y, R v = some y → ∃ c, v = mkV c)
    {ops : Array Oper} {rest : List Oper} {act : Act} {Q : Exit → Act → World → Prop} {dst : Option Tmp} {ty : TypeId} {pos : String} {after : Array Edge} {it : Operand}
    (hit : act.eval it = .pointer (some ⟨r, 0, none⟩))
    (hDone : (∀ k, wfI k → todo k = false) → wpList Try.prog ops Q rest (act.put dst (.tuple #[.bool false])) w)
    (hMore : ∀ (k : Int) (c : β) (w' : World) (cnt' : Nat), wfI k → todo k = true → f k = some (mkV c) → RgR w' R b r n f (fun z => todo z && decide (z ≠ k)) cnt' → cnt' < cnt → Fr (onB r) w w' →
      (Instr.entry (.pointer (some ⟨r, 0, none⟩))).run Try.prog w' = .ok (.tuple #[.int .i64 k, mkV c]) w' → wpList Try.prog ops Q rest (act.put dst (.tuple #[.bool true, .int .i64 k, mkV c])) w') :
    wpList Try.prog ops Q ({ dst, op := .next it false, type := ty, pos, after, guard := none } :: rest) act w := by
  obtain ⟨D, left, h1, h2, h3, h4, h5, h6⟩ := h.ex
  have hk3 : Try.prog.underlying 3 = some (.int .i64) := by kernel_rfl
  have ik : ∀ key kl, keyOf Try.prog 3 key = some kl → ∃ x, key = Value.int .i64 x := fun key kl hkey => by
    obtain ⟨x, rfl, _⟩ := Maps.keyOf_int_inv hk3 hkey; exact ⟨x, rfl⟩
  refine wpList_next_ranges (α := Int) (β := β) w (o := { dst, op := .next it false, type := ty, pos, after, guard := none }) rfl it rfl 3 keyI R (Value.int .i64) mkV ik invV b r n D left cnt hit h1 (fun _ hl => hDone (fun k hk => (h5 k hk).symm.trans (hl _))) ?_
  intro x c kl y w' cnt' hkey hlk hv hat hrg hlt hgr hsz hen
  obtain ⟨x', ex, rfl, hwx⟩ := Maps.keyOf_int_inv hk3 hkey
  cases ex
  have hf : f x = some (mkV c) := by
    have hh := h6 _ hlk
    rw [h3 x hwx] at hh
    obtain ⟨v, hvv⟩ := Option.isSome_iff_exists.1 hh
    obtain ⟨d, hd, hatd⟩ := h4 x v hwx hvv
    have e1 : y.1 = d := (hat y.1).symm.trans (hatd y.1)
    have e2 : y = (d, []) := by
      have := hP.place _ _ hv
      obtain ⟨y1, y2⟩ := y
      simp only at e1 this
      rw [e1, this]
    rw [e2] at hv
    rw [hvv, hP.inj _ _ _ hd hv]
  refine hMore x c w' cnt' hwx (by rw [← h5 x hwx]; exact hlk) hf ⟨D, _, hrg, h2, h3, h4, fun k hk => ?_, fun kl' hl => h6 kl' (by
    rw [Bool.and_eq_true] at hl; exact hl.1)⟩ hlt ⟨hgr.os, hgr.tape, hgr.output, hgr.size, fun k hk hn => hgr.block k hk (fun e => hn (by injection e with e))⟩ hen
  rw [h5 k hk]
  congr 1
  by_cases e : k = x
  · subst e
    rw [WideAt.sameKey_self (litI hk)]; simp
  · rw [Maps.sameKey_ne (fun h => e (by injection h))]; simp [e]
end
set_option maxRecDepth 100000 in
/-- Elements that are ints. -/
theorem plainRI : PlainR (plainElem Try.prog 3) 3 (.int .i64 0) := by
  have he : Try.prog.underlying 3 = some (.int .i64) := by kernel_rfl
  refine ⟨fun v v' x h h' => ?_, fun w => by kernel_rfl, ⟨_, plainElem_int he (by decide)⟩, fun v x h => plainElem_places h⟩
  obtain ⟨a, rfl, rfl, _⟩ := plainElem_int_inv he h
  obtain ⟨b, rfl, h2, _⟩ := plainElem_int_inv he h'
  injection h2 with h2 _
  injection h2 with h2
  injection h2 with _ h2
  rw [h2]
/-- Elements that are structs of three ints. -/
def rd3 : Rdr
  | .agg cs => match cs.toList with
    | [.int .i64 a, .int .i64 b, .int .i64 c] => some (.agg [.lit (.int .i64 a), .lit (.int .i64 b), .lit (.int .i64 c)], [])
    | _ => none
  | _ => none
abbrev mk3 (c : Int × Int × Int) : Value := .agg #[.int .i64 c.1, .int .i64 c.2.1, .int .i64 c.2.2]
theorem rd3_inv {v : Value} {y : DataW Unit × List MemPlace} (h : rd3 v = some y) : ∃ c : Int × Int × Int, v = mk3 c ∧ y = (.agg [.lit (.int .i64 c.1), .lit (.int .i64 c.2.1), .lit (.int .i64 c.2.2)], []) := by
  unfold rd3 at h
  split at h
  · rename_i cs
    split at h
    · rename_i a b c hc
      injection h with h
      have : cs = #[.int .i64 a, .int .i64 b, .int .i64 c] := by
        rw [← Array.toArray_toList (xs := cs), hc]
      exact ⟨(a, b, c), by rw [this], h.symm⟩
    · cases h
  · cases h
theorem plainR3 {e : TypeId} (hz : ∀ w : World, (zeroValue e).run Try.prog w = .ok (mk3 (0, 0, 0)) w) : PlainR rd3 e (mk3 (0, 0, 0)) := by
  refine ⟨fun v v' x h h' => ?_, hz, ⟨_, rfl⟩, fun v x h => ?_⟩
  · obtain ⟨c, rfl, rfl⟩ := rd3_inv h
    obtain ⟨c', rfl, h2⟩ := rd3_inv h'
    injection h2 with h2 _
    injection h2 with h2
    simp at h2
    obtain ⟨q1, q2, q3⟩ := h2
    obtain ⟨c1, c2, c3⟩ := c
    obtain ⟨d1, d2, d3⟩ := c'
    simp only at q1 q2 q3
    rw [q1, q2, q3]
  · obtain ⟨c, rfl, rfl⟩ := rd3_inv h
    rfl
end Go.Proofs.Ytkmnnfflibamnaa
