/- Slices whose elements take s cells each (structs). -/
import Derived.Test.YtehpikjhjghplaaCom2
namespace Go.Proofs.Ytehpikjhjghplaa
open Go.RowKit

/-- The slice with base a and n elements of s cells reads as the cells vs. -/
structure RdZ (w : World) (s : Nat) (a : Option Addr) (n : Nat) (vs : List Value) : Prop where
  len : vs.length = n * s
  max : n ≤ 9223372036854775807
  cells : 0 < n → ∃ b o, a = some ⟨b, o, none⟩ ∧ ∀ i u, vs[i]? = some u → w.cell? ⟨b, o + i, none⟩ = some u
theorem RdZ.fr {S : Nat → Prop} {w w' : World} {s : Nat} {a : Option Addr} {n : Nat} {vs : List Value} (h : RdZ w s a n vs) (f : Fr S w w') (hS : ∀ k, onBlk a k → ¬ S k) : RdZ w' s a n vs :=
  ⟨h.len, h.max, fun hn => by
    obtain ⟨b, o, rfl, hc⟩ := h.cells hn
    exact ⟨b, o, rfl, fun i u hu => f.cell (hc i u hu) (hS b ((onBlk_some _ _ _ _).2 rfl))⟩⟩
theorem RdZ.fr0 {w w' : World} {s : Nat} {a : Option Addr} {n : Nat} {vs : List Value} (h : RdZ w s a n vs) (f : Fr F0 w w') : RdZ w' s a n vs := h.fr f (fun _ _ => id)

/-- .. that the call owns. -/
abbrev OwnZ (w : World) (B : Nat) (T : TypeId) (s : Nat) (a : Option Addr) (n c : Nat) (vs : List Value) : Prop := w.ownsRow B T s (.slice a n c) n vs
section
variable {w : World} {B : Nat} {T : TypeId} {s : Nat} {a : Option Addr} {n c : Nat} {vs : List Value}
theorem OwnZ.at (h : OwnZ w B T s a n c vs) (hn : 0 < n) :
    ∃ g, a = some ⟨g, 0, none⟩ ∧ B ≤ g ∧ g < w.heap.size ∧ (∀ i u, vs[i]? = some u → w.cell? ⟨g, i, none⟩ = some u) ∧ (∀ i, w.frozen? ⟨g, i, none⟩ = false) := by
  rcases h.2 with ⟨_, rfl⟩ | ⟨g, cap, cur, hv, hb, hh, h1, h2, h3, h4⟩
  · omega
  · injection hv with ha _ _
    refine ⟨g, ha, hb, (Array.getElem?_eq_some_iff.1 hh).1, fun i u hu => ?_, fun i => by simp [World.frozen?, hh]⟩
    rw [cell_of_row w g i cur T (0, 0) hh]
    rw [← h4, List.getElem?_take] at hu
    split at hu
    · simpa using hu
    · cases hu
theorem OwnZ.max (h : OwnZ w B T s a n c vs) : n ≤ 9223372036854775807 := by
  rcases h.2 with ⟨_, rfl⟩ | ⟨g, cap, cur, hv, _, _, h1, h2, _, _⟩
  · omega
  · have : cap ≤ 9223372036854775807 := h2
    omega
theorem OwnZ.rd (h : OwnZ w B T s a n c vs) : RdZ w s a n vs :=
  ⟨h.1, h.max, fun hn => by
    obtain ⟨g, hg, _, _, hc, _⟩ := h.at hn
    exact ⟨g, 0, hg, fun i u hu => by rw [Nat.zero_add]; exact hc i u hu⟩⟩
theorem OwnZ.nil (w : World) (B : Nat) (T : TypeId) (s : Nat) : OwnZ w B T s none 0 0 [] := World.ownsRow_nil _ _ _ _
theorem OwnZ.blk (h : OwnZ w B T s a n c vs) : ∀ k, onBlk a k → B ≤ k ∧ k < w.heap.size := by
  rintro k ⟨o, sp, rfl⟩
  exact h.lt k rfl
theorem OwnZ.fr {S : Nat → Prop} {w' : World} (h : OwnZ w B T s a n c vs) (f : Fr S w w') (hS : ∀ k, onBlk a k → ¬ S k) : OwnZ w' B T s a n c vs := by
  refine ⟨h.1, ?_⟩
  rcases h.2 with hn | ⟨g, cap, cur, hv, hb, hgg, rest⟩
  · exact .inl hn
  · refine .inr ⟨g, cap, cur, hv, hb, ?_, rest⟩
    rw [f.block g (Array.getElem?_eq_some_iff.1 hgg).1 (hS g ?_)]
    · exact hgg
    · injection hv with ha _ _
      rw [ha, onBlk_some]
theorem OwnZ.fr0 {w' : World} (h : OwnZ w B T s a n c vs) (f : Fr F0 w w') : OwnZ w' B T s a n c vs := h.fr f (fun _ _ => id)
theorem OwnZ.mono {B' : Nat} (h : OwnZ w B T s a n c vs) (hB : B' ≤ B) : OwnZ w B' T s a n c vs := by
  refine ⟨h.1, ?_⟩
  rcases h.2 with hn | ⟨g, cap, cur, hv, hb, rest⟩
  · exact .inl hn
  · exact .inr ⟨g, cap, cur, hv, by omega, rest⟩
theorem OwnZ.other (h : OwnZ w B T s a n c vs) {p : Addr} (hp : ¬ onBlk a p.block) (u : Value) : OwnZ (w.setCell p u) B T s a n c vs :=
  h.fr (S := fun k => k = p.block) (Fr.setCell (S := fun k => k = p.block) (Fr.refl _ w) (fun _ => rfl) u) (fun _ hk e => hp (e ▸ hk))
theorem OwnZ.alloc (h : OwnZ w B T s a n c vs) (o : Obj) : OwnZ (w.alloc o) B T s a n c vs := h.fr0 ((Fr.refl _ _).alloc o)
theorem OwnZ.set {g i : Nat} (h : OwnZ w B T s (some ⟨g, 0, none⟩) n c vs) (u : Value) :
    OwnZ (w.setCell ⟨g, i, none⟩ u) B T s (some ⟨g, 0, none⟩) n c (vs.set i u) := by
  refine ⟨by simpa using h.1, ?_⟩
  rcases h.2 with ⟨hv, _⟩ | ⟨g', cap, cur, hv, hb, hh, h1, h2, h3, h4⟩
  · cases hv
  · injection hv with ha hn hc
    injection ha with ha
    injection ha with ha
    subst ha
    refine .inr ⟨g, cap, cur.setIfInBounds i u, by rw [hc], hb, heap_setCell_same hh u, h1, h2, by simpa using h3, ?_⟩
    rw [Array.toList_setIfInBounds, ← h4, List.take_set]
theorem OwnZ.lit (vs : List Value) (n : Nat) (hn : vs.length = n * s) (hB : B ≤ w.heap.size) (hmax : n ≤ 9223372036854775807) :
    OwnZ (w.alloc (.cells vs.toArray T)) B T s (some ⟨w.heap.size, 0, none⟩) n n vs := by
  refine ⟨hn, .inr ⟨w.heap.size, n, vs.toArray, rfl, hB, heap_alloc_new _ _, Nat.le_refl _, hmax, by simpa using hn, ?_⟩⟩
  rw [← hn]
  simp
end

/-- What the table says of an element type of s cells. -/
def ElemZ (P : Program) (t T : TypeId) (z : Value) (s bytes : Nat) : Prop :=
  P.underlying t = some (.slice T) ∧ (P.info? T).map (fun i => (i.zero, i.size, i.bytes)) = some (some z, s, bytes) ∧ z.cells.size = s

/-- 'append(sl, x)' of one element of s cells. -/
theorem wpAppZ {P : Program} {w : World} {t T : TypeId} {z : Value} {s bytes : Nat} (E : ElemZ P t T z s bytes) (hs0 : 0 < s) {a : Option Addr} {n c B : Nat} {vs : List Value} (own : OwnZ w B T s a n c vs)
    {us : List Value} (hl : us.length = s) (h1 : ∀ u ∈ us, u.oneCell' = true)
    (hlen : (n + 1) * bytes ≤ 140737488355328) (hmax : n + 1 ≤ 9223372036854775807) (hB : B ≤ w.heap.size)
    {ops : Array Oper} {rest : List Oper} {act : Act} {Q : Exit → Act → World → Prop} {dst : Option Tmp} {ty : TypeId} {pos : String} {after : Array Edge} {sl x : Operand}
    (hs : act.eval sl = .slice a n c) (hx : act.eval x = .slice (some ⟨w.heap.size, 0, none⟩) 1 1)
    (K : ∀ a' c' w', OwnZ w' B T s a' (n + 1) c' (vs ++ us) → Fr (onBlk a) w w' → wpList P ops Q rest (act.put dst (.slice a' (n + 1) c')) w') :
    wpList P ops Q ({ dst, op := .call { callee := .builtin .append, args := #[sl, x], argTypes := #[t, t] }, type := ty, pos, after, guard := none } :: rest) act (w.alloc (.cells us.toArray T)) := by
  obtain ⟨E1, E2, E3⟩ := E
  obtain ⟨i0, hi, hz0, hz1, hz2⟩ := info_parts E2
  refine wpList_append_own (w := w.alloc (.cells us.toArray T)) rfl sl x t rfl B T i0 z s bytes E1 hi hz0 hz1 hz2 E3 hs0 (.slice a n c) n vs hs (OwnZ.alloc own _) ⟨w.heap.size, 0, none⟩ 1 1 us hx (by omega) ?_ h1 (by unfold maxLen; omega) hlen (by simp; omega) ?_
  · intro j u hj
    rw [Addr.add_lit, Nat.zero_add, World.cell?_alloc_new]
    simpa using hj
  · intro v' w' hown hg hnil
    rcases hown.2 with ⟨_, hn⟩ | ⟨g, cap, cur, hv, r⟩
    · omega
    · subst hv
      exact K _ _ _ hown (Fr.trans ((Fr.refl (onBlk a) w).alloc _) (Fr.of_grown rfl hg) (fun _ _ h => h))

/-- What a law is told of a slice of ints that came in, its capacity too. -/
structure ArgSl (w : World) (a : Option Addr) (n c : Nat) (zs : List Int) : Prop where
  rd : Rd w a n (zs.map (Value.int .i64))
  cap : n ≤ c
  wf : ∀ x ∈ zs, -9223372036854775808 ≤ x ∧ x ≤ 9223372036854775807
theorem argSl_nil (w : World) : ArgSl w none 0 0 [] := ⟨Rd.nil _ _, Nat.le_refl _, by simp⟩
theorem argSl_some {w : World} {x : Addr} {l c : Nat} {zs : List Int} (hl : l ≤ c) (hm : c ≤ maxLen) (hz : zs.length = c)
    (hcell : ∀ i, i < zs.length → w.cell? (x.add i) = some (.int .i64 (zs.getD i 0))) (hwz : ∀ n ∈ zs, (Lit.int .i64 n).wf = true) : ArgSl w (some x) l c (zs.take l) :=
  have h := argInts_some hl hm hz hcell hwz
  ⟨h.rd, hl, h.wf⟩

/-- The base of 's[k:]'. -/
def cutA (a : Option Addr) (c k : Nat) : Option Addr := if c = k then a else a.map (·.add (k * 1))
theorem cutA_some (b o c k : Nat) : cutA (some ⟨b, o, none⟩) c k = some ⟨b, if c = k then o else o + k, none⟩ := by
  unfold cutA
  split
  · rfl
  · simp [Addr.add_lit]
theorem onBlk_cut {a : Option Addr} {c k j : Nat} (h : onBlk (cutA a c k) j) : onBlk a j := by
  unfold cutA at h
  split at h
  · exact h
  · cases a with
    | none => exact h
    | some a =>
      obtain ⟨o, s, hh⟩ := h
      simp only [Option.map_some] at hh
      injection hh with hh
      refine ⟨a.off, a.spot, ?_⟩
      have : (a.add (k * 1)).block = a.block := by unfold Addr.add; split <;> rfl
      rw [hh] at this
      simp only at this
      rw [this]
theorem Rd.cut {w : World} {a : Option Addr} {n c : Nat} {vs : List Value} (h : Rd w a n vs) (hc : n ≤ c) {k r : Nat} (hk : n = k + r) : Rd w (cutA a c k) r (vs.drop k) := by
  have hr : r = n - k := by omega
  subst hr
  refine ⟨by simp [h.len], by have := h.max; omega, fun hn => ?_⟩
  obtain ⟨b, o, rfl, hcell⟩ := h.cells (by omega)
  rw [cutA_some, if_neg (by omega)]
  refine ⟨b, o + k, rfl, fun i u hu => ?_⟩
  rw [List.getElem?_drop] at hu
  rw [Nat.add_assoc]
  exact hcell (k + i) u hu
/-- 's[k:]', elements of one cell. -/
theorem wpCut {P : Program} {w : World} {t T : TypeId} {z : Value} {bytes : Nat} (E : Elem1 P t T z bytes) {a : Option Addr} {n c k r : Nat} (hkn : n = k + r)
    {ops : Array Oper} {rest : List Oper} {act : Act} {Q : Exit → Act → World → Prop} {dst : Option Tmp} {ty : TypeId} {pos : String} {after : Array Edge} {x lo : Operand}
    (hs : act.eval x = .slice a n c) (hlo : act.eval lo = .int .i64 (k : Int))
    (K : wpList P ops Q rest (act.put dst (.slice (cutA a c k) r (c - k))) w) :
    wpList P ops Q ({ dst, op := .slice t x (some lo) none none, type := ty, pos, after, guard := none } :: rest) act w := by
  obtain ⟨E1, E2, _⟩ := E
  obtain ⟨i0, hi, _, hz1, _⟩ := info_parts E2
  have hr : r = n - k := by omega
  subst hr
  refine wpList_plain rfl fun K' hK' => ?_
  have ht : P.underlying t = some (.slice (P.elem t)) := by simp [Program.elem, E1]
  have hel : P.elem t = T := by simp [Program.elem, E1]
  have hsz : (sizeOf T).run P w = .ok 1 w := by simp [sizeOf, typeInfo, hi, hz1]
  have hrun : (Instr.sliceAt t (.slice a n c) (some (.int .i64 (k : Int))) none none).run P w = .ok (.slice (cutA a c k) (n - k) (c - k)) w := by
    rw [run_sliceAt_slice _ _ _ _ _ _ ht, run_slice_l w t a n c ht .i64 k (by omega) (by omega), hel, hsz]
    simp [Result.andThen, sliced, cutA]
  unfold Oper.wp
  simp [execOp, hs, hlo, hrun, Result.andThen]
  exact hK' _ _ K

/-- Three integers as cells. -/
abbrev Tri := Int × Int × Int
def tri (xs : List Tri) : List Value := xs.flatMap fun x => [Value.int .i64 x.1, .int .i64 x.2.1, .int .i64 x.2.2]
theorem tri_length (xs : List Tri) : (tri xs).length = xs.length * 3 := by
  induction xs with
  | nil => rfl
  | cons x xs ih => simp only [tri, List.flatMap_cons, List.length_append, List.length_cons] at *; simp at *; omega
theorem tri_append (xs ys : List Tri) : tri (xs ++ ys) = tri xs ++ tri ys := by simp [tri]
theorem tri_get (xs : List Tri) (i : Nat) (x : Tri) (h : xs[i]? = some x) :
    (tri xs)[i * 3]? = some (.int .i64 x.1) ∧ (tri xs)[i * 3 + 1]? = some (.int .i64 x.2.1) ∧ (tri xs)[i * 3 + 2]? = some (.int .i64 x.2.2) := by
  induction xs generalizing i with
  | nil => simp at h
  | cons y xs ih =>
    have e : tri (y :: xs) = [Value.int .i64 y.1, .int .i64 y.2.1, .int .i64 y.2.2] ++ tri xs := by simp [tri]
    cases i with
    | zero => simp at h; subst h; rw [e]; exact ⟨rfl, rfl, rfl⟩
    | succ i =>
      simp at h
      obtain ⟨h1, h2, h3⟩ := ih i h
      rw [e, List.getElem?_append_right (by simp; omega), List.getElem?_append_right (by simp; omega), List.getElem?_append_right (by simp; omega)]
      simp only [List.length_cons, List.length_nil]
      refine ⟨?_, ?_, ?_⟩
      · rw [← h1]; congr 1; omega
      · rw [← h2]; congr 1; omega
      · rw [← h3]; congr 1; omega
theorem tri_oneCell (x : Tri) : ∀ u ∈ [Value.int .i64 x.1, .int .i64 x.2.1, .int .i64 x.2.2], u.oneCell' = true := by
  intro u hu; simp at hu; rcases hu with rfl | rfl | rfl <;> rfl

end Go.Proofs.Ytehpikjhjghplaa
