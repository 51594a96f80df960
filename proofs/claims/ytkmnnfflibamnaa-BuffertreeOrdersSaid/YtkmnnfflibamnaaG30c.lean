/- Common texts of this seat, one behind another. -/
import Derived.Test.YtkmnnfflibamnaaG289
import Derived.Test.YtkmnnfflibamnaaH4
import Derived.Test.YtkmnnfflibamnaaG26
/- Buffer trees: sorting by merging runs (plain law). -/
namespace Go.Proofs.Ytkmnnfflibamnaa
/-- The lengths of the chunks. -/
def chL (len m : Nat) : List Nat := (List.range (nch len m)).map (chl len m)
/-- The j-th chunk of a list. -/
def chnk {α : Type} (l : List α) (m j : Nat) : List α := (l.drop (j * m)).take m
theorem chnk_len {α : Type} (l : List α) (m j : Nat) : (chnk l m j).length = chl l.length m j := by
  unfold chnk chl; rw [List.length_take, List.length_drop]
theorem chnk_flat {α : Type} (l : List α) {m : Nat} (hm : 0 < m) : ∀ k, k ≤ nch l.length m → ((List.range k).flatMap (chnk l m)) = l.take (k * m)
  | 0, _ => by simp
  | k + 1, h => by
    rw [List.range_succ, List.flatMap_append, chnk_flat l hm k (by omega)]
    show _ ++ (chnk l m k ++ []) = _
    rw [List.append_nil, Nat.succ_mul, List.take_add]
    rfl
theorem chnk_all {α : Type} (l : List α) {m : Nat} (hm : 0 < m) : ((List.range (nch l.length m)).flatMap (chnk l m)) = l := by
  rw [chnk_flat l hm _ (Nat.le_refl _)]
  refine List.take_of_length_le ?_
  rcases Nat.lt_or_ge (nch l.length m * m) l.length with h | h
  · exact absurd ((nch_lt hm).2 h) (Nat.lt_irrefl _)
  · exact h
/-- A round of merging, on lengths; what it costs. -/
def roundL (F : Nat) (ls : List Nat) : List Nat := (List.range (nch ls.length F)).map fun j => (chnk ls F j).sum
def cstL (B : Nat) (ls : List Nat) : Nat := (ls.map (cnt B)).sum
def sortF (B F : Nat) : Nat → List Nat → Nat → Nat
  | 0, _, c => c
  | n + 1, ls, c => if 1 < ls.length then sortF B F n (roundL F ls) (c + cstL B ls + cstL B (roundL F ls)) else c
def srtN (B F M len : Nat) : Nat := sortF B F (nch len M) (chL len M) (2 * cstL B (chL len M))
theorem roundL_len (F : Nat) (ls : List Nat) : (roundL F ls).length = nch ls.length F := by unfold roundL; simp
theorem nch_less {n F : Nat} (hF : 2 ≤ F) (hn : 1 < n) : nch n F < n := by
  unfold nch
  rw [Nat.div_lt_iff_lt_mul (by omega)]
  have h1 : n * 2 ≤ n * F := Nat.mul_le_mul_left n hF
  have h2 : (n - 1) * 2 ≤ (n - 1) * F := Nat.mul_le_mul_left _ hF
  have h3 : n * F = (n - 1) * F + F := by rw [← Nat.succ_mul]; congr 1; omega
  omega
theorem nch_pos {n m : Nat} (hm : 0 < m) (hn : 0 < n) : 0 < nch n m := (nch_lt hm).2 (by omega)
theorem sortF_end {B F : Nat} : ∀ (n : Nat) (ls : List Nat) (c : Nat), ls.length ≤ 1 → sortF B F n ls c = c
  | 0, _, _, _ => rfl
  | n + 1, ls, c, h => by unfold sortF; rw [if_neg (by omega)]
theorem sortF_step {B F n : Nat} {ls : List Nat} {c : Nat} (h : 1 < ls.length) : sortF B F (n + 1) ls c = sortF B F n (roundL F ls) (c + cstL B ls + cstL B (roundL F ls)) := by
  conv => lhs; unfold sortF
  rw [if_pos h]
theorem cstL_app (B : Nat) (a b : List Nat) : cstL B (a ++ b) = cstL B a + cstL B b := by unfold cstL; rw [List.map_append, List.sum_append]
theorem cstL_le {B : Nat} (hB : 1 ≤ B) (ls : List Nat) : cstL B ls ≤ ls.sum := by
  induction ls with
  | nil => exact Nat.le_refl _
  | cons x l ih =>
    have := cnt_le hB x
    unfold cstL at *
    rw [List.map_cons, List.sum_cons, List.sum_cons]; omega
theorem chnk_sums {ls : List Nat} {F : Nat} (hF : 0 < F) : (roundL F ls).sum = ls.sum := by
  have h : ∀ k, k ≤ nch ls.length F → ((List.range k).map fun j => (chnk ls F j).sum).sum = (ls.take (k * F)).sum := fun k => by
    induction k with
    | zero => intro _; simp
    | succ k ih =>
      intro h
      rw [List.range_succ, List.map_append, List.sum_append, ih (by omega), Nat.succ_mul, List.take_add, List.sum_append]
      simp [chnk]
  unfold roundL
  rw [h _ (Nat.le_refl _), List.take_of_length_le]
  rcases Nat.lt_or_ge (nch ls.length F * F) ls.length with h | h
  · exact absurd ((nch_lt hF).2 h) (Nat.lt_irrefl _)
  · exact h
theorem chL_sum {len m : Nat} (hm : 0 < m) : (chL len m).sum = len := by
  have e := chnk_all (List.replicate len ()) hm
  rw [List.length_replicate] at e
  have h := congrArg List.length e
  rw [List.length_replicate, List.length_flatMap] at h
  refine Eq.trans ?_ h
  unfold chL
  congr 1
  refine List.map_congr_left (fun j _ => ?_)
  rw [chnk_len, List.length_replicate]
end Go.Proofs.Ytkmnnfflibamnaa
/- Buffer trees: Sort's memory. -/
namespace Go.Proofs.Ytkmnnfflibamnaa
open Go.RowKit
theorem cells_of_cell {w : World} {p : Addr} {v : Value} (h : w.cell? p = some v) {o : Obj} (ho : w.heap[p.block]? = some o) : o.isCells = true := by
  unfold World.cell? at h
  rw [ho] at h
  cases o <;> first | rfl | (simp at h)
/-- The lists under way: z the sizes, p the counter, q the box of the lists. -/
structure YS (W1 W : World) (z p q B M mv : Nat) (a : Option Addr) (c : Nat) (rv : List IV) : Prop where
  sz : Blk W z 73 [.int .i64 (B : Int), .int .i64 (M : Int)]
  mvb : One W p 3 (.int .i64 (mv : Int))
  bx : One W q 82 (.slice a rv.length c)
  own : Own W W1.heap.size 36 a rv.length c (ivs rv)
  rd : ∀ r ∈ rv, Rd W r.a r.l.length (ints r.l) ∧ 0 < r.l.length ∧ ∀ k, onBlk r.a k → W1.heap.size ≤ k ∧ k < W.heap.size ∧ ¬ onBlk a k
  fr : Fr (fun k => k = p ∨ k = q) W1 W
  lo : z < W1.heap.size ∧ p < W1.heap.size ∧ q < W1.heap.size
  ne : z ≠ p ∧ z ≠ q ∧ p ≠ q
section
variable {W1 W W' : World} {z p q B M mv : Nat} {a : Option Addr} {c : Nat} {rv : List IV}
theorem YS.frS {S : Nat → Prop} (h : YS W1 W z p q B M mv a c rv) (F : Fr S W W') (h1 : ∀ k, k < W1.heap.size → ¬ S k) (ha : ∀ k, onBlk a k → ¬ S k) (hr : ∀ r ∈ rv, ∀ k, onBlk r.a k → ¬ S k) : YS W1 W' z p q B M mv a c rv :=
  ⟨h.sz.fr F (h1 _ h.lo.1), h.mvb.fr F (h1 _ h.lo.2.1), h.bx.fr F (h1 _ h.lo.2.2), h.own.fr F ha, fun r hr' => ⟨(h.rd r hr').1.fr F (hr r hr'), (h.rd r hr').2.1, fun k hk => ⟨((h.rd r hr').2.2 k hk).1, Nat.lt_of_lt_of_le ((h.rd r hr').2.2 k hk).2.1 F.size, ((h.rd r hr').2.2 k hk).2.2⟩⟩,
    h.fr.trans F (fun k hk e => absurd e (h1 k hk)), h.lo, h.ne⟩
theorem YS.fr0 (h : YS W1 W z p q B M mv a c rv) (F : Fr F0 W W') : YS W1 W' z p q B M mv a c rv := h.frS F (fun _ _ e => e) (fun _ _ e => e) (fun _ _ _ _ e => e)
theorem YS.cellsA (h : YS W1 W z p q B M mv a c rv) {k : Nat} (hk : onBlk a k) {o : Obj} (ho : W.heap[k]? = some o) : o.isCells = true := by
  rcases h.own.2 with ⟨hv, _⟩ | ⟨g, cap, cur, hv, hb, hh, _⟩
  · injection hv with ha
    rw [ha] at hk
    exact absurd hk (onBlk_none _)
  · injection hv with ha
    rw [ha] at hk
    have := (onBlk_some _ _ _ _).1 hk
    subst this
    rw [hh] at ho
    injection ho with ho
    rw [← ho]; rfl
theorem YS.rowd (h : YS W1 W z p q B M mv a c rv) {row : Option Nat} (hg : W.grownBy W' row) (hr : ∀ r, row = some r → W1.heap.size ≤ r ∧ ∃ o : Obj, W.heap[r]? = some o ∧ o.isCells = false) : YS W1 W' z p q B M mv a c rv := by
  refine h.frS (S := fun k => row = some k) ⟨hg.os, hg.tape, hg.output, hg.size, fun k hk hn => hg.block k hk (fun e => hn e.symm)⟩ (fun k hk e => by have := (hr k e).1; omega) (fun k hk e => ?_) (fun r hr' k hk e => ?_)
  · obtain ⟨_, o, ho, hc⟩ := hr k e
    rw [h.cellsA hk ho] at hc; cases hc
  · obtain ⟨_, o, ho, hc⟩ := hr k e
    obtain ⟨h1, h2, _⟩ := h.rd r hr'
    obtain ⟨b, off, hra, hcc⟩ := h1.cells h2
    rw [hra] at hk
    have := (onBlk_some _ _ _ _).1 hk
    subst this
    have hl := h1.len
    have := cells_of_cell (hcc 0 ((ints r.l)[0]'(by omega)) (by simp)) ho
    rw [this] at hc; cases hc
theorem YS.mvd (h : YS W1 W z p q B M mv a c rv) (m : Nat) : YS W1 (W.setCell ⟨p, 0, none⟩ (.int .i64 (m : Int))) z p q B M m a c rv := by
  have hb := fun k hk => (h.own.blk k hk).1
  have := h.lo
  have := h.ne
  refine ⟨h.sz.other (by dsimp only; omega) _, h.mvb.set _, h.bx.other (by dsimp only; omega) _, h.own.other (fun hk => by have := hb _ hk; dsimp only at this; omega) _, fun r hr => ?_, h.fr.setCell (fun _ => .inl rfl) _, h.lo, h.ne⟩
  obtain ⟨h1, h2, h3⟩ := h.rd r hr
  exact ⟨h1.other (fun hk => by have := (h3 _ hk).1; dsimp only at this; omega) _, h2, fun k hk => ⟨(h3 k hk).1, by have := (h3 k hk).2.1; simpa using this, (h3 k hk).2.2⟩⟩
/-- A list more. -/
theorem YS.push (h : YS W1 W z p q B M mv a c rv) {W2 : World} {a' : Option Addr} {c' n : Nat} {r : IV} (hn : rv.length = n) (own' : Own W2 W1.heap.size 36 a' (n + 1) c' (ivs rv ++ [r.v])) (F : Fr (onBlk a) W W2) (at' : ∀ k, onBlk a' k → onBlk a k ∨ W.heap.size ≤ k)
    (hr : Rd W r.a r.l.length (ints r.l)) (h0 : 0 < r.l.length) (hlo : ∀ k, onBlk r.a k → W1.heap.size ≤ k ∧ k < W.heap.size ∧ ¬ onBlk a k) :
    YS W1 (W2.setCell ⟨q, 0, none⟩ (.slice a' (n + 1) c')) z p q B M mv a' c' (rv ++ [r]) := by
  subst hn
  have hb := fun k hk => (h.own.blk k hk).1
  have hb' := fun k hk => (own'.blk k hk).1
  have hlo1 := h.lo
  have hne := h.ne
  have e1 : (rv ++ [r]).length = rv.length + 1 := by simp
  have e2 : ivs (rv ++ [r]) = ivs rv ++ [r.v] := List.map_append ..
  refine ⟨(h.sz.fr F (fun e => by have := hb _ e; omega)).other (by dsimp only; omega) _, (h.mvb.fr F (fun e => by have := hb _ e; omega)).other (by dsimp only; omega) _, ?_, ?_, fun x hx => ?_, (h.fr.trans F (fun k hk e => by have := hb k e; omega)).setCell (fun _ => .inr rfl) _, h.lo, h.ne⟩
  · rw [e1]; exact (h.bx.fr F (fun e => by have := hb _ e; omega)).set _
  · rw [e1, e2]; exact own'.other (fun hk => by have := hb' _ hk; dsimp only at this; omega) _
  · have key : Rd W x.a x.l.length (ints x.l) ∧ 0 < x.l.length ∧ ∀ k, onBlk x.a k → W1.heap.size ≤ k ∧ k < W.heap.size ∧ ¬ onBlk a k := by
      rcases List.mem_append.1 hx with hx | hx
      · exact h.rd x hx
      · rw [List.mem_singleton] at hx; subst hx; exact ⟨hr, h0, hlo⟩
    obtain ⟨g1, g2, g3⟩ := key
    refine ⟨(g1.fr F (fun k hk => (g3 k hk).2.2)).other (fun hk => by have := (g3 _ hk).1; dsimp only at this; omega) _, g2, fun k hk => ⟨(g3 k hk).1, by have := (g3 k hk).2.1; have := F.size; simp; omega, fun hk' => ?_⟩⟩
    rcases at' k hk' with e | e
    · exact (g3 k hk).2.2 e
    · have := (g3 k hk).2.1; omega
/-- What was there but the two boxes and the lists' own array is as it was. -/
theorem YS.keeps {A w9 : World} {a0 : Option Addr} {c0 : Nat} {rv0 : List IV} (h : YS W1 A z p q B M mv a0 c0 rv0) (FA : Fr (fun k => k = p ∨ k = q ∨ onBlk a0 k) A w9) : KeepsOthers A w9 :=
  ⟨FA.size, fun k o hk ho => (FA.block k (lt_of_block hk) (fun e => by
    rcases e with e | e | e
    · subst e; have hb := h.mvb; unfold One at hb; rw [hb] at hk; injection hk with hk; rw [← hk] at ho; cases ho
    · subst e; have hb := h.bx; unfold One at hb; rw [hb] at hk; injection hk with hk; rw [← hk] at ho; cases ho
    · rw [h.cellsA e hk] at ho; cases ho)).trans hk⟩
end
end Go.Proofs.Ytkmnnfflibamnaa
