/- Two sets and a list of the law's own. -/
import Derived.Test.YtohblajdeicfeaaE32
namespace Go.Proofs.Ytohblajdeicfeaa
open Go.RowKit
abbrev Sb (s : Nat) (N : Nat → Prop) : Nat → Prop := fun q => N q ∨ q = s
/-- A set whose blocks are new. -/
structure Ns (w0 w : World) (s k rb : Nat) (xs : List Int) (N : Nat → Prop) : Prop where
  R : ∃ st, SR w s k rb st xs N
  nw : ∀ q, Sb s N q → w0.heap.size ≤ q
variable {w0 w w' : World} {s k rb : Nat} {xs : List Int} {N : Nat → Prop}
theorem Ns.lt (h : Ns w0 w s k rb xs N) : ∀ q, Sb s N q → q < w.heap.size := by obtain ⟨st, R⟩ := h.R; exact R.lt
theorem Ns.so (h : Ns w0 w s k rb xs N) : xs.Pairwise (· < ·) := by obtain ⟨st, R⟩ := h.R; exact R.so
theorem Ns.fr {F : Nat → Prop} (h : Ns w0 w s k rb xs N) (f : Fr F w w') (hF : ∀ q, Sb s N q → ¬ F q) : Ns w0 w' s k rb xs N := by
  obtain ⟨st, R⟩ := h.R
  exact ⟨⟨st, R.fr f (fun q hq => hF q (.inl hq)) (hF s (.inr rfl))⟩, h.nw⟩
theorem Ns.op {N' : Nat → Prop} {xs' : List Int} {st : Int} (h : Ns w0 w s k rb xs N) (hw : w0.heap.size ≤ w.heap.size) (R : SR w' s k rb st xs' N') (hN : ∀ q, N' q → N q ∨ w.heap.size ≤ q) : Ns w0 w' s k rb xs' N' :=
  ⟨⟨st, R⟩, fun q hq => hq.elim (fun e => (hN q e).elim (fun e => h.nw q (.inl e)) (fun e => by omega)) (fun e => h.nw q (.inr e))⟩
def InR (k : Nat) (x : Int) : Prop := 0 ≤ x ∧ x < ((2 ^ k : Nat) : Int)
/-- What an insertion leaves, by membership. -/
theorem Ins_mem {st : Int} (R : SR w s k rb st xs N) (x : Int) (hl : xs.length ≤ 100000) : Calls Try.prog 9 #[.pointer (some ⟨s, 0, none⟩), .int .i64 x] w fun e w' => ∃ v err st' xs' N', e = .returned (.tuple #[v, .int .i64 err]) ∧ SR w' s k rb st' xs' N' ∧ xs'.length ≤ xs.length + 1 ∧ (∀ y, y ∈ xs' ↔ y ∈ xs ∨ (y = x ∧ InR k x)) ∧ Fr (Sb s N) w w' ∧ ∀ q, N' q → N q ∨ w.heap.size ≤ q := by
  by_cases h : x < 0 ∨ ((2 ^ k : Nat) : Int) ≤ x
  · refine (Insert_out R h).mono ?_
    rintro e w' ⟨rfl, rfl⟩
    exact ⟨_, _, st, xs, N, rfl, R, by omega, fun y => ⟨.inl, fun e => e.elim id (fun e => by have := e.2.1; have := e.2.2; omega)⟩, Fr.refl _ _, fun q hq => .inl hq⟩
  · obtain ⟨n, rfl, hn⟩ := nat_of h
    refine (Insert_in R n hn hl).mono ?_
    rintro e w' ⟨st', N', rfl, R', g1, g2, F, g3⟩
    exact ⟨_, _, st', _, N', rfl, R', insI_le _ _ R.so, fun y => by rw [mem_insI]; exact or_congr_right ⟨fun e => ⟨e, by omega, by omega⟩, fun e => e.1⟩, F, g3⟩
theorem Del_mem {st : Int} (R : SR w s k rb st xs N) (x : Int) (hl : xs.length ≤ 100000) : Calls Try.prog 10 #[.pointer (some ⟨s, 0, none⟩), .int .i64 x] w fun e w' => ∃ v err st' xs' N', e = .returned (.tuple #[v, .int .i64 err]) ∧ SR w' s k rb st' xs' N' ∧ xs'.length ≤ xs.length ∧ (∀ y, y ∈ xs' ↔ y ∈ xs ∧ y ≠ x) ∧ Fr (Sb s N) w w' ∧ ∀ q, N' q → N q ∨ w.heap.size ≤ q := by
  by_cases h : x < 0 ∨ ((2 ^ k : Nat) : Int) ≤ x
  · refine (Delete_out R h).mono ?_
    rintro e w' ⟨rfl, rfl⟩
    exact ⟨_, _, st, xs, N, rfl, R, by omega, fun y => ⟨fun e => ⟨e, fun g => by have := R.pos y e; have := R.lim e; omega⟩, fun e => e.1⟩, Fr.refl _ _, fun q hq => .inl hq⟩
  · obtain ⟨n, rfl, hn⟩ := nat_of h
    refine (Delete_in R n hn hl).mono ?_
    rintro e w' ⟨st', rfl, R', g1, g2, F⟩
    exact ⟨_, _, st', _, N, rfl, R', by have := List.length_filter_le (fun y => y != (n : Int)) xs; unfold delI; omega, fun y => mem_delI, F, fun q hq => .inl hq⟩
/-- Two sets, and a list apart from them. -/
structure Wk (w0 w : World) (k s rs t rt : Nat) (xs ys os : List Int) (a : Option Addr) (n c : Nat) : Prop where
  F : Fr F0 w0 w
  ex : ∃ N M, Ns w0 w s k rs xs N ∧ Ns w0 w t k rt ys M ∧ (∀ q, Sb s N q → ¬ Sb t M q) ∧ (∀ q, onBlk a q → ¬ Sb s N q ∧ ¬ Sb t M q)
  own : Own w w0.heap.size 3 a n c (ints os)
variable {rs t rt n c : Nat} {ys os : List Int} {a : Option Addr}
theorem Wk.flip (h : Wk w0 w k s rs t rt xs ys os a n c) : Wk w0 w k t rt s rs ys xs os a n c := by
  obtain ⟨N, M, h1, h2, h3, h4⟩ := h.ex
  exact ⟨h.F, ⟨M, N, h2, h1, fun q hq e => h3 q e hq, fun q hq => ⟨(h4 q hq).2, (h4 q hq).1⟩⟩, h.own⟩
theorem Wk.opS {N N' : Nat → Prop} {xs' : List Int} {st : Int} {M : Nat → Prop} (h : Wk w0 w k s rs t rt xs ys os a n c) (h1 : Ns w0 w s k rs xs N) (h2 : Ns w0 w t k rt ys M) (h3 : ∀ q, Sb s N q → ¬ Sb t M q) (h4 : ∀ q, onBlk a q → ¬ Sb s N q ∧ ¬ Sb t M q)
    (R : SR w' s k rs st xs' N') (f : Fr (Sb s N) w w') (hN : ∀ q, N' q → N q ∨ w.heap.size ≤ q) : Wk w0 w' k s rs t rt xs' ys os a n c := by
  have hs := h.F.size
  refine ⟨h.F.trans f (fun q hq e => by have := h1.nw q e; omega), ⟨N', M, h1.op hs R hN, h2.fr f (fun q hq e => h3 q e hq), ?_, ?_⟩, h.own.fr f (fun q hq => (h4 q hq).1)⟩
  · rintro q (hq | hq) e
    · rcases hN q hq with g | g
      · exact h3 q (.inl g) e
      · have := h2.lt q e; omega
    · exact h3 q (.inr hq) e
  · intro q hq
    refine ⟨?_, (h4 q hq).2⟩
    rintro (e | e)
    · rcases hN q e with g | g
      · exact (h4 q hq).1 (.inl g)
      · have := (h.own.blk q hq).2; omega
    · exact (h4 q hq).1 (.inr e)
theorem Wk.insS (h : Wk w0 w k s rs t rt xs ys os a n c) (x : Int) (hl : xs.length ≤ 100000) : Calls Try.prog 9 #[.pointer (some ⟨s, 0, none⟩), .int .i64 x] w fun e w' => ∃ v err xs', e = .returned (.tuple #[v, .int .i64 err]) ∧ Wk w0 w' k s rs t rt xs' ys os a n c ∧ xs'.length ≤ xs.length + 1 ∧ (∀ y, y ∈ xs' ↔ y ∈ xs ∨ (y = x ∧ InR k x)) := by
  obtain ⟨N, M, h1, h2, h3, h4⟩ := h.ex
  obtain ⟨st, R⟩ := h1.R
  refine (Ins_mem R x hl).mono ?_
  rintro e w' ⟨v, err, st', xs', N', rfl, R', g1, g2, F, g3⟩
  exact ⟨v, err, xs', rfl, h.opS h1 h2 h3 h4 R' F g3, g1, g2⟩
theorem Wk.insT (h : Wk w0 w k s rs t rt xs ys os a n c) (x : Int) (hl : ys.length ≤ 100000) : Calls Try.prog 9 #[.pointer (some ⟨t, 0, none⟩), .int .i64 x] w fun e w' => ∃ v err ys', e = .returned (.tuple #[v, .int .i64 err]) ∧ Wk w0 w' k s rs t rt xs ys' os a n c ∧ ys'.length ≤ ys.length + 1 ∧ (∀ y, y ∈ ys' ↔ y ∈ ys ∨ (y = x ∧ InR k x)) := by
  refine (h.flip.insS x hl).mono ?_
  rintro e w' ⟨v, err, ys', rfl, g1, g2, g3⟩
  exact ⟨v, err, ys', rfl, g1.flip, g2, g3⟩
theorem Wk.delT (h : Wk w0 w k s rs t rt xs ys os a n c) (x : Int) (hl : ys.length ≤ 100000) : Calls Try.prog 10 #[.pointer (some ⟨t, 0, none⟩), .int .i64 x] w fun e w' => ∃ v err ys', e = .returned (.tuple #[v, .int .i64 err]) ∧ Wk w0 w' k s rs t rt xs ys' os a n c ∧ ys'.length ≤ ys.length ∧ (∀ y, y ∈ ys' ↔ y ∈ ys ∧ y ≠ x) := by
  have hf := h.flip
  obtain ⟨N, M, h1, h2, h3, h4⟩ := hf.ex
  obtain ⟨st, R⟩ := h1.R
  refine (Del_mem R x hl).mono ?_
  rintro e w' ⟨v, err, st', xs', N', rfl, R', g1, g2, F, g3⟩
  exact ⟨v, err, xs', rfl, (hf.opS h1 h2 h3 h4 R' F g3).flip, g1, g2⟩
/-- The list was cloned. -/
theorem Wk.clone {os' : List Int} {a' : Option Addr} {n' c' : Nat} (h : Wk w0 w k s rs t rt xs ys os a n c) (O : Own w' w.heap.size 3 a' n' c' (ints os')) (f : Fr F0 w w') : Wk w0 w' k s rs t rt xs ys os' a' n' c' := by
  obtain ⟨N, M, h1, h2, h3, h4⟩ := h.ex
  have hs := h.F.size
  refine ⟨h.F.trans f (fun _ _ h => h), ⟨N, M, h1.fr f (fun _ _ => id), h2.fr f (fun _ _ => id), h3, fun q hq => ?_⟩, O.mono hs⟩
  have := (O.blk q hq).1
  exact ⟨fun e => by have := h1.lt q e; omega, fun e => by have := h2.lt q e; omega⟩
/-- The list was written. -/
theorem Wk.write {os' : List Int} (h : Wk w0 w k s rs t rt xs ys os a n c) (O : Own w' w0.heap.size 3 a n c (ints os')) (f : Fr (onBlk a) w w') : Wk w0 w' k s rs t rt xs ys os' a n c := by
  obtain ⟨N, M, h1, h2, h3, h4⟩ := h.ex
  exact ⟨h.F.trans f (fun q hq e => by have := (h.own.blk q e).1; omega), ⟨N, M, h1.fr f (fun q hq e => (h4 q e).1 hq), h2.fr f (fun q hq e => (h4 q e).2 hq), h3, h4⟩, O⟩
/-- Two sets with one and the same elements, and their list. -/
structure P2 (w0 w : World) (k s rs t rt B : Nat) (xs : List Int) (a : Option Addr) (n c : Nat) : Prop where
  F : Fr F0 w0 w
  ex : ∃ N M, Ns w0 w s k rs xs N ∧ Ns w0 w t k rt xs M ∧ (∀ q, Sb s N q → ¬ Sb t M q) ∧ ∀ q, Sb s N q ∨ Sb t M q → q < B
  own : Own w w0.heap.size 3 a n c (ints xs)
  la : ∀ q, onBlk a q → q < B ∧ q ≠ s ∧ q ≠ t
  hB : w0.heap.size ≤ B ∧ B ≤ w.heap.size
variable {B : Nat}
theorem P2.st (h : P2 w0 w k s rs t rt B xs a n c) : w0.heap.size ≤ s ∧ w0.heap.size ≤ t ∧ s < B ∧ t < B := by
  obtain ⟨N, M, h1, h2, h3, h4⟩ := h.ex
  exact ⟨h1.nw s (.inr rfl), h2.nw t (.inr rfl), h4 s (.inl (.inr rfl)), h4 t (.inr (.inr rfl))⟩
theorem P2.fr {F : Nat → Prop} (h : P2 w0 w k s rs t rt B xs a n c) (f : Fr F w w') (hF : ∀ q, F q → B ≤ q) : P2 w0 w' k s rs t rt B xs a n c := by
  obtain ⟨N, M, h1, h2, h3, h4⟩ := h.ex
  have hb := h.hB
  have hs := f.size
  exact ⟨h.F.trans f (fun q hq e => by have := hF q e; omega), ⟨N, M, h1.fr f (fun q hq e => by have := hF q e; have := h4 q (.inl hq); omega), h2.fr f (fun q hq e => by have := hF q e; have := h4 q (.inr hq); omega), h3, h4⟩, h.own.fr f (fun q hq e => by have := hF q e; have := (h.la q hq).1; omega), h.la, hb.1, by omega⟩
theorem P2.next (h : P2 w0 w k s rs t rt B xs a n c) (x : Int) : Calls Try.prog 12 #[.pointer (some ⟨s, 0, none⟩), .int .i64 x] w fun e w' => e = .returned (.tuple #[.int .i64 (vO (nextI xs x)), .int .i64 (eO (nextI xs x))]) ∧ P2 w0 w' k s rs t rt B xs a n c ∧ Fr (onB s) w w' := by
  obtain ⟨N, M, h1, h2, h3, h4⟩ := h.ex
  obtain ⟨st, R⟩ := h1.R
  have hst := h.st
  have hb := h.hB
  refine (Next_any R x).mono ?_
  rintro e w' ⟨st', rfl, R', _, _, F⟩
  have hs := F.size
  refine ⟨rfl, ⟨h.F.trans F (fun q hq (e : q = s) => by omega), ⟨N, M, ⟨⟨st', R'⟩, h1.nw⟩, h2.fr F (fun q hq (e : q = s) => h3 s (.inr rfl) (e ▸ hq)), h3, h4⟩, h.own.fr F (fun q hq (e : q = s) => (h.la q hq).2.1 e), h.la, hb.1, by omega⟩, F⟩
theorem P2.prev (h : P2 w0 w k s rs t rt B xs a n c) (x : Int) : Calls Try.prog 13 #[.pointer (some ⟨t, 0, none⟩), .int .i64 x] w fun e w' => e = .returned (.tuple #[.int .i64 (vO (prevI xs x)), .int .i64 (eO (prevI xs x))]) ∧ P2 w0 w' k s rs t rt B xs a n c ∧ Fr (onB t) w w' := by
  obtain ⟨N, M, h1, h2, h3, h4⟩ := h.ex
  obtain ⟨st, R⟩ := h2.R
  have hst := h.st
  have hb := h.hB
  refine (Prev_any R x).mono ?_
  rintro e w' ⟨st', rfl, R', _, _, F⟩
  have hs := F.size
  refine ⟨rfl, ⟨h.F.trans F (fun q hq (e : q = t) => by omega), ⟨N, M, h1.fr F (fun q hq (e : q = t) => h3 q hq (.inr e)), ⟨⟨st', R'⟩, h2.nw⟩, h3, h4⟩, h.own.fr F (fun q hq (e : q = t) => (h.la q hq).2.2 e), h.la, hb.1, by omega⟩, F⟩
end Go.Proofs.Ytohblajdeicfeaa
