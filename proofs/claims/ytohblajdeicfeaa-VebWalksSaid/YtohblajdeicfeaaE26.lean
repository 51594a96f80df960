/- A set and the reference's list, side by side. -/
import Derived.Test.YtohblajdeicfeaaE24
namespace Go.Proofs.Ytohblajdeicfeaa
open Go.RowKit
/-- A set with the elements xs and, apart from it, a list ys. -/
structure Mt (w0 w : World) (s k rb : Nat) (xs : List Int) (N : Nat → Prop) (ys : List Int) (a : Option Addr) (n c : Nat) : Prop where
  R : ∃ st, SR w s k rb st xs N
  F : Fr F0 w0 w
  nw : ∀ q, N q ∨ q = s → w0.heap.size ≤ q
  rd : Rd w a n (ints ys)
  nc : n ≤ c
  ap : ∀ q, onBlk a q → q < w.heap.size ∧ ¬ (N q ∨ q = s)
theorem Mt.len {w0 w : World} {s k rb : Nat} {xs : List Int} {N : Nat → Prop} {ys : List Int} {a : Option Addr} {n c : Nat} (h : Mt w0 w s k rb xs N ys a n c) : ys.length = n := by simpa using h.rd.len
theorem Mt.op {w0 w w' : World} {s k rb : Nat} {xs xs' : List Int} {N N' : Nat → Prop} {ys : List Int} {a : Option Addr} {n c : Nat} {st : Int} (h : Mt w0 w s k rb xs N ys a n c) (R : SR w' s k rb st xs' N') (F : Fr (fun q => N q ∨ q = s) w w') (hN : ∀ q, N' q → N q ∨ w.heap.size ≤ q) : Mt w0 w' s k rb xs' N' ys a n c := by
  have hs := h.F.size
  have hs' := F.size
  refine ⟨⟨st, R⟩, h.F.trans F (fun q hq e => by have := h.nw q e; omega), ?_, h.rd.fr F (fun q hq => (h.ap q hq).2), h.nc, fun q hq => ⟨by have := (h.ap q hq).1; omega, ?_⟩⟩
  · rintro q (hq | hq)
    · rcases hN q hq with e | e
      · exact h.nw q (.inl e)
      · omega
    · exact h.nw q (.inr hq)
  · rintro (e | e)
    · rcases hN q e with e | e
      · exact (h.ap q hq).2 (.inl e)
      · have := (h.ap q hq).1; omega
    · exact (h.ap q hq).2 (.inr e)
theorem Mt.ask {w0 w w' : World} {s k rb : Nat} {xs : List Int} {N : Nat → Prop} {ys : List Int} {a : Option Addr} {n c : Nat} {st : Int} (h : Mt w0 w s k rb xs N ys a n c) (R : SR w' s k rb st xs N) (F : Fr (onB s) w w') : Mt w0 w' s k rb xs N ys a n c :=
  h.op R (F.mono (fun q _ (e : q = s) => .inr e)) (fun q hq => .inl hq)
theorem Mt.ref {w0 w w' : World} {s k rb : Nat} {xs : List Int} {N : Nat → Prop} {ys ys' : List Int} {a a' : Option Addr} {n c n' c' : Nat} (h : Mt w0 w s k rb xs N ys a n c) (rd : Rd w' a' n' (ints ys')) (nc : n' ≤ c') (hb : ∀ q, onBlk a' q → onBlk a q ∨ (w.heap.size ≤ q ∧ q < w'.heap.size)) (F : Fr F0 w w') : Mt w0 w' s k rb xs N ys' a' n' c' := by
  obtain ⟨st, R⟩ := h.R
  have hs' := F.size
  refine ⟨⟨st, R.fr F (fun _ _ => id) id⟩, h.F.trans F (fun _ _ h => h), h.nw, rd, nc, fun q hq => ?_⟩
  rcases hb q hq with e | e
  · exact ⟨by have := (h.ap q e).1; omega, (h.ap q e).2⟩
  · exact ⟨e.2, fun g => by have := R.lt q g; omega⟩
theorem Mt.out {w0 w : World} {s k rb : Nat} {xs : List Int} {N : Nat → Prop} {ys : List Int} {a : Option Addr} {n c : Nat} (h : Mt w0 w s k rb xs N ys a n c) {x : Int} (hx : x < 0 ∨ ((2 ^ k : Nat) : Int) ≤ x) : x ∉ xs := by
  obtain ⟨st, R⟩ := h.R
  intro e
  have h1 := R.pos x e
  have h2 := R.lim e
  omega
theorem Mt.so {w0 w : World} {s k rb : Nat} {xs : List Int} {N : Nat → Prop} {ys : List Int} {a : Option Addr} {n c : Nat} (h : Mt w0 w s k rb xs N ys a n c) : xs.Pairwise (· < ·) := by
  obtain ⟨st, R⟩ := h.R
  exact R.so
variable {w0 w : World} {s k rb : Nat} {xs : List Int} {N : Nat → Prop} {ys : List Int} {a : Option Addr} {n c : Nat}
/-- What the calls leave, in these words. -/
theorem Mt.insert (h : Mt w0 w s k rb xs N ys a n c) (x : Nat) (hx : x < 2 ^ k) (hl : xs.length ≤ 100000) : Calls Try.prog 9 #[.pointer (some ⟨s, 0, none⟩), .int .i64 x] w fun e w' => e = .returned (.tuple #[.bool (decide ((x : Int) ∉ xs)), .int .i64 0]) ∧ ∃ N', Mt w0 w' s k rb (insI xs x) N' ys a n c := by
  obtain ⟨st, R⟩ := h.R
  refine (Insert_in R x hx hl).mono ?_
  rintro e w' ⟨st', N', rfl, R', _, _, F, g⟩
  exact ⟨rfl, N', h.op R' F g⟩
theorem Mt.delete (h : Mt w0 w s k rb xs N ys a n c) (x : Nat) (hx : x < 2 ^ k) (hl : xs.length ≤ 100000) : Calls Try.prog 10 #[.pointer (some ⟨s, 0, none⟩), .int .i64 x] w fun e w' => e = .returned (.tuple #[.bool (decide ((x : Int) ∈ xs)), .int .i64 0]) ∧ ∃ N', Mt w0 w' s k rb (delI xs x) N' ys a n c := by
  obtain ⟨st, R⟩ := h.R
  refine (Delete_in R x hx hl).mono ?_
  rintro e w' ⟨st', rfl, R', _, _, F⟩
  exact ⟨rfl, N, h.op R' F (fun q hq => .inl hq)⟩
theorem Mt.contains (h : Mt w0 w s k rb xs N ys a n c) (x : Nat) (hx : x < 2 ^ k) : Calls Try.prog 11 #[.pointer (some ⟨s, 0, none⟩), .int .i64 x] w fun e w' => e = .returned (.tuple #[.bool (decide ((x : Int) ∈ xs)), .int .i64 0]) ∧ ∃ N', Mt w0 w' s k rb xs N' ys a n c := by
  obtain ⟨st, R⟩ := h.R
  refine (Contains_in R x hx).mono ?_
  rintro e w' ⟨st', rfl, R', _, _, F⟩
  exact ⟨rfl, N, h.op R' F (fun q hq => .inl hq)⟩
def vO (o : Option Int) : Int := o.getD 0
def eO (o : Option Int) : Int := if o.isSome then 0 else 12
theorem Mt.next (h : Mt w0 w s k rb xs N ys a n c) (x : Int) : Calls Try.prog 12 #[.pointer (some ⟨s, 0, none⟩), .int .i64 x] w fun e w' => e = .returned (.tuple #[.int .i64 (vO (nextI xs x)), .int .i64 (eO (nextI xs x))]) ∧ ∃ N', Mt w0 w' s k rb xs N' ys a n c := by
  obtain ⟨st, R⟩ := h.R
  refine (Next_any R x).mono ?_
  rintro e w' ⟨st', rfl, R', _, _, F⟩
  exact ⟨rfl, N, h.ask R' F⟩
theorem Mt.prev (h : Mt w0 w s k rb xs N ys a n c) (x : Int) : Calls Try.prog 13 #[.pointer (some ⟨s, 0, none⟩), .int .i64 x] w fun e w' => e = .returned (.tuple #[.int .i64 (vO (prevI xs x)), .int .i64 (eO (prevI xs x))]) ∧ ∃ N', Mt w0 w' s k rb xs N' ys a n c := by
  obtain ⟨st, R⟩ := h.R
  refine (Prev_any R x).mono ?_
  rintro e w' ⟨st', rfl, R', _, _, F⟩
  exact ⟨rfl, N, h.ask R' F⟩
theorem Mt.rnext (h : Mt w0 w s k rb xs N ys a n c) (x : Int) (hn : n ≤ 1000000) : Calls Try.prog 20 #[.slice a n c, .int .i64 x] w fun e w' => e = .returned (.tuple #[.int .i64 (vO (nextI ys x)), .int .i64 (eO (nextI ys x))]) ∧ w = w' := refNext_any a n c ys x w h.rd hn
theorem Mt.rprev (h : Mt w0 w s k rb xs N ys a n c) (x : Int) (hn : n ≤ 1000000) : Calls Try.prog 21 #[.slice a n c, .int .i64 x] w fun e w' => e = .returned (.tuple #[.int .i64 (vO (prevI ys x)), .int .i64 (eO (prevI ys x))]) ∧ w = w' := refPrev_any a n c ys x w h.rd hn
theorem Mt.rinsert (h : Mt w0 w s k rb xs N ys a n c) (x : Int) (hn : n ≤ 100000) (so : ys.Pairwise (· < ·)) : Calls Try.prog 18 #[.slice a n c, .int .i64 x] w fun e w' => ∃ a' n' c', e = .returned (.slice a' n' c') ∧ Mt w0 w' s k rb xs N (insI ys x) a' n' c' := by
  refine (refInsert_any a n c ys x w h.rd h.nc so hn).mono ?_
  rintro e w' ⟨a', n', c', rfl, g1, g2, g3, F⟩
  exact ⟨a', n', c', rfl, h.ref g1 g2 g3 F⟩
theorem Mt.rdelete (h : Mt w0 w s k rb xs N ys a n c) (x : Int) (hn : n ≤ 100000) : Calls Try.prog 19 #[.slice a n c, .int .i64 x] w fun e w' => ∃ a' n' c', e = .returned (.slice a' n' c') ∧ Mt w0 w' s k rb xs N (delI ys x) a' n' c' := by
  refine (refDelete_any a n c ys x w h.rd hn).mono ?_
  rintro e w' ⟨a', n', c', rfl, g1, g2, g3, F⟩
  exact ⟨a', n', c', rfl, h.ref g1 g2 g3 F⟩
end Go.Proofs.Ytohblajdeicfeaa
