/- Arguments that are slices of bytes; one call of a set, whichever. -/
import Derived.Test.YtohblajdeicfeaaE23
namespace Go.Proofs.Ytohblajdeicfeaa
open Go.RowKit
attribute [local go_sem ↓] Go.wp_at_zero Go.wp_at_succ
structure ArgU8 (w : World) (a : Option Addr) (n c : Nat) (us : List Int) : Prop where
  rd : Rd w a n (us.map (Value.int .u8))
  cap : n ≤ c
  wf : ∀ u ∈ us, 0 ≤ u ∧ u < 256
theorem argU8_nil (w : World) : ArgU8 w none 0 0 [] := ⟨Rd.nil _ _, Nat.le_refl _, by simp⟩
theorem rd_some {w : World} {x : Addr} {l c : Nat} {zs : List Int} {k : IntKind} (hl : l ≤ c) (hm : c ≤ maxLen) (hz : zs.length = c)
    (hcell : ∀ i, i < zs.length → w.cell? (x.add i) = some (.int k (zs.getD i 0))) : Rd w (some x) l ((zs.take l).map (Value.int k)) := by
  refine ⟨by simp; omega, by unfold maxLen at hm; omega, fun hn => ?_⟩
  have hsp : x.spot = none := by
    have h0 := hcell 0 (by omega)
    simp only [Addr.add, if_true, World.cell?] at h0
    split at h0
    · cases hs : x.spot with
      | none => rfl
      | some s => simp [hs] at h0
    · cases h0
  obtain ⟨b, o, s⟩ := x
  simp only at hsp
  subst hsp
  refine ⟨b, o, rfl, fun i u hu => ?_⟩
  have hi : i < l := by
    have := (List.getElem?_eq_some_iff.1 hu).1
    simp at this; omega
  have h := hcell i (by omega)
  rw [Addr.add_lit] at h
  rw [h]
  simp only [List.getElem?_map, List.getElem?_take, hi, if_true] at hu
  rw [List.getElem?_eq_getElem (by omega)] at hu
  simp at hu
  rw [← hu, List.getD_eq_getElem?_getD, List.getElem?_eq_getElem (by omega)]
  rfl
theorem argU8_some {w : World} {x : Addr} {l c : Nat} {zs : List Int} (hl : l ≤ c) (hm : c ≤ maxLen) (hz : zs.length = c)
    (hcell : ∀ i, i < zs.length → w.cell? (x.add i) = some (.int .u8 (zs.getD i 0))) (hwz : ∀ n ∈ zs, (Lit.int .u8 n).wf = true) : ArgU8 w (some x) l c (zs.take l) := by
  refine ⟨rd_some hl hm hz hcell, hl, fun u hu => ?_⟩
  have h := hwz u (List.mem_of_mem_take hu)
  simp only [Lit.wf, Bool.and_eq_true, decide_eq_true_eq] at h
  have e1 : IntKind.u8.min = 0 := by decide
  have e2 : IntKind.u8.max = 255 := by decide
  rw [e1, e2] at h
  omega
theorem Rd.ixu {w : World} {a : Option Addr} {n : Nat} {us : List Int} {k : IntKind} (h : Rd w a n (us.map (Value.int k))) {i : Nat} (hi : i < n) : ∃ b o x, a = some ⟨b, o, none⟩ ∧ us[i]? = some x ∧ w.cell? ⟨b, o + i, none⟩ = some (.int k x) := by
  have hl : us.length = n := by simpa using h.len
  obtain ⟨b, o, ha, hc⟩ := h.cells (by omega)
  have hil : i < us.length := by omega
  exact ⟨b, o, us[i], ha, List.getElem?_eq_getElem hil, hc i _ (by simp [hil])⟩
/-- What a call of a set leaves, whichever it is. -/
def StepP (w : World) (s k rb : Nat) (xs : List Int) (N : Nat → Prop) (e : Ending) (w' : World) : Prop :=
  ∃ v err st' xs' N', e = .returned (.tuple #[v, .int .i64 err]) ∧ SR w' s k rb st' xs' N' ∧ xs'.length ≤ xs.length + 1 ∧ (err = 2 ∨ (err = 0 ∧ 1 ≤ st' ∧ st' ≤ 2 + 7 * (dk k : Int)) ∨ (err = 12 ∧ 1 ≤ st' ∧ st' ≤ 2 + 7 * (dk k : Int))) ∧ Fr (fun q => N q ∨ q = s) w w' ∧ ∀ q, N' q → N q ∨ w.heap.size ≤ q
theorem insI_le (xs : List Int) (x : Int) (so : xs.Pairwise (· < ·)) : (insI xs x).length ≤ xs.length + 1 := by
  by_cases h : x ∈ xs
  · rw [insI_has so h]; omega
  · rw [insI_len h]; omega
theorem nat_of {x : Int} {k : Nat} (h : ¬ (x < 0 ∨ ((2 ^ k : Nat) : Int) ≤ x)) : ∃ n : Nat, x = n ∧ n < 2 ^ k := ⟨x.toNat, by omega, by omega⟩
variable {w : World} {s k rb : Nat} {st : Int} {xs : List Int} {N : Nat → Prop}
theorem step_out {e : Ending} {w' : World} (R : SR w s k rb st xs N) (h : OutP w e w') : StepP w s k rb xs N e w' := by
  obtain ⟨rfl, rfl⟩ := h
  exact ⟨_, 2, st, xs, N, rfl, R, by omega, .inl rfl, Fr.refl _ _, fun q hq => .inl hq⟩
theorem Insert_step (R : SR w s k rb st xs N) (x : Int) (hl : xs.length ≤ 100000) : Calls Try.prog 9 #[.pointer (some ⟨s, 0, none⟩), .int .i64 x] w (StepP w s k rb xs N) := by
  by_cases h : x < 0 ∨ ((2 ^ k : Nat) : Int) ≤ x
  · exact (Insert_out R h).mono fun e w' g => step_out R g
  · obtain ⟨n, rfl, hn⟩ := nat_of h
    refine (Insert_in R n hn hl).mono ?_
    rintro e w' ⟨st', N', rfl, R', g1, g2, F, g3⟩
    exact ⟨_, 0, st', _, N', rfl, R', insI_le _ _ R.so, .inr (.inl ⟨rfl, g1, by omega⟩), F, g3⟩
theorem Delete_step (R : SR w s k rb st xs N) (x : Int) (hl : xs.length ≤ 100000) : Calls Try.prog 10 #[.pointer (some ⟨s, 0, none⟩), .int .i64 x] w (StepP w s k rb xs N) := by
  by_cases h : x < 0 ∨ ((2 ^ k : Nat) : Int) ≤ x
  · exact (Delete_out R h).mono fun e w' g => step_out R g
  · obtain ⟨n, rfl, hn⟩ := nat_of h
    refine (Delete_in R n hn hl).mono ?_
    rintro e w' ⟨st', rfl, R', g1, g2, F⟩
    exact ⟨_, 0, st', _, N, rfl, R', by have := List.length_filter_le (fun y => y != (n : Int)) xs; unfold delI; omega, .inr (.inl ⟨rfl, g1, by omega⟩), F, fun q hq => .inl hq⟩
theorem Contains_step (R : SR w s k rb st xs N) (x : Int) : Calls Try.prog 11 #[.pointer (some ⟨s, 0, none⟩), .int .i64 x] w (StepP w s k rb xs N) := by
  by_cases h : x < 0 ∨ ((2 ^ k : Nat) : Int) ≤ x
  · exact (Contains_out R h).mono fun e w' g => step_out R g
  · obtain ⟨n, rfl, hn⟩ := nat_of h
    refine (Contains_in R n hn).mono ?_
    rintro e w' ⟨st', rfl, R', g1, g2, F⟩
    exact ⟨_, 0, st', _, N, rfl, R', by omega, .inr (.inl ⟨rfl, g1, by omega⟩), F, fun q hq => .inl hq⟩
theorem ask_step {o : Option Int} {e : Ending} {w' : World} (h : AskP w s k rb xs N o e w') : StepP w s k rb xs N e w' := by
  obtain ⟨st', rfl, R', g1, g2, F⟩ := h
  refine ⟨_, _, st', _, N, rfl, R', by omega, ?_, F.mono (fun q _ (e : q = s) => .inr e), fun q hq => .inl hq⟩
  cases o with
  | none => exact .inr (.inr ⟨rfl, g1, by omega⟩)
  | some v => exact .inr (.inl ⟨rfl, g1, by omega⟩)
theorem Next_step (R : SR w s k rb st xs N) (x : Int) : Calls Try.prog 12 #[.pointer (some ⟨s, 0, none⟩), .int .i64 x] w (StepP w s k rb xs N) := (Next_any R x).mono fun _ _ h => ask_step h
theorem Prev_step (R : SR w s k rb st xs N) (x : Int) : Calls Try.prog 13 #[.pointer (some ⟨s, 0, none⟩), .int .i64 x] w (StepP w s k rb xs N) := (Prev_any R x).mono fun _ _ h => ask_step h
end Go.Proofs.Ytohblajdeicfeaa
