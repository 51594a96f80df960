/- A slice of slices of ints that came in. -/
import Derived.Test.YtglonedhcljdoaaCom5
import Derived.Test.YtglonedhcljdoaaCom6
import Derived.Deep.Matrix
namespace Go.Proofs.Ytglonedhcljdoaa
open Go.RowKit

structure ArgRows (w : World) (a : Option Addr) (n c : Nat) (R : List RowV) : Prop where
  rd : Rd w a n (R.map RowV.val)
  row : ∀ (j : Nat) (r : RowV), R[j]? = some r → Rd w r.a r.n (ints r.xs)
  cap : n ≤ c
  rcap : ∀ (j : Nat) (r : RowV), R[j]? = some r → r.n ≤ r.c
  wf : ∀ (j : Nat) (r : RowV), R[j]? = some r → ∀ x ∈ r.xs, -9223372036854775808 ≤ x ∧ x ≤ 9223372036854775807
abbrev catL (R : List RowV) : List (List Int) := R.map (·.xs)
theorem ArgRows.len {w : World} {a : Option Addr} {n c : Nat} {R : List RowV} (h : ArgRows w a n c R) : R.length = n := by simpa using h.rd.len
theorem ArgRows.fr0 {w w' : World} {a : Option Addr} {n c : Nat} {R : List RowV} (h : ArgRows w a n c R) (f : Fr F0 w w') : ArgRows w' a n c R :=
  ⟨h.rd.fr0 f, fun j r hr => (h.row j r hr).fr0 f, h.cap, h.rcap, h.wf⟩
theorem ArgRows.ix {w : World} {a : Option Addr} {n c : Nat} {R : List RowV} (h : ArgRows w a n c R) {i : Nat} (hi : i < n) : ∃ b o r, a = some ⟨b, o, none⟩ ∧ R[i]? = some r ∧ w.cell? ⟨b, o + i, none⟩ = some r.val := by
  obtain ⟨b, o, ha, hc⟩ := h.rd.cells (by omega)
  have hl := h.len
  exact ⟨b, o, R[i]'(by omega), ha, List.getElem?_eq_getElem (by omega), hc i _ (by rw [List.getElem?_map, List.getElem?_eq_getElem (by omega)]; rfl)⟩
theorem ArgRows.rlen {w : World} {a : Option Addr} {n c : Nat} {R : List RowV} (h : ArgRows w a n c R) {j : Nat} {r : RowV} (hr : R[j]? = some r) : r.xs.length = r.n := by simpa using (h.row j r hr).len
theorem argRows_nil (w : World) : ArgRows w none 0 0 [] := ⟨Rd.nil _ _, by simp, Nat.le_refl _, by simp, by simp⟩
theorem argRows_some {w : World} {x : Addr} {l c : Nat} {A : Nat → Option Addr} {L C : Nat → Nat} {Z : Nat → List Int} (hl : l ≤ c) (hm : c ≤ maxLen)
    (h : ∀ r, r < c → w.cell? (x.add r) = some (.slice (A r) (L r) (C r)) ∧ L r ≤ C r ∧ C r ≤ maxLen ∧ (Z r).length = C r ∧ (∀ n ∈ Z r, (Lit.int .i64 n).wf = true) ∧ (A r = none → C r = 0) ∧
        ∀ a', A r = some a' → 0 ≤ a'.block ∧ ∀ k, k < C r → w.cell? (a'.add k) = some (.int .i64 ((Z r).getD k 0))) :
    ArgRows w (some x) l c ((List.range l).map fun r => ⟨A r, L r, C r, (Z r).take (L r)⟩) := by
  have hget : ∀ {j : Nat} {r : RowV}, ((List.range l).map fun r => (⟨A r, L r, C r, (Z r).take (L r)⟩ : RowV))[j]? = some r → j < l ∧ r = ⟨A j, L j, C j, (Z j).take (L j)⟩ := by
    intro j r hr
    by_cases hj : j < l
    · simp [hj] at hr; exact ⟨hj, hr.symm⟩
    · simp [hj] at hr
  refine ⟨⟨by simp, by unfold maxLen at hm; omega, fun hn => ?_⟩, ?_, hl, ?_, ?_⟩
  · have hsp : x.spot = none := by
      have h0 := (h 0 (by omega)).1
      simp only [Addr.add, if_true, World.cell?] at h0
      split at h0
      · cases hs : x.spot with
        | none => rfl
        | some s => simp [hs] at h0
      · cases h0
    obtain ⟨b, o, s⟩ := x
    simp only at hsp
    subst hsp
    refine ⟨b, o, rfl, fun i u hu => ?_⟩
    rw [List.getElem?_map] at hu
    obtain ⟨r, hr, rfl⟩ := Option.map_eq_some_iff.1 hu
    obtain ⟨hi, rfl⟩ := hget hr
    have h1 := (h i (by omega)).1
    rw [Addr.add_lit] at h1
    exact h1
  · intro j r hr
    obtain ⟨hj, rfl⟩ := hget hr
    obtain ⟨_, h2, h3, h4, h5, h6, h7⟩ := h j (by omega)
    cases hA : A j with
    | none =>
      have : L j = 0 := by have := h6 hA; omega
      simp only [this]
      exact Rd.nil _ _
    | some a' => exact (argInts_some h2 h3 h4 (fun i hi => (h7 a' hA).2 i (by omega)) h5).rd
  · intro j r hr
    obtain ⟨hj, rfl⟩ := hget hr
    exact (h j (by omega)).2.1
  · intro j r hr y hy
    obtain ⟨hj, rfl⟩ := hget hr
    have h5 := (h j (by omega)).2.2.2.2.1 y (List.mem_of_mem_take hy)
    simp only [Lit.wf, Bool.and_eq_true, decide_eq_true_eq] at h5
    have e1 : IntKind.i64.min = -9223372036854775808 := by decide
    have e2 : IntKind.i64.max = 9223372036854775807 := by decide
    rw [e1, e2] at h5
    exact h5

end Go.Proofs.Ytglonedhcljdoaa
