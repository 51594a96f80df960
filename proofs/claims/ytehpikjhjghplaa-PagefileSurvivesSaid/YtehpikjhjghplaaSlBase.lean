/- Slices of ints at this translation. -/
import Derived.Test.YtehpikjhjghplaaCom3
namespace Go.Proofs.Ytehpikjhjghplaa
open Go.RowKit

abbrev ints (xs : List Int) : List Value := xs.map (Value.int .i64)
theorem E3 : Elem1 Try.prog 25 3 (.int .i64 0) 8 := ⟨by kernel_rfl, by kernel_rfl, rfl⟩
def onB (g : Nat) : Nat → Prop := fun k => k = g
theorem Fr.setB {g : Nat} {w w1 : World} (h : Fr (onB g) w w1) (v : Nat) (u : Value) : Fr (onB g) w (w1.setCell ⟨g, v, none⟩ u) := Fr.setCell (S := onB g) (p := ⟨g, v, none⟩) h (fun _ => rfl) u
theorem own_facts {w : World} {B T g n c : Nat} {xs : List Int} (h : Own w B T (some ⟨g, 0, none⟩) n c (ints xs)) {v : Nat} (hv : v < n) :
    (∃ y, w.cell? ⟨g, v, none⟩ = some (.int .i64 y) ∧ xs[v]? = some y) ∧ w.frozen? ⟨g, v, none⟩ = false := by
  have hl : xs.length = n := by simpa using h.len
  obtain ⟨g', hg, _, _, hc, hf⟩ := h.at (by omega)
  injection hg with hg
  injection hg with hg
  subst hg
  exact ⟨⟨xs[v], hc v _ (by simp), by simp⟩, hf v⟩

theorem Own.lens {w : World} {B T n c : Nat} {a : Option Addr} {xs : List Int} (h : Own w B T a n c (ints xs)) : xs.length = n := by simpa using h.len


def getI (l : List Int) (x : Int) : Int := l.getD x.toNat 0
theorem getI_in {l : List Int} {x : Int} (h0 : 0 ≤ x) (h1 : x < l.length) : getI l x ∈ l := by
  unfold getI
  rw [List.getD_eq_getElem?_getD, List.getElem?_eq_getElem (by omega)]
  exact List.getElem_mem _
theorem getI_nat {l : List Int} {i : Nat} (h : i < l.length) : getI l (i : Int) = l[i] := by simp [getI, h]
/-- Where there is an index: the cell. -/
theorem Rd.ix {w : World} {a : Option Addr} {n : Nat} {xs : List Int} (h : Rd w a n (ints xs)) {i : Nat} (hi : i < n) : ∃ b o x, a = some ⟨b, o, none⟩ ∧ xs[i]? = some x ∧ w.cell? ⟨b, o + i, none⟩ = some (.int .i64 x) := by
  have hl : xs.length = n := by simpa using h.len
  obtain ⟨b, o, ha, hc⟩ := h.cells (by omega)
  exact ⟨b, o, xs[i], ha, by simp, hc i _ (by simp)⟩

end Go.Proofs.Ytehpikjhjghplaa
