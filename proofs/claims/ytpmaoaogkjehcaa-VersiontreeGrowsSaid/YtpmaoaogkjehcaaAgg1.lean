/- A struct of one field, by value, opened. -/
import Derived.Test.YtpmaoaogkjehcaaCom3
import Derived.Lib.SmallJoins
namespace Go.Proofs.Ytpmaoaogkjehcaa
open Go.ChangeShapes Go.WideShapes Go.RowKit

theorem open_agg1 {H : Type} {enc : TypeId × Value → H} {P : Program} {w : World} {base : Nat} {spare : Nat → Bool} {held : Bool} {r : Reach} {b0 : Nat} {t : TypeId} {f0 : Field} {v : Value} {d : DataW H} {p : List MemPlace} (hs : P.underlying t = some (.struct #[f0])) (hone : f0.offset = 0 ∧ P.cellsOf f0.type = 1) (hC : P.cellsOf t = 1)
    (hv : Value.okWide P w r b0 t v) (h : DataW.Trod enc P w base spare held t v d p) :
    ∃ (v0 : Value) (y0 : DataW H × List MemPlace) (n : Nat), v = .agg #[v0] ∧ d = .agg [y0.1] ∧ p = y0.2 ∧ DataW.trod enc P w base spare held n f0.type [v0] = some y0 := by
  obtain ⟨cs, rfl, hsz⟩ := okWide_struct hs hv
  obtain ⟨c0, rfl⟩ : ∃ c0, cs = #[c0] := by
    have h1 := hsz.trans hC
    obtain ⟨l⟩ := cs
    match l, h1 with
    | [c0], _ => exact ⟨c0, rfl⟩
  obtain ⟨fuel, hf⟩ := h
  obtain ⟨xs, n, _, hx, hl, hlen, hg⟩ := DataW.trod_struct hs hf
  match xs, hlen with
  | [y0], _ =>
    obtain ⟨o0, k0⟩ := hone
    simp at hx
    exact ⟨c0, y0, n, rfl, hx.1, hx.2, by simpa [Value.cells, o0, k0] using hg 0 f0 rfl⟩
end Go.Proofs.Ytpmaoaogkjehcaa
