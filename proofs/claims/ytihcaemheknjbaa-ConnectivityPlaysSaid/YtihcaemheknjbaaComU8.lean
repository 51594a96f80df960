/- Arguments that are slices of bytes. -/
import Derived.Test.YtihcaemheknjbaaComAll
namespace Go.Proofs.Ytihcaemheknjbaa
open Go.RowKit
structure ArgU8 (w : World) (a : Option Addr) (n c : Nat) (us : List Int) : Prop where
  rd : Rd w a n (us.map (Value.int .u8))
  cap : n ≤ c
  wf : ∀ u ∈ us, 0 ≤ u ∧ u < 256
theorem argU8_nil (w : World) : ArgU8 w none 0 0 [] := ⟨Rd.nil _ _, Nat.le_refl _, by simp⟩
theorem rd_some {w : World} {x : Addr} {l c : Nat} {zs : List Int} {k : IntKind} (hl : l ≤ c) (hm : c ≤ maxLen) (hz : zs.length = c)
    (hcell : ∀ i, i < zs.length → w.cell? (x.add i) = some (.int k (zs.getD i 0))) : Rd w (some x) l ((zs.take l).map (Value.int k)) := by
  refine ⟨by simp; omega, by unfold maxLen at hm; omega, fun hn => ?_⟩
  have hsp : x.spot = none := by
    have h0 := hcell 0 (by omega)
    simp only [Addr.add, if_true, World.cell?] at h0
    split at h0
    · cases hs : x.spot with
      | none => rfl
      | some s => simp [hs] at h0
    · cases h0
  obtain ⟨b, o, s⟩ := x
  simp only at hsp
  subst hsp
  refine ⟨b, o, rfl, fun i u hu => ?_⟩
  have hi : i < l := by
    have := (List.getElem?_eq_some_iff.1 hu).1
    simp at this; omega
  have h := hcell i (by omega)
  rw [Addr.add_lit] at h
  rw [h]
  simp only [List.getElem?_map, List.getElem?_take, hi, if_true] at hu
  rw [List.getElem?_eq_getElem (by omega)] at hu
  simp at hu
  rw [← hu, List.getD_eq_getElem?_getD, List.getElem?_eq_getElem (by omega)]
  rfl
theorem argU8_some {w : World} {x : Addr} {l c : Nat} {zs : List Int} (hl : l ≤ c) (hm : c ≤ maxLen) (hz : zs.length = c)
    (hcell : ∀ i, i < zs.length → w.cell? (x.add i) = some (.int .u8 (zs.getD i 0))) (hwz : ∀ n ∈ zs, (Lit.int .u8 n).wf = true) : ArgU8 w (some x) l c (zs.take l) := by
  refine ⟨rd_some hl hm hz hcell, hl, fun u hu => ?_⟩
  have h := hwz u (List.mem_of_mem_take hu)
  simp only [Lit.wf, Bool.and_eq_true, decide_eq_true_eq] at h
  have e1 : IntKind.u8.min = 0 := by decide
  have e2 : IntKind.u8.max = 255 := by decide
  rw [e1, e2] at h
  omega
end Go.Proofs.Ytihcaemheknjbaa
