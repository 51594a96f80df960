/- What a law is told of slices of bytes, and of rows of bytes, that came in. -/
import Derived.Test.YtehpikjhjghplaaB2
import Derived.Deep.Matrix
import Derived.Lib.SmallJoins
namespace Go.Proofs.Ytehpikjhjghplaa
open Go.RowKit
structure ArgBy (w : World) (a : Option Addr) (n c : Nat) (bs : List UInt8) : Prop where
  rd : Rd w a n (byt bs)
  cap : n ≤ c
theorem argBy_nil (w : World) : ArgBy w none 0 0 [] := ⟨Rd.nil _ _, Nat.le_refl _⟩
def toB (z : Int) : UInt8 := UInt8.ofNat z.toNat
theorem bv_toB {z : Int} (h : (Lit.int .u8 z).wf = true) : bv (toB z) = .int .u8 z := by
  simp only [Lit.wf, Bool.and_eq_true, decide_eq_true_eq] at h
  have e1 : IntKind.u8.min = 0 := by decide
  have e2 : IntKind.u8.max = 255 := by decide
  rw [e1, e2] at h
  unfold bv toB
  rw [UInt8.toNat_ofNat']
  congr 1
  omega
theorem rd_some {w : World} {x : Addr} {l c : Nat} {zs : List Int} {k : IntKind} (hl : l ≤ c) (hm : c ≤ maxLen) (hz : zs.length = c)
    (hcell : ∀ i, i < zs.length → w.cell? (x.add i) = some (.int k (zs.getD i 0))) : Rd w (some x) l ((zs.take l).map (Value.int k)) := by
  refine ⟨by simp; omega, by unfold maxLen at hm; omega, fun hn => ?_⟩
  have hsp : x.spot = none := by
    have h0 := hcell 0 (by omega)
    simp only [Addr.add, if_true, World.cell?] at h0
    split at h0
    · cases hs : x.spot with
      | none => rfl
      | some s => simp [hs] at h0
    · cases h0
  obtain ⟨b, o, s⟩ := x
  simp only at hsp
  subst hsp
  refine ⟨b, o, rfl, fun i u hu => ?_⟩
  have hi : i < l := by
    have := (List.getElem?_eq_some_iff.1 hu).1
    simp at this; omega
  have h := hcell i (by omega)
  rw [Addr.add_lit] at h
  rw [h]
  simp only [List.getElem?_map, List.getElem?_take, hi, if_true] at hu
  rw [List.getElem?_eq_getElem (by omega)] at hu
  simp at hu
  rw [← hu, List.getD_eq_getElem?_getD, List.getElem?_eq_getElem (by omega)]
  rfl
theorem byt_toB {zs : List Int} (h : ∀ z ∈ zs, (Lit.int .u8 z).wf = true) : zs.map (Value.int .u8) = byt (zs.map toB) := by
  unfold byt
  rw [List.map_map]
  exact List.map_congr_left (fun z hz => (bv_toB (h z hz)).symm)
theorem argBy_some {w : World} {x : Addr} {l c : Nat} {zs : List Int} (hl : l ≤ c) (hm : c ≤ maxLen) (hz : zs.length = c)
    (hcell : ∀ i, i < zs.length → w.cell? (x.add i) = some (.int .u8 (zs.getD i 0))) (hwz : ∀ n ∈ zs, (Lit.int .u8 n).wf = true) : ArgBy w (some x) l c ((zs.take l).map toB) := by
  refine ⟨?_, hl⟩
  have h := rd_some hl hm hz hcell
  rwa [byt_toB (fun z hz => hwz z (List.mem_of_mem_take hz))] at h
structure ArgRw (w : World) (a : Option Addr) (n c : Nat) (vs : List Value) (ds : List (List UInt8)) : Prop where
  rd : Rd w a n vs
  cap : n ≤ c
  rows : RowsM w (fun j => j < w.heap.size) vs ds
theorem argRw_nil (w : World) : ArgRw w none 0 0 [] [] := ⟨Rd.nil _ _, Nat.le_refl _, RowsM.nil _ _⟩
theorem argRw_some {w : World} {x : Addr} {l c : Nat} {A : Nat → Option Addr} {L C : Nat → Nat} {Z : Nat → List Int} (hl : l ≤ c) (hm : c ≤ maxLen)
    (h : ∀ r, r < c → w.cell? (x.add r) = some (.slice (A r) (L r) (C r)) ∧ L r ≤ C r ∧ C r ≤ maxLen ∧ (Z r).length = C r ∧ (∀ n ∈ Z r, (Lit.int .u8 n).wf = true) ∧ (A r = none → C r = 0) ∧
        ∀ a', A r = some a' → 0 ≤ a'.block ∧ ∀ k, k < C r → w.cell? (a'.add k) = some (.int .u8 ((Z r).getD k 0))) :
    ArgRw w (some x) l c ((List.range l).map fun r => .slice (A r) (L r) (C r)) ((List.range l).map fun r => ((Z r).take (L r)).map toB) := by
  refine ⟨⟨by simp, by unfold maxLen at hm; omega, fun hn => ?_⟩, hl, ⟨by simp, fun i v d hv hd => ?_⟩⟩
  · have hsp : x.spot = none := by
      have h0 := (h 0 (by omega)).1
      simp only [Addr.add, if_true, World.cell?] at h0
      split at h0
      · cases hs : x.spot with
        | none => rfl
        | some s => simp [hs] at h0
      · cases h0
    obtain ⟨b, o, s⟩ := x
    simp only at hsp
    subst hsp
    refine ⟨b, o, rfl, fun i u hu => ?_⟩
    have hi : i < l := by
      have := (List.getElem?_eq_some_iff.1 hu).1
      simp at this; omega
    rw [List.getElem?_map, List.getElem?_range hi] at hu
    simp only [Option.map_some, Option.some.injEq] at hu
    subst hu
    have h1 := (h i (by omega)).1
    rwa [Addr.add_lit] at h1
  · have hi : i < l := by
      have := (List.getElem?_eq_some_iff.1 hv).1
      simp at this; omega
    rw [List.getElem?_map, List.getElem?_range hi] at hv hd
    simp only [Option.map_some, Option.some.injEq] at hv hd
    subst hv
    subst hd
    obtain ⟨_, h2, h3, h4, h5, h6, h7⟩ := h i (by omega)
    have hlen : (((Z i).take (L i)).map toB).length = L i := by simp; omega
    cases ha : A i with
    | none =>
      have hc0 := h6 ha
      have hl0 : L i = 0 := by omega
      refine ⟨none, C i, by rw [hlen], by rw [hlen]; omega, ?_, fun h0 => by rw [hlen] at h0; omega⟩
      rw [hlen, hl0]
      simp only [List.take_zero, List.map_nil]
      exact Rd.nil _ _
    | some a' =>
      obtain ⟨_, hcell⟩ := h7 a' ha
      have hr := (argBy_some (w := w) (x := a') h2 h3 h4 (fun k hk => hcell k (by omega)) h5).rd
      refine ⟨some a', C i, by rw [hlen], by rw [hlen]; exact h2, by rw [hlen]; exact hr, fun h0 j hj => ?_⟩
      rw [hlen] at h0
      exact hr.lt h0 j hj
end Go.Proofs.Ytehpikjhjghplaa
