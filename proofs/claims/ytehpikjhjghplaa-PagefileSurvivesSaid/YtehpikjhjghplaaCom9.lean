/- Cutting slices, as equations on the operation's run. -/
import Derived.Test.YtehpikjhjghplaaCom6
namespace Go.Proofs.Ytehpikjhjghplaa
open Go.RowKit

theorem Rd.take {w : World} {a : Option Addr} {n : Nat} {vs : List Value} (h : Rd w a n vs) {k : Nat} (hk : k ≤ n) : Rd w a k (vs.take k) :=
  ⟨by rw [List.length_take, h.len]; omega, by have := h.max; omega, fun h0 => by
    obtain ⟨b, o, ha, hc⟩ := h.cells (by omega)
    refine ⟨b, o, ha, fun i u hu => hc i u ?_⟩
    rw [List.getElem?_take] at hu
    split at hu
    · exact hu
    · cases hu⟩
section
variable {P : Program} {t T : TypeId} {z : Value} {bytes : Nat}
theorem run_cutLo (E : Elem1 P t T z bytes) (w : World) (a : Option Addr) {n c k r : Nat} (hkn : n = k + r) {x : Int} (hx : x = (k : Int)) :
    (Instr.sliceAt t (.slice a n c) (some (.int .i64 x)) none none).run P w = .ok (.slice (cutA a c k) r (c - k)) w := by
  obtain ⟨E1, E2, _⟩ := E
  obtain ⟨i0, hi, _, hz1, _⟩ := info_parts E2
  have hr : r = n - k := by omega
  subst hr
  subst hx
  have ht : P.underlying t = some (.slice (P.elem t)) := by simp [Program.elem, E1]
  have hel : P.elem t = T := by simp [Program.elem, E1]
  have hsz : (sizeOf T).run P w = .ok 1 w := by simp [sizeOf, typeInfo, hi, hz1]
  rw [run_sliceAt_slice _ _ _ _ _ _ ht, run_slice_l w t a n c ht .i64 k (by omega) (by omega), hel, hsz]
  simp [Result.andThen, sliced, cutA]
theorem run_cutHi (E : Elem1 P t T z bytes) (w : World) (a : Option Addr) {n c k : Nat} (hk : k ≤ c) {x : Int} (hx : x = (k : Int)) :
    (Instr.sliceAt t (.slice a n c) none (some (.int .i64 x)) none).run P w = .ok (.slice (cutA a c 0) k c) w := by
  obtain ⟨E1, E2, _⟩ := E
  obtain ⟨i0, hi, _, hz1, _⟩ := info_parts E2
  subst hx
  have ht : P.underlying t = some (.slice (P.elem t)) := by simp [Program.elem, E1]
  have hel : P.elem t = T := by simp [Program.elem, E1]
  have hsz : (sizeOf T).run P w = .ok 1 w := by simp [sizeOf, typeInfo, hi, hz1]
  rw [run_sliceAt_slice _ _ _ _ _ _ ht, run_slice_h w t a n c ht .i64 k (by omega) (by omega), hel, hsz]
  simp [Result.andThen, sliced, cutA]
end
theorem Rd.cutHi {w : World} {a : Option Addr} {n c : Nat} {vs : List Value} (h : Rd w a n vs) (hc : n ≤ c) {k : Nat} (hk : k ≤ n) : Rd w (cutA a c 0) k (vs.take k) := by
  have h1 := (h.cut hc (k := 0) (r := n) (by omega)).take hk
  simpa using h1

end Go.Proofs.Ytehpikjhjghplaa
