/- Solve returns what the reference returns. -/
import Derived.Test.YtihcaemheknjbaaF19
import Derived.Test.YtihcaemheknjbaaF23
import Derived.Test.YtihcaemheknjbaaF35
namespace Go.Proofs.Ytihcaemheknjbaa
open Go.RowKit
def SoR (w : World) (n N : Nat) (l : List Ev) (o : Option (List Iv)) (e : Ending) (w' : World) : Prop := match o with
  | none => e = .returned (.tuple #[.slice none 0 0, .slice none 0 0, .int .i64 1]) ∧ Fr F0 w w'
  | some _ => ∃ (aA : Option Addr) (cA : Nat) (aC : Option Addr) (cC : Nat),
      e = .returned (.tuple #[.slice aA (refA n l N).length cA, .slice aC N cC, .int .i64 0]) ∧ Rd w' aA (refA n l N).length (bls (refA n l N)) ∧ Rd w' aC N (nv (refC n l N)) ∧ Fr F0 w w'
theorem Solve_ref {w : World} {a : Option Addr} {N c : Nat} {n : Int} {l : List Ev} (hl : ArgE w a N c l) : Calls Try.prog 11 #[.int .i64 n, .slice a N c] w (SoR w n.toNat N l (readS n l)) := by
  refine (Solve_any (n := n) hl).mono ?_
  intro e w' h
  have hN := hl.len
  unfold SoP at h
  unfold SoR
  cases ho : readS n l with
  | none => rw [ho] at h; exact h
  | some out =>
    rw [ho] at h
    obtain ⟨P, aA, cA, aC, cC, A, C, he, h1, h2, hP, hA, hC, hF⟩ := h
    have hf : ∀ i, i < N → (P i).foldl joinE (List.range n.toNat) = foldP n.toNat (edS n.toNat l (i + 1)) := fun i hi => cover_fold ho (by omega) (hP i hi)
    have eA : A = refA n.toNat l N := by
      rw [hA]; unfold refA
      exact flatMap_cong (fun i hi => by rw [List.mem_range] at hi; rw [hf i hi])
    have eC : C = refC n.toNat l N := by
      rw [hC]; unfold refC
      exact List.map_congr_left (fun i hi => by rw [List.mem_range] at hi; rw [hf i hi])
    have eL : C.length = N := by rw [eC]; unfold refC; simp
    rw [eL] at he h2
    subst eA eC
    exact ⟨aA, cA, aC, cC, he, h1.rd, h2.rd, hF⟩
end Go.Proofs.Ytihcaemheknjbaa
