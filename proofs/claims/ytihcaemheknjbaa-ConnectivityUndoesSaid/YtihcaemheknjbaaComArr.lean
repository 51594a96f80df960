/- An argument that is a slice of arrays of integers. -/
import Derived.Test.YtihcaemheknjbaaComArg
import Derived.OpenShut
namespace Go.Proofs.Ytihcaemheknjbaa
open Go.RowKit Go.ChangeShapes Go.WideShapes Go.Deep
section
variable {H : Type} {enc : TypeId × Value → H} {P : Program} {w : World} {base : Nat} {spare : Nat → Bool} {held : Bool}
/-- Slices of arrays of integers. -/
theorem open_ars {t e ie : TypeId} {na : Nat} (ks : List IntKind) {fuel : Nat} {cs : List Value} {x : DataW H × List MemPlace} (ht : P.underlying t = some (.slice e)) (he : P.underlying e = some (.array na ie))
    (hC : P.cellsOf e = ks.length) (hks : na = ks.length) (h0 : 0 < ks.length) (hi1 : P.cellsOf ie = 1) (hk : ∀ (j : Nat) (k : IntKind), ks[j]? = some k → P.underlying ie = some (.int k))
    (h : DataW.trod enc P w base spare held fuel t cs = some x) : ∃ (a : Option Addr) (n c : Nat) (R : Nat → Nat → Int), cs = [.slice a n c] ∧ ArgSt w a n c ks R := by
  rcases open_slice ht h with ⟨hcs, _⟩ | ⟨a, len, cap, m, n, D, Pl, hcs, _, hl, hm, hmm, _, hi⟩
  · exact ⟨none, 0, 0, fun _ _ => 0, hcs, Nat.le_refl _, by omega, fun h => absurd h (by omega)⟩
  · have hlm : len ≤ m := by rw [hmm]; split <;> omega
    have hall : ∀ i j, ∃ v : Int, i < len → ∀ k, ks[j]? = some k → w.cell? ((a.add (i * ks.length)).add j) = some (.int k v) ∧ (Lit.int k v).wf = true := by
      intro i j
      by_cases hil : i < len
      · obtain ⟨cs', hc, ht'⟩ := hi i (by omega)
        rw [hC] at hc
        obtain ⟨_, hcl, hat⟩ := World.cells?_some hc
        obtain ⟨ys, n', _, _, _, hyl, hf⟩ := DataW.trod_array he ht'
        cases hkj : ks[j]? with
        | none => exact ⟨0, fun _ k hk => by cases hk⟩
        | some k =>
          have hj : j < ks.length := (List.getElem?_eq_some_iff.1 hkj).1
          have h1 := hf j (by omega)
          rw [hi1, Nat.mul_one] at h1
          have h2 : (cs'.drop j).take 1 = [cs'[j]'(by omega)] := by
            rw [List.drop_eq_getElem_cons (by omega)]; rfl
          rw [h2, List.getElem?_eq_getElem (by omega)] at h1
          obtain ⟨v, hv, _, hw⟩ := DataW.trod_int (hk j k hkj) h1
          injection hv with hv _
          refine ⟨v, fun _ k' hk' => ?_⟩
          injection hk' with hk'
          subst hk'
          exact ⟨by rw [hat j hj, List.getElem?_eq_getElem (by omega), hv], hw⟩
      · exact ⟨0, fun h => absurd h hil⟩
    obtain ⟨R, hR⟩ : ∃ R : Nat → Nat → Int, ∀ i j, i < len → ∀ k, ks[j]? = some k → w.cell? ((a.add (i * ks.length)).add j) = some (.int k (R i j)) ∧ (Lit.int k (R i j)).wf = true :=
      ⟨fun i j => Classical.choose (hall i j), fun i j => Classical.choose_spec (hall i j)⟩
    refine ⟨some a, len, cap, R, hcs, hl, by unfold maxLen at hm; exact hm, fun hn => ?_⟩
    have hsp : a.spot = none := by
      have hk0 : ks[0]? = some (ks[0]'h0) := List.getElem?_eq_getElem h0
      have h1 := (hR 0 0 (by omega) _ hk0).1
      rw [Nat.zero_mul] at h1
      simp only [Addr.add, if_true, World.cell?] at h1
      split at h1
      · cases hs : a.spot with
        | none => rfl
        | some s => simp [hs] at h1
      · cases h1
    obtain ⟨b, o, s⟩ := a
    simp only at hsp
    subst hsp
    refine ⟨b, o, rfl, fun i j k hi hkj => ?_⟩
    obtain ⟨h1, h2⟩ := hR i j hi k hkj
    rw [Addr.add_lit, Addr.add_lit, Nat.add_assoc] at h1
    exact ⟨h1, h2⟩
end
end Go.Proofs.Ytihcaemheknjbaa
