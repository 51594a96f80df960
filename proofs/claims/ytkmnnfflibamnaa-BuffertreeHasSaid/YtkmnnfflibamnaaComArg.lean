/- An argument that is a slice of structs of integers. -/
import Derived.Test.YtkmnnfflibamnaaComAll
import Derived.Deep.Slices
import Derived.Deep.Fields
namespace Go.Proofs.Ytkmnnfflibamnaa
open Go.RowKit Go.ChangeShapes Go.WideShapes Go.Deep
/-- Element i, field j is R i j. -/
structure ArgSt (w : World) (a : Option Addr) (n c : Nat) (ks : List IntKind) (R : Nat → Nat → Int) : Prop where
  cap : n ≤ c
  max : c ≤ 9223372036854775807
  cells : 0 < n → ∃ b o, a = some ⟨b, o, none⟩ ∧ ∀ i j k, i < n → ks[j]? = some k → w.cell? ⟨b, o + (i * ks.length + j), none⟩ = some (.int k (R i j)) ∧ (Lit.int k (R i j)).wf = true
theorem ArgSt.fr0 {w w' : World} {a : Option Addr} {n c : Nat} {ks : List IntKind} {R : Nat → Nat → Int} (h : ArgSt w a n c ks R) (f : Fr F0 w w') : ArgSt w' a n c ks R :=
  ⟨h.cap, h.max, fun hn => by
    obtain ⟨b, o, ha, hc⟩ := h.cells hn
    exact ⟨b, o, ha, fun i j k hi hk => ⟨f.cell (hc i j k hi hk).1 id, (hc i j k hi hk).2⟩⟩⟩
theorem ArgSt.fr {S : Nat → Prop} {w w' : World} {a : Option Addr} {n c : Nat} {ks : List IntKind} {R : Nat → Nat → Int} (h : ArgSt w a n c ks R) (f : Fr S w w') (hS : ∀ k, k < w.heap.size → ¬ S k) : ArgSt w' a n c ks R :=
  h.fr0 (f.mono (fun k hk hs => (hS k hk hs).elim))
section
variable {H : Type} {enc : TypeId × Value → H} {P : Program} {w : World} {base : Nat} {spare : Nat → Bool} {held : Bool}
theorem open_sts {t e : TypeId} {fs : Array Field} (ks : List IntKind) {fuel : Nat} {cs : List Value} {x : DataW H × List MemPlace} (ht : P.underlying t = some (.slice e)) (he : P.underlying e = some (.struct fs))
    (hone : oneCellFields P fs = true) (hC : P.cellsOf e = ks.length) (hks : fs.size = ks.length) (h0 : 0 < ks.length) (hk : ∀ (j : Nat) (f : Field) (k : IntKind), fs[j]? = some f → ks[j]? = some k → P.underlying f.type = some (.int k))
    (h : DataW.trod enc P w base spare held fuel t cs = some x) : ∃ (a : Option Addr) (n c : Nat) (R : Nat → Nat → Int), cs = [.slice a n c] ∧ ArgSt w a n c ks R := by
  rcases open_slice ht h with ⟨hcs, _⟩ | ⟨a, len, cap, m, n, D, Pl, hcs, _, hl, hm, hmm, _, hi⟩
  · exact ⟨none, 0, 0, fun _ _ => 0, hcs, Nat.le_refl _, by omega, fun h => absurd h (by omega)⟩
  · have hlm : len ≤ m := by rw [hmm]; split <;> omega
    have hall : ∀ i j, ∃ v : Int, i < len → ∀ k, ks[j]? = some k → w.cell? ((a.add (i * ks.length)).add j) = some (.int k v) ∧ (Lit.int k v).wf = true := by
      intro i j
      by_cases hil : i < len
      · obtain ⟨cs', hc, ht'⟩ := hi i (by omega)
        rw [hC] at hc
        obtain ⟨_, hcl, hat⟩ := World.cells?_some hc
        obtain ⟨ys, n', _, _, _, hyl, hf⟩ := DataW.trod_struct he ht'
        cases hkj : ks[j]? with
        | none => exact ⟨0, fun _ k hk => by cases hk⟩
        | some k =>
          have hj : j < ks.length := (List.getElem?_eq_some_iff.1 hkj).1
          have hfj : fs[j]? = some (fs[j]'(by omega)) := Array.getElem?_eq_getElem (by omega)
          obtain ⟨ho, hk1⟩ := hone_of hone j _ hfj
          have h1 := hf j _ hfj
          have h2 : (cs'.drop j).take 1 = [cs'[j]'(by omega)] := by
            rw [List.drop_eq_getElem_cons (by omega)]; rfl
          rw [ho, hk1, h2, List.getElem?_eq_getElem (by omega)] at h1
          obtain ⟨v, hv, _, hw⟩ := DataW.trod_int (hk j _ k hfj hkj) h1
          injection hv with hv _
          refine ⟨v, fun _ k' hk' => ?_⟩
          injection hk' with hk'
          subst hk'
          exact ⟨by rw [hat j hj, List.getElem?_eq_getElem (by omega), hv], hw⟩
      · exact ⟨0, fun h => absurd h hil⟩
    obtain ⟨R, hR⟩ : ∃ R : Nat → Nat → Int, ∀ i j, i < len → ∀ k, ks[j]? = some k → w.cell? ((a.add (i * ks.length)).add j) = some (.int k (R i j)) ∧ (Lit.int k (R i j)).wf = true :=
      ⟨fun i j => Classical.choose (hall i j), fun i j => Classical.choose_spec (hall i j)⟩
    refine ⟨some a, len, cap, R, hcs, hl, by unfold maxLen at hm; exact hm, fun hn => ?_⟩
    have hsp : a.spot = none := by
      have hk0 : ks[0]? = some (ks[0]'h0) := List.getElem?_eq_getElem h0
      have h1 := (hR 0 0 (by omega) _ hk0).1
      rw [Nat.zero_mul] at h1
      simp only [Addr.add, if_true, World.cell?] at h1
      split at h1
      · cases hs : a.spot with
        | none => rfl
        | some s => simp [hs] at h1
      · cases h1
    obtain ⟨b, o, s⟩ := a
    simp only at hsp
    subst hsp
    refine ⟨b, o, rfl, fun i j k hi hkj => ?_⟩
    obtain ⟨h1, h2⟩ := hR i j hi k hkj
    rw [Addr.add_lit, Addr.add_lit, Nat.add_assoc] at h1
    exact ⟨h1, h2⟩
end
end Go.Proofs.Ytkmnnfflibamnaa
