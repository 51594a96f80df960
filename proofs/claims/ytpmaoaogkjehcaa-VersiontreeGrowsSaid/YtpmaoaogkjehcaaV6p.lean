/- The Euler tour with a stack of what was entered and lists of what is left: plain law. -/
import Derived.Test.YtpmaoaogkjehcaaV6
namespace Go.Proofs.Ytpmaoaogkjehcaa
open Go.RowKit

def ent (P : List Int) (D : Nat → List Nat) (s : Nat) : List Nat := (D s).flatMap (tour P) ++ [s]
def unw2 (P : List Int) (D : Nat → List Nat) (st : List Nat) : List Nat := st.reverse.flatMap (ent P D)
theorem unw2_snoc (P : List Int) (D : Nat → List Nat) (st : List Nat) (t : Nat) : unw2 P D (st ++ [t]) = ent P D t ++ unw2 P D st := by simp [unw2]
theorem unw2_len (P : List Int) (D : Nat → List Nat) (st : List Nat) : st.length ≤ (unw2 P D st).length := by
  unfold unw2
  generalize hr : st.reverse = r
  have : st.length = r.length := by rw [← hr]; simp
  rw [this]
  clear hr this st
  induction r with
  | nil => simp
  | cons s r ih => simp only [List.flatMap_cons, List.length_append, List.length_cons, ent, List.length_nil]; omega
structure Inv (P : List Int) (D : Nat → List Nat) (st out : List Nat) : Prop where
  all : out ++ unw2 P D st = tour P 0
  fresh : ∀ v, v < P.length → v ∉ out → D v = kN P P.length v
  st : ∀ s ∈ st, s < P.length ∧ s ∈ out
  kid : ∀ v c, c ∈ D v → c < P.length
theorem Inv.start {P : List Int} (hv : validB P = true) : Inv P (kN P P.length) [0] [0] := by
  have := (valid_len hv).1
  refine ⟨?_, fun _ _ _ => rfl, ?_, fun v c h => (mem_kN h).1⟩
  · rw [tour_eq hv (by omega)]; simp [unw2, ent]
  · intro s hs; simp at hs; subst hs; exact ⟨by omega, by simp⟩
theorem Inv.len {P : List Int} (hv : validB P = true) {D : Nat → List Nat} {st out : List Nat} (h : Inv P D st out) : out.length + st.length ≤ P.length * 2 := by
  have h1 := tour_len hv
  rw [← h.all, List.length_append] at h1
  have := unw2_len P D st
  omega
theorem Inv.pop {P : List Int} {D : Nat → List Nat} {st out : List Nat} {t : Nat} (h : Inv P D (st ++ [t]) out) (hD : D t = []) : Inv P D st (out ++ [t]) := by
  refine ⟨?_, fun v hv hn => h.fresh v hv (fun hm => hn (by simp [hm])), fun s hs => ⟨(h.st s (by simp [hs])).1, by simp [(h.st s (by simp [hs])).2]⟩, h.kid⟩
  have := h.all
  rw [unw2_snoc, ent, hD] at this
  simpa using this
theorem Inv.push {P : List Int} (hv : validB P = true) {D D' : Nat → List Nat} {st out : List Nat} {t c : Nat} {l : List Nat} (h : Inv P D (st ++ [t]) out) (hD : D t = c :: l) (hD1 : D' t = l) (hD2 : ∀ v, v ≠ t → D' v = D v) :
    Inv P D' (st ++ [t] ++ [c]) (out ++ [c]) := by
  have hcn := h.kid t c (by simp [hD])
  have hall := h.all
  have hc2 := tour_count_le hv c
  have ht2 := tour_count_le hv t
  rw [← hall, List.count_append, unw2_snoc, ent, hD, List.flatMap_cons, tour_eq hv hcn] at hc2
  rw [← hall, List.count_append, unw2_snoc, ent, List.count_append, List.count_append] at ht2
  simp only [List.count_append, List.count_cons_self, List.cons_append] at hc2
  have hco : c ∉ out := fun hm => by have := List.count_pos_iff.2 hm; simp at hc2; omega
  have hto : t ∈ out := (h.st t (by simp)).2
  have htc : t ≠ c := fun e => hco (e ▸ hto)
  have hts : t ∉ st := by
    intro hm
    have h1 := List.count_pos_iff.2 hto
    have h2 : t ∈ unw2 P D st := by
      simp only [unw2, List.mem_flatMap, List.mem_reverse]
      exact ⟨t, hm, by simp [ent]⟩
    have h3 := List.count_pos_iff.2 h2
    simp at ht2; omega
  refine ⟨?_, ?_, ?_, ?_⟩
  · have e1 : unw2 P D' st = unw2 P D st := by
      unfold unw2
      apply flatMap_congr'
      intro s hs
      unfold ent
      rw [hD2 s (fun e => hts (by rw [e] at hs; simpa using hs))]
    rw [unw2_snoc, unw2_snoc, e1, ent, ent, hD1, hD2 c htc.symm, h.fresh c hcn hco]
    rw [← hall, unw2_snoc, ent, hD, List.flatMap_cons, tour_eq hv hcn]
    simp
  · intro v hvl hn
    have h1 : v ∉ out := fun hm => hn (by simp [hm])
    rw [hD2 v (fun e => h1 (e ▸ hto)), h.fresh v hvl h1]
  · intro s hs
    simp only [List.mem_append, List.mem_singleton] at hs
    rcases hs with (hs | rfl) | rfl
    · exact ⟨(h.st s (by simp [hs])).1, by simp [(h.st s (by simp [hs])).2]⟩
    · exact ⟨(h.st s (by simp)).1, by simp [hto]⟩
    · exact ⟨hcn, by simp⟩
  · intro v x hx
    by_cases e : v = t
    · subst e; exact h.kid v x (by rw [hD]; rw [hD1] at hx; simp [hx])
    · exact h.kid v x (by rwa [hD2 v e] at hx)
end Go.Proofs.Ytpmaoaogkjehcaa
