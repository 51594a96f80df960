/- The summary and a cluster, made if needed. -/
import Derived.Test.YtohblajdeicfeaaE3
import Derived.Test.YtohblajdeicfeaaCom10
namespace Go.Proofs.Ytohblajdeicfeaa
open Go.RowKit
attribute [local go_sem ↓] Go.wp_at_zero Go.wp_at_succ
theorem VT.fresh {w : World} {k b d : Nat} {N : Nat → Prop} (hb : Blk w b 71 (ndC k (-1) (-1) 0 none none)) (hk : k ≤ 6 * 2 ^ d) (h20 : k ≤ 20) (hn : N b) (hl : ∀ q, N q → q < w.heap.size) : VT d w k b (fun _ => False) N := by
  by_cases h6 : k ≤ 6
  · exact VT.small ⟨h6, hb, .inl ⟨fun _ h => h, rfl, rfl⟩, fun x => ⟨fun h => h.elim, fun h => by simp at h⟩, by decide, hn, hl⟩
  · cases d with
    | zero => omega
    | succ d => exact .inr ⟨hk, -1, -1, none, none, ⟨by omega, h20, hb, .inl ⟨fun _ h => h, rfl, rfl⟩, fun _ h => h.elim, hn, hl, .inl ⟨rfl, rfl, fun x h => h.1⟩⟩⟩
/-- Nothing is there yet: a new summary and a new map. -/
theorem Parts.first {d k b sb mb : Nat} {w : World} {R N : Nat → Prop} (hk : k ≤ 6 * 2 ^ (d + 1)) (h20 : k ≤ 20) (h6 : 6 < k) (hs : Blk w sb 71 (ndC (k - k / 2) (-1) (-1) 0 none none)) (hm : MapP w mb 0 (fun _ => none))
    (hR : ∀ x, ¬ R x) (hb : N b) (h1 : N sb) (h2 : N mb) (e1 : b ≠ mb) (e2 : b ≠ sb) (e3 : mb ≠ sb) (hl : ∀ q, N q → q < w.heap.size) :
    Parts (VT d) w k b sb mb 0 (fun _ => none) R N (fun q => q = sb) (fun _ _ => False) := by
  have hd : k - k / 2 ≤ 6 * 2 ^ d := by rw [Nat.pow_succ] at hk; omega
  have hs' : VT d w (k - k / 2) sb (fun _ => False) (fun q => q = sb) := VT.fresh hs hd (by omega) rfl (fun q (e : q = sb) => e ▸ hl _ h1)
  refine ⟨hs'.ext (fun h => ⟨fun f => f.elim, fun ⟨l, _, hx⟩ => hR _ hx⟩), ?_, ?_, fun _ _ h => (by cases h), fun h _ l hc => hR _ hc.2, hb, h2, e1, e2, e3, fun q e => e ▸ h1, fun _ => id, fun _ => id, fun _ _ => False.elim, fun _ _ _ => id, fun _ _ _ h => h.elim, hl⟩
  · have : (ptrM fun _ => none) = fun _ => none := by funext x; unfold ptrM; split <;> rfl
    rw [this]; exact hm
  · have : ∀ u, cntM (fun _ => none) u = 0 := by
      intro u
      induction u with
      | zero => rfl
      | succ u ih => simp [cntM, ih]
    exact (this _).symm
theorem ptrM_set (M : Nat → Option Nat) (h c : Nat) : setV (ptrM M) (h : Int) (some (.pointer (some ⟨c, 0, none⟩))) = ptrM (setM M h c) := by
  funext x
  unfold setV ptrM setM
  by_cases e : x = h
  · subst e; simp
  · rw [if_neg e]
    by_cases h0 : 0 ≤ x
    · rw [if_pos h0, if_pos h0, if_neg (by omega)]
    · rw [if_neg h0, if_neg h0]
theorem ptrM_nat (M : Nat → Option Nat) (h : Nat) : ptrM M (h : Int) = (M h).map fun c => .pointer (some ⟨c, 0, none⟩) := by
  unfold ptrM; rw [if_pos (by omega)]; rfl
/-- A new cluster. -/
theorem Parts.more {d k b sb mb n h c : Nat} {w w' : World} {M : Nat → Option Nat} {R N N' Ns F : Nat → Prop} {Nc : Nat → Nat → Prop} (P : Parts (VT d) w k b sb mb n M R N Ns Nc) (hk : k ≤ 6 * 2 ^ (d + 1)) (h20 : k ≤ 20)
    (hh : h < 2 ^ (k - k / 2)) (hM : M h = none) (hc : Blk w' c 71 (ndC (k / 2) (-1) (-1) 0 none none)) (hf : w.heap.size ≤ c) (f : Fr F w w') (hF : ∀ q, F q → q < w.heap.size → q = mb ∨ q = b)
    (hm : MapP w' mb (n + 1) (setV (ptrM M) (h : Int) (some (.pointer (some ⟨c, 0, none⟩))))) (hN : ∀ q, N q → N' q) (hcN : N' c) (hl : ∀ q, N' q → q < w'.heap.size) :
    Parts (VT d) w' k b sb mb (n + 1) (setM M h c) R N' Ns (fun x => if x = h then fun q => q = c else Nc x) := by
  have hd : k / 2 ≤ 6 * 2 ^ d := by rw [Nat.pow_succ] at hk; omega
  have lc : ∀ q, N q → q ≠ c := fun q hq e => by have := P.lt q hq; omega
  refine ⟨P.sum.fr f (fun q hq e => ?_), by rw [← ptrM_set]; exact hm, by rw [P.cnt, cntM_set hM, if_pos hh], ?_, ?_, hN _ P.nb, hN _ P.nm, P.bm, P.sb, P.sm, fun q hq => hN _ (P.sN q hq), ?_, ?_, ?_, ?_, ?_, hl⟩
  · rcases hF q e (P.lt q (P.sN q hq)) with e | e
    · exact P.sm (e ▸ hq)
    · exact P.sb (e ▸ hq)
  · intro x y hx
    unfold setM at hx
    by_cases e : x = h
    · subst e
      simp only [if_true] at hx
      injection hx with hx
      subst hx
      refine ⟨hh, ?_⟩
      simp only [if_true]
      have hc' : VT d w' (k / 2) c (fun _ => False) (fun q => q = c) := VT.fresh hc hd (by omega) rfl (fun q (e : q = c) => e ▸ lt_of_block hc)
      exact hc'.ext (fun l => ⟨fun f => f.elim, fun g => P.out _ hM l g⟩)
    · rw [if_neg e] at hx
      simp only [if_neg e]
      refine ⟨(P.clu x y hx).1, (P.clu x y hx).2.fr f (fun q hq g => ?_)⟩
      rcases hF q g (P.lt q (P.cN x q hq)) with g | g
      · exact P.cm x (g ▸ hq)
      · exact P.cb x (g ▸ hq)
  · intro x hx l
    unfold setM at hx
    by_cases e : x = h
    · rw [if_pos e] at hx; cases hx
    · rw [if_neg e] at hx; exact P.out x hx l
  · intro x
    by_cases e : x = h
    · simp only [if_pos e]; exact lc b P.nb
    · simp only [if_neg e]; exact P.cb x
  · intro x
    by_cases e : x = h
    · simp only [if_pos e]; exact lc mb P.nm
    · simp only [if_neg e]; exact P.cm x
  · intro x q
    by_cases e : x = h
    · simp only [if_pos e]; rintro rfl; exact hcN
    · simp only [if_neg e]; exact fun g => hN _ (P.cN x q g)
  · intro x q hq
    by_cases e : x = h
    · simp only [if_pos e]; exact lc q (P.sN q hq)
    · simp only [if_neg e]; exact P.sc x q hq
  · intro x y q
    by_cases e : x = h <;> by_cases e' : y = h
    · intros; omega
    · simp only [if_pos e, if_neg e']; intro g1 g2; exact absurd g1 (lc q (P.cN y q g2))
    · simp only [if_neg e, if_pos e']; intro g1 g2; exact absurd g2 (lc q (P.cN x q g1))
    · simp only [if_neg e, if_neg e']; exact P.cc x y q
end Go.Proofs.Ytohblajdeicfeaa
