/- remove: in a tree with a summary and clusters. -/
import Derived.Test.YtohblajdeicfeaaE14
namespace Go.Proofs.Ytohblajdeicfeaa
open Go.RowKit
attribute [local go_sem ↓] Go.wp_at_zero Go.wp_at_succ
theorem Smy.rm_all {k : Nat} {R : Nat → Prop} {h l y : Nat} (hl : l < 2 ^ (k / 2)) (hy : h * 2 ^ (k / 2) + l = y) (hno : ∀ q, ¬ (Clu k R h q ∧ q ≠ l)) (z : Nat) : Smy k (fun x => R x ∧ x ≠ y) z ↔ (Smy k R z ∧ z ≠ h) := by
  constructor
  · rintro ⟨m, hm, h1, h2⟩
    refine ⟨⟨m, hm, h1⟩, fun e => ?_⟩
    subst e
    exact hno m ⟨⟨hm, h1⟩, fun e => h2 (by rw [e, hy])⟩
  · rintro ⟨⟨m, hm, h1⟩, h2⟩
    exact ⟨m, hm, h1, fun e => h2 (pair_inj hm hl (e.trans hy.symm)).1⟩
theorem Smy.rm_some {k : Nat} {R : Nat → Prop} {h l y : Nat} (hl : l < 2 ^ (k / 2)) (hy : h * 2 ^ (k / 2) + l = y) (he : ∃ q, Clu k R h q ∧ q ≠ l) (z : Nat) : Smy k (fun x => R x ∧ x ≠ y) z ↔ Smy k R z := by
  constructor
  · rintro ⟨m, hm, h1, h2⟩
    exact ⟨m, hm, h1⟩
  · rintro ⟨m, hm, h1⟩
    by_cases e : z = h
    · subst e
      obtain ⟨q, ⟨q1, q2⟩, q3⟩ := he
      exact ⟨q, q1, q2, fun e => q3 (pair_inj q1 hl (e.trans hy.symm)).2⟩
    · exact ⟨m, hm, h1, fun e' => e (pair_inj hm hl (e'.trans hy.symm)).1⟩
theorem Clu.rm {k : Nat} {R : Nat → Prop} {h l y : Nat} (hl : l < 2 ^ (k / 2)) (hy : h * 2 ^ (k / 2) + l = y) (z : Nat) : Clu k (fun x => R x ∧ x ≠ y) h z ↔ (Clu k R h z ∧ z ≠ l) := by
  constructor
  · rintro ⟨hm, h1, h2⟩
    exact ⟨⟨hm, h1⟩, fun e => h2 (by rw [e, hy])⟩
  · rintro ⟨⟨hm, h1⟩, h2⟩
    exact ⟨hm, h1, fun e => h2 (pair_inj hm hl (e.trans hy.symm)).2⟩
/-- An element goes out. -/
theorem Parts.rm {d : Nat} {w w' : World} {k b sb mb n h c l y : Nat} {M : Nat → Option Nat} {R N Ns F : Nat → Prop} {Nc : Nat → Nat → Prop} (P : Parts (VT d) w k b sb mb n M R N Ns Nc) (hM : M h = some c) (hl : l < 2 ^ (k / 2)) (hy : h * 2 ^ (k / 2) + l = y)
    (f : Fr F w w') (hF : ∀ q, F q → q < w.heap.size → Ns q ∨ Nc h q ∨ ¬ N q)
    (hs : VT d w' (k - k / 2) sb (Smy k (fun x => R x ∧ x ≠ y)) Ns) (hc : VT d w' (k / 2) c (fun z => Clu k R h z ∧ z ≠ l) (Nc h)) :
    Parts (VT d) w' k b sb mb n M (fun x => R x ∧ x ≠ y) N Ns (fun x => if x = h then Nc h else Nc x) :=
  P.upd (VT.kit d) hM f hF hs (hc.ext fun z => (Clu.rm hl hy z).symm) (fun _ => .inl) (fun _ => .inl) (fun q => P.sc h q) (fun _ hx _ hm => ⟨fun e => e.1, fun e => ⟨e, fun e' => hx (pair_inj hm hl (e'.trans hy.symm)).1⟩⟩) (fun _ => id) (fun q => P.sN q) (fun q => P.cN h q) (fun q hq => Nat.lt_of_lt_of_le (P.lt q hq) f.size)
/-- The element that goes out of the rest, and the least one behind. -/
def RmC (S : Nat → Prop) (a x y a' : Nat) : Prop := (x ≠ a ∧ y = x ∧ a' = a) ∨ (x = a ∧ a' = y ∧ ∀ q, Rest S a q → y ≤ q)
theorem rest_rm {S : Nat → Prop} {a x y a' : Nat} (hc : RmC S a x y a') (q : Nat) : Rest (fun q => S q ∧ q ≠ x) a' q ↔ (Rest S a q ∧ q ≠ y) := by
  unfold Rest
  rcases hc with ⟨h1, rfl, rfl⟩ | ⟨rfl, rfl, h⟩
  · constructor
    · rintro ⟨⟨h1, h2⟩, h3⟩; exact ⟨⟨h1, h3⟩, h2⟩
    · rintro ⟨⟨h1, h2⟩, h3⟩; exact ⟨⟨h1, h3⟩, h2⟩
  · constructor
    · rintro ⟨⟨h1, h2⟩, h3⟩; exact ⟨⟨h1, by omega⟩, by omega⟩
    · rintro ⟨⟨h1, h2⟩, h3⟩; exact ⟨⟨h1, by omega⟩, by omega⟩
theorem ends_rm {S : Nat → Prop} {a z x y a' t : Nat} (hSa : S a) (hSz : S z) (he : ∀ y, S y → a ≤ y ∧ y ≤ z) (haz : a ≠ z) (hR : Rest S a y) (hc : RmC S a x y a')
    (ht : (y ≠ z ∧ t = z) ∨ ((∀ q, ¬ (Rest S a q ∧ q ≠ y)) ∧ t = a') ∨ ((Rest S a t ∧ t ≠ y) ∧ ∀ q, Rest S a q ∧ q ≠ y → q ≤ t)) : Ends (fun q => S q ∧ q ≠ x) a' t := by
  have hz := he z hSz
  have ha := he a hSa
  have hy := he y hR.1
  have hya : y ≠ a := fun e => hR.2 (by rw [e])
  have hmem : ∀ q, S q ∧ q ≠ x → q = a' ∨ (Rest S a q ∧ q ≠ y) := by
    intro q hq
    by_cases e : q = a'
    · exact .inl e
    · exact .inr ((rest_rm hc q).1 ⟨hq, by omega⟩)
  have ha' : (S a' ∧ a' ≠ x) ∧ ∀ q, Rest S a q ∧ q ≠ y → a' ≤ q := by
    rcases hc with ⟨h1, rfl, rfl⟩ | ⟨rfl, rfl, h⟩
    · exact ⟨⟨hSa, fun e => h1 e.symm⟩, fun q hq => (he q hq.1.1).1⟩
    · exact ⟨⟨hR.1, hya⟩, fun q hq => h q hq.1⟩
  refine .inr ⟨a', t, rfl, rfl, ha'.1, ?_, fun q hq => ?_⟩
  · rcases ht with ⟨h1, rfl⟩ | ⟨_, rfl⟩ | ⟨h1, _⟩
    · have : Rest (fun q => S q ∧ q ≠ x) a' t := (rest_rm hc t).2 ⟨⟨hSz, by omega⟩, fun e => h1 e.symm⟩
      exact this.1
    · exact ha'.1
    · exact ((rest_rm hc t).2 h1).1
  · have hq' := hmem q hq
    constructor
    · rcases hq' with rfl | h
      · omega
      · exact ha'.2 q h
    · rcases ht with ⟨h1, rfl⟩ | ⟨h0, rfl⟩ | ⟨h1, h2⟩
      · exact (he q hq.1).2
      · rcases hq' with rfl | h
        · omega
        · exact absurd h (h0 q)
      · rcases hq' with rfl | h
        · exact ha'.2 t h1
        · exact h2 q h
theorem RmP.fin {d : Nat} {w w6 w7 : World} {f k0 n rb k b x y a a' z t sb mb nn : Nat} {S N Ns : Nat → Prop} {M : Nat → Option Nat} {Nc : Nat → Nat → Prop} {st st7 : Int}
    (hk : k ≤ 6 * 2 ^ (d + 1)) (h7 : 6 < k) (h20 : k ≤ 20) (hnf : ¬ N f) (hb : N b) (hSa : S a) (hSz : S z) (he : ∀ y, S y → a ≤ y ∧ y ≤ z) (haz : a ≠ z) (hlim : ∀ q, S q → q < 2 ^ k) (hR : Rest S a y) (hc : RmC S a x y a')
    (ht : (y ≠ z ∧ t = z) ∨ ((∀ q, ¬ (Rest S a q ∧ q ≠ y)) ∧ t = a') ∨ ((Rest S a t ∧ t ≠ y) ∧ ∀ q, Rest S a q ∧ q ≠ y → q ≤ t))
    (P : Parts (VT d) w6 k b sb mb nn M (fun q => Rest S a q ∧ q ≠ y) N Ns Nc) (F7 : Fr (fun q => q = b ∨ q = f) w6 w7)
    (HB : Blk w7 b 71 (ndC k a' t 0 (some ⟨sb, 0, none⟩) (some mb))) (hf : Blk w7 f 57 (stC k0 n st7 rb)) (F6 : Fr (fun q => N q ∨ q = f) w w6) (h1 : st < st7) (h2 : st7 ≤ st + 1 + 6 * ((d + 1 : Nat) : Int)) :
    RmP (d + 1) w f k0 n st rb k b S N x (.returned (.tuple #[])) w7 := by
  refine ⟨st7, rfl, ?_, h1, h2, hf, F6.trans F7 (fun q _ e => e.elim (fun e => .inl (e ▸ hb)) .inr), fun h => absurd ((h a hSa).trans (h z hSz).symm) haz⟩
  exact VT.make hk h7 h20 HB (P.fr (VT.kit d) F7 (fun q hq e e' => e'.elim e (fun e' => hnf (e' ▸ hq)))) (ends_rm hSa hSz he haz hR hc ht) (rest_rm hc) (fun q hq => hlim q hq.1)
/-- The least one of the rest. -/
theorem rest_min {k : Nat} {S : Nat → Prop} {a h m : Nat} (h1 : ∀ q, Smy k (Rest S a) q → h ≤ q) (hm : Clu k (Rest S a) h m) (h2 : ∀ q, Clu k (Rest S a) h q → m ≤ q) : ∀ q, Rest S a q → h * 2 ^ (k / 2) + m ≤ q := by
  intro q hq
  have hc := hq.at_ (k := k)
  rw [← hi_lo k q]
  refine Nat.le_of_not_lt fun hlt => ?_
  rcases (lex lo_lt hm.1).1 hlt with e | ⟨e, e2⟩
  · have := h1 _ hc.smy; omega
  · rw [e] at hc
    have := h2 _ hc; omega
/-- The greatest one. -/
theorem rest_max {k : Nat} {R : Nat → Prop} {h m : Nat} (h1 : ∀ q, Smy k R q → q ≤ h) (hm : Clu k R h m) (h2 : ∀ q, Clu k R h q → q ≤ m) : ∀ q, R q → q ≤ h * 2 ^ (k / 2) + m := by
  intro q hq
  have hc : Clu k R (q / 2 ^ (k / 2)) (q % 2 ^ (k / 2)) := ⟨lo_lt, by rw [hi_lo]; exact hq⟩
  rw [← hi_lo k q]
  refine Nat.le_of_not_lt fun hlt => ?_
  rcases (lex hm.1 lo_lt).1 hlt with e | ⟨e, e2⟩
  · have := h1 _ hc.smy; omega
  · rw [← e] at hc
    have := h2 _ hc; omega
theorem Parts.get {V : VP} {w : World} {k b sb mb n h l : Nat} {M : Nat → Option Nat} {R N Ns : Nat → Prop} {Nc : Nat → Nat → Prop} (P : Parts V w k b sb mb n M R N Ns Nc) (hc : Clu k R h l) : ∃ c, M h = some c := by
  cases hM : M h with
  | none => exact absurd hc (P.out h hM l)
  | some c => exact ⟨c, rfl⟩
set_option maxRecDepth 100000 in
set_option maxHeartbeats 4000000 in
theorem rm_rest {d : Nat} (IH : RmAt d) {w : World} {f k0 n rb k b x a z : Nat} {S N : Nat → Prop} {st : Int} {sp : Option Addr} {mp : Option Nat} (hk : k ≤ 6 * 2 ^ (d + 1)) (T : Bg (VT d) w k b S N a z sp mp) (hx : S x) (hxa : x ≠ a) (haz : a ≠ z) (hf : Blk w f 57 (stC k0 n st rb)) (hnf : ¬ N f) (h0 : 0 ≤ st) (h9 : st + 20 * ((d + 1 : Nat) : Int) ≤ 900) (hd2 : d + 1 ≤ 2) :
    Calls Try.prog 37 #[.pointer (some ⟨f, 0, none⟩), .pointer (some ⟨b, 0, none⟩), .int .i64 x] w (RmP (d + 1) w f k0 n st rb k b S N x) := by
  have hbf : b ≠ f := fun e => hnf (e ▸ T.nb)
  have hk20 := T.k20
  have hk7 := T.k7
  obtain ⟨a', z', ea, ez, hSa, hSz, hends⟩ := T.ends.nonneg (show ¬ ((a : Nat) : Int) < 0 by omega)
  obtain rfl : a = a' := by omega
  obtain rfl : z = z' := by omega
  have HT := Lib.hid T
  have HE := Lib.hid (And.intro hSa (And.intro hSz hends))
  have HNF := Lib.hid hnf
  have HLim := Lib.hid T.lim
  have HX := Lib.hid hx
  obtain ⟨sb, mb, nn, M, Ns, Nc, rfl, rfl, P⟩ : ∃ sb mb n M Ns Nc, sp = some ⟨sb, 0, none⟩ ∧ mp = some mb ∧ Parts (VT d) w k b sb mb n M (Rest S a) N Ns Nc := by
    rcases T.parts with ⟨_, _, h⟩ | h
    · exact absurd ⟨hSz, by omega⟩ (h z)
    · exact h
  have HP := Lib.hid P
  have HZR := Lib.hid (show Rest S a z from ⟨hSz, by omega⟩)
  clear T hSa hSz hends ea ez P hnf hx
  go_enter Try.func37, Try.ntmps37
  go_wp2_with fail
  refine (look_any _ hf h0 (by omega)).mono ?_
  rintro e w1 ⟨rfl, B1, F1⟩
  have HN1 := Lib.hid (HT.out.blk.fr F1 hbf)
  have HP1 := Lib.hid (HP.out.fr (VT.kit d) F1 (fun q hq _ (e : q = f) => HNF.out (e ▸ hq)))
  have HF1 := Lib.hid (F1.mono (S' := fun q => N q ∨ q = f) (fun q _ (e : q = f) => .inr e))
  have HB1 := Lib.hid B1
  have y1 : w1.cell? ⟨b, 1, none⟩ = some (.int .i64 a) := HN1.out.cell (i := 1) rfl
  have y2 : w1.cell? ⟨b, 2, none⟩ = some (.int .i64 z) := HN1.out.cell (i := 2) rfl
  have haz' : ((a : Int) == (z : Int)) = false := by simp; omega
  clear B1 F1 hf HP
  go_wp2_with (go_at_call 49; refine (small_no HN1.out hk7).mono ?_; rintro e w2 ⟨rfl, rfl⟩)
  go_quiet (fail)
  generalize hW : w1.drewN nq = w2 at *
  have HN2 : Hid (Blk w2 b 71 (ndC k a z 0 (some ⟨sb, 0, none⟩) (some mb))) := Lib.hid (by rw [← hW]; exact HN1.out)
  have HP2 : Hid (Parts (VT d) w2 k b sb mb nn M (Rest S a) N Ns Nc) := Lib.hid (by rw [← hW]; exact HP1.out.fr (VT.kit d) ((Fr.refl F0 w1).drewN nq) (fun _ _ _ => id))
  have HB2 : Hid (Blk w2 f 57 (stC k0 n (st + 1) rb)) := Lib.hid (by rw [← hW]; exact HB1.out.fr ((Fr.refl F0 w1).drewN nq) id)
  have HF2 : Hid (Fr (fun q => N q ∨ q = f) w w2) := Lib.hid (by rw [← hW]; exact HF1.out.drewN nq)
  clear hW y1 y2 HN1 HP1 HB1 HF1 haz'
  have y1 : w2.cell? ⟨b, 1, none⟩ = some (.int .i64 a) := HN2.out.cell (i := 1) rfl
  have y4 : w2.cell? ⟨b, 4, none⟩ = some (.pointer (some ⟨sb, 0, none⟩)) := HN2.out.cell (i := 4) rfl
  have hxa' : ((x : Int) == (a : Int)) = false := by simp; omega
  have HYR := Lib.hid (show Rest S a x from ⟨HX.out, by omega⟩)
  have HC := Lib.hid (show RmC S a x x a from .inl ⟨hxa, rfl, rfl⟩)
  go_wp2_with fail
  clear y1 y4 hxa' hxa
  obtain ⟨sw, HBw, hsw1, hsw2⟩ : ∃ sw, Hid (Blk w2 f 57 (stC k0 n sw rb)) ∧ st < sw ∧ sw ≤ st + 3 := ⟨_, HB2, by omega, by omega⟩
  have HNw := HN2
  have HPw := HP2
  have HFw := HF2
  clear HN2 HP2 HB2 HF2
  generalize w2 = ww at *
  have HyK := Lib.hid (HLim.out _ HYR.out.1)
  refine (split_any HNw.out hk20 HyK.out).mono ?_
  rintro e w2 ⟨rfl, q2, rfl⟩
  have hyh := hi_lt HyK.out
  have hyl := lo_lt (k := k) (y := x)
  have hyy := hi_lo k x
  generalize x / 2 ^ (k / 2) = h at *
  generalize x % 2 ^ (k / 2) = l at *
  have HY := Lib.hid (And.intro hyh (And.intro hyl hyy))
  have hwf := Lib.hid (wfN (h40 hk20 hyh))
  clear hyh hyl hyy
  have HN2 : Hid (Blk (ww.drewN q2) b 71 (ndC k a z 0 (some ⟨sb, 0, none⟩) (some mb))) := Lib.hid HNw.out
  have HP2 : Hid (Parts (VT d) (ww.drewN q2) k b sb mb nn M (Rest S a) N Ns Nc) := Lib.hid (HPw.out.fr (VT.kit d) ((Fr.refl F0 ww).drewN q2) (fun _ _ _ => id))
  have HB2 : Hid (Blk (ww.drewN q2) f 57 (stC k0 n sw rb)) := Lib.hid HBw.out
  have HF2 := Lib.hid (HFw.out.drewN q2)
  clear HNw HPw HBw HFw
  generalize ww.drewN q2 = w2 at *
  have HCl := Lib.hid (show Clu k (Rest S a) h l from ⟨HY.out.2.1, by rw [HY.out.2.2]; exact HYR.out⟩)
  obtain ⟨c, hM⟩ := HP2.out.get HCl.out
  have HM := Lib.hid hM
  have hv := Lib.hid (show (ptrM M (h : Int)).getD (.pointer none) = .pointer (some ⟨c, 0, none⟩) by rw [ptrM_nat, hM]; rfl)
  clear hM
  have y5 : w2.cell? ⟨b, 5, none⟩ = some (.map (some mb)) := HN2.out.cell (i := 5) rfl
  go_wp2_with (at_lookup; refine wpMapLookP HP2.out.map hwf.out _ hv.out rfl rfl ?_)
  refine (IH _ _ _ _ _ _ _ _ _ _ _ (HP2.out.clu h c HM.out).2 HCl.out HB2.out (fun e => HNF.out (HP2.out.cN h _ e)) (by omega) (by omega) (by omega)).mono ?_
  rintro e w5 ⟨st5, rfl, T5, g1, g2, B5, F5, g5⟩
  have HT5 := Lib.hid T5
  have HF5 := Lib.hid F5
  have HB5 := Lib.hid B5
  have HN5 := Lib.hid (HN2.out.fr F5 (fun e => e.elim (HP2.out.cb h) hbf))
  have HS5 := Lib.hid (HP2.out.sum.fr F5 (fun q hq e => e.elim (fun e => HP2.out.sc h q hq e) (fun (e : q = f) => HNF.out (e ▸ HP2.out.sN q hq))))
  obtain ⟨mc, mxc, sc, spc, mpc, Bc, Ec⟩ := HT5.out.node
  have HEc := Lib.hid Ec
  have yc : w5.cell? ⟨c, 1, none⟩ = some (.int .i64 mc) := Bc.cell (i := 1) rfl
  have y4 : w5.cell? ⟨b, 4, none⟩ = some (.pointer (some ⟨sb, 0, none⟩)) := HN5.out.cell (i := 4) rfl
  clear T5 F5 B5 Bc Ec y5
  by_cases hm : mc < 0
  · have HNo := Lib.hid (HEc.out.neg hm)
    have h51 : st5 = sw + 1 := g5 (fun q hq => Decidable.byContradiction fun e => HNo.out q ⟨hq, e⟩)
    go_wp2_with fail
    refine (IH _ _ _ _ _ _ _ _ _ _ _ HS5.out HCl.out.smy HB5.out (fun e => HNF.out (HP2.out.sN _ e)) (by omega) (by omega) (by omega)).mono ?_
    rintro e w6 ⟨st6, rfl, T6, g3, g4, B6, F6, _⟩
    have HP6 := Lib.hid (HP2.out.rm HM.out HY.out.2.1 HY.out.2.2 (F := fun q => (Nc h q ∨ q = f) ∨ (Ns q ∨ q = f)) ((HF5.out.mono (fun _ _ => .inl)).trans F6 (fun _ _ => .inr))
      (fun q e _ => e.elim (fun e => e.elim (fun e => .inr (.inl e)) (fun e => .inr (.inr (e ▸ HNF.out)))) (fun e => e.elim .inl (fun e => .inr (.inr (e ▸ HNF.out)))))
      (T6.ext (fun q => (Smy.rm_all HY.out.2.1 HY.out.2.2 HNo.out q).symm)) (HT5.out.fr F6 (fun q hq e => e.elim (fun e => HP2.out.sc h q e hq) (fun (e : q = f) => HNF.out (e ▸ HP2.out.cN h q hq)))))
    have HN6 := Lib.hid (HN5.out.fr F6 (fun e => e.elim HP2.out.sb hbf))
    have HF6 : Hid (Fr (fun q => N q ∨ q = f) w w6) := Lib.hid ((HF2.out.trans HF5.out (fun q _ e => e.elim (fun e => .inl (HP2.out.cN h q e)) .inr)).trans F6 (fun q _ e => e.elim (fun e => .inl (HP2.out.sN q e)) .inr))
    have HB6 := Lib.hid B6
    clear T6 F6 B6 yc y4
    by_cases hyz : x = z
    · have HZ := Lib.hid hyz
      have y2 : w6.cell? ⟨b, 2, none⟩ = some (.int .i64 x) := by rw [hyz]; exact HN6.out.cell (i := 2) rfl
      have y4 : w6.cell? ⟨b, 4, none⟩ = some (.pointer (some ⟨sb, 0, none⟩)) := HN6.out.cell (i := 4) rfl
      clear hyz
      go_wp2_with fail
      refine (look_any _ HB6.out (by omega) (by omega)).mono ?_
      rintro e w7 ⟨rfl, B7, F7⟩
      have HN7 := Lib.hid (HN6.out.fr F7 hbf)
      have HP7 := Lib.hid (HP6.out.fr (VT.kit d) F7 (fun q hq _ (e : q = f) => HNF.out (e ▸ hq)))
      have HB7 := Lib.hid B7
      have HF7 := Lib.hid (F7.mono (S' := fun q => q = b ∨ q = f) (fun q _ (e : q = f) => .inr e))
      obtain ⟨ms, mxs, ss, sps, mps, Bs, Es⟩ := HP7.out.sum.node
      have ys : w7.cell? ⟨sb, 2, none⟩ = some (.int .i64 mxs) := Bs.cell (i := 2) rfl
      have HEs := Lib.hid Es
      have z2 := HN7.out.free 2
      clear B7 F7 Bs Es y2 y4
      by_cases hmm : mxs < 0
      · have Hno := Lib.hid (show ∀ q, ¬ (Rest S a q ∧ q ≠ x) from fun q hq => by
          rcases HEs.out with ⟨e, _, _⟩ | ⟨_, _, _, e, _⟩
          · exact e _ (Clu.smy (k := k) (l := q % 2 ^ (k / 2)) (h := q / 2 ^ (k / 2)) ⟨lo_lt, by rw [hi_lo]; exact hq⟩)
          · omega)
        have y1 : w7.cell? ⟨b, 1, none⟩ = some (.int .i64 a) := HN7.out.cell (i := 1) rfl
        have y2 : w7.cell? ⟨b, 2, none⟩ = some (.int .i64 z) := HN7.out.cell (i := 2) rfl
        go_wp2_with fail
        go_end0
        exact RmP.fin (t := a) hk hk7 hk20 HNF.out HT.out.nb HE.out.1 HE.out.2.1 HE.out.2.2 haz HLim.out HYR.out HC.out (.inr (.inl ⟨Hno.out, rfl⟩)) HP6.out (HF7.out.trans ((Fr.refl (onB b) w7).setB 2 _) (fun q _ e => .inl e)) (HN7.out.set 2 _) (HB7.out.other (p := ⟨b, 2, none⟩) (Ne.symm hbf) _) HF6.out (by omega) (by omega)
      · obtain ⟨us, m, rfl, rfl, _, hs2, hs3⟩ := HEs.out.nonneg (show ¬ ms < 0 by rcases HEs.out with ⟨_, _, e⟩ | ⟨_, _, e, _⟩ <;> omega)
        obtain ⟨l0, hl0, hl1⟩ := id hs2
        obtain ⟨c0, hM0⟩ := HP7.out.get (show Clu k (fun q => Rest S a q ∧ q ≠ x) m l0 from ⟨hl0, hl1⟩)
        have HC0 := Lib.hid (HP7.out.clu m c0 hM0).2
        have hh0 := Lib.hid (HP7.out.clu m c0 hM0).1
        obtain ⟨mc0, mxc0, sc0, spc0, mpc0, Bc0, Ec0⟩ := HC0.out.node
        obtain ⟨uc, lm, rfl, rfl, _, hm2, hm3⟩ := Ec0.nonneg (fun e => Ec0.neg e l0 ⟨hl0, hl1⟩)
        have hmax := rest_max (fun q hq => (hs3 q hq).2) hm2 (fun q hq => (hm3 q hq).2)
        obtain ⟨t, ht⟩ : ∃ t, t = m * 2 ^ (k / 2) + lm := ⟨_, rfl⟩
        have Ht := Lib.hid ht
        have HTT : Hid ((Rest S a t ∧ t ≠ x) ∧ ∀ q, Rest S a q ∧ q ≠ x → q ≤ t) := Lib.hid (by rw [ht]; exact ⟨hm2.2, hmax⟩)
        have hml0 := Lib.hid hm2.1
        have HBc0 := Lib.hid Bc0
        have hcf0 : c0 ≠ f := fun e => HNF.out (HP7.out.cN m f (e ▸ HC0.out.nb))
        have hwf0 := Lib.hid (wfN (h40 hk20 hh0.out))
        have hv0 := Lib.hid (show (ptrM M (m : Int)).getD (.pointer none) = .pointer (some ⟨c0, 0, none⟩) by rw [ptrM_nat, hM0]; rfl)
        clear hs2 hs3 hl0 hl1 hM0 hm2 hm3 hmax ht Bc0 Ec0
        have y5 : w7.cell? ⟨b, 5, none⟩ = some (.map (some mb)) := HN7.out.cell (i := 5) rfl
        go_wp2_with (at_lookup; refine wpMapLookP HP7.out.map hwf0.out _ hv0.out rfl rfl ?_)
        refine (look_any _ HB7.out (by omega) (by omega)).mono ?_
        rintro e w8 ⟨rfl, B8, F8⟩
        have HN8 := Lib.hid (HN7.out.fr F8 hbf)
        have HB8 := Lib.hid B8
        have HF8 := Lib.hid (HF7.out.trans F8 (fun q _ (e : q = f) => .inr e))
        have yc : w8.cell? ⟨c0, 2, none⟩ = some (.int .i64 lm) := (HBc0.out.fr F8 hcf0).cell (i := 2) rfl
        clear B8 F8 y5 ys z2
        go_wp2_with fail
        refine (join_any HN8.out hk20 hh0.out hml0.out).mono ?_
        rw [← Ht.out]
        rintro e w9 ⟨rfl, q9, rfl⟩
        have HN9 : Hid (Blk (w8.drewN q9) b 71 (ndC k a z 0 (some ⟨sb, 0, none⟩) (some mb))) := Lib.hid HN8.out
        have y2 : (w8.drewN q9).cell? ⟨b, 2, none⟩ = some (.int .i64 z) := HN9.out.cell (i := 2) rfl
        have z2 := HN9.out.free 2
        have HB9 := Lib.hid (HB8.out.fr ((Fr.refl F0 w8).drewN q9) id)
        have HF9 := Lib.hid (HF8.out.drewN q9)
        generalize w8.drewN q9 = w9 at *
        go_wp2_with fail
        go_end0
        exact RmP.fin hk hk7 hk20 HNF.out HT.out.nb HE.out.1 HE.out.2.1 HE.out.2.2 haz HLim.out HYR.out HC.out (.inr (.inr HTT.out)) HP6.out (HF9.out.trans ((Fr.refl (onB b) w9).setB 2 _) (fun q _ e => .inl e)) (HN9.out.set 2 _) (HB9.out.other (p := ⟨b, 2, none⟩) (Ne.symm hbf) _) HF6.out (by omega) (by omega)
    · have y2 : w6.cell? ⟨b, 2, none⟩ = some (.int .i64 z) := HN6.out.cell (i := 2) rfl
      have hyz' : ((x : Int) == (z : Int)) = false := by simp; omega
      go_wp2_with fail
      go_end0
      exact RmP.fin hk hk7 hk20 HNF.out HT.out.nb HE.out.1 HE.out.2.1 HE.out.2.2 haz HLim.out HYR.out HC.out (.inl ⟨hyz, rfl⟩) HP6.out (Fr.refl _ w6) HN6.out HB6.out HF6.out (by omega) (by omega)
  · have HNo := Lib.hid (show ∃ q, Clu k (Rest S a) h q ∧ q ≠ l by
      obtain ⟨q, _, _, _, e, _⟩ := HEc.out.nonneg hm
      exact ⟨q, e⟩)
    have HP6 := Lib.hid (HP2.out.rm HM.out HY.out.2.1 HY.out.2.2 HF5.out (fun q e _ => e.elim (fun e => .inr (.inl e)) (fun e => .inr (.inr (e ▸ HNF.out)))) (HS5.out.ext (fun q => (Smy.rm_some HY.out.2.1 HY.out.2.2 HNo.out q).symm)) HT5.out)
    have HF6 : Hid (Fr (fun q => N q ∨ q = f) w w5) := Lib.hid (HF2.out.trans HF5.out (fun q _ e => e.elim (fun e => .inl (HP2.out.cN h q e)) .inr))
    have HN6 := HN5
    have HB6 := HB5
    have yc6 := yc
    clear HN5 HB5 yc HF5 HS5 HT5 y4
    generalize w5 = w6 at *
    by_cases hyz : x = z
    · have HZ := Lib.hid hyz
      have y2 : w6.cell? ⟨b, 2, none⟩ = some (.int .i64 x) := by rw [hyz]; exact HN6.out.cell (i := 2) rfl
      have y4 : w6.cell? ⟨b, 4, none⟩ = some (.pointer (some ⟨sb, 0, none⟩)) := HN6.out.cell (i := 4) rfl
      clear hyz
      go_wp2_with fail
      refine (look_any _ HB6.out (by omega) (by omega)).mono ?_
      rintro e w7 ⟨rfl, B7, F7⟩
      have HN7 := Lib.hid (HN6.out.fr F7 hbf)
      have HP7 := Lib.hid (HP6.out.fr (VT.kit d) F7 (fun q hq _ (e : q = f) => HNF.out (e ▸ hq)))
      have HB7 := Lib.hid B7
      have HF7 := Lib.hid (F7.mono (S' := fun q => q = b ∨ q = f) (fun q _ (e : q = f) => .inr e))
      obtain ⟨ms, mxs, ss, sps, mps, Bs, Es⟩ := HP7.out.sum.node
      have ys : w7.cell? ⟨sb, 2, none⟩ = some (.int .i64 mxs) := Bs.cell (i := 2) rfl
      have HEs := Lib.hid Es
      have z2 := HN7.out.free 2
      clear B7 F7 Bs Es y2 y4
      by_cases hmm : mxs < 0
      · have Hno := Lib.hid (show ∀ q, ¬ (Rest S a q ∧ q ≠ x) from fun q hq => by
          rcases HEs.out with ⟨e, _, _⟩ | ⟨_, _, _, e, _⟩
          · exact e _ (Clu.smy (k := k) (l := q % 2 ^ (k / 2)) (h := q / 2 ^ (k / 2)) ⟨lo_lt, by rw [hi_lo]; exact hq⟩)
          · omega)
        have y1 : w7.cell? ⟨b, 1, none⟩ = some (.int .i64 a) := HN7.out.cell (i := 1) rfl
        have y2 : w7.cell? ⟨b, 2, none⟩ = some (.int .i64 z) := HN7.out.cell (i := 2) rfl
        go_wp2_with fail
        go_end0
        exact RmP.fin (t := a) hk hk7 hk20 HNF.out HT.out.nb HE.out.1 HE.out.2.1 HE.out.2.2 haz HLim.out HYR.out HC.out (.inr (.inl ⟨Hno.out, rfl⟩)) HP6.out (HF7.out.trans ((Fr.refl (onB b) w7).setB 2 _) (fun q _ e => .inl e)) (HN7.out.set 2 _) (HB7.out.other (p := ⟨b, 2, none⟩) (Ne.symm hbf) _) HF6.out (by omega) (by omega)
      · obtain ⟨us, m, rfl, rfl, _, hs2, hs3⟩ := HEs.out.nonneg (show ¬ ms < 0 by rcases HEs.out with ⟨_, _, e⟩ | ⟨_, _, e, _⟩ <;> omega)
        obtain ⟨l0, hl0, hl1⟩ := id hs2
        obtain ⟨c0, hM0⟩ := HP7.out.get (show Clu k (fun q => Rest S a q ∧ q ≠ x) m l0 from ⟨hl0, hl1⟩)
        have HC0 := Lib.hid (HP7.out.clu m c0 hM0).2
        have hh0 := Lib.hid (HP7.out.clu m c0 hM0).1
        obtain ⟨mc0, mxc0, sc0, spc0, mpc0, Bc0, Ec0⟩ := HC0.out.node
        obtain ⟨uc, lm, rfl, rfl, _, hm2, hm3⟩ := Ec0.nonneg (fun e => Ec0.neg e l0 ⟨hl0, hl1⟩)
        have hmax := rest_max (fun q hq => (hs3 q hq).2) hm2 (fun q hq => (hm3 q hq).2)
        obtain ⟨t, ht⟩ : ∃ t, t = m * 2 ^ (k / 2) + lm := ⟨_, rfl⟩
        have Ht := Lib.hid ht
        have HTT : Hid ((Rest S a t ∧ t ≠ x) ∧ ∀ q, Rest S a q ∧ q ≠ x → q ≤ t) := Lib.hid (by rw [ht]; exact ⟨hm2.2, hmax⟩)
        have hml0 := Lib.hid hm2.1
        have HBc0 := Lib.hid Bc0
        have hcf0 : c0 ≠ f := fun e => HNF.out (HP7.out.cN m f (e ▸ HC0.out.nb))
        have hwf0 := Lib.hid (wfN (h40 hk20 hh0.out))
        have hv0 := Lib.hid (show (ptrM M (m : Int)).getD (.pointer none) = .pointer (some ⟨c0, 0, none⟩) by rw [ptrM_nat, hM0]; rfl)
        clear hs2 hs3 hl0 hl1 hM0 hm2 hm3 hmax ht Bc0 Ec0
        have y5 : w7.cell? ⟨b, 5, none⟩ = some (.map (some mb)) := HN7.out.cell (i := 5) rfl
        go_wp2_with (at_lookup; refine wpMapLookP HP7.out.map hwf0.out _ hv0.out rfl rfl ?_)
        refine (look_any _ HB7.out (by omega) (by omega)).mono ?_
        rintro e w8 ⟨rfl, B8, F8⟩
        have HN8 := Lib.hid (HN7.out.fr F8 hbf)
        have HB8 := Lib.hid B8
        have HF8 := Lib.hid (HF7.out.trans F8 (fun q _ (e : q = f) => .inr e))
        have yc : w8.cell? ⟨c0, 2, none⟩ = some (.int .i64 lm) := (HBc0.out.fr F8 hcf0).cell (i := 2) rfl
        clear B8 F8 y5 ys z2
        go_wp2_with fail
        refine (join_any HN8.out hk20 hh0.out hml0.out).mono ?_
        rw [← Ht.out]
        rintro e w9 ⟨rfl, q9, rfl⟩
        have HN9 : Hid (Blk (w8.drewN q9) b 71 (ndC k a z 0 (some ⟨sb, 0, none⟩) (some mb))) := Lib.hid HN8.out
        have y2 : (w8.drewN q9).cell? ⟨b, 2, none⟩ = some (.int .i64 z) := HN9.out.cell (i := 2) rfl
        have z2 := HN9.out.free 2
        have HB9 := Lib.hid (HB8.out.fr ((Fr.refl F0 w8).drewN q9) id)
        have HF9 := Lib.hid (HF8.out.drewN q9)
        generalize w8.drewN q9 = w9 at *
        go_wp2_with fail
        go_end0
        exact RmP.fin hk hk7 hk20 HNF.out HT.out.nb HE.out.1 HE.out.2.1 HE.out.2.2 haz HLim.out HYR.out HC.out (.inr (.inr HTT.out)) HP6.out (HF9.out.trans ((Fr.refl (onB b) w9).setB 2 _) (fun q _ e => .inl e)) (HN9.out.set 2 _) (HB9.out.other (p := ⟨b, 2, none⟩) (Ne.symm hbf) _) HF6.out (by omega) (by omega)
    · have y2 : w6.cell? ⟨b, 2, none⟩ = some (.int .i64 z) := HN6.out.cell (i := 2) rfl
      have hyz' : ((x : Int) == (z : Int)) = false := by simp; omega
      go_wp2_with fail
      go_end0
      exact RmP.fin hk hk7 hk20 HNF.out HT.out.nb HE.out.1 HE.out.2.1 HE.out.2.2 haz HLim.out HYR.out HC.out (.inl ⟨hyz, rfl⟩) HP6.out (Fr.refl _ w6) HN6.out HB6.out HF6.out (by omega) (by omega)
set_option maxRecDepth 100000 in
set_option maxHeartbeats 4000000 in
theorem rm_min {d : Nat} (IH : RmAt d) {w : World} {f k0 n rb k b x a z : Nat} {S N : Nat → Prop} {st : Int} {sp : Option Addr} {mp : Option Nat} (hk : k ≤ 6 * 2 ^ (d + 1)) (T : Bg (VT d) w k b S N a z sp mp) (hx : S x) (hxa : x = a) (haz : a ≠ z) (hf : Blk w f 57 (stC k0 n st rb)) (hnf : ¬ N f) (h0 : 0 ≤ st) (h9 : st + 20 * ((d + 1 : Nat) : Int) ≤ 900) (hd2 : d + 1 ≤ 2) :
    Calls Try.prog 37 #[.pointer (some ⟨f, 0, none⟩), .pointer (some ⟨b, 0, none⟩), .int .i64 x] w (RmP (d + 1) w f k0 n st rb k b S N x) := by
  have hbf : b ≠ f := fun e => hnf (e ▸ T.nb)
  have hk20 := T.k20
  have hk7 := T.k7
  obtain ⟨a', z', ea, ez, hSa, hSz, hends⟩ := T.ends.nonneg (show ¬ ((a : Nat) : Int) < 0 by omega)
  obtain rfl : a = a' := by omega
  obtain rfl : z = z' := by omega
  have HT := Lib.hid T
  have HE := Lib.hid (And.intro hSa (And.intro hSz hends))
  have HNF := Lib.hid hnf
  have HLim := Lib.hid T.lim
  have HX := Lib.hid hx
  obtain ⟨sb, mb, nn, M, Ns, Nc, rfl, rfl, P⟩ : ∃ sb mb n M Ns Nc, sp = some ⟨sb, 0, none⟩ ∧ mp = some mb ∧ Parts (VT d) w k b sb mb n M (Rest S a) N Ns Nc := by
    rcases T.parts with ⟨_, _, h⟩ | h
    · exact absurd ⟨hSz, by omega⟩ (h z)
    · exact h
  have HP := Lib.hid P
  have HZR := Lib.hid (show Rest S a z from ⟨hSz, by omega⟩)
  clear T hSa hSz hends ea ez P hnf hx
  go_enter Try.func37, Try.ntmps37
  go_wp2_with fail
  refine (look_any _ hf h0 (by omega)).mono ?_
  rintro e w1 ⟨rfl, B1, F1⟩
  have HN1 := Lib.hid (HT.out.blk.fr F1 hbf)
  have HP1 := Lib.hid (HP.out.fr (VT.kit d) F1 (fun q hq _ (e : q = f) => HNF.out (e ▸ hq)))
  have HF1 := Lib.hid (F1.mono (S' := fun q => N q ∨ q = f) (fun q _ (e : q = f) => .inr e))
  have HB1 := Lib.hid B1
  have y1 : w1.cell? ⟨b, 1, none⟩ = some (.int .i64 a) := HN1.out.cell (i := 1) rfl
  have y2 : w1.cell? ⟨b, 2, none⟩ = some (.int .i64 z) := HN1.out.cell (i := 2) rfl
  have haz' : ((a : Int) == (z : Int)) = false := by simp; omega
  clear B1 F1 hf HP
  go_wp2_with (go_at_call 49; refine (small_no HN1.out hk7).mono ?_; rintro e w2 ⟨rfl, rfl⟩)
  go_quiet (fail)
  generalize hW : w1.drewN nq = w2 at *
  have HN2 : Hid (Blk w2 b 71 (ndC k a z 0 (some ⟨sb, 0, none⟩) (some mb))) := Lib.hid (by rw [← hW]; exact HN1.out)
  have HP2 : Hid (Parts (VT d) w2 k b sb mb nn M (Rest S a) N Ns Nc) := Lib.hid (by rw [← hW]; exact HP1.out.fr (VT.kit d) ((Fr.refl F0 w1).drewN nq) (fun _ _ _ => id))
  have HB2 : Hid (Blk w2 f 57 (stC k0 n (st + 1) rb)) := Lib.hid (by rw [← hW]; exact HB1.out.fr ((Fr.refl F0 w1).drewN nq) id)
  have HF2 : Hid (Fr (fun q => N q ∨ q = f) w w2) := Lib.hid (by rw [← hW]; exact HF1.out.drewN nq)
  clear hW y1 y2 HN1 HP1 HB1 HF1 haz'
  have y1 : w2.cell? ⟨b, 1, none⟩ = some (.int .i64 a) := HN2.out.cell (i := 1) rfl
  have y4 : w2.cell? ⟨b, 4, none⟩ = some (.pointer (some ⟨sb, 0, none⟩)) := HN2.out.cell (i := 4) rfl
  subst hxa
  go_wp2_with fail
  refine (look_any _ HB2.out (by omega) (by omega)).mono ?_
  rintro e w3 ⟨rfl, B3, F3⟩
  have HN3 := Lib.hid (HN2.out.fr F3 hbf)
  have HP3 := Lib.hid (HP2.out.fr (VT.kit d) F3 (fun q hq _ (e : q = f) => HNF.out (e ▸ hq)))
  have HB3 := Lib.hid B3
  have HF3 := Lib.hid (HF2.out.trans F3 (fun q _ (e : q = f) => .inr e))
  obtain ⟨ms, mxs, ss, sps, mps, Bs, Es⟩ := HP3.out.sum.node
  have hc0 := HZR.out.at_ (k := k)
  obtain ⟨h0', zs, rfl, rfl, hs1, _, hs3⟩ := Es.nonneg (fun e => Es.neg e _ hc0.smy)
  obtain ⟨l0, hl0, hl1⟩ := id hs1
  obtain ⟨c0, hM0⟩ := HP3.out.get (show Clu k (Rest S x) h0' l0 from ⟨hl0, hl1⟩)
  have HC0 := Lib.hid (HP3.out.clu h0' c0 hM0).2
  have hh0 := Lib.hid (HP3.out.clu h0' c0 hM0).1
  obtain ⟨mc0, mxc0, sc0, spc0, mpc0, Bc0, Ec0⟩ := HC0.out.node
  obtain ⟨m0, zc0, rfl, rfl, hm1, _, hm3⟩ := Ec0.nonneg (fun e => Ec0.neg e l0 ⟨hl0, hl1⟩)
  have hmin := rest_min (fun q hq => (hs3 q hq).1) hm1 (fun q hq => (hm3 q hq).1)
  obtain ⟨y, hy⟩ : ∃ y, y = h0' * 2 ^ (k / 2) + m0 := ⟨_, rfl⟩
  have HYR : Hid (Rest S x y) := Lib.hid (by rw [hy]; exact hm1.2)
  have HC : Hid (RmC S x x y y) := Lib.hid (.inr ⟨rfl, rfl, by rw [hy]; exact hmin⟩)
  have Hy := Lib.hid hy
  have hml0 := Lib.hid hm1.1
  have HBc0 := Lib.hid Bc0
  have hcf0 : c0 ≠ f := fun e => HNF.out (HP2.out.cN h0' f (e ▸ HC0.out.nb))
  have hwf0 := Lib.hid (wfN (h40 hk20 hh0.out))
  have hv0 := Lib.hid (show (ptrM M (h0' : Int)).getD (.pointer none) = .pointer (some ⟨c0, 0, none⟩) by rw [ptrM_nat, hM0]; rfl)
  have ys : w3.cell? ⟨sb, 1, none⟩ = some (.int .i64 h0') := Bs.cell (i := 1) rfl
  clear B3 F3 HN2 HP2 HB2 HF2 y1 y4 hc0 hs1 hs3 hl0 hl1 hM0 hm1 hm3 hmin hy Bs Es Bc0 Ec0
  have y5 : w3.cell? ⟨b, 5, none⟩ = some (.map (some mb)) := HN3.out.cell (i := 5) rfl
  go_wp2_with (at_lookup; refine wpMapLookP HP3.out.map hwf0.out _ hv0.out rfl rfl ?_)
  refine (look_any _ HB3.out (by omega) (by omega)).mono ?_
  rintro e w4 ⟨rfl, B4, F4⟩
  have HN4 := Lib.hid (HN3.out.fr F4 hbf)
  have HP4 := Lib.hid (HP3.out.fr (VT.kit d) F4 (fun q hq _ (e : q = f) => HNF.out (e ▸ hq)))
  have HB4 := Lib.hid B4
  have HF4 := Lib.hid (HF3.out.trans F4 (fun q _ (e : q = f) => .inr e))
  have yc : w4.cell? ⟨c0, 1, none⟩ = some (.int .i64 m0) := (HBc0.out.fr F4 hcf0).cell (i := 1) rfl
  clear B4 F4 HN3 HP3 HB3 HF3 y5 ys
  go_wp2_with fail
  refine (join_any HN4.out hk20 hh0.out hml0.out).mono ?_
  rw [← Hy.out]
  rintro e w5 ⟨rfl, q5, rfl⟩
  have HN5 : Hid (Blk (w4.drewN q5) b 71 (ndC k x z 0 (some ⟨sb, 0, none⟩) (some mb))) := Lib.hid HN4.out
  have z1 := HN5.out.free 1
  have HP5 : Hid (Parts (VT d) (w4.drewN q5) k b sb mb nn M (Rest S x) N Ns Nc) := Lib.hid (HP4.out.fr (VT.kit d) ((Fr.refl F0 w4).drewN q5) (fun _ _ _ => id))
  have HB5 : Hid (Blk (w4.drewN q5) f 57 (stC k0 n (st + 1 + 1 + 1) rb)) := Lib.hid HB4.out
  have HF5 := Lib.hid (HF4.out.drewN q5)
  have y1 : (w4.drewN q5).cell? ⟨b, 1, none⟩ = some (.int .i64 x) := HN5.out.cell (i := 1) rfl
  clear HN4 HP4 HB4 HF4 yc
  generalize w4.drewN q5 = w5 at *
  go_wp2_with fail
  have HNw : Hid (Blk (w5.setCell ⟨b, 1, none⟩ (.int .i64 y)) b 71 (ndC k y z 0 (some ⟨sb, 0, none⟩) (some mb))) := Lib.hid (HN5.out.set 1 _)
  have HBw1 : Hid (Blk (w5.setCell ⟨b, 1, none⟩ (.int .i64 y)) f 57 (stC k0 n (st + 1 + 1 + 1) rb)) := Lib.hid (HB5.out.other (p := ⟨b, 1, none⟩) (Ne.symm hbf) _)
  have HPw := Lib.hid (HP5.out.fr (VT.kit d) ((Fr.refl (onB b) w5).setB 1 (.int .i64 y)) (fun q _ h1 h2 => h1 h2))
  have HFw := Lib.hid (HF5.out.trans ((Fr.refl (onB b) w5).setB 1 (.int .i64 y)) (fun q _ (e : q = b) => .inl (e ▸ HT.out.nb)))
  clear HN5 HP5 HB5 HF5 y1 z1
  generalize w5.setCell ⟨b, 1, none⟩ (.int .i64 y) = ww at *
  obtain ⟨sw, HBw, hsw1, hsw2⟩ : ∃ sw, Hid (Blk ww f 57 (stC k0 n sw rb)) ∧ st < sw ∧ sw ≤ st + 3 := ⟨_, HBw1, by omega, by omega⟩
  clear HBw1
  have HyK := Lib.hid (HLim.out _ HYR.out.1)
  refine (split_any HNw.out hk20 HyK.out).mono ?_
  rintro e w2 ⟨rfl, q2, rfl⟩
  have hyh := hi_lt HyK.out
  have hyl := lo_lt (k := k) (y := y)
  have hyy := hi_lo k y
  generalize y / 2 ^ (k / 2) = h at *
  generalize y % 2 ^ (k / 2) = l at *
  have HY := Lib.hid (And.intro hyh (And.intro hyl hyy))
  have hwf := Lib.hid (wfN (h40 hk20 hyh))
  clear hyh hyl hyy
  have HN2 : Hid (Blk (ww.drewN q2) b 71 (ndC k y z 0 (some ⟨sb, 0, none⟩) (some mb))) := Lib.hid HNw.out
  have HP2 : Hid (Parts (VT d) (ww.drewN q2) k b sb mb nn M (Rest S x) N Ns Nc) := Lib.hid (HPw.out.fr (VT.kit d) ((Fr.refl F0 ww).drewN q2) (fun _ _ _ => id))
  have HB2 : Hid (Blk (ww.drewN q2) f 57 (stC k0 n sw rb)) := Lib.hid HBw.out
  have HF2 := Lib.hid (HFw.out.drewN q2)
  clear HNw HPw HBw HFw
  generalize ww.drewN q2 = w2 at *
  have HCl := Lib.hid (show Clu k (Rest S x) h l from ⟨HY.out.2.1, by rw [HY.out.2.2]; exact HYR.out⟩)
  obtain ⟨c, hM⟩ := HP2.out.get HCl.out
  have HM := Lib.hid hM
  have hv := Lib.hid (show (ptrM M (h : Int)).getD (.pointer none) = .pointer (some ⟨c, 0, none⟩) by rw [ptrM_nat, hM]; rfl)
  clear hM
  have y5 : w2.cell? ⟨b, 5, none⟩ = some (.map (some mb)) := HN2.out.cell (i := 5) rfl
  go_wp2_with (at_lookup; refine wpMapLookP HP2.out.map hwf.out _ hv.out rfl rfl ?_)
  refine (IH _ _ _ _ _ _ _ _ _ _ _ (HP2.out.clu h c HM.out).2 HCl.out HB2.out (fun e => HNF.out (HP2.out.cN h _ e)) (by omega) (by omega) (by omega)).mono ?_
  rintro e w5 ⟨st5, rfl, T5, g1, g2, B5, F5, g5⟩
  have HT5 := Lib.hid T5
  have HF5 := Lib.hid F5
  have HB5 := Lib.hid B5
  have HN5 := Lib.hid (HN2.out.fr F5 (fun e => e.elim (HP2.out.cb h) hbf))
  have HS5 := Lib.hid (HP2.out.sum.fr F5 (fun q hq e => e.elim (fun e => HP2.out.sc h q hq e) (fun (e : q = f) => HNF.out (e ▸ HP2.out.sN q hq))))
  obtain ⟨mc, mxc, sc, spc, mpc, Bc, Ec⟩ := HT5.out.node
  have HEc := Lib.hid Ec
  have yc : w5.cell? ⟨c, 1, none⟩ = some (.int .i64 mc) := Bc.cell (i := 1) rfl
  have y4 : w5.cell? ⟨b, 4, none⟩ = some (.pointer (some ⟨sb, 0, none⟩)) := HN5.out.cell (i := 4) rfl
  clear T5 F5 B5 Bc Ec y5
  by_cases hm : mc < 0
  · have HNo := Lib.hid (HEc.out.neg hm)
    have h51 : st5 = sw + 1 := g5 (fun q hq => Decidable.byContradiction fun e => HNo.out q ⟨hq, e⟩)
    go_wp2_with fail
    refine (IH _ _ _ _ _ _ _ _ _ _ _ HS5.out HCl.out.smy HB5.out (fun e => HNF.out (HP2.out.sN _ e)) (by omega) (by omega) (by omega)).mono ?_
    rintro e w6 ⟨st6, rfl, T6, g3, g4, B6, F6, _⟩
    have HP6 := Lib.hid (HP2.out.rm HM.out HY.out.2.1 HY.out.2.2 (F := fun q => (Nc h q ∨ q = f) ∨ (Ns q ∨ q = f)) ((HF5.out.mono (fun _ _ => .inl)).trans F6 (fun _ _ => .inr))
      (fun q e _ => e.elim (fun e => e.elim (fun e => .inr (.inl e)) (fun e => .inr (.inr (e ▸ HNF.out)))) (fun e => e.elim .inl (fun e => .inr (.inr (e ▸ HNF.out)))))
      (T6.ext (fun q => (Smy.rm_all HY.out.2.1 HY.out.2.2 HNo.out q).symm)) (HT5.out.fr F6 (fun q hq e => e.elim (fun e => HP2.out.sc h q e hq) (fun (e : q = f) => HNF.out (e ▸ HP2.out.cN h q hq)))))
    have HN6 := Lib.hid (HN5.out.fr F6 (fun e => e.elim HP2.out.sb hbf))
    have HF6 : Hid (Fr (fun q => N q ∨ q = f) w w6) := Lib.hid ((HF2.out.trans HF5.out (fun q _ e => e.elim (fun e => .inl (HP2.out.cN h q e)) .inr)).trans F6 (fun q _ e => e.elim (fun e => .inl (HP2.out.sN q e)) .inr))
    have HB6 := Lib.hid B6
    clear T6 F6 B6 yc y4
    by_cases hyz : y = z
    · have HZ := Lib.hid hyz
      have y2 : w6.cell? ⟨b, 2, none⟩ = some (.int .i64 y) := by rw [hyz]; exact HN6.out.cell (i := 2) rfl
      have y4 : w6.cell? ⟨b, 4, none⟩ = some (.pointer (some ⟨sb, 0, none⟩)) := HN6.out.cell (i := 4) rfl
      clear hyz
      go_wp2_with fail
      refine (look_any _ HB6.out (by omega) (by omega)).mono ?_
      rintro e w7 ⟨rfl, B7, F7⟩
      have HN7 := Lib.hid (HN6.out.fr F7 hbf)
      have HP7 := Lib.hid (HP6.out.fr (VT.kit d) F7 (fun q hq _ (e : q = f) => HNF.out (e ▸ hq)))
      have HB7 := Lib.hid B7
      have HF7 := Lib.hid (F7.mono (S' := fun q => q = b ∨ q = f) (fun q _ (e : q = f) => .inr e))
      obtain ⟨ms, mxs, ss, sps, mps, Bs, Es⟩ := HP7.out.sum.node
      have ys : w7.cell? ⟨sb, 2, none⟩ = some (.int .i64 mxs) := Bs.cell (i := 2) rfl
      have HEs := Lib.hid Es
      have z2 := HN7.out.free 2
      clear B7 F7 Bs Es y2 y4
      by_cases hmm : mxs < 0
      · have Hno := Lib.hid (show ∀ q, ¬ (Rest S x q ∧ q ≠ y) from fun q hq => by
          rcases HEs.out with ⟨e, _, _⟩ | ⟨_, _, _, e, _⟩
          · exact e _ (Clu.smy (k := k) (l := q % 2 ^ (k / 2)) (h := q / 2 ^ (k / 2)) ⟨lo_lt, by rw [hi_lo]; exact hq⟩)
          · omega)
        have y1 : w7.cell? ⟨b, 1, none⟩ = some (.int .i64 y) := HN7.out.cell (i := 1) rfl
        have y2 : w7.cell? ⟨b, 2, none⟩ = some (.int .i64 z) := HN7.out.cell (i := 2) rfl
        go_wp2_with fail
        go_end0
        exact RmP.fin (t := y) hk hk7 hk20 HNF.out HT.out.nb HE.out.1 HE.out.2.1 HE.out.2.2 haz HLim.out HYR.out HC.out (.inr (.inl ⟨Hno.out, rfl⟩)) HP6.out (HF7.out.trans ((Fr.refl (onB b) w7).setB 2 _) (fun q _ e => .inl e)) (HN7.out.set 2 _) (HB7.out.other (p := ⟨b, 2, none⟩) (Ne.symm hbf) _) HF6.out (by omega) (by omega)
      · obtain ⟨us, m, rfl, rfl, _, hs2, hs3⟩ := HEs.out.nonneg (show ¬ ms < 0 by rcases HEs.out with ⟨_, _, e⟩ | ⟨_, _, e, _⟩ <;> omega)
        obtain ⟨l0, hl0, hl1⟩ := id hs2
        obtain ⟨c0, hM0⟩ := HP7.out.get (show Clu k (fun q => Rest S x q ∧ q ≠ y) m l0 from ⟨hl0, hl1⟩)
        have HC0 := Lib.hid (HP7.out.clu m c0 hM0).2
        have hh0 := Lib.hid (HP7.out.clu m c0 hM0).1
        obtain ⟨mc0, mxc0, sc0, spc0, mpc0, Bc0, Ec0⟩ := HC0.out.node
        obtain ⟨uc, lm, rfl, rfl, _, hm2, hm3⟩ := Ec0.nonneg (fun e => Ec0.neg e l0 ⟨hl0, hl1⟩)
        have hmax := rest_max (fun q hq => (hs3 q hq).2) hm2 (fun q hq => (hm3 q hq).2)
        obtain ⟨t, ht⟩ : ∃ t, t = m * 2 ^ (k / 2) + lm := ⟨_, rfl⟩
        have Ht := Lib.hid ht
        have HTT : Hid ((Rest S x t ∧ t ≠ y) ∧ ∀ q, Rest S x q ∧ q ≠ y → q ≤ t) := Lib.hid (by rw [ht]; exact ⟨hm2.2, hmax⟩)
        have hml0 := Lib.hid hm2.1
        have HBc0 := Lib.hid Bc0
        have hcf0 : c0 ≠ f := fun e => HNF.out (HP7.out.cN m f (e ▸ HC0.out.nb))
        have hwf0 := Lib.hid (wfN (h40 hk20 hh0.out))
        have hv0 := Lib.hid (show (ptrM M (m : Int)).getD (.pointer none) = .pointer (some ⟨c0, 0, none⟩) by rw [ptrM_nat, hM0]; rfl)
        clear hs2 hs3 hl0 hl1 hM0 hm2 hm3 hmax ht Bc0 Ec0
        have y5 : w7.cell? ⟨b, 5, none⟩ = some (.map (some mb)) := HN7.out.cell (i := 5) rfl
        go_wp2_with (at_lookup; refine wpMapLookP HP7.out.map hwf0.out _ hv0.out rfl rfl ?_)
        refine (look_any _ HB7.out (by omega) (by omega)).mono ?_
        rintro e w8 ⟨rfl, B8, F8⟩
        have HN8 := Lib.hid (HN7.out.fr F8 hbf)
        have HB8 := Lib.hid B8
        have HF8 := Lib.hid (HF7.out.trans F8 (fun q _ (e : q = f) => .inr e))
        have yc : w8.cell? ⟨c0, 2, none⟩ = some (.int .i64 lm) := (HBc0.out.fr F8 hcf0).cell (i := 2) rfl
        clear B8 F8 y5 ys z2
        go_wp2_with fail
        refine (join_any HN8.out hk20 hh0.out hml0.out).mono ?_
        rw [← Ht.out]
        rintro e w9 ⟨rfl, q9, rfl⟩
        have HN9 : Hid (Blk (w8.drewN q9) b 71 (ndC k y z 0 (some ⟨sb, 0, none⟩) (some mb))) := Lib.hid HN8.out
        have y2 : (w8.drewN q9).cell? ⟨b, 2, none⟩ = some (.int .i64 z) := HN9.out.cell (i := 2) rfl
        have z2 := HN9.out.free 2
        have HB9 := Lib.hid (HB8.out.fr ((Fr.refl F0 w8).drewN q9) id)
        have HF9 := Lib.hid (HF8.out.drewN q9)
        generalize w8.drewN q9 = w9 at *
        go_wp2_with fail
        go_end0
        exact RmP.fin hk hk7 hk20 HNF.out HT.out.nb HE.out.1 HE.out.2.1 HE.out.2.2 haz HLim.out HYR.out HC.out (.inr (.inr HTT.out)) HP6.out (HF9.out.trans ((Fr.refl (onB b) w9).setB 2 _) (fun q _ e => .inl e)) (HN9.out.set 2 _) (HB9.out.other (p := ⟨b, 2, none⟩) (Ne.symm hbf) _) HF6.out (by omega) (by omega)
    · have y2 : w6.cell? ⟨b, 2, none⟩ = some (.int .i64 z) := HN6.out.cell (i := 2) rfl
      have hyz' : ((y : Int) == (z : Int)) = false := by simp; omega
      go_wp2_with fail
      go_end0
      exact RmP.fin hk hk7 hk20 HNF.out HT.out.nb HE.out.1 HE.out.2.1 HE.out.2.2 haz HLim.out HYR.out HC.out (.inl ⟨hyz, rfl⟩) HP6.out (Fr.refl _ w6) HN6.out HB6.out HF6.out (by omega) (by omega)
  · have HNo := Lib.hid (show ∃ q, Clu k (Rest S x) h q ∧ q ≠ l by
      obtain ⟨q, _, _, _, e, _⟩ := HEc.out.nonneg hm
      exact ⟨q, e⟩)
    have HP6 := Lib.hid (HP2.out.rm HM.out HY.out.2.1 HY.out.2.2 HF5.out (fun q e _ => e.elim (fun e => .inr (.inl e)) (fun e => .inr (.inr (e ▸ HNF.out)))) (HS5.out.ext (fun q => (Smy.rm_some HY.out.2.1 HY.out.2.2 HNo.out q).symm)) HT5.out)
    have HF6 : Hid (Fr (fun q => N q ∨ q = f) w w5) := Lib.hid (HF2.out.trans HF5.out (fun q _ e => e.elim (fun e => .inl (HP2.out.cN h q e)) .inr))
    have HN6 := HN5
    have HB6 := HB5
    have yc6 := yc
    clear HN5 HB5 yc HF5 HS5 HT5 y4
    generalize w5 = w6 at *
    by_cases hyz : y = z
    · have HZ := Lib.hid hyz
      have y2 : w6.cell? ⟨b, 2, none⟩ = some (.int .i64 y) := by rw [hyz]; exact HN6.out.cell (i := 2) rfl
      have y4 : w6.cell? ⟨b, 4, none⟩ = some (.pointer (some ⟨sb, 0, none⟩)) := HN6.out.cell (i := 4) rfl
      clear hyz
      go_wp2_with fail
      refine (look_any _ HB6.out (by omega) (by omega)).mono ?_
      rintro e w7 ⟨rfl, B7, F7⟩
      have HN7 := Lib.hid (HN6.out.fr F7 hbf)
      have HP7 := Lib.hid (HP6.out.fr (VT.kit d) F7 (fun q hq _ (e : q = f) => HNF.out (e ▸ hq)))
      have HB7 := Lib.hid B7
      have HF7 := Lib.hid (F7.mono (S' := fun q => q = b ∨ q = f) (fun q _ (e : q = f) => .inr e))
      obtain ⟨ms, mxs, ss, sps, mps, Bs, Es⟩ := HP7.out.sum.node
      have ys : w7.cell? ⟨sb, 2, none⟩ = some (.int .i64 mxs) := Bs.cell (i := 2) rfl
      have HEs := Lib.hid Es
      have z2 := HN7.out.free 2
      clear B7 F7 Bs Es y2 y4
      by_cases hmm : mxs < 0
      · have Hno := Lib.hid (show ∀ q, ¬ (Rest S x q ∧ q ≠ y) from fun q hq => by
          rcases HEs.out with ⟨e, _, _⟩ | ⟨_, _, _, e, _⟩
          · exact e _ (Clu.smy (k := k) (l := q % 2 ^ (k / 2)) (h := q / 2 ^ (k / 2)) ⟨lo_lt, by rw [hi_lo]; exact hq⟩)
          · omega)
        have y1 : w7.cell? ⟨b, 1, none⟩ = some (.int .i64 y) := HN7.out.cell (i := 1) rfl
        have y2 : w7.cell? ⟨b, 2, none⟩ = some (.int .i64 z) := HN7.out.cell (i := 2) rfl
        go_wp2_with fail
        go_end0
        exact RmP.fin (t := y) hk hk7 hk20 HNF.out HT.out.nb HE.out.1 HE.out.2.1 HE.out.2.2 haz HLim.out HYR.out HC.out (.inr (.inl ⟨Hno.out, rfl⟩)) HP6.out (HF7.out.trans ((Fr.refl (onB b) w7).setB 2 _) (fun q _ e => .inl e)) (HN7.out.set 2 _) (HB7.out.other (p := ⟨b, 2, none⟩) (Ne.symm hbf) _) HF6.out (by omega) (by omega)
      · obtain ⟨us, m, rfl, rfl, _, hs2, hs3⟩ := HEs.out.nonneg (show ¬ ms < 0 by rcases HEs.out with ⟨_, _, e⟩ | ⟨_, _, e, _⟩ <;> omega)
        obtain ⟨l0, hl0, hl1⟩ := id hs2
        obtain ⟨c0, hM0⟩ := HP7.out.get (show Clu k (fun q => Rest S x q ∧ q ≠ y) m l0 from ⟨hl0, hl1⟩)
        have HC0 := Lib.hid (HP7.out.clu m c0 hM0).2
        have hh0 := Lib.hid (HP7.out.clu m c0 hM0).1
        obtain ⟨mc0, mxc0, sc0, spc0, mpc0, Bc0, Ec0⟩ := HC0.out.node
        obtain ⟨uc, lm, rfl, rfl, _, hm2, hm3⟩ := Ec0.nonneg (fun e => Ec0.neg e l0 ⟨hl0, hl1⟩)
        have hmax := rest_max (fun q hq => (hs3 q hq).2) hm2 (fun q hq => (hm3 q hq).2)
        obtain ⟨t, ht⟩ : ∃ t, t = m * 2 ^ (k / 2) + lm := ⟨_, rfl⟩
        have Ht := Lib.hid ht
        have HTT : Hid ((Rest S x t ∧ t ≠ y) ∧ ∀ q, Rest S x q ∧ q ≠ y → q ≤ t) := Lib.hid (by rw [ht]; exact ⟨hm2.2, hmax⟩)
        have hml0 := Lib.hid hm2.1
        have HBc0 := Lib.hid Bc0
        have hcf0 : c0 ≠ f := fun e => HNF.out (HP7.out.cN m f (e ▸ HC0.out.nb))
        have hwf0 := Lib.hid (wfN (h40 hk20 hh0.out))
        have hv0 := Lib.hid (show (ptrM M (m : Int)).getD (.pointer none) = .pointer (some ⟨c0, 0, none⟩) by rw [ptrM_nat, hM0]; rfl)
        clear hs2 hs3 hl0 hl1 hM0 hm2 hm3 hmax ht Bc0 Ec0
        have y5 : w7.cell? ⟨b, 5, none⟩ = some (.map (some mb)) := HN7.out.cell (i := 5) rfl
        go_wp2_with (at_lookup; refine wpMapLookP HP7.out.map hwf0.out _ hv0.out rfl rfl ?_)
        refine (look_any _ HB7.out (by omega) (by omega)).mono ?_
        rintro e w8 ⟨rfl, B8, F8⟩
        have HN8 := Lib.hid (HN7.out.fr F8 hbf)
        have HB8 := Lib.hid B8
        have HF8 := Lib.hid (HF7.out.trans F8 (fun q _ (e : q = f) => .inr e))
        have yc : w8.cell? ⟨c0, 2, none⟩ = some (.int .i64 lm) := (HBc0.out.fr F8 hcf0).cell (i := 2) rfl
        clear B8 F8 y5 ys z2
        go_wp2_with fail
        refine (join_any HN8.out hk20 hh0.out hml0.out).mono ?_
        rw [← Ht.out]
        rintro e w9 ⟨rfl, q9, rfl⟩
        have HN9 : Hid (Blk (w8.drewN q9) b 71 (ndC k y z 0 (some ⟨sb, 0, none⟩) (some mb))) := Lib.hid HN8.out
        have y2 : (w8.drewN q9).cell? ⟨b, 2, none⟩ = some (.int .i64 z) := HN9.out.cell (i := 2) rfl
        have z2 := HN9.out.free 2
        have HB9 := Lib.hid (HB8.out.fr ((Fr.refl F0 w8).drewN q9) id)
        have HF9 := Lib.hid (HF8.out.drewN q9)
        generalize w8.drewN q9 = w9 at *
        go_wp2_with fail
        go_end0
        exact RmP.fin hk hk7 hk20 HNF.out HT.out.nb HE.out.1 HE.out.2.1 HE.out.2.2 haz HLim.out HYR.out HC.out (.inr (.inr HTT.out)) HP6.out (HF9.out.trans ((Fr.refl (onB b) w9).setB 2 _) (fun q _ e => .inl e)) (HN9.out.set 2 _) (HB9.out.other (p := ⟨b, 2, none⟩) (Ne.symm hbf) _) HF6.out (by omega) (by omega)
    · have y2 : w6.cell? ⟨b, 2, none⟩ = some (.int .i64 z) := HN6.out.cell (i := 2) rfl
      have hyz' : ((y : Int) == (z : Int)) = false := by simp; omega
      go_wp2_with fail
      go_end0
      exact RmP.fin hk hk7 hk20 HNF.out HT.out.nb HE.out.1 HE.out.2.1 HE.out.2.2 haz HLim.out HYR.out HC.out (.inl ⟨hyz, rfl⟩) HP6.out (Fr.refl _ w6) HN6.out HB6.out HF6.out (by omega) (by omega)
theorem remove_any : ∀ d, RmAt d
  | 0 => fun w f k0 n rb k b x S N st T hx hf hnf h0 h9 _ => by
    obtain ⟨mn, mx, set, T⟩ := T
    exact rm_small T hx hf hnf h0 (by omega)
  | d + 1 => fun w f k0 n rb k b x S N st T hx hf hnf h0 h9 hd => by
    rcases T with ⟨mn, mx, set, T⟩ | ⟨hk, mn, mx, sp, mp, T⟩
    · exact rm_small T hx hf hnf h0 (by omega)
    · obtain ⟨a, z, rfl, rfl, _⟩ := T.ends.nonneg (fun e => T.ends.neg e x hx)
      by_cases haz : a = z
      · subst haz
        exact rm_one hk T hx hf hnf h0 (by omega)
      · by_cases hxa : x = a
        · exact rm_min (remove_any d) hk T hx hxa haz hf hnf h0 h9 hd
        · exact rm_rest (remove_any d) hk T hx hxa haz hf hnf h0 h9 hd
end Go.Proofs.Ytohblajdeicfeaa
