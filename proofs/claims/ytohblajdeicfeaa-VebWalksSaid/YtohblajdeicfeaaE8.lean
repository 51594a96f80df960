/- insert: into a tree with a summary and clusters. -/
import Derived.Test.YtohblajdeicfeaaE7
namespace Go.Proofs.Ytohblajdeicfeaa
open Go.RowKit
attribute [local go_sem ↓] Go.wp_at_zero Go.wp_at_succ
/-- No summary and no clusters yet, or such that lie there. -/
def PD (d : Nat) (w : World) (k b : Nat) (R N : Nat → Prop) (sp : Option Addr) (mp : Option Nat) : Prop :=
  (sp = none ∧ mp = none ∧ ∀ x, ¬ R x) ∨ ∃ sb mb n M Ns Nc, sp = some ⟨sb, 0, none⟩ ∧ mp = some mb ∧ Parts (VT d) w k b sb mb n M R N Ns Nc
theorem PD.fr {d : Nat} {w w' : World} {k b : Nat} {R N F : Nat → Prop} {sp : Option Addr} {mp : Option Nat} (h : PD d w k b R N sp mp) (f : Fr F w w') (hF : ∀ q, N q → q ≠ b → ¬ F q) : PD d w' k b R N sp mp := by
  rcases h with h | ⟨sb, mb, n, M, Ns, Nc, h1, h2, h3⟩
  · exact .inl h
  · exact .inr ⟨sb, mb, n, M, Ns, Nc, h1, h2, h3.fr (VT.kit d) f hF⟩
theorem max_of {a b c : Int} (h : a ≤ c) (h' : b ≤ c) (e : c = a ∨ c = b) : max a b = c := by omega
set_option maxRecDepth 100000 in
set_option maxHeartbeats 4000000 in
theorem ins_more {d : Nat} (IH : InsAt d) {w : World} {f k0 n rb k b x a : Nat} {S N : Nat → Prop} {st mx : Int} {sp : Option Addr} {mp : Option Nat} (hk : k ≤ 6 * 2 ^ (d + 1)) (T : Bg (VT d) w k b S N a mx sp mp) (hx : x < 2 ^ k) (ha : a < x) (hf : Blk w f 57 (stC k0 n st rb)) (hnf : ¬ N f) (h0 : 0 ≤ st) (h9 : st + 20 * ((d + 1 : Nat) : Int) ≤ 900) (hd2 : d + 1 ≤ 2) :
    Calls Try.prog 36 #[.pointer (some ⟨f, 0, none⟩), .pointer (some ⟨b, 0, none⟩), .int .i64 x] w (InP (d + 1) w f k0 n st rb k b S N x) := by
  have hbf : b ≠ f := fun e => hnf (e ▸ T.nb)
  have hflt : f < w.heap.size := lt_of_block hf
  have hk20 := T.k20
  have hk7 := T.k7
  obtain ⟨a', z, ea, rfl, hSa, hSz, hends⟩ := T.ends.nonneg (show ¬ ((a : Nat) : Int) < 0 by omega)
  obtain rfl : a = a' := by omega
  have HL := T.lim
  have hy : x < 2 ^ k := hx
  have HT := Lib.hid T
  have HX := Lib.hid (And.intro hnf (And.intro hSa (And.intro hSz (And.intro hends (And.intro hx hy)))))
  have HPD : Hid (PD d w k b (Rest S a) N sp mp) := Lib.hid T.parts
  have HHL := Lib.hid HL
  clear T hnf hSa hSz hends hx hy HL ea
  go_enter Try.func36, Try.ntmps36
  go_wp2_with fail
  refine (look_any _ hf h0 (by omega)).mono ?_
  rintro e w1 ⟨rfl, B1, F1⟩
  have HN1 := Lib.hid (HT.out.blk.fr F1 hbf)
  have HP1 := Lib.hid (HPD.out.fr F1 (fun q hq _ (e : q = f) => HX.out.1 (e ▸ hq)))
  have HF1 := Lib.hid F1
  have HB1 := Lib.hid B1
  have y1 : w1.cell? ⟨b, 1, none⟩ = some (.int .i64 a) := HN1.out.cell (i := 1) rfl
  have z1 := HN1.out.free 1
  clear B1 F1 hf HPD
  go_wp2_with (go_at_call 49; refine (small_no HN1.out hk7).mono ?_; rintro e w2 ⟨rfl, rfl⟩)
  have HNb := HN1
  have HBb := HB1
  have HPb := HP1
  have HFb := Lib.hid (HF1.out.mono (S' := fun q => N q ∨ q = f) (fun q _ (e : q = f) => .inr e))
  clear HN1 HB1 HP1 y1 z1 HF1
  generalize w1 = wb at *
  refine (split_any HNb.out hk20 HX.out.2.2.2.2.2).mono ?_
  rintro e w2 ⟨rfl, q2, rfl⟩
  have hyh := hi_lt HX.out.2.2.2.2.2
  have hyl := lo_lt (k := k) (y := x)
  have hyy := hi_lo k x
  generalize x / 2 ^ (k / 2) = h at *
  generalize x % 2 ^ (k / 2) = l at *
  have HY := Lib.hid (And.intro hyh (And.intro hyl hyy))
  clear hyh hyl hyy
  go_wp2_with fail
  have HNb2 : Hid (Blk (wb.drewN q2) b 71 (ndC k a z 0 sp mp)) := Lib.hid (HNb.out.fr ((Fr.refl F0 wb).drewN q2) id)
  have HPb2 : Hid (PD d (wb.drewN q2) k b (Rest S a) N sp mp) := Lib.hid (HPb.out.fr ((Fr.refl F0 wb).drewN q2) (fun _ _ _ => id))
  have HBb2 : Hid (Blk (wb.drewN q2) f 57 (stC k0 n (st + 1) rb)) := Lib.hid (HBb.out.fr ((Fr.refl F0 wb).drewN q2) id)
  have HFb2 := Lib.hid (HFb.out.drewN q2)
  clear HNb HPb HBb HFb
  generalize wb.drewN q2 = w2 at *
  have hsz2 := HFb2.out.size
  refine (parts_gen HNb2.out HT.out.nb (fun q hq => Nat.lt_of_lt_of_le (HT.out.lt q hq) hsz2) hk7 hk20 HPb2.out hk HY.out.1).mono ?_
  rintro e w3 ⟨sb, c, mb, nn, M, Ns, Nc, rfl, B3, P3, hM, F3⟩
  have HN3 := Lib.hid B3
  have HB3 := Lib.hid (HBb2.out.fr F3 HX.out.1)
  have HM := Lib.hid hM
  have HP3 := Lib.hid P3
  have hG : ¬ Grw N w2 w3 f := fun e => e.elim HX.out.1 (fun e => by omega)
  have hsz3 := F3.size
  have HF3 := Lib.hid (HFb2.out.trans F3 (fun q _ h => .inl h))
  have HG := Lib.hid hG
  have hcf : c ≠ f := fun e => hG (P3.cN h f (e ▸ (P3.clu h c hM).2.nb))
  have hbc : b ≠ c := fun e => P3.cb h (e ▸ (P3.clu h c hM).2.nb)
  clear B3 F3 hM P3 HNb2 HPb2 HBb2 hG
  go_wp2_with fail
  refine (look_any _ HB3.out (by omega) (by omega)).mono ?_
  rintro e w4 ⟨rfl, B4, F4⟩
  have HB4 := Lib.hid B4
  have HF4 := Lib.hid F4
  have HP4 := Lib.hid (HP3.out.fr (VT.kit d) F4 (fun q hq _ (e : q = f) => HG.out (e ▸ hq)))
  have HN4 := Lib.hid (HN3.out.fr F4 hbf)
  have HC4 := Lib.hid (HP4.out.clu h c HM.out).2
  obtain ⟨mc, mxc, sc, spc, mpc, Bc, Ec⟩ := HC4.out.node
  have yc : w4.cell? ⟨c, 1, none⟩ = some (.int .i64 mc) := Bc.cell (i := 1) rfl
  have HEc := Lib.hid Ec
  clear B4 F4 Bc Ec HP3 HN3 HB3
  have hsz4 := HF4.out.size
  by_cases hm : mc < 0
  · have HE : Hid (∀ l, ¬ Clu k (Rest S a) h l) := Lib.hid (HEc.out.neg hm)
    go_wp2_with fail
    refine (IH _ _ _ _ _ _ _ _ _ _ _ HP4.out.sum (by simpa using HY.out.1) HB4.out (fun e => HG.out (HP4.out.sN _ e)) (by omega) (by omega) (by omega)).mono ?_
    rintro e w5 ⟨r5, st5, rfl, _, T5, g1, g2, B5, F5, _⟩
    have HT5 := Lib.hid T5
    have HB5 := Lib.hid B5
    have HF5 := Lib.hid F5
    have HC5 := Lib.hid (HC4.out.fr F5 (fun q hq e => e.elim (fun e => HP4.out.sc h q e hq) (fun (e : q = f) => HG.out (e ▸ HP4.out.cN h q hq))))
    clear T5 B5 F5
    have hsz5 := HF5.out.size
    go_wp2_with fail
    refine (IH _ _ _ _ _ _ _ _ _ _ _ HC5.out HY.out.2.1 HB5.out (fun e => HG.out (HP4.out.cN h _ e)) (by omega) (by omega) (by omega)).mono ?_
    rintro e w6 ⟨r6, st6, rfl, hr6, T6, g3, g4, B6, F6, g5⟩
    have hst : st6 = st5 + 1 := g5 HE.out
    have hsz6 := F6.size
    have HP6 : Hid (Parts (VT d) w6 k b sb mb nn M (fun y => Rest S a y ∨ y = h * 2 ^ (k / 2) + l) (Grw N w w6) (Grw Ns w4 w5) (fun x => if x = h then Grw (Nc h) w5 w6 else Nc x)) :=
      Lib.hid (HP4.out.ins HM.out HY.out.2.1 (F := fun q => (Ns q ∨ q = f) ∨ (Nc h q ∨ q = f)) ((HF5.out.mono (fun q _ e => .inl e)).trans F6 (fun q _ e => .inr e))
        (fun q e _ => by
          rcases e with (e | e) | (e | e)
          · exact .inl e
          · exact .inr (.inr (e ▸ HG.out))
          · exact .inr (.inl e)
          · exact .inr (.inr (e ▸ HG.out)))
        (HT5.out.fr F6 (fun q hq e => by
          rcases e with e | e
          · rcases hq with hq | hq
            · exact HP4.out.sc h q hq e
            · have := HP4.out.lt q (HP4.out.cN h q e); omega
          · rcases hq with hq | hq
            · exact HG.out (HP4.out.sN _ (e ▸ hq))
            · omega)) T6
        (fun q hq => hq.elim .inl (fun e => .inr e.1)) (fun q hq => hq.elim .inl (fun e => .inr (by omega)))
        (fun q h1 h2 => by
          rcases h1 with h1 | h1 <;> rcases h2 with h2 | h2
          · exact HP4.out.sc h q h1 h2
          · have := HP4.out.lt q (HP4.out.sN q h1); omega
          · have := HP4.out.lt q (HP4.out.cN h q h2); omega
          · omega)
        (fun q hq => hq.elim .inl (fun e => .inr (by omega)))
        (fun q hq => hq.elim (fun e => (HP4.out.sN q e).elim .inl (fun e => .inr (by omega))) (fun e => .inr (by omega)))
        (fun q hq => hq.elim (fun e => (HP4.out.cN h q e).elim .inl (fun e => .inr (by omega))) (fun e => .inr (by omega)))
        (Grw.lt HT.out.lt (by omega)))
    have HN6 := Lib.hid ((HN4.out.fr HF5.out (fun e => e.elim HP4.out.sb hbf)).fr F6 (fun e => e.elim (HP4.out.cb h) hbf))
    have HF6 : Hid (Fr (fun q => N q ∨ q = f) w w6) := Lib.hid (((HF3.out.trans HF4.out (fun q _ (e : q = f) => .inr e)).trans HF5.out (fun q q0 e => e.elim (fun e => (HP4.out.sN q e).elim .inl (fun e => by omega)) .inr)).trans F6 (fun q q0 e => e.elim (fun e => (HP4.out.cN h q e).elim .inl (fun e => by omega)) .inr))
    have hst6 : st6 ≤ st + 1 + 6 * ((d + 1 : Nat) : Int) := by omega
    have hst7 : st < st6 := by omega
    have HR6 := Lib.hid hr6
    have HB6 := Lib.hid B6
    clear hr6 T6 g3 g4 B6 F6 g5
    have y2 : w6.cell? ⟨b, 2, none⟩ = some (.int .i64 z) := HN6.out.cell (i := 2) rfl
    have z2 := HN6.out.free 2
    obtain ⟨t, HTT⟩ : ∃ t : Nat, Hid (max (z : Int) (x : Int) = (t : Int) ∧ z ≤ t ∧ x ≤ t ∧ (t = z ∨ t = x)) := ⟨max z x, Lib.hid (by omega)⟩
    have htt := HTT.out.1
    go_wp2_with fail
    go_ret
    exact InP.fin hk hk7 hk20 HT.out.nb hbf HT.out.lt (.inl ⟨ha, rfl, rfl⟩) HX.out.2.1 HX.out.2.2.1 HX.out.2.2.2.1 HX.out.2.2.2.2.1 HHL.out HY.out.2.1 HY.out.2.2 HTT.out.2 HP6.out (HN6.out.set 2 _) HB6.out HF6.out ((Fr.refl (onB b) w6).setB 2 _) HR6.out hst7 hst6
  · have HE : Hid (∃ l, Clu k (Rest S a) h l) := Lib.hid (by obtain ⟨q, _, _, _, hq, _⟩ := HEc.out.nonneg hm; exact ⟨q, hq⟩)
    go_wp2_with fail
    refine (IH _ _ _ _ _ _ _ _ _ _ _ HC4.out HY.out.2.1 HB4.out (fun e => HG.out (HP4.out.cN h _ e)) (by omega) (by omega) (by omega)).mono ?_
    rintro e w6 ⟨r6, st6, rfl, hr6, T6, g3, g4, B6, F6, g5⟩
    have hsz6 := F6.size
    have HP6 : Hid (Parts (VT d) w6 k b sb mb nn M (fun y => Rest S a y ∨ y = h * 2 ^ (k / 2) + l) (Grw N w w6) Ns (fun x => if x = h then Grw (Nc h) w4 w6 else Nc x)) :=
      Lib.hid (HP4.out.ins HM.out HY.out.2.1 F6
        (fun q e _ => by
          rcases e with e | e
          · exact .inr (.inl e)
          · exact .inr (.inr (e ▸ HG.out)))
        ((HP4.out.sum.fr F6 (fun q hq e => by
          rcases e with e | e
          · exact HP4.out.sc h q hq e
          · exact HG.out (HP4.out.sN _ (e ▸ hq)))).ext (fun y => ⟨.inl, fun e => e.elim id (fun e => by obtain ⟨m, hm1, hm2⟩ := HE.out; exact ⟨m, hm1, e ▸ hm2⟩)⟩)) T6
        (fun q hq => .inl hq) (fun q hq => hq.elim .inl (fun e => .inr e.1))
        (fun q h1 h2 => by
          rcases h2 with h2 | h2
          · exact HP4.out.sc h q h1 h2
          · have := HP4.out.lt q (HP4.out.sN q h1); omega)
        (fun q hq => hq.elim .inl (fun e => .inr (by omega)))
        (fun q hq => (HP4.out.sN q hq).elim .inl (fun e => .inr (by omega)))
        (fun q hq => hq.elim (fun e => (HP4.out.cN h q e).elim .inl (fun e => .inr (by omega))) (fun e => .inr (by omega)))
        (Grw.lt HT.out.lt (by omega)))
    have HN6 := Lib.hid (HN4.out.fr F6 (fun e => e.elim (HP4.out.cb h) hbf))
    have HF6 : Hid (Fr (fun q => N q ∨ q = f) w w6) := Lib.hid ((HF3.out.trans HF4.out (fun q _ (e : q = f) => .inr e)).trans F6 (fun q q0 e => e.elim (fun e => (HP4.out.cN h q e).elim .inl (fun e => by omega)) .inr))
    have hst6 : st6 ≤ st + 1 + 6 * ((d + 1 : Nat) : Int) := by omega
    have hst7 : st < st6 := by omega
    have HR6 := Lib.hid hr6
    have HB6 := Lib.hid B6
    clear hr6 T6 g3 g4 B6 F6 g5
    have y2 : w6.cell? ⟨b, 2, none⟩ = some (.int .i64 z) := HN6.out.cell (i := 2) rfl
    have z2 := HN6.out.free 2
    obtain ⟨t, HTT⟩ : ∃ t : Nat, Hid (max (z : Int) (x : Int) = (t : Int) ∧ z ≤ t ∧ x ≤ t ∧ (t = z ∨ t = x)) := ⟨max z x, Lib.hid (by omega)⟩
    have htt := HTT.out.1
    go_wp2_with fail
    go_ret
    exact InP.fin hk hk7 hk20 HT.out.nb hbf HT.out.lt (.inl ⟨ha, rfl, rfl⟩) HX.out.2.1 HX.out.2.2.1 HX.out.2.2.2.1 HX.out.2.2.2.2.1 HHL.out HY.out.2.1 HY.out.2.2 HTT.out.2 HP6.out (HN6.out.set 2 _) HB6.out HF6.out ((Fr.refl (onB b) w6).setB 2 _) HR6.out hst7 hst6
set_option maxRecDepth 100000 in
set_option maxHeartbeats 4000000 in
theorem ins_less {d : Nat} (IH : InsAt d) {w : World} {f k0 n rb k b x a : Nat} {S N : Nat → Prop} {st mx : Int} {sp : Option Addr} {mp : Option Nat} (hk : k ≤ 6 * 2 ^ (d + 1)) (T : Bg (VT d) w k b S N a mx sp mp) (hx : x < 2 ^ k) (ha : x < a) (hf : Blk w f 57 (stC k0 n st rb)) (hnf : ¬ N f) (h0 : 0 ≤ st) (h9 : st + 20 * ((d + 1 : Nat) : Int) ≤ 900) (hd2 : d + 1 ≤ 2) :
    Calls Try.prog 36 #[.pointer (some ⟨f, 0, none⟩), .pointer (some ⟨b, 0, none⟩), .int .i64 x] w (InP (d + 1) w f k0 n st rb k b S N x) := by
  have hbf : b ≠ f := fun e => hnf (e ▸ T.nb)
  have hflt : f < w.heap.size := lt_of_block hf
  have hk20 := T.k20
  have hk7 := T.k7
  obtain ⟨a', z, ea, rfl, hSa, hSz, hends⟩ := T.ends.nonneg (show ¬ ((a : Nat) : Int) < 0 by omega)
  obtain rfl : a = a' := by omega
  have HL := T.lim
  have hy : a < 2 ^ k := T.lim _ hSa
  have HT := Lib.hid T
  have HX := Lib.hid (And.intro hnf (And.intro hSa (And.intro hSz (And.intro hends (And.intro hx hy)))))
  have HPD : Hid (PD d w k b (Rest S a) N sp mp) := Lib.hid T.parts
  have HHL := Lib.hid HL
  clear T hnf hSa hSz hends hx hy HL ea
  go_enter Try.func36, Try.ntmps36
  go_wp2_with fail
  refine (look_any _ hf h0 (by omega)).mono ?_
  rintro e w1 ⟨rfl, B1, F1⟩
  have HN1 := Lib.hid (HT.out.blk.fr F1 hbf)
  have HP1 := Lib.hid (HPD.out.fr F1 (fun q hq _ (e : q = f) => HX.out.1 (e ▸ hq)))
  have HF1 := Lib.hid F1
  have HB1 := Lib.hid B1
  have y1 : w1.cell? ⟨b, 1, none⟩ = some (.int .i64 a) := HN1.out.cell (i := 1) rfl
  have z1 := HN1.out.free 1
  clear B1 F1 hf HPD
  go_wp2_with (go_at_call 49; refine (small_no HN1.out hk7).mono ?_; rintro e w2 ⟨rfl, rfl⟩)
  have HNb : Hid (Blk (w1.setCell ⟨b, 1, none⟩ (.int .i64 x)) b 71 (ndC k x z 0 sp mp)) := Lib.hid (HN1.out.set 1 _)
  have HBb : Hid (Blk (w1.setCell ⟨b, 1, none⟩ (.int .i64 x)) f 57 (stC k0 n (st + 1) rb)) := Lib.hid (HB1.out.other (p := ⟨b, 1, none⟩) (Ne.symm hbf) _)
  have HPb := Lib.hid (HP1.out.fr (Fr.setCell (S := onB b) (p := ⟨b, 1, none⟩) (Fr.refl _ _) (fun _ => rfl) (.int .i64 x)) (fun q _ h1 h2 => h1 h2))
  have HFb := Lib.hid ((HF1.out.mono (S' := fun q => N q ∨ q = f) (fun q _ (e : q = f) => .inr e)).setCell (p := ⟨b, 1, none⟩) (fun _ => .inl HT.out.nb) (.int .i64 x))
  clear HN1 HB1 HP1 y1 z1 HF1
  generalize w1.setCell ⟨b, 1, none⟩ (.int .i64 x) = wb at *
  refine (split_any HNb.out hk20 HX.out.2.2.2.2.2).mono ?_
  rintro e w2 ⟨rfl, q2, rfl⟩
  have hyh := hi_lt HX.out.2.2.2.2.2
  have hyl := lo_lt (k := k) (y := a)
  have hyy := hi_lo k a
  generalize a / 2 ^ (k / 2) = h at *
  generalize a % 2 ^ (k / 2) = l at *
  have HY := Lib.hid (And.intro hyh (And.intro hyl hyy))
  clear hyh hyl hyy
  go_wp2_with fail
  have HNb2 : Hid (Blk (wb.drewN q2) b 71 (ndC k x z 0 sp mp)) := Lib.hid (HNb.out.fr ((Fr.refl F0 wb).drewN q2) id)
  have HPb2 : Hid (PD d (wb.drewN q2) k b (Rest S a) N sp mp) := Lib.hid (HPb.out.fr ((Fr.refl F0 wb).drewN q2) (fun _ _ _ => id))
  have HBb2 : Hid (Blk (wb.drewN q2) f 57 (stC k0 n (st + 1) rb)) := Lib.hid (HBb.out.fr ((Fr.refl F0 wb).drewN q2) id)
  have HFb2 := Lib.hid (HFb.out.drewN q2)
  clear HNb HPb HBb HFb
  generalize wb.drewN q2 = w2 at *
  have hsz2 := HFb2.out.size
  refine (parts_gen HNb2.out HT.out.nb (fun q hq => Nat.lt_of_lt_of_le (HT.out.lt q hq) hsz2) hk7 hk20 HPb2.out hk HY.out.1).mono ?_
  rintro e w3 ⟨sb, c, mb, nn, M, Ns, Nc, rfl, B3, P3, hM, F3⟩
  have HN3 := Lib.hid B3
  have HB3 := Lib.hid (HBb2.out.fr F3 HX.out.1)
  have HM := Lib.hid hM
  have HP3 := Lib.hid P3
  have hG : ¬ Grw N w2 w3 f := fun e => e.elim HX.out.1 (fun e => by omega)
  have hsz3 := F3.size
  have HF3 := Lib.hid (HFb2.out.trans F3 (fun q _ h => .inl h))
  have HG := Lib.hid hG
  have hcf : c ≠ f := fun e => hG (P3.cN h f (e ▸ (P3.clu h c hM).2.nb))
  have hbc : b ≠ c := fun e => P3.cb h (e ▸ (P3.clu h c hM).2.nb)
  clear B3 F3 hM P3 HNb2 HPb2 HBb2 hG
  go_wp2_with fail
  refine (look_any _ HB3.out (by omega) (by omega)).mono ?_
  rintro e w4 ⟨rfl, B4, F4⟩
  have HB4 := Lib.hid B4
  have HF4 := Lib.hid F4
  have HP4 := Lib.hid (HP3.out.fr (VT.kit d) F4 (fun q hq _ (e : q = f) => HG.out (e ▸ hq)))
  have HN4 := Lib.hid (HN3.out.fr F4 hbf)
  have HC4 := Lib.hid (HP4.out.clu h c HM.out).2
  obtain ⟨mc, mxc, sc, spc, mpc, Bc, Ec⟩ := HC4.out.node
  have yc : w4.cell? ⟨c, 1, none⟩ = some (.int .i64 mc) := Bc.cell (i := 1) rfl
  have HEc := Lib.hid Ec
  clear B4 F4 Bc Ec HP3 HN3 HB3
  have hsz4 := HF4.out.size
  by_cases hm : mc < 0
  · have HE : Hid (∀ l, ¬ Clu k (Rest S a) h l) := Lib.hid (HEc.out.neg hm)
    go_wp2_with fail
    refine (IH _ _ _ _ _ _ _ _ _ _ _ HP4.out.sum (by simpa using HY.out.1) HB4.out (fun e => HG.out (HP4.out.sN _ e)) (by omega) (by omega) (by omega)).mono ?_
    rintro e w5 ⟨r5, st5, rfl, _, T5, g1, g2, B5, F5, _⟩
    have HT5 := Lib.hid T5
    have HB5 := Lib.hid B5
    have HF5 := Lib.hid F5
    have HC5 := Lib.hid (HC4.out.fr F5 (fun q hq e => e.elim (fun e => HP4.out.sc h q e hq) (fun (e : q = f) => HG.out (e ▸ HP4.out.cN h q hq))))
    clear T5 B5 F5
    have hsz5 := HF5.out.size
    go_wp2_with fail
    refine (IH _ _ _ _ _ _ _ _ _ _ _ HC5.out HY.out.2.1 HB5.out (fun e => HG.out (HP4.out.cN h _ e)) (by omega) (by omega) (by omega)).mono ?_
    rintro e w6 ⟨r6, st6, rfl, hr6, T6, g3, g4, B6, F6, g5⟩
    have hst : st6 = st5 + 1 := g5 HE.out
    have hsz6 := F6.size
    have HP6 : Hid (Parts (VT d) w6 k b sb mb nn M (fun y => Rest S a y ∨ y = h * 2 ^ (k / 2) + l) (Grw N w w6) (Grw Ns w4 w5) (fun x => if x = h then Grw (Nc h) w5 w6 else Nc x)) :=
      Lib.hid (HP4.out.ins HM.out HY.out.2.1 (F := fun q => (Ns q ∨ q = f) ∨ (Nc h q ∨ q = f)) ((HF5.out.mono (fun q _ e => .inl e)).trans F6 (fun q _ e => .inr e))
        (fun q e _ => by
          rcases e with (e | e) | (e | e)
          · exact .inl e
          · exact .inr (.inr (e ▸ HG.out))
          · exact .inr (.inl e)
          · exact .inr (.inr (e ▸ HG.out)))
        (HT5.out.fr F6 (fun q hq e => by
          rcases e with e | e
          · rcases hq with hq | hq
            · exact HP4.out.sc h q hq e
            · have := HP4.out.lt q (HP4.out.cN h q e); omega
          · rcases hq with hq | hq
            · exact HG.out (HP4.out.sN _ (e ▸ hq))
            · omega)) T6
        (fun q hq => hq.elim .inl (fun e => .inr e.1)) (fun q hq => hq.elim .inl (fun e => .inr (by omega)))
        (fun q h1 h2 => by
          rcases h1 with h1 | h1 <;> rcases h2 with h2 | h2
          · exact HP4.out.sc h q h1 h2
          · have := HP4.out.lt q (HP4.out.sN q h1); omega
          · have := HP4.out.lt q (HP4.out.cN h q h2); omega
          · omega)
        (fun q hq => hq.elim .inl (fun e => .inr (by omega)))
        (fun q hq => hq.elim (fun e => (HP4.out.sN q e).elim .inl (fun e => .inr (by omega))) (fun e => .inr (by omega)))
        (fun q hq => hq.elim (fun e => (HP4.out.cN h q e).elim .inl (fun e => .inr (by omega))) (fun e => .inr (by omega)))
        (Grw.lt HT.out.lt (by omega)))
    have HN6 := Lib.hid ((HN4.out.fr HF5.out (fun e => e.elim HP4.out.sb hbf)).fr F6 (fun e => e.elim (HP4.out.cb h) hbf))
    have HF6 : Hid (Fr (fun q => N q ∨ q = f) w w6) := Lib.hid (((HF3.out.trans HF4.out (fun q _ (e : q = f) => .inr e)).trans HF5.out (fun q q0 e => e.elim (fun e => (HP4.out.sN q e).elim .inl (fun e => by omega)) .inr)).trans F6 (fun q q0 e => e.elim (fun e => (HP4.out.cN h q e).elim .inl (fun e => by omega)) .inr))
    have hst6 : st6 ≤ st + 1 + 6 * ((d + 1 : Nat) : Int) := by omega
    have hst7 : st < st6 := by omega
    have HR6 := Lib.hid hr6
    have HB6 := Lib.hid B6
    clear hr6 T6 g3 g4 B6 F6 g5
    have y2 : w6.cell? ⟨b, 2, none⟩ = some (.int .i64 z) := HN6.out.cell (i := 2) rfl
    have z2 := HN6.out.free 2
    obtain ⟨t, HTT⟩ : ∃ t : Nat, Hid (max (z : Int) (a : Int) = (t : Int) ∧ z ≤ t ∧ a ≤ t ∧ (t = z ∨ t = a)) := ⟨max z a, Lib.hid (by omega)⟩
    have htt := HTT.out.1
    go_wp2_with fail
    go_ret
    exact InP.fin hk hk7 hk20 HT.out.nb hbf HT.out.lt (.inr ⟨ha, rfl, rfl⟩) HX.out.2.1 HX.out.2.2.1 HX.out.2.2.2.1 HX.out.2.2.2.2.1 HHL.out HY.out.2.1 HY.out.2.2 HTT.out.2 HP6.out (HN6.out.set 2 _) HB6.out HF6.out ((Fr.refl (onB b) w6).setB 2 _) HR6.out hst7 hst6
  · have HE : Hid (∃ l, Clu k (Rest S a) h l) := Lib.hid (by obtain ⟨q, _, _, _, hq, _⟩ := HEc.out.nonneg hm; exact ⟨q, hq⟩)
    go_wp2_with fail
    refine (IH _ _ _ _ _ _ _ _ _ _ _ HC4.out HY.out.2.1 HB4.out (fun e => HG.out (HP4.out.cN h _ e)) (by omega) (by omega) (by omega)).mono ?_
    rintro e w6 ⟨r6, st6, rfl, hr6, T6, g3, g4, B6, F6, g5⟩
    have hsz6 := F6.size
    have HP6 : Hid (Parts (VT d) w6 k b sb mb nn M (fun y => Rest S a y ∨ y = h * 2 ^ (k / 2) + l) (Grw N w w6) Ns (fun x => if x = h then Grw (Nc h) w4 w6 else Nc x)) :=
      Lib.hid (HP4.out.ins HM.out HY.out.2.1 F6
        (fun q e _ => by
          rcases e with e | e
          · exact .inr (.inl e)
          · exact .inr (.inr (e ▸ HG.out)))
        ((HP4.out.sum.fr F6 (fun q hq e => by
          rcases e with e | e
          · exact HP4.out.sc h q hq e
          · exact HG.out (HP4.out.sN _ (e ▸ hq)))).ext (fun y => ⟨.inl, fun e => e.elim id (fun e => by obtain ⟨m, hm1, hm2⟩ := HE.out; exact ⟨m, hm1, e ▸ hm2⟩)⟩)) T6
        (fun q hq => .inl hq) (fun q hq => hq.elim .inl (fun e => .inr e.1))
        (fun q h1 h2 => by
          rcases h2 with h2 | h2
          · exact HP4.out.sc h q h1 h2
          · have := HP4.out.lt q (HP4.out.sN q h1); omega)
        (fun q hq => hq.elim .inl (fun e => .inr (by omega)))
        (fun q hq => (HP4.out.sN q hq).elim .inl (fun e => .inr (by omega)))
        (fun q hq => hq.elim (fun e => (HP4.out.cN h q e).elim .inl (fun e => .inr (by omega))) (fun e => .inr (by omega)))
        (Grw.lt HT.out.lt (by omega)))
    have HN6 := Lib.hid (HN4.out.fr F6 (fun e => e.elim (HP4.out.cb h) hbf))
    have HF6 : Hid (Fr (fun q => N q ∨ q = f) w w6) := Lib.hid ((HF3.out.trans HF4.out (fun q _ (e : q = f) => .inr e)).trans F6 (fun q q0 e => e.elim (fun e => (HP4.out.cN h q e).elim .inl (fun e => by omega)) .inr))
    have hst6 : st6 ≤ st + 1 + 6 * ((d + 1 : Nat) : Int) := by omega
    have hst7 : st < st6 := by omega
    have HR6 := Lib.hid hr6
    have HB6 := Lib.hid B6
    clear hr6 T6 g3 g4 B6 F6 g5
    have y2 : w6.cell? ⟨b, 2, none⟩ = some (.int .i64 z) := HN6.out.cell (i := 2) rfl
    have z2 := HN6.out.free 2
    obtain ⟨t, HTT⟩ : ∃ t : Nat, Hid (max (z : Int) (a : Int) = (t : Int) ∧ z ≤ t ∧ a ≤ t ∧ (t = z ∨ t = a)) := ⟨max z a, Lib.hid (by omega)⟩
    have htt := HTT.out.1
    go_wp2_with fail
    go_ret
    exact InP.fin hk hk7 hk20 HT.out.nb hbf HT.out.lt (.inr ⟨ha, rfl, rfl⟩) HX.out.2.1 HX.out.2.2.1 HX.out.2.2.2.1 HX.out.2.2.2.2.1 HHL.out HY.out.2.1 HY.out.2.2 HTT.out.2 HP6.out (HN6.out.set 2 _) HB6.out HF6.out ((Fr.refl (onB b) w6).setB 2 _) HR6.out hst7 hst6
end Go.Proofs.Ytohblajdeicfeaa
