/- has. -/
import Derived.Test.YtohblajdeicfeaaE8
namespace Go.Proofs.Ytohblajdeicfeaa
open Go.RowKit
attribute [local go_sem ↓] Go.wp_at_zero Go.wp_at_succ
/-- 'm[k]' at the operation, m nil. -/
theorem wpMapLookNil {w : World} {k : Int} (hk : wfI k)
    {ops : Array Oper} {rest : List Oper} {act : Act} {Q : Exit → Act → World → Prop} {dst : Option Tmp} {ty : TypeId} {pos : String} {after : Array Edge} {m x : Operand}
    (hm : act.eval m = .map none) (hx : act.eval x = .int .i64 k)
    (K : wpList Try.prog ops Q rest (act.put dst (.pointer none)) w) :
    wpList Try.prog ops Q ({ dst, op := .lookup 69 m x false, type := ty, pos, after, guard := none } :: rest) act w := by
  refine wpList_plain rfl fun K' hK' => ?_
  have hrun := Maps.look_nil (w := w) false keyI T69 (zero55 w) (keyI_mk hk)
  unfold Oper.wp
  simp at hrun
  simp [execOp, hm, hx, hrun, Result.andThen]
  exact hK' _ _ K
def HasP (d : Nat) (w : World) (f k0 n : Nat) (st : Int) (rb : Nat) (S : Nat → Prop) (x : Nat) (e : Ending) (w' : World) : Prop :=
  ∃ (r : Bool) (st' : Int), e = .returned (.bool r) ∧ (r = true ↔ S x) ∧ st < st' ∧ st' ≤ st + 1 + d ∧ Blk w' f 57 (stC k0 n st' rb) ∧ Fr (onB f) w w'
/-- The bits of a tree's node. -/
noncomputable def bitsM (p : Value) (w : World) : Nat := match p with | .pointer (some a) => (match w.cell? a with | some (.int _ n) => n.toNat | _ => 0) | _ => 0
theorem bitsM_eq {w : World} {b k : Nat} {vs : List Value} (h : Blk w b 71 (.int .i64 k :: vs)) : bitsM (.pointer (some ⟨b, 0, none⟩)) w = k := by
  have := h.cell (i := 0) rfl
  unfold bitsM
  simp only [this]
  simp
set_option maxRecDepth 100000 in
set_option maxHeartbeats 4000000 in
theorem has_any {d0 : Nat} {w : World} {f k0 n rb k b x0 : Nat} {S N : Nat → Prop} {st : Int} (hT : VT d0 w k b S N) (hx : x0 < 2 ^ k) (hf : Blk w f 57 (stC k0 n st rb)) (hnf : ¬ N f) (h0 : 0 ≤ st) (h9 : st + 20 * d0 ≤ 900) :
    Calls Try.prog 38 #[.pointer (some ⟨f, 0, none⟩), .pointer (some ⟨b, 0, none⟩), .int .i64 x0] w (HasP d0 w f k0 n st rb S x0) := by
  have H0 := Lib.hid (And.intro hT (And.intro hx (And.intro hf hnf)))
  clear hT hx hf hnf
  go_enter Try.func38, Try.ntmps38
  go_wp2_with fail
  go_loopw [1, 2] (fun s1 s2 wr => ∃ (d k b x : Nat) (S' N' : Nat → Prop) (sr : Int), s1 = .pointer (some ⟨b, 0, none⟩) ∧ s2 = .int .i64 x ∧ Hid (VT d wr k b S' N') ∧ Hid (x < 2 ^ k) ∧ Hid (Blk wr f 57 (stC k0 n sr rb)) ∧ Hid (¬ N' f) ∧ Hid (S' x ↔ S x0) ∧ st ≤ sr ∧ sr + d ≤ st + d0 ∧ Hid (Fr (onB f) w wr)) (fun s1 _ wr => bitsM s1 wr)
  case atStart =>
    obtain ⟨hT, hx, hf, hnf⟩ := H0.out
    exact ⟨d0, k, b, x0, S, N, st, rfl, rfl, Lib.hid hT, Lib.hid hx, Lib.hid hf, Lib.hid hnf, Lib.hid Iff.rfl, Int.le_refl _, Int.le_refl _, Lib.hid (Fr.refl _ _)⟩
  case round =>
    obtain ⟨d, k', b', x, S', N', sr, rfl, rfl, HT, HX, HF, HNF, HS, hs1, hs2, HW⟩ := hrel
    clear H0
    have hbf : b' ≠ f := fun e => HNF.out (e ▸ HT.out.nb)
    rcases HT.out.cases with ⟨mn, mx, set, T⟩ | ⟨d', rfl, hk, mn, mx, sp, mp, T⟩
    · have hx6 := x64 T.k6 HX.out
      have hbit := bit_and set x T.lim
      have HT' := Lib.hid T
      have hk6 := T.k6
      have hsx := Lib.hid (show S x0 ↔ set.testBit x = true from HS.out.symm.trans ((T.bits x).trans ⟨fun e => e.2, fun e => ⟨HX.out, e⟩⟩))
      clear T
      go_wp2_with fail
      refine (look_any _ HF.out (by omega) (by omega)).mono ?_
      rintro e w1 ⟨rfl, B1, F1⟩
      have HB1 := Lib.hid B1
      have HF1 := Lib.hid F1
      have HN := Lib.hid (HT'.out.blk.fr F1 hbf)
      have y3 : w1.cell? ⟨b', 3, none⟩ = some (.int .u64 set) := HN.out.cell (i := 3) rfl
      clear B1 F1
      cases ht : set.testBit x with
      | true =>
        rw [if_pos ht] at hbit
        have HT3 := Lib.hid ht
        clear ht
        go_wp2_with (go_at_call 49; refine (small_yes HN.out hk6).mono ?_; rintro e w2 ⟨rfl, rfl⟩)
        go_ret
        exact ⟨true, sr + 1, rfl, by simp [hsx.out, HT3.out], by omega, by omega, HB1.out, HW.out.trans HF1.out (fun _ _ h => h)⟩
      | false =>
        rw [if_neg (by rw [ht]; decide)] at hbit
        have HT3 := Lib.hid ht
        clear ht
        go_wp2_with (go_at_call 49; refine (small_yes HN.out hk6).mono ?_; rintro e w2 ⟨rfl, rfl⟩)
        go_ret
        exact ⟨false, sr + 1, rfl, by simp [hsx.out, HT3.out], by omega, by omega, HB1.out, HW.out.trans HF1.out (fun _ _ h => h)⟩
    · have hk7 := T.k7
      have hk20 := T.k20
      have HT' := Lib.hid T
      have HPD : Hid (PD d' wr k' b' (Rest S' mn) N' sp mp) := Lib.hid T.parts
      clear T
      have hHk := Lib.hid hk
      clear hk
      go_wp2_with fail
      refine (look_any _ HF.out (by omega) (by omega)).mono ?_
      rintro e w1 ⟨rfl, B1, F1⟩
      have HB1 := Lib.hid B1
      have HF1 := Lib.hid F1
      have HN := Lib.hid (HT'.out.blk.fr F1 hbf)
      have HP1 := Lib.hid (HPD.out.fr F1 (fun q hq _ (e : q = f) => HNF.out (e ▸ hq)))
      have y1 : w1.cell? ⟨b', 1, none⟩ = some (.int .i64 mn) := HN.out.cell (i := 1) rfl
      have y2 : w1.cell? ⟨b', 2, none⟩ = some (.int .i64 mx) := HN.out.cell (i := 2) rfl
      have y5 : w1.cell? ⟨b', 5, none⟩ = some (.map mp) := HN.out.cell (i := 5) rfl
      have HW1 := Lib.hid (HW.out.trans HF1.out (fun _ _ h => h))
      clear B1 F1 HPD
      by_cases hm : mn < 0
      · have hno := Lib.hid (HT'.out.ends.neg hm)
        go_wp2_with (go_at_call 49; refine (small_no HN.out hk7).mono ?_; rintro e w2 ⟨rfl, rfl⟩)
        go_ret
        exact ⟨false, sr + 1, rfl, ⟨(fun h => by cases h), fun h => absurd (HS.out.2 h) (hno.out x)⟩, by omega, by omega, HB1.out, HW1.out⟩
      · obtain ⟨a, z, rfl, rfl, hSa, hSz, hen⟩ := HT'.out.ends.nonneg hm
        have HE := Lib.hid (And.intro hSa (And.intro hSz hen))
        clear hSa hSz hen
        by_cases hxa : x = a
        · subst hxa
          go_wp2_with (go_at_call 49; refine (small_no HN.out hk7).mono ?_; rintro e w2 ⟨rfl, rfl⟩)
          go_ret
          exact ⟨true, sr + 1, rfl, by simp [← HS.out, HE.out.1], by omega, by omega, HB1.out, HW1.out⟩
        · by_cases hxz : x = z
          · subst hxz
            go_wp2_with (go_at_call 49; refine (small_no HN.out hk7).mono ?_; rintro e w2 ⟨rfl, rfl⟩)
            go_ret
            exact ⟨true, sr + 1, rfl, by simp [← HS.out, HE.out.2.1], by omega, by omega, HB1.out, HW1.out⟩
          · have q1 : ((x : Int) == (a : Int)) = false := by simp; omega
            have q2 : ((x : Int) == (z : Int)) = false := by simp; omega
            have hR := Lib.hid (show S x0 ↔ Rest S' a x from HS.out.symm.trans ⟨fun e => ⟨e, by omega⟩, fun e => e.1⟩)
            clear hxa hxz
            go_wp2_with (go_at_call 49; refine (small_no HN.out hk7).mono ?_; rintro e w2 ⟨rfl, rfl⟩)
            refine (split_any HN.out hk20 HX.out).mono ?_
            rintro e w2 ⟨rfl, qq, rfl⟩
            have hyh := hi_lt HX.out
            have hyl := lo_lt (k := k') (y := x)
            have hyy := hi_lo k' x
            generalize x / 2 ^ (k' / 2) = h at *
            generalize x % 2 ^ (k' / 2) = l at *
            have hwf := Lib.hid (wfN (h40 hk20 hyh))
            have HY := Lib.hid (And.intro hyh (And.intro hyl hyy))
            clear hyh hyl hyy
            rcases HP1.out with ⟨e1, e2, hno⟩ | ⟨sb, mb, nn, M, Ns, Nc, e1, e2, P⟩
            · subst e1
              subst e2
              have HNo := Lib.hid hno
              clear hno
              go_wp2_with (at_lookup; refine wpMapLookNil hwf.out rfl rfl ?_)
              go_ret
              exact ⟨false, sr + 1, rfl, ⟨(fun h => by cases h), fun h => absurd (hR.out.1 h) (HNo.out x)⟩, by omega, by omega, HB1.out.fr ((Fr.refl F0 w1).drewN qq) id, HW1.out.drewN qq⟩
            · subst e1
              subst e2
              have HP := Lib.hid P
              have hcl := Lib.hid (show Clu k' (Rest S' a) h l ↔ Rest S' a x from ⟨fun e => by have := e.2; rwa [HY.out.2.2] at this, fun e => ⟨HY.out.2.1, by rw [HY.out.2.2]; exact e⟩⟩)
              clear P
              cases hM : M h with
              | none =>
                have hv := Lib.hid (show (ptrM M (h : Int)).getD (.pointer none) = .pointer none by rw [ptrM_nat, hM]; rfl)
                have HM := Lib.hid hM
                clear hM
                go_wp2_with (at_lookup; refine wpMapLookP (HP.out.map.fr ((Fr.refl F0 w1).drewN qq) id) hwf.out _ hv.out rfl rfl ?_)
                go_ret
                exact ⟨false, sr + 1, rfl, ⟨(fun h => by cases h), fun e => absurd (hcl.out.2 (hR.out.1 e)) (HP.out.out h HM.out l)⟩, by omega, by omega, HB1.out.fr ((Fr.refl F0 w1).drewN qq) id, HW1.out.drewN qq⟩
              | some c =>
                have hv := Lib.hid (show (ptrM M (h : Int)).getD (.pointer none) = .pointer (some ⟨c, 0, none⟩) by rw [ptrM_nat, hM]; rfl)
                have HM := Lib.hid hM
                clear hM
                go_wp2_with (at_lookup; refine wpMapLookP (HP.out.map.fr ((Fr.refl F0 w1).drewN qq) id) hwf.out _ hv.out rfl rfl ?_)
                have TC := (HP.out.clu h c HM.out).2.fr ((Fr.refl F0 w1).drewN qq) (fun _ _ => id)
                obtain ⟨mc, mxc, sc, spc, mpc, Bc, _⟩ := TC.node
                have HBc := Lib.hid Bc
                have HTC := Lib.hid TC
                clear TC Bc
                go_roundw
                case rel => exact ⟨d', k' / 2, c, l, _, _, sr + 1, rfl, rfl, HTC, Lib.hid HY.out.2.1, Lib.hid (HB1.out.fr ((Fr.refl F0 w1).drewN qq) id), Lib.hid (fun e => HNF.out (HP.out.cN h f e)), Lib.hid (hcl.out.trans hR.out.symm), by omega, by omega, Lib.hid (HW1.out.drewN qq)⟩
                case measure =>
                  rw [bitsM_eq HBc.out, bitsM_eq HT'.out.blk]
                  omega
end Go.Proofs.Ytohblajdeicfeaa
