/- prev. -/
import Derived.Test.YtohblajdeicfeaaE12
namespace Go.Proofs.Ytohblajdeicfeaa
open Go.RowKit
attribute [local go_sem ↓] Go.wp_at_zero Go.wp_at_succ
/-- The greatest element that is less than x; -1 if there is none. -/
def PrvOf (S : Nat → Prop) (x r : Int) : Prop := (r = -1 ∧ ∀ y, S y → x ≤ y) ∨ ∃ a : Nat, r = a ∧ S a ∧ a < x ∧ ∀ y : Nat, S y → y < x → y ≤ a
def PvP (d : Nat) (w : World) (f k0 n : Nat) (st : Int) (rb : Nat) (S : Nat → Prop) (x : Int) (e : Ending) (w' : World) : Prop :=
  ∃ r st' : Int, e = .returned (.int .i64 r) ∧ PrvOf S x r ∧ st < st' ∧ st' ≤ st + 1 + 3 * d ∧ Blk w' f 57 (stC k0 n st' rb) ∧ Fr (onB f) w w'
def PvAt (d : Nat) : Prop := ∀ (w : World) (f k0 n rb k b : Nat) (x : Int) (S N : Nat → Prop) (st : Int), VT d w k b S N → Blk w f 57 (stC k0 n st rb) → ¬ N f → 0 ≤ st → st + 20 * d ≤ 900 →
  Calls Try.prog 41 #[.pointer (some ⟨f, 0, none⟩), .pointer (some ⟨b, 0, none⟩), .int .i64 x] w (PvP d w f k0 n st rb S x)
theorem PrvOf.none {S : Nat → Prop} {x : Int} (h : ∀ y, ¬ S y) : PrvOf S x (-1) := .inl ⟨rfl, fun y hy => absurd hy (h y)⟩
set_option maxRecDepth 100000 in
set_option maxHeartbeats 1000000 in
/-- No lesser one, or all are less. -/
theorem prev_ends {d : Nat} {w : World} {f k0 n rb k b : Nat} {x : Int} {S : Nat → Prop} {st mn mx : Int} {set : Nat} {sp : Option Addr} {mp : Option Nat} (hb : Blk w b 71 (ndC k mn mx set sp mp)) (he : Ends S mn mx) (hbf : b ≠ f) (hf : Blk w f 57 (stC k0 n st rb)) (h0 : 0 ≤ st) (h9 : st ≤ 900) (hc : mn < 0 ∨ x ≤ mn ∨ mx < x) :
    Calls Try.prog 41 #[.pointer (some ⟨f, 0, none⟩), .pointer (some ⟨b, 0, none⟩), .int .i64 x] w (PvP d w f k0 n st rb S x) := by
  have HB := Lib.hid hb
  have HE := Lib.hid he
  have HC := Lib.hid hc
  clear hb he hc
  go_enter Try.func41, Try.ntmps41
  go_wp2_with fail
  refine (look_any _ hf h0 (by omega)).mono ?_
  rintro e w1 ⟨rfl, B1, F1⟩
  have HN1 := Lib.hid (HB.out.fr F1 hbf)
  have HF1 := Lib.hid F1
  have HB1 := Lib.hid B1
  have y1 : w1.cell? ⟨b, 1, none⟩ = some (.int .i64 mn) := HN1.out.cell (i := 1) rfl
  have y2 : w1.cell? ⟨b, 2, none⟩ = some (.int .i64 mx) := HN1.out.cell (i := 2) rfl
  clear B1 F1 hf
  by_cases hm : mn < 0
  · have hno := Lib.hid (HE.out.neg hm)
    go_wp2_with fail
    go_ret
    exact ⟨-1, st + 1, rfl, .none hno.out, by omega, by omega, HB1.out, HF1.out⟩
  · obtain ⟨a, z, rfl, rfl, hSa, hSz, hen⟩ := HE.out.nonneg hm
    have HA := Lib.hid (And.intro hSa (And.intro hSz hen))
    clear hSa hSz hen
    by_cases hz : x ≤ (a : Int)
    · go_wp2_with fail
      go_ret
      exact ⟨-1, st + 1, rfl, .inl ⟨rfl, fun y hy => by have := (HA.out.2.2 y hy).1; omega⟩, by omega, by omega, HB1.out, HF1.out⟩
    · have hxa : (z : Int) < x := HC.out.elim (fun e => absurd e hm) (fun e => e.elim (fun e => absurd e hz) id)
      go_wp2_with fail
      go_ret
      exact ⟨z, st + 1, rfl, .inr ⟨z, rfl, HA.out.2.1, hxa, fun y hy _ => (HA.out.2.2 y hy).2⟩, by omega, by omega, HB1.out, HF1.out⟩
set_option maxRecDepth 100000 in
set_option maxHeartbeats 1000000 in
theorem prev_small {d : Nat} {w : World} {f k0 n rb k b set x : Nat} {S N : Nat → Prop} {st mn mx : Int} (T : Sm w k b S N mn mx set) (hbf : b ≠ f) (hf : Blk w f 57 (stC k0 n st rb)) (h0 : 0 ≤ st) (h9 : st ≤ 900) (h1 : mn < x) (h2 : (x : Int) ≤ mx) (hm : ¬ mn < 0) :
    Calls Try.prog 41 #[.pointer (some ⟨f, 0, none⟩), .pointer (some ⟨b, 0, none⟩), .int .i64 x] w (PvP d w f k0 n st rb S x) := by
  have HT := Lib.hid T
  obtain ⟨a, z, rfl, rfl, hSa, hSz, hen⟩ := T.ends.nonneg hm
  have hz : z < 64 := x64 T.k6 ((T.bits z).1 hSz).1
  have hk6 := T.k6
  have HZ := Lib.hid (And.intro ((T.bits z).1 hSz) ((T.bits a).1 hSa))
  have HB := Lib.hid T.bits
  have hax : a < x := by omega
  have hxz : x ≤ z := by omega
  clear T hSa hSz hen
  go_enter Try.func41, Try.ntmps41
  go_wp2_with fail
  refine (look_any _ hf h0 (by omega)).mono ?_
  rintro e w1 ⟨rfl, B1, F1⟩
  have HN1 := Lib.hid (HT.out.blk.fr F1 hbf)
  have HF1 := Lib.hid F1
  have HB1 := Lib.hid B1
  have y1 : w1.cell? ⟨b, 1, none⟩ = some (.int .i64 a) := HN1.out.cell (i := 1) rfl
  have y2 : w1.cell? ⟨b, 2, none⟩ = some (.int .i64 z) := HN1.out.cell (i := 2) rfl
  have y3 : w1.cell? ⟨b, 3, none⟩ = some (.int .u64 set) := HN1.out.cell (i := 3) rfl
  clear B1 F1 hf
  go_wp2_with (go_at_call 49; refine (small_yes HN1.out hk6).mono ?_; rintro e w2 ⟨rfl, rfl⟩)
  go_loopw [2] (fun s2 wr => ∃ i : Nat, s2 = .int .i64 i ∧ a ≤ i ∧ i < x ∧ (∀ y, i < y → y < x → set.testBit y = false) ∧ wr = w1) (fun s2 _ => (intOf s2).toNat)
  case atStart => exact ⟨x - 1, by go_num, by omega, by omega, fun y _ _ => by omega, rfl⟩
  case round =>
    obtain ⟨i, rfl, hi1, hi2, hi3, rfl⟩ := hrel
    have HI := Lib.hid hi3
    clear hi3
    have hbit := bit_and set i HT.out.lim
    cases ht : set.testBit i with
    | false =>
      rw [if_neg (by rw [ht]; decide)] at hbit
      have hne : i ≠ a := fun e => by have := HZ.out.2.2; rw [← e, ht] at this; cases this
      have HT3 := Lib.hid ht
      clear ht
      go_wp2_with fail
      go_roundw
      case rel =>
        refine ⟨i - 1, by go_num, by omega, by omega, fun y g1 g2 => ?_, trivial⟩
        by_cases e : y = i
        · rw [e]; exact HT3.out
        · exact HI.out y (by omega) g2
      case measure => simp [intOf]; omega
    | true =>
      rw [if_pos ht] at hbit
      have HT3 := Lib.hid ht
      clear ht
      go_wp2_with fail
      go_ret
      refine ⟨i, st + 1, rfl, .inr ⟨i, rfl, (HB.out i).2 ⟨?_, HT3.out⟩, by omega, fun y hy g => ?_⟩, by omega, by omega, HB1.out, HF1.out⟩
      · exact Nat.lt_of_le_of_lt (by omega) HZ.out.1.1
      · refine Nat.le_of_not_lt fun h => ?_
        have := ((HB.out y).1 hy).2
        rw [HI.out y h (by omega)] at this
        cases this
theorem prv_same {k : Nat} {S : Nat → Prop} {a z x h l : Nat} {r : Int} (he : ∀ y, S y → a ≤ y ∧ y ≤ z) (hl : l < 2 ^ (k / 2)) (hxl : h * 2 ^ (k / 2) + l = x) (hm : ∃ m, Clu k (Rest S a) h m ∧ m < l) (hr : PrvOf (Clu k (Rest S a) h) l r) :
    ∃ m : Nat, r = m ∧ m < 2 ^ (k / 2) ∧ PrvOf S x ((h * 2 ^ (k / 2) + m : Nat) : Int) := by
  obtain ⟨m0, g1, g2⟩ := hm
  rcases hr with ⟨_, g⟩ | ⟨m, rfl, q1, q2, q3⟩
  · have := g m0 g1; omega
  · refine ⟨m, rfl, q1.1, .inr ⟨_, rfl, q1.2.1, ?_, fun y hy hxy => ?_⟩⟩
    · rw [← hxl]
      have : m < l := by omega
      exact_mod_cast (lex q1.1 hl).2 (.inr ⟨rfl, this⟩)
    · by_cases hya : y = a
      · rw [hya]; exact (he _ q1.2.1).1
      have hR : Rest S a y := ⟨hy, by omega⟩
      have hc := hR.at_ (k := k)
      rw [← hi_lo k y]
      refine Nat.le_of_not_lt fun hlt => ?_
      have e1 := (lex q1.1 lo_lt).1 hlt
      have e2 := (lex lo_lt hl).1 (show y / 2 ^ (k / 2) * 2 ^ (k / 2) + y % 2 ^ (k / 2) < h * 2 ^ (k / 2) + l by rw [hi_lo, hxl]; omega)
      rcases e2 with e2 | ⟨e2, e3⟩
      · omega
      · rw [e2] at hc
        have := q3 _ hc (by omega)
        omega
theorem prv_earlier {k : Nat} {S : Nat → Prop} {a z x h l h' m : Nat} (he : ∀ y, S y → a ≤ y ∧ y ≤ z) (hl : l < 2 ^ (k / 2)) (hxl : h * 2 ^ (k / 2) + l = x) (hno : ∀ m, Clu k (Rest S a) h m → l ≤ m)
    (h1 : h' < h) (h3 : ∀ q, Smy k (Rest S a) q → q < h → q ≤ h') (hm : Clu k (Rest S a) h' m) (hmin : ∀ q, Clu k (Rest S a) h' q → q ≤ m) : PrvOf S x ((h' * 2 ^ (k / 2) + m : Nat) : Int) := by
  refine .inr ⟨_, rfl, hm.2.1, ?_, fun y hy hxy => ?_⟩
  · rw [← hxl]
    exact_mod_cast (lex hm.1 hl).2 (.inl h1)
  · by_cases hya : y = a
    · rw [hya]; exact (he _ hm.2.1).1
    have hR : Rest S a y := ⟨hy, by omega⟩
    have hc := hR.at_ (k := k)
    rw [← hi_lo k y]
    refine Nat.le_of_not_lt fun hlt => ?_
    have e1 := (lex hm.1 lo_lt).1 hlt
    have e2 := (lex lo_lt hl).1 (show y / 2 ^ (k / 2) * 2 ^ (k / 2) + y % 2 ^ (k / 2) < h * 2 ^ (k / 2) + l by rw [hi_lo, hxl]; omega)
    rcases e2 with e2 | ⟨e2, e3⟩
    · have := h3 _ hc.smy e2
      rcases e1 with e1 | ⟨e1, e4⟩
      · omega
      · rw [← e1] at hc
        have := hmin _ hc
        omega
    · rw [e2] at hc
      have := hno _ hc
      omega
theorem prv_least {k : Nat} {S : Nat → Prop} {a x h l : Nat} (hS : S a) (hx : a < x) (hl : l < 2 ^ (k / 2)) (hxl : h * 2 ^ (k / 2) + l = x) (hno : ∀ m, Clu k (Rest S a) h m → l ≤ m) (h3 : ∀ q, Smy k (Rest S a) q → h ≤ q) : PrvOf S x ((a : Nat) : Int) := by
  refine .inr ⟨a, rfl, hS, by omega, fun y hy hxy => ?_⟩
  by_cases hya : y = a
  · omega
  have hR : Rest S a y := ⟨hy, by omega⟩
  have hc := hR.at_ (k := k)
  have e2 := (lex lo_lt hl).1 (show y / 2 ^ (k / 2) * 2 ^ (k / 2) + y % 2 ^ (k / 2) < h * 2 ^ (k / 2) + l by rw [hi_lo, hxl]; omega)
  rcases e2 with e2 | ⟨e2, e3⟩
  · have := h3 _ hc.smy; omega
  · rw [e2] at hc
    have := hno _ hc
    omega
set_option maxRecDepth 100000 in
set_option maxHeartbeats 4000000 in
theorem prev_big {d : Nat} (IH : PvAt d) {w : World} {f k0 n rb k b x a z : Nat} {S N : Nat → Prop} {st : Int} {sp : Option Addr} {mp : Option Nat} (T : Bg (VT d) w k b S N a z sp mp) (hf : Blk w f 57 (stC k0 n st rb)) (hnf : ¬ N f) (h0 : 0 ≤ st) (h9 : st + 20 * ((d + 1 : Nat) : Int) ≤ 900) (hx1 : a < x) (hx2 : x ≤ z) :
    Calls Try.prog 41 #[.pointer (some ⟨f, 0, none⟩), .pointer (some ⟨b, 0, none⟩), .int .i64 x] w (PvP (d + 1) w f k0 n st rb S x) := by
  have hbf : b ≠ f := fun e => hnf (e ▸ T.nb)
  have hk20 := T.k20
  have hk7 := T.k7
  obtain ⟨a', z', ea, ez, hSa, hSz, hends⟩ := T.ends.nonneg (show ¬ ((a : Nat) : Int) < 0 by omega)
  obtain rfl : a = a' := by omega
  obtain rfl : z = z' := by omega
  have HX := Lib.hid (show x < 2 ^ k from Nat.lt_of_le_of_lt hx2 (T.lim z hSz))
  have HT := Lib.hid T
  have HE := Lib.hid (And.intro hSa (And.intro hSz hends))
  have HNF := Lib.hid hnf
  obtain ⟨sb, mb, nn, M, Ns, Nc, rfl, rfl, P⟩ : ∃ sb mb n M Ns Nc, sp = some ⟨sb, 0, none⟩ ∧ mp = some mb ∧ Parts (VT d) w k b sb mb n M (Rest S a) N Ns Nc := by
    rcases T.parts with ⟨_, _, h⟩ | h
    · exact absurd ⟨hSz, by omega⟩ (h z)
    · exact h
  have HP := Lib.hid P
  clear T hSa hSz hends ea ez P hnf
  go_enter Try.func41, Try.ntmps41
  go_wp2_with fail
  refine (look_any _ hf h0 (by omega)).mono ?_
  rintro e w1 ⟨rfl, B1, F1⟩
  have HN1 := Lib.hid (HT.out.blk.fr F1 hbf)
  have HP1 := Lib.hid (HP.out.fr (VT.kit d) F1 (fun q hq _ (e : q = f) => HNF.out (e ▸ hq)))
  have HF1 := Lib.hid F1
  have HB1 := Lib.hid B1
  have y1 : w1.cell? ⟨b, 1, none⟩ = some (.int .i64 a) := HN1.out.cell (i := 1) rfl
  have y2 : w1.cell? ⟨b, 2, none⟩ = some (.int .i64 z) := HN1.out.cell (i := 2) rfl
  clear B1 F1 hf HP
  go_wp2_with (go_at_call 49; refine (small_no HN1.out hk7).mono ?_; rintro e w2 ⟨rfl, rfl⟩)
  refine (split_any HN1.out hk20 HX.out).mono ?_
  rintro e w2 ⟨rfl, q2, rfl⟩
  have hyh := hi_lt HX.out
  have hyl := lo_lt (k := k) (y := x)
  have hyy := hi_lo k x
  generalize x / 2 ^ (k / 2) = h at *
  generalize x % 2 ^ (k / 2) = l at *
  have HY := Lib.hid (And.intro hyh (And.intro hyl hyy))
  have hwf := Lib.hid (wfN (h40 hk20 hyh))
  clear hyh hyl hyy y1 y2
  have HN2 : Hid (Blk (w1.drewN q2) b 71 (ndC k a z 0 (some ⟨sb, 0, none⟩) (some mb))) := Lib.hid (HN1.out.fr ((Fr.refl F0 w1).drewN q2) id)
  have HP2 : Hid (Parts (VT d) (w1.drewN q2) k b sb mb nn M (Rest S a) N Ns Nc) := Lib.hid (HP1.out.fr (VT.kit d) ((Fr.refl F0 w1).drewN q2) (fun _ _ _ => id))
  have HB2 : Hid (Blk (w1.drewN q2) f 57 (stC k0 n (st + 1) rb)) := Lib.hid (HB1.out.fr ((Fr.refl F0 w1).drewN q2) id)
  have HF2 := Lib.hid (HF1.out.drewN q2)
  clear HN1 HP1 HB1 HF1
  generalize w1.drewN q2 = w2 at *
  have y5 : w2.cell? ⟨b, 5, none⟩ = some (.map (some mb)) := HN2.out.cell (i := 5) rfl
  have y4 : w2.cell? ⟨b, 4, none⟩ = some (.pointer (some ⟨sb, 0, none⟩)) := HN2.out.cell (i := 4) rfl
  cases hM : M h with
  | none =>
    have hv := Lib.hid (show (ptrM M (h : Int)).getD (.pointer none) = .pointer none by rw [ptrM_nat, hM]; rfl)
    have HNo := Lib.hid (show ∀ m, Clu k (Rest S a) h m → l ≤ m from fun m hm => absurd hm (HP2.out.out h hM m))
    clear hM
    go_wp2_with (at_lookup; refine wpMapLookP HP2.out.map hwf.out _ hv.out rfl rfl ?_)
    clear hwf hv y5
    refine (IH _ _ _ _ _ _ _ _ _ _ _ HP2.out.sum HB2.out (fun e => HNF.out (HP2.out.sN _ e)) (by omega) (by omega)).mono ?_
    rintro e w5 ⟨r, st5, rfl, hr, g1, g2, B5, F5⟩
    have HP5 := Lib.hid (HP2.out.fr (VT.kit d) F5 (fun q hq _ (e : q = f) => HNF.out (e ▸ hq)))
    have HN5 := Lib.hid (HN2.out.fr F5 hbf)
    have HB5 := Lib.hid B5
    have HF5 := Lib.hid (HF2.out.trans F5 (fun _ _ h => h))
    clear y4 B5 F5
    rcases hr with ⟨rfl, hr⟩ | ⟨h', rfl, hs, hlt, hmax⟩
    · have HRes := Lib.hid (prv_least HE.out.1 hx1 HY.out.2.1 HY.out.2.2 HNo.out (fun q hq => by have := hr q hq; omega))
      clear hr
      have y1 : w5.cell? ⟨b, 1, none⟩ = some (.int .i64 a) := HN5.out.cell (i := 1) rfl
      go_wp2_with fail
      go_ret
      exact ⟨a, _, rfl, HRes.out, by omega, by omega, HB5.out, HF5.out⟩
    · obtain ⟨l0, hl0, hl1⟩ := id hs
      obtain ⟨c', hM'⟩ : ∃ c', M h' = some c' := by
        cases hM' : M h' with
        | none => exact absurd ⟨hl0, hl1⟩ (HP2.out.out h' hM' l0)
        | some c' => exact ⟨c', rfl⟩
      have HC := Lib.hid (HP5.out.clu h' c' hM').2
      have hcf : c' ≠ f := fun e => HNF.out (HP2.out.cN h' f (e ▸ HC.out.nb))
      obtain ⟨mc, mxc, sc, spc, mpc, Bc, Ec⟩ := HC.out.node
      obtain ⟨mm, m, rfl, rfl, hm1, hm2, hm3⟩ := Ec.nonneg (fun e => Ec.neg e l0 ⟨hl0, hl1⟩)
      have HRes := Lib.hid (prv_earlier HE.out.2.2 HY.out.2.1 HY.out.2.2 HNo.out (by omega) (fun q g g' => hmax q g (by omega)) hm2 (fun q hq => (hm3 q hq).2))
      have hwf := Lib.hid (wfN (h40 hk20 (HP5.out.clu h' c' hM').1))
      have hh' := Lib.hid (HP5.out.clu h' c' hM').1
      have hml := Lib.hid hm2.1
      have HBc := Lib.hid Bc
      have hv := Lib.hid (show (ptrM M (h' : Int)).getD (.pointer none) = .pointer (some ⟨c', 0, none⟩) by rw [ptrM_nat, hM']; rfl)
      clear hs hmax hM' hl0 hl1 hm1 hm2 hm3 Bc Ec
      have y5 : w5.cell? ⟨b, 5, none⟩ = some (.map (some mb)) := HN5.out.cell (i := 5) rfl
      go_wp2_with (at_lookup; refine wpMapLookP HP5.out.map hwf.out _ hv.out rfl rfl ?_)
      refine (look_any _ HB5.out (by omega) (by omega)).mono ?_
      rintro e w6 ⟨rfl, B6, F6⟩
      have HBc6 := Lib.hid (HBc.out.fr F6 hcf)
      have HN6 := Lib.hid (HN5.out.fr F6 hbf)
      have HB6 := Lib.hid B6
      have HF6 := Lib.hid (HF5.out.trans F6 (fun _ _ h => h))
      clear B6 F6
      have yc : w6.cell? ⟨c', 2, none⟩ = some (.int .i64 m) := HBc6.out.cell (i := 2) rfl
      go_wp2_with fail
      refine (join_any HN6.out hk20 hh'.out hml.out).mono ?_
      rintro e w7 ⟨rfl, q7, rfl⟩
      generalize h' * 2 ^ (k / 2) + m = res at *
      go_wp2_with fail
      go_ret
      exact ⟨res, _, rfl, HRes.out, by omega, by omega, HB6.out.fr ((Fr.refl F0 _).drewN q7) id, HF6.out.drewN q7⟩
  | some c =>
    have hv := Lib.hid (show (ptrM M (h : Int)).getD (.pointer none) = .pointer (some ⟨c, 0, none⟩) by rw [ptrM_nat, hM]; rfl)
    have HM := Lib.hid hM
    have hcf : c ≠ f := fun e => HNF.out (HP2.out.cN h f (e ▸ (HP2.out.clu h c hM).2.nb))
    clear hM
    go_wp2_with (at_lookup; refine wpMapLookP HP2.out.map hwf.out _ hv.out rfl rfl ?_)
    refine (look_any _ HB2.out (by omega) (by omega)).mono ?_
    rintro e w3 ⟨rfl, B3, F3⟩
    clear hwf hv y5 y4
    have HP3 := Lib.hid (HP2.out.fr (VT.kit d) F3 (fun q hq _ (e : q = f) => HNF.out (e ▸ hq)))
    have HN3 := Lib.hid (HN2.out.fr F3 hbf)
    have HB3 := Lib.hid B3
    have HF3 := Lib.hid (HF2.out.trans F3 (fun _ _ h => h))
    have HC := Lib.hid (HP3.out.clu h c HM.out).2
    clear B3 F3 HP2 HN2 HB2 HF2
    have HP2 := HP3
    have HN2 := HN3
    have HB2 := HB3
    have HF2 := HF3
    clear HP3 HN3 HB3 HF3
    have y4 : w3.cell? ⟨b, 4, none⟩ = some (.pointer (some ⟨sb, 0, none⟩)) := HN2.out.cell (i := 4) rfl
    obtain ⟨mc, mxc, sc, spc, mpc, Bc, Ec⟩ := HC.out.node
    have HEc := Lib.hid Ec
    have yc : w3.cell? ⟨c, 1, none⟩ = some (.int .i64 mc) := Bc.cell (i := 1) rfl
    clear Bc Ec
    by_cases hlt : 0 ≤ mc ∧ mc < l
    · obtain ⟨hlt0, hlt1⟩ := hlt
      have Hm := Lib.hid (show ∃ m, Clu k (Rest S a) h m ∧ m < l by
        rcases HEc.out with ⟨_, e, _⟩ | ⟨q1, q2, e, _, e2, _⟩
        · omega
        · exact ⟨q1, e2, by omega⟩)
      go_wp2_with fail
      refine (IH _ _ _ _ _ _ _ _ _ _ _ HC.out HB2.out (fun e => HNF.out (HP2.out.cN h _ e)) (by omega) (by omega)).mono ?_
      rintro e w5 ⟨r, st5, rfl, hr, g1, g2, B5, F5⟩
      obtain ⟨m, rfl, hml, hres⟩ := prv_same HE.out.2.2 HY.out.2.1 HY.out.2.2 Hm.out hr
      have HRes := Lib.hid hres
      have Hml := Lib.hid hml
      have HN5 := Lib.hid (HN2.out.fr F5 hbf)
      have HB5 := Lib.hid B5
      have HF5 := Lib.hid (HF2.out.trans F5 (fun _ _ h => h))
      clear hr B5 F5 hres hml
      go_wp2_with fail
      refine (join_any HN5.out hk20 HY.out.1 Hml.out).mono ?_
      rintro e w7 ⟨rfl, q7, rfl⟩
      generalize h * 2 ^ (k / 2) + m = res at *
      go_wp2_with fail
      go_ret
      exact ⟨res, _, rfl, HRes.out, by omega, by omega, HB5.out.fr ((Fr.refl F0 _).drewN q7) id, HF5.out.drewN q7⟩
    · have HNo := Lib.hid (show ∀ m, Clu k (Rest S a) h m → l ≤ m from fun m hm => by
        rcases HEc.out with ⟨e, _, _⟩ | ⟨q1, q2, e, _, _, _, e2⟩
        · exact absurd hm (e m)
        · have := (e2 m hm).1; omega)
      by_cases hlt0 : 0 ≤ mc
      · have hlt1 : ¬ mc < l := fun e => hlt ⟨hlt0, e⟩
        clear hlt
        go_wp2_with fail
        clear yc
        refine (IH _ _ _ _ _ _ _ _ _ _ _ HP2.out.sum HB2.out (fun e => HNF.out (HP2.out.sN _ e)) (by omega) (by omega)).mono ?_
        rintro e w5 ⟨r, st5, rfl, hr, g1, g2, B5, F5⟩
        have HP5 := Lib.hid (HP2.out.fr (VT.kit d) F5 (fun q hq _ (e : q = f) => HNF.out (e ▸ hq)))
        have HN5 := Lib.hid (HN2.out.fr F5 hbf)
        have HB5 := Lib.hid B5
        have HF5 := Lib.hid (HF2.out.trans F5 (fun _ _ h => h))
        clear y4 B5 F5
        rcases hr with ⟨rfl, hr⟩ | ⟨h', rfl, hs, hlt, hmax⟩
        · have HRes := Lib.hid (prv_least HE.out.1 hx1 HY.out.2.1 HY.out.2.2 HNo.out (fun q hq => by have := hr q hq; omega))
          clear hr
          have y1 : w5.cell? ⟨b, 1, none⟩ = some (.int .i64 a) := HN5.out.cell (i := 1) rfl
          go_wp2_with fail
          go_ret
          exact ⟨a, _, rfl, HRes.out, by omega, by omega, HB5.out, HF5.out⟩
        · obtain ⟨l0, hl0, hl1⟩ := id hs
          obtain ⟨c', hM'⟩ : ∃ c', M h' = some c' := by
            cases hM' : M h' with
            | none => exact absurd ⟨hl0, hl1⟩ (HP2.out.out h' hM' l0)
            | some c' => exact ⟨c', rfl⟩
          have HC := Lib.hid (HP5.out.clu h' c' hM').2
          have hcf : c' ≠ f := fun e => HNF.out (HP2.out.cN h' f (e ▸ HC.out.nb))
          obtain ⟨mc, mxc, sc, spc, mpc, Bc, Ec⟩ := HC.out.node
          obtain ⟨mm, m, rfl, rfl, hm1, hm2, hm3⟩ := Ec.nonneg (fun e => Ec.neg e l0 ⟨hl0, hl1⟩)
          have HRes := Lib.hid (prv_earlier HE.out.2.2 HY.out.2.1 HY.out.2.2 HNo.out (by omega) (fun q g g' => hmax q g (by omega)) hm2 (fun q hq => (hm3 q hq).2))
          have hwf := Lib.hid (wfN (h40 hk20 (HP5.out.clu h' c' hM').1))
          have hh' := Lib.hid (HP5.out.clu h' c' hM').1
          have hml := Lib.hid hm2.1
          have HBc := Lib.hid Bc
          have hv := Lib.hid (show (ptrM M (h' : Int)).getD (.pointer none) = .pointer (some ⟨c', 0, none⟩) by rw [ptrM_nat, hM']; rfl)
          clear hs hmax hM' hl0 hl1 hm1 hm2 hm3 Bc Ec
          have y5 : w5.cell? ⟨b, 5, none⟩ = some (.map (some mb)) := HN5.out.cell (i := 5) rfl
          go_wp2_with (at_lookup; refine wpMapLookP HP5.out.map hwf.out _ hv.out rfl rfl ?_)
          refine (look_any _ HB5.out (by omega) (by omega)).mono ?_
          rintro e w6 ⟨rfl, B6, F6⟩
          have HBc6 := Lib.hid (HBc.out.fr F6 hcf)
          have HN6 := Lib.hid (HN5.out.fr F6 hbf)
          have HB6 := Lib.hid B6
          have HF6 := Lib.hid (HF5.out.trans F6 (fun _ _ h => h))
          clear B6 F6
          have yc : w6.cell? ⟨c', 2, none⟩ = some (.int .i64 m) := HBc6.out.cell (i := 2) rfl
          go_wp2_with fail
          refine (join_any HN6.out hk20 hh'.out hml.out).mono ?_
          rintro e w7 ⟨rfl, q7, rfl⟩
          generalize h' * 2 ^ (k / 2) + m = res at *
          go_wp2_with fail
          go_ret
          exact ⟨res, _, rfl, HRes.out, by omega, by omega, HB6.out.fr ((Fr.refl F0 _).drewN q7) id, HF6.out.drewN q7⟩
      · clear hlt
        go_wp2_with fail
        clear yc
        refine (IH _ _ _ _ _ _ _ _ _ _ _ HP2.out.sum HB2.out (fun e => HNF.out (HP2.out.sN _ e)) (by omega) (by omega)).mono ?_
        rintro e w5 ⟨r, st5, rfl, hr, g1, g2, B5, F5⟩
        have HP5 := Lib.hid (HP2.out.fr (VT.kit d) F5 (fun q hq _ (e : q = f) => HNF.out (e ▸ hq)))
        have HN5 := Lib.hid (HN2.out.fr F5 hbf)
        have HB5 := Lib.hid B5
        have HF5 := Lib.hid (HF2.out.trans F5 (fun _ _ h => h))
        clear y4 B5 F5
        rcases hr with ⟨rfl, hr⟩ | ⟨h', rfl, hs, hlt, hmax⟩
        · have HRes := Lib.hid (prv_least HE.out.1 hx1 HY.out.2.1 HY.out.2.2 HNo.out (fun q hq => by have := hr q hq; omega))
          clear hr
          have y1 : w5.cell? ⟨b, 1, none⟩ = some (.int .i64 a) := HN5.out.cell (i := 1) rfl
          go_wp2_with fail
          go_ret
          exact ⟨a, _, rfl, HRes.out, by omega, by omega, HB5.out, HF5.out⟩
        · obtain ⟨l0, hl0, hl1⟩ := id hs
          obtain ⟨c', hM'⟩ : ∃ c', M h' = some c' := by
            cases hM' : M h' with
            | none => exact absurd ⟨hl0, hl1⟩ (HP2.out.out h' hM' l0)
            | some c' => exact ⟨c', rfl⟩
          have HC := Lib.hid (HP5.out.clu h' c' hM').2
          have hcf : c' ≠ f := fun e => HNF.out (HP2.out.cN h' f (e ▸ HC.out.nb))
          obtain ⟨mc, mxc, sc, spc, mpc, Bc, Ec⟩ := HC.out.node
          obtain ⟨mm, m, rfl, rfl, hm1, hm2, hm3⟩ := Ec.nonneg (fun e => Ec.neg e l0 ⟨hl0, hl1⟩)
          have HRes := Lib.hid (prv_earlier HE.out.2.2 HY.out.2.1 HY.out.2.2 HNo.out (by omega) (fun q g g' => hmax q g (by omega)) hm2 (fun q hq => (hm3 q hq).2))
          have hwf := Lib.hid (wfN (h40 hk20 (HP5.out.clu h' c' hM').1))
          have hh' := Lib.hid (HP5.out.clu h' c' hM').1
          have hml := Lib.hid hm2.1
          have HBc := Lib.hid Bc
          have hv := Lib.hid (show (ptrM M (h' : Int)).getD (.pointer none) = .pointer (some ⟨c', 0, none⟩) by rw [ptrM_nat, hM']; rfl)
          clear hs hmax hM' hl0 hl1 hm1 hm2 hm3 Bc Ec
          have y5 : w5.cell? ⟨b, 5, none⟩ = some (.map (some mb)) := HN5.out.cell (i := 5) rfl
          go_wp2_with (at_lookup; refine wpMapLookP HP5.out.map hwf.out _ hv.out rfl rfl ?_)
          refine (look_any _ HB5.out (by omega) (by omega)).mono ?_
          rintro e w6 ⟨rfl, B6, F6⟩
          have HBc6 := Lib.hid (HBc.out.fr F6 hcf)
          have HN6 := Lib.hid (HN5.out.fr F6 hbf)
          have HB6 := Lib.hid B6
          have HF6 := Lib.hid (HF5.out.trans F6 (fun _ _ h => h))
          clear B6 F6
          have yc : w6.cell? ⟨c', 2, none⟩ = some (.int .i64 m) := HBc6.out.cell (i := 2) rfl
          go_wp2_with fail
          refine (join_any HN6.out hk20 hh'.out hml.out).mono ?_
          rintro e w7 ⟨rfl, q7, rfl⟩
          generalize h' * 2 ^ (k / 2) + m = res at *
          go_wp2_with fail
          go_ret
          exact ⟨res, _, rfl, HRes.out, by omega, by omega, HB6.out.fr ((Fr.refl F0 _).drewN q7) id, HF6.out.drewN q7⟩
theorem prev_any : ∀ d, PvAt d := by
  intro d
  induction d with
  | zero =>
    intro w f k0 n rb k b x S N st T hf hnf h0 h9
    have hbf : b ≠ f := fun e => hnf (e ▸ T.nb)
    obtain ⟨mn, mx, set, T⟩ := T
    by_cases hc : mn < 0 ∨ x ≤ mn ∨ mx < x
    · exact prev_ends T.blk T.ends hbf hf h0 (by omega) hc
    · obtain ⟨X, rfl⟩ : ∃ X : Nat, x = X := ⟨x.toNat, by omega⟩
      exact prev_small T hbf hf h0 (by omega) (by omega) (by omega) (by omega)
  | succ d ih =>
    intro w f k0 n rb k b x S N st T hf hnf h0 h9
    have hbf : b ≠ f := fun e => hnf (e ▸ T.nb)
    rcases T with ⟨mn, mx, set, T⟩ | ⟨hk, mn, mx, sp, mp, T⟩
    · by_cases hc : mn < 0 ∨ x ≤ mn ∨ mx < x
      · exact prev_ends T.blk T.ends hbf hf h0 (by omega) hc
      · obtain ⟨X, rfl⟩ : ∃ X : Nat, x = X := ⟨x.toNat, by omega⟩
        exact prev_small T hbf hf h0 (by omega) (by omega) (by omega) (by omega)
    · by_cases hc : mn < 0 ∨ x ≤ mn ∨ mx < x
      · exact prev_ends T.blk T.ends hbf hf h0 (by omega) hc
      · obtain ⟨X, rfl⟩ : ∃ X : Nat, x = X := ⟨x.toNat, by omega⟩
        obtain ⟨a, z, rfl, rfl, _⟩ := T.ends.nonneg (show ¬ mn < 0 by omega)
        exact prev_big ih T hf hnf h0 h9 (by omega) (by omega)
end Go.Proofs.Ytohblajdeicfeaa
