/- Buffer trees: a flush. -/
import Derived.Test.YtkmnnfflibamnaaG23
import Derived.Test.YtkmnnfflibamnaaH568
namespace Go.Proofs.Ytkmnnfflibamnaa
open Go.RowKit
attribute [local go_sem ↓] Go.wp_at_zero Go.wp_at_succ
section
variable {w w' : World} {col : Nat → Nat} {t B M : Nat} {T : TV}
/-- All levels are given up. -/
theorem TS.dropAll (h : TS w col t B M T) : TS (w.setCell ⟨t, 3, none⟩ (.slice none 0 0)) col t B M { T with lv := [], la := none, lc := 0 } ∧ Kq w (w.setCell ⟨t, 3, none⟩ (.slice none 0 0)) col col (fun c => c = 1) := by
  have K := h.kset 3 (.slice none 0 0)
  have kb := h.kbuf K (by omega)
  exact ⟨⟨h.blk.set 3 _, h.ct, kb.1, kb.2, Own.nil _ _ _, fun k hk => absurd hk (onBlk_none _), fun i L hL => (by cases hL), fun k hk => h.up k (by simpa using hk)⟩, K⟩
theorem rO_mem {lv : List LV} {pre : List Nat} {r : RV} (h : r ∈ rO lv pre) : ∃ (i : Nat) (L : LV), lv[i]? = some L ∧ r ∈ L.rv := by
  unfold rO at h
  rw [List.mem_flatMap] at h
  obtain ⟨x, _, hr⟩ := h
  unfold lget at hr
  rw [List.getD_eq_getElem?_getD] at hr
  cases hx : lv[x]? with
  | none => rw [hx] at hr; cases hr
  | some L => rw [hx] at hr; exact ⟨x, L, hx, hr⟩
theorem TS.runOK (h : TS w col t B M T) {pre : List Nat} {r : RV} (hr : r ∈ rO T.lv pre) : RunOK w col r := by
  obtain ⟨i, L, hL, hr⟩ := rO_mem hr
  exact (h.lev i L hL).2.2 r hr
end
theorem Flush_nil (w : World) : Calls Try.prog 30 #[.pointer none] w fun e w' => e = .returned (.int .i64 1) ∧ w = w' := by
  go_enter Try.func30, Try.ntmps30
  go_wp2_with fail
  go_ret
  exact ⟨rfl, rfl⟩
def fspT (B F : Nat) (t : TT) (buf : List En) : TT := if buf.length = 0 then t else spillT B F t buf
theorem PI.small {T : TV} {U : TT} {a b c : Nat} (e : T.tt = U) (p : PI U a b c) : T.lv.length ≤ b ∧ (∀ L ∈ T.lv, L.rv.length ≤ b) ∧ U.lv = lvT T.lv ∧ U.mv = T.mv ∧ U.mv ≤ c := by
  subst e
  have hl : (lvT T.lv).length + runsN (lvT T.lv) ≤ b := p.len
  have hm : T.mv + 800 * runsN (lvT T.lv) ≤ c := p.mv
  refine ⟨by rw [lvT_len] at hl; omega, fun L hL => ?_, rfl, rfl, by show T.mv ≤ c; omega⟩
  have := (totT_mem (lvT_mem hL)).2
  rw [ls_len] at this
  omega
theorem runs_of {w : World} {col : Nat → Nat} {t B M a b c : Nat} {T : TV} {U : TT} (h : TS w col t B M T) (e : T.tt = U) (p : PI U a b c) (hb : b ≤ 2000) :
    Calls Try.prog 56 #[.pointer (some ⟨t, 0, none⟩)] w fun r w' => ∃ a' c' n R, r = .returned (.slice a' n c') ∧ R.length = n ∧ ls R = runsT U.lv ∧ (∀ r ∈ R, RunOK w' col r) ∧ Own w' w.heap.size 74 a' n c' (rvs R) ∧ Fr F0 w w' ∧ ∃ pre, R = rO T.lv pre := by
  obtain ⟨q1, q2, q3, _, _⟩ := PI.small e p
  refine (runs_any h (by omega) (fun L hL => Nat.le_trans (q2 L hL) (by omega))).mono ?_
  rintro r w' ⟨a', c', R, rfl, rfl, h3, h4⟩
  exact ⟨a', c', _, _, rfl, rfl, by rw [q3, rO_came], fun r hr => (h.runOK hr).fr h4 (fun _ _ h => h.elim) (fun _ _ h => h), h3, h4, _, rfl⟩
theorem height_of {w : World} {col : Nat → Nat} {t B M a b c : Nat} {T : TV} {U : TT} (h : TS w col t B M T) (e : T.tt = U) (p : PI U a b c) (hb : b ≤ 2000) :
    Calls Try.prog 32 #[.pointer (some ⟨t, 0, none⟩)] w fun r w' => ∃ k : Nat, r = .returned (.int .i64 (k : Int)) ∧ IsH U.lv k ∧ w = w' := by
  obtain ⟨q1, q2, q3, _, _⟩ := PI.small e p
  refine (Height_any h (by omega)).mono ?_
  rintro r w' ⟨k, rfl, hk, rfl⟩
  exact ⟨k, rfl, by rw [q3]; exact hk, rfl⟩
set_option maxRecDepth 100000 in
set_option maxHeartbeats 4000000 in
theorem Flush_any {w : World} {col : Nat → Nat} {t B M k1 k2 k3 : Nat} {T : TV} (h : TS w col t B M T) (hP : PI T.tt k1 k2 k3) (hk1 : k1 + T.buf.length ≤ 400) (hk2 : k2 ≤ 1900) (hk3 : k3 ≤ 900000000) (hbs : Sd T.buf) (hB : 1 ≤ B ∧ B ≤ 64) (hM : 2 * B ≤ M ∧ M ≤ 1000) :
    Calls Try.prog 30 #[.pointer (some ⟨t, 0, none⟩)] w fun r w' => r = .returned (.int .i64 0) ∧ ∃ col' T' k, TS w' col' t B M T' ∧ T'.buf = [] ∧ IsH (fspT B (fanN B M) T.tt T.buf).lv k ∧ T'.tt = flushT B (fspT B (fanN B M) T.tt T.buf) k ∧ Ch w w' col col' := by
  have hF : 2 ≤ fanN B M := Nat.le_max_left _ _
  have y2 := h.blk.cell (i := 2) rfl
  obtain ⟨nb, hnb⟩ : ∃ nb, nb = T.buf.length := ⟨_, rfl⟩
  rw [← hnb] at y2
  obtain ⟨F, hFd⟩ : ∃ F, F = fanN B M := ⟨_, rfl⟩
  by_cases h0 : 0 < nb
  · have hPs : PI (fspT B F T.tt T.buf) 400 1902 900001200 := by
      unfold fspT
      rw [if_neg (by omega), hFd]
      exact (hP.spill hF hB.1 hbs (by omega) hk1).mono hk1 (by omega) (by omega)
    have HSp := Lib.hid (spill_any h hP hk1 hk2 hk3 (by omega) hbs hB hM)
    have HU := Lib.hid (show fspT B F T.tt T.buf = spillT B (fanN B M) T.tt T.buf by unfold fspT; rw [if_neg (by omega), hFd])
    rw [← hFd]
    obtain ⟨U, hU⟩ : ∃ U, U = fspT B F T.tt T.buf := ⟨_, rfl⟩
    rw [← hU] at HU hPs ⊢
    have HPs := Lib.hid hPs
    have h0' : (0 : Int) < (nb : Int) := by omega
    clear h hP hbs hU hPs hnb hFd hF
    go_enter Try.func30, Try.ntmps30
    go_wp2_with (first | (go_at_call 61; refine HSp.out.mono ?_; rintro r w1 ⟨rfl, col1, T1, s1, s2, s3, s4⟩; have S1 := Lib.hid s1; have S2 := Lib.hid s2; have S3 : Hid (T1.tt = U) := Lib.hid (s3.trans HU.out.symm); have S4 := Lib.hid s4; clear s1 s2 s3 s4) | (go_at_call 56; refine (runs_of S1.out S3.out HPs.out (by omega)).mono ?_; rintro r w2 ⟨a2, c2, n, R, rfl, r1, r2, r3, r4, r5, _⟩; have R1 := Lib.hid r1; have R2 := Lib.hid r2; have R3 := Lib.hid r3; have R4 := Lib.hid r4; have R5 := Lib.hid r5; clear r1 r2 r3 r4 r5))
    have HH := Lib.hid (height_of (S1.out.fr0 R5.out) S3.out HPs.out (by omega))
    have T2 := Lib.hid (S1.out.fr0 R5.out)
    have C2 := Lib.hid (S4.out.fr0 R5.out)
    obtain ⟨p1, p2, p3, p4, p5⟩ := PI.small S3.out HPs.out
    have hrl : (runsT U.lv).length = n := by rw [← R2.out, ls_len]; exact R1.out
    have HRl := Lib.hid hrl
    have HP1 := Lib.hid (And.intro p1 (And.intro p2 (And.intro p3 (And.intro p4 p5))))
    clear p1 p2 p3 p4 p5 hrl
    rcases Nat.eq_zero_or_pos n with hn0 | hn0
    · subst hn0
      go_wp2_with (go_at_call 32; refine HH.out.mono ?_; rintro r w3 ⟨k, rfl, hk, rfl⟩; have Hk := Lib.hid hk; clear hk)
      go_ret
      refine ⟨rfl, col1, T1, k, T2.out, S2.out, Hk.out, ?_, C2.out⟩
      unfold flushT
      rw [if_pos HRl.out]
      exact S3.out
    · have hn0' : ¬ ((n : Int) = 0) := by omega
      have hne := R3.out
      have hsr := short_runs (l := runsT U.lv) (k := 400) (fun r hr => by obtain ⟨l, hl, hr⟩ := runsT_mem hr; exact HPs.out.ne l hl r hr) (by rw [runsT_tot]; exact HPs.out.tot) (Nat.le_refl _)
      rw [HRl.out] at hsr
      have HSr := Lib.hid hsr
      have hn4 : n ≤ 400 := hsr.1
      have hlsm : ∀ r ∈ R, r.l ∈ runsT U.lv := fun r hr => by rw [← R2.out]; exact List.mem_map_of_mem hr
      have HLs := Lib.hid hlsm
      have hcn : cnts B (runsT U.lv) ≤ 400 := Nat.le_trans (cnts_le hB.1 _) (by rw [runsT_tot]; exact HPs.out.tot)
      have HCn := Lib.hid hcn
      have hcol : ∀ k, onBlk a2 k → col1 k = 0 := fun k hk => S1.out.up k (R4.out.blk k hk).1
      have HCol := Lib.hid hcol
      have HM := Lib.hid (move_any (c := c2) T2.out R4.out.rd (fun k hk => by rw [hcol k hk]; omega) hB (by omega) (fun r hr => by have := hsr.2.1 r.l (hlsm r hr); omega) (by have := HP1.out.2.2.2.1; have := HP1.out.2.2.2.2; omega))
      clear hne hsr hlsm hcn hcol
      go_wp2_with (first | (go_at_call 32; refine HH.out.mono ?_; rintro r w3 ⟨k, rfl, hk, rfl⟩; have Hk := Lib.hid hk; clear hk) | (go_at_call 62; refine HM.out.mono ?_; rintro r w4 ⟨rfl, T4, K4⟩; have z3 := T4.blk.cell (i := 3) rfl; have f3 := T4.blk.free 3; have H4 := Lib.hid (And.intro T4 K4); clear T4 K4))
      obtain ⟨w5, hw5⟩ : ∃ w5, w5 = w4.setCell ⟨t, 3, none⟩ (.slice none 0 0) := ⟨_, rfl⟩
      have D5 := H4.out.1.dropAll
      rw [← hw5] at D5 ⊢
      have K5 := H4.out.2.trans D5.2
      have hrok : ∀ r ∈ R, RunOK w5 col1 r := fun r hr => (R3.out r hr).fr K5.fr (fun k _ e e0 => by rw [e0] at e; omega) (fun k _ e0 => e0)
      have own5 := R4.out.fr K5.fr (fun k hk e => by rw [HCol.out k hk] at e; omega)
      have HJ := Lib.hid (joined_any (R := 401 - n) false own5 (fun r hr => ⟨(hrok r hr).1, by obtain ⟨l, hl, hr'⟩ := runsT_mem (HLs.out r hr); exact HPs.out.sd l hl _ hr', HSr.out.2.1 r.l (HLs.out r hr)⟩) (by omega) (by omega) HSr.out.2.2)
      have hk0 := Hk.out.pos (by rw [HRl.out]; omega)
      have hkl : k ≤ 2000 := by have h1 := Hk.out.1; have h2 := HP1.out.1; rw [HP1.out.2.2.1, lvT_len] at h1; omega
      obtain ⟨J, hJ⟩ : ∃ J, J = jres false (ls R) := ⟨_, rfl⟩
      rw [← hJ] at HJ
      have hJ2 : drp (jn (runsT U.lv)) = J := by rw [hJ, R2.out]; rfl
      have hJl : J.length ≤ 400 := by
        rw [← hJ2]
        exact Nat.le_trans (drp_len _) (Nat.le_trans (jn_len _) (by rw [runsT_tot]; exact HPs.out.tot))
      have HJ2 := Lib.hid hJ2
      have H5 := Lib.hid (And.intro D5.1 K5)
      have Hk0 := Lib.hid (And.intro hk0 hkl)
      have hfl : flushT B U k = if J.length = 0 then ⟨[], U.mv + cnts B (runsT U.lv)⟩ else addT B ⟨[], U.mv + cnts B (runsT U.lv)⟩ (k - 1) J := by
        unfold flushT
        rw [if_neg (by rw [HRl.out]; omega), hJ2]
      have HFl := Lib.hid hfl
      clear hw5 D5 K5 hrok own5 hJ hJ2 hfl z3 f3 hk0 hkl
      refine HJ.out.mono ?_
      rintro r w6 ⟨a6, c6, rfl, own6, F6⟩
      have T6 := H5.out.1.fr0 F6
      have K6 := H5.out.2.fr0 F6
      have hr6 : RunOK w6 col1 ⟨J, a6, c6⟩ := ⟨own6.rd, OwnZ.cap own6, fun k hk => ⟨(own6.blk k hk).2, H5.out.1.up k (own6.blk k hk).1⟩⟩
      have H6 := Lib.hid (And.intro T6 (And.intro K6 hr6))
      have hmv6 : T1.mv + cnts B (ls R) = U.mv + cnts B (runsT U.lv) := by rw [R2.out, HP1.out.2.2.2.1]
      have HMv := Lib.hid hmv6
      clear own6 F6 T6 K6 hr6 HJ hmv6
      by_cases hz : J.length = 0
      · have hJ0 : J = [] := List.length_eq_zero_iff.1 hz
        subst hJ0
        clear hz
        go_wp2_with fail
        go_ret
        refine ⟨rfl, col1, _, k, H6.out.1, S2.out, Hk.out, ?_, C2.out.trans (H6.out.2.1.ch (by omega))⟩
        rw [HFl.out, if_pos List.length_nil, ← HMv.out]
        rfl
      · have hz' : (0 : Int) < ((J.length : Nat) : Int) := by omega
        have HA := Lib.hid (add_any (i := k - 1) (r := ⟨J, a6, c6⟩) H6.out.1 H6.out.2.2 hB (by have := Hk0.out; omega) (Nat.zero_le _) (fun L' hL' => by cases hL') (by show J.length ≤ 100000; omega) (by dsimp only; rw [HMv.out]; have := HP1.out.2.2.2.2; have := HCn.out; omega))
        unfold RV.v at HA
        dsimp only at HA
        rw [show ((k - 1 : Nat) : Int) = (k : Int) - 1 by have := Hk0.out.1; omega] at HA
        have hkk : IntKind.i64.wrap ((k : Int) - 1) = (k : Int) - 1 := wI (by have := Hk0.out.1; omega) (by have := Hk0.out.2; omega)
        have Hz := Lib.hid hz
        clear hz
        go_wp2_with (go_at_call 63; refine HA.out.mono ?_; rintro r w7 ⟨rfl, col7, T7, a1, a2', a3, a4, a5⟩; have H7 := Lib.hid (And.intro a1 (And.intro a2' (And.intro a3 (And.intro a4 a5)))); clear a1 a2' a3 a4 a5)
        go_ret
        refine ⟨rfl, col7, T7, k, H7.out.1, H7.out.2.1.trans S2.out, Hk.out, ?_, (C2.out.trans (H6.out.2.1.ch (by omega))).trans H7.out.2.2.2.2⟩
        rw [HFl.out, if_neg Hz.out, H7.out.2.2.2.1, ← HMv.out]
        rfl
  · have hb0 : T.buf = [] := List.length_eq_zero_iff.1 (by omega)
    have hPs : PI (fspT B F T.tt T.buf) 400 1902 900001200 := by
      unfold fspT
      rw [if_pos (by omega)]
      exact hP.mono (by omega) (by omega) (by omega)
    rw [← hFd]
    obtain ⟨U, hU⟩ : ∃ U, U = fspT B F T.tt T.buf := ⟨_, rfl⟩
    rw [← hU] at hPs ⊢
    have HPs := Lib.hid hPs
    have h0' : ¬ (0 : Int) < (nb : Int) := by omega
    have S1 := Lib.hid h
    have S2 := Lib.hid hb0
    have S3 : Hid (T.tt = U) := Lib.hid (by rw [hU]; unfold fspT; rw [if_pos (by omega)])
    have S4 := Lib.hid (Ch.refl w col)
    clear h hP hbs hU hPs hnb hFd hF hb0
    obtain ⟨w1, hw1⟩ : ∃ w1, w1 = w := ⟨_, rfl⟩
    obtain ⟨col1, hcol1⟩ : ∃ c1, c1 = col := ⟨_, rfl⟩
    obtain ⟨T1, hT1⟩ : ∃ T1, T1 = T := ⟨_, rfl⟩
    have Sw := Lib.hid (And.intro hw1 (And.intro hcol1 hT1))
    have S1' : Hid (TS w1 col1 t B M T1) := Lib.hid (by rw [hw1, hcol1, hT1]; exact S1.out)
    have S2' : Hid (T1.buf = []) := Lib.hid (by rw [hT1]; exact S2.out)
    have S3' : Hid (T1.tt = U) := Lib.hid (by rw [hT1]; exact S3.out)
    have S4' : Hid (Ch w w1 col col1) := Lib.hid (by rw [hw1, hcol1]; exact S4.out)
    clear S1 S2 S3 S4
    subst hw1
    clear hcol1 hT1
    have S1 := S1'; have S2 := S2'; have S3 := S3'; have S4 := S4'
    clear S1' S2' S3' S4' Sw
    go_enter Try.func30, Try.ntmps30
    go_wp2_with (go_at_call 56; refine (runs_of S1.out S3.out HPs.out (by omega)).mono ?_; rintro r w2 ⟨a2, c2, n, R, rfl, r1, r2, r3, r4, r5, _⟩; have R1 := Lib.hid r1; have R2 := Lib.hid r2; have R3 := Lib.hid r3; have R4 := Lib.hid r4; have R5 := Lib.hid r5; clear r1 r2 r3 r4 r5)
    have HH := Lib.hid (height_of (S1.out.fr0 R5.out) S3.out HPs.out (by omega))
    have T2 := Lib.hid (S1.out.fr0 R5.out)
    have C2 := Lib.hid (S4.out.fr0 R5.out)
    obtain ⟨p1, p2, p3, p4, p5⟩ := PI.small S3.out HPs.out
    have hrl : (runsT U.lv).length = n := by rw [← R2.out, ls_len]; exact R1.out
    have HRl := Lib.hid hrl
    have HP1 := Lib.hid (And.intro p1 (And.intro p2 (And.intro p3 (And.intro p4 p5))))
    clear p1 p2 p3 p4 p5 hrl
    rcases Nat.eq_zero_or_pos n with hn0 | hn0
    · subst hn0
      go_wp2_with (go_at_call 32; refine HH.out.mono ?_; rintro r w3 ⟨k, rfl, hk, rfl⟩; have Hk := Lib.hid hk; clear hk)
      go_ret
      refine ⟨rfl, col1, T1, k, T2.out, S2.out, Hk.out, ?_, C2.out⟩
      unfold flushT
      rw [if_pos HRl.out]
      exact S3.out
    · have hn0' : ¬ ((n : Int) = 0) := by omega
      have hne := R3.out
      have hsr := short_runs (l := runsT U.lv) (k := 400) (fun r hr => by obtain ⟨l, hl, hr⟩ := runsT_mem hr; exact HPs.out.ne l hl r hr) (by rw [runsT_tot]; exact HPs.out.tot) (Nat.le_refl _)
      rw [HRl.out] at hsr
      have HSr := Lib.hid hsr
      have hn4 : n ≤ 400 := hsr.1
      have hlsm : ∀ r ∈ R, r.l ∈ runsT U.lv := fun r hr => by rw [← R2.out]; exact List.mem_map_of_mem hr
      have HLs := Lib.hid hlsm
      have hcn : cnts B (runsT U.lv) ≤ 400 := Nat.le_trans (cnts_le hB.1 _) (by rw [runsT_tot]; exact HPs.out.tot)
      have HCn := Lib.hid hcn
      have hcol : ∀ k, onBlk a2 k → col1 k = 0 := fun k hk => S1.out.up k (R4.out.blk k hk).1
      have HCol := Lib.hid hcol
      have HM := Lib.hid (move_any (c := c2) T2.out R4.out.rd (fun k hk => by rw [hcol k hk]; omega) hB (by omega) (fun r hr => by have := hsr.2.1 r.l (hlsm r hr); omega) (by have := HP1.out.2.2.2.1; have := HP1.out.2.2.2.2; omega))
      clear hne hsr hlsm hcn hcol
      go_wp2_with (first | (go_at_call 32; refine HH.out.mono ?_; rintro r w3 ⟨k, rfl, hk, rfl⟩; have Hk := Lib.hid hk; clear hk) | (go_at_call 62; refine HM.out.mono ?_; rintro r w4 ⟨rfl, T4, K4⟩; have z3 := T4.blk.cell (i := 3) rfl; have f3 := T4.blk.free 3; have H4 := Lib.hid (And.intro T4 K4); clear T4 K4))
      obtain ⟨w5, hw5⟩ : ∃ w5, w5 = w4.setCell ⟨t, 3, none⟩ (.slice none 0 0) := ⟨_, rfl⟩
      have D5 := H4.out.1.dropAll
      rw [← hw5] at D5 ⊢
      have K5 := H4.out.2.trans D5.2
      have hrok : ∀ r ∈ R, RunOK w5 col1 r := fun r hr => (R3.out r hr).fr K5.fr (fun k _ e e0 => by rw [e0] at e; omega) (fun k _ e0 => e0)
      have own5 := R4.out.fr K5.fr (fun k hk e => by rw [HCol.out k hk] at e; omega)
      have HJ := Lib.hid (joined_any (R := 401 - n) false own5 (fun r hr => ⟨(hrok r hr).1, by obtain ⟨l, hl, hr'⟩ := runsT_mem (HLs.out r hr); exact HPs.out.sd l hl _ hr', HSr.out.2.1 r.l (HLs.out r hr)⟩) (by omega) (by omega) HSr.out.2.2)
      have hk0 := Hk.out.pos (by rw [HRl.out]; omega)
      have hkl : k ≤ 2000 := by have h1 := Hk.out.1; have h2 := HP1.out.1; rw [HP1.out.2.2.1, lvT_len] at h1; omega
      obtain ⟨J, hJ⟩ : ∃ J, J = jres false (ls R) := ⟨_, rfl⟩
      rw [← hJ] at HJ
      have hJ2 : drp (jn (runsT U.lv)) = J := by rw [hJ, R2.out]; rfl
      have hJl : J.length ≤ 400 := by
        rw [← hJ2]
        exact Nat.le_trans (drp_len _) (Nat.le_trans (jn_len _) (by rw [runsT_tot]; exact HPs.out.tot))
      have HJ2 := Lib.hid hJ2
      have H5 := Lib.hid (And.intro D5.1 K5)
      have Hk0 := Lib.hid (And.intro hk0 hkl)
      have hfl : flushT B U k = if J.length = 0 then ⟨[], U.mv + cnts B (runsT U.lv)⟩ else addT B ⟨[], U.mv + cnts B (runsT U.lv)⟩ (k - 1) J := by
        unfold flushT
        rw [if_neg (by rw [HRl.out]; omega), hJ2]
      have HFl := Lib.hid hfl
      clear hw5 D5 K5 hrok own5 hJ hJ2 hfl z3 f3 hk0 hkl
      refine HJ.out.mono ?_
      rintro r w6 ⟨a6, c6, rfl, own6, F6⟩
      have T6 := H5.out.1.fr0 F6
      have K6 := H5.out.2.fr0 F6
      have hr6 : RunOK w6 col1 ⟨J, a6, c6⟩ := ⟨own6.rd, OwnZ.cap own6, fun k hk => ⟨(own6.blk k hk).2, H5.out.1.up k (own6.blk k hk).1⟩⟩
      have H6 := Lib.hid (And.intro T6 (And.intro K6 hr6))
      have hmv6 : T1.mv + cnts B (ls R) = U.mv + cnts B (runsT U.lv) := by rw [R2.out, HP1.out.2.2.2.1]
      have HMv := Lib.hid hmv6
      clear own6 F6 T6 K6 hr6 HJ hmv6
      by_cases hz : J.length = 0
      · have hJ0 : J = [] := List.length_eq_zero_iff.1 hz
        subst hJ0
        clear hz
        go_wp2_with fail
        go_ret
        refine ⟨rfl, col1, _, k, H6.out.1, S2.out, Hk.out, ?_, C2.out.trans (H6.out.2.1.ch (by omega))⟩
        rw [HFl.out, if_pos List.length_nil, ← HMv.out]
        rfl
      · have hz' : (0 : Int) < ((J.length : Nat) : Int) := by omega
        have HA := Lib.hid (add_any (i := k - 1) (r := ⟨J, a6, c6⟩) H6.out.1 H6.out.2.2 hB (by have := Hk0.out; omega) (Nat.zero_le _) (fun L' hL' => by cases hL') (by show J.length ≤ 100000; omega) (by dsimp only; rw [HMv.out]; have := HP1.out.2.2.2.2; have := HCn.out; omega))
        unfold RV.v at HA
        dsimp only at HA
        rw [show ((k - 1 : Nat) : Int) = (k : Int) - 1 by have := Hk0.out.1; omega] at HA
        have hkk : IntKind.i64.wrap ((k : Int) - 1) = (k : Int) - 1 := wI (by have := Hk0.out.1; omega) (by have := Hk0.out.2; omega)
        have Hz := Lib.hid hz
        clear hz
        go_wp2_with (go_at_call 63; refine HA.out.mono ?_; rintro r w7 ⟨rfl, col7, T7, a1, a2', a3, a4, a5⟩; have H7 := Lib.hid (And.intro a1 (And.intro a2' (And.intro a3 (And.intro a4 a5)))); clear a1 a2' a3 a4 a5)
        go_ret
        refine ⟨rfl, col7, T7, k, H7.out.1, H7.out.2.1.trans S2.out, Hk.out, ?_, (C2.out.trans (H6.out.2.1.ch (by omega))).trans H7.out.2.2.2.2⟩
        rw [HFl.out, if_neg Hz.out, H7.out.2.2.2.1, ← HMv.out]
        rfl
end Go.Proofs.Ytkmnnfflibamnaa
