/- PagefileKeeps: the walk. -/
import Derived.Test.YtehpikjhjghplaaB28
import Derived.Test.YtehpikjhjghplaaB29
import Derived.Test.YtehpikjhjghplaaB16
import Derived.Test.YtehpikjhjghplaaArg
namespace Go.Proofs.Ytehpikjhjghplaa
open Go.RowKit
attribute [local go_sem ↓] Go.wp_at_zero Go.wp_at_succ
set_option maxRecDepth 100000 in
set_option maxHeartbeats 8000000 in
theorem Keeps_walk (a : Option Addr) (n c : Nat) (pg sy af : Int) (bs : List UInt8) (w : World) (hr : Rd w a n (byt bs)) (hc : n ≤ c) :
    Calls Try.prog 7 #[.agg (dskI pg a n c sy af)] w fun e w' => e = .returned (.bool true) ∧ Fr F0 w w' := by
  have FA : Fr F0 w (w.alloc (.cells (dskI pg a n c sy af) 24)) := (Fr.refl _ _).alloc _
  have B0 : Blk (w.alloc (.cells (dskI pg a n c sy af) 24)) w.heap.size 24 [.int .i64 pg, .slice a n c, .int .i64 sy, .int .i64 af] := Blk.new w 24 [.int .i64 pg, .slice a n c, .int .i64 sy, .int .i64 af]
  obtain ⟨bA, hbA⟩ : ∃ b, b = w.heap.size := ⟨_, rfl⟩
  rw [← hbA] at B0
  have HbA := Lib.hid hbA
  have Hr := Lib.hid hr
  have HC := Lib.hid hc
  have Hbl : Hid (bs.length = n) := Lib.hid (by simpa using hr.len)
  replace FA := Lib.hid FA
  replace B0 := Lib.hid B0
  clear hr hc
  go_enter Try.func7, Try.ntmps7
  go_wp2_with fail
  refine (awake_any _).mono ?_
  rintro e w1 ⟨rfl, F1⟩
  rw [← hbA]
  clear hbA
  have CA := Lib.hid (B0.out.fr F1 id)
  have FW := Lib.hid (FA.out.trans0 F1)
  have x0 := CA.out.cell (i := 0) rfl
  have x1 := CA.out.cell (i := 1) rfl
  have x2 := CA.out.cell (i := 2) rfl
  have x3 := CA.out.cell (i := 3) rfl
  clear F1 B0 FA
  go_wp2_with fail
  refine (large_any a n c pg sy af _).mono ?_
  rintro e w2 ⟨r, rfl, hlg, F2⟩
  have Hlg := Lib.hid hlg
  clear hlg
  replace CA := Lib.hid (CA.out.fr F2 id)
  replace FW := Lib.hid (FW.out.trans0 F2)
  clear x0 x1 x2 x3 F2
  have x0 := CA.out.cell (i := 0) rfl
  have x1 := CA.out.cell (i := 1) rfl
  have x2 := CA.out.cell (i := 2) rfl
  have x3 := CA.out.cell (i := 3) rfl
  cases r with
  | true =>
    go_wp2_with fail
    go_ret
    exact ⟨rfl, FW.out⟩
  | false =>
    go_wp2_with fail
    refine (refValid_any a n c pg sy af bs _ (Hr.out.fr0 FW.out) HC.out).mono ?_
    rintro e w9 ⟨rfl, F9⟩
    replace CA := Lib.hid (CA.out.fr F9 id)
    replace FW := Lib.hid (FW.out.trans0 F9)
    clear x0 x1 x2 x3 F9
    have x0 := CA.out.cell (i := 0) rfl
    have x1 := CA.out.cell (i := 1) rfl
    have x2 := CA.out.cell (i := 2) rfl
    have x3 := CA.out.cell (i := 3) rfl
    have hall : ∀ b : Bool, b = true ∨ b = false := by decide
    rcases hall (validB pg bs sy af) with hv | hv
    rotate_left
    · rw [hv]
      clear hall hv
      go_wp2_with fail
      go_ret
      exact ⟨rfl, FW.out⟩
    · obtain ⟨⟨hp1, hp2⟩, -, hlen, -⟩ := valid_of hv
      have Hv := Lib.hid hv
      have Hln : Hid (n ≤ 1500) := Lib.hid (by have := Hbl.out; have := Hlg.out (by simp); omega)
      have Hpp : Hid (8 ≤ pg ∧ pg ≤ 256) := Lib.hid ⟨hp1, hp2⟩
      obtain ⟨page, hpage⟩ := Int.eq_ofNat_of_zero_le (show 0 ≤ pg by omega)
      obtain ⟨P, hP⟩ : ∃ P, P = dpgs pg bs := ⟨_, rfl⟩
      have hP9 : pgsL page (recs bs page).1 = P := by rw [hP, hpage]; unfold dpgs; rw [Int.toNat_natCast]
      have hcall : Calls Try.prog 24 #[.agg (dskI pg a n c sy af)] w9 (PgPost P a w9) := by
        rw [hpage, ← hP9]
        exact Pages_any a n c page sy af bs w9 (Hr.out.fr0 FW.out) HC.out (by have := Hln.out; omega) (by omega) (by omega)
      have Hcall := Lib.hid hcall
      have HP := Lib.hid hP
      rw [hv]
      clear hall hv hp1 hp2 hlen hcall hP9 hP hpage
      go_wp2_with fail
      refine Hcall.out.mono ?_
      rintro e wv ⟨aP, nP, cP, vs, S, hnP, rfl, OP, RP, _, FP⟩
      have CX := Lib.hid (CA.out.fr FP id)
      have FX := Lib.hid (FW.out.trans0 FP)
      have HnP := Lib.hid hnP
      clear x0 x1 x2 x3 FP OP RP hnP FW CA Hcall
      by_cases h40 : 40 < nP
      · go_wp2_with fail
        go_ret
        exact ⟨rfl, FX.out⟩
      · have h40' : decide ((40 : Int) < (nP : Int)) = false := by simp; omega
        have H40 : Hid (nP ≤ 40) := Lib.hid (by omega)
        clear h40
        have CA := CX
        have FW := FX
        clear CX FX
        have x0 := CA.out.cell (i := 0) rfl
        have x1 := CA.out.cell (i := 1) rfl
        have x2 := CA.out.cell (i := 2) rfl
        have x3 := CA.out.cell (i := 3) rfl
        go_wp2_with fail
        refine (shown_any a n c pg sy af bs _ (Hr.out.fr0 FW.out) HC.out Hv.out).mono ?_
        rintro e w0 ⟨a3, n3, c3, v3, S3, hn3, rfl, D3, R3, F3⟩
        rw [← HP.out] at hn3 R3
        obtain rfl : n3 = nP := by rw [hn3, HnP.out]
        replace CA := Lib.hid (CA.out.fr F3 id)
        replace FW := Lib.hid (FW.out.trans0 F3)
        replace D3 := Lib.hid D3
        replace R3 := Lib.hid R3
        clear x0 x1 x2 x3 F3 hn3 h40'
        have x0 := CA.out.cell (i := 0) rfl
        have x1 := CA.out.cell (i := 1) rfl
        have x2 := CA.out.cell (i := 2) rfl
        have x3 := CA.out.cell (i := 3) rfl
        go_wp2_with fail
        refine (Checkpoint_any a n c pg sy af bs _ (Hr.out.fr0 FW.out) HC.out).mono ?_
        rintro e w1 ⟨a1, n1, c1, hn1, rfl, O1, F1⟩
        obtain ⟨hQ, hQv, hQl, hQp⟩ := ckpt_keeps Hv.out (by rw [← HP.out, ← HnP.out]; exact H40.out) (by rw [Hbl.out]; exact Hln.out)
        obtain ⟨Q, hQd⟩ : ∃ Q, Q = ckptS pg bs sy af := ⟨_, rfl⟩
        rw [← hQd] at hn1 O1 hQ hQv hQl hQp ⊢
        rw [← HP.out] at hQp hQ
        rw [← hn1] at hQl
        have hpg : Q.1.pg = pg := by rcases hQ with h | ⟨_, h⟩ <;> rw [h]
        have hQc : ctS pg Q.1.bs Q.1.sy Q.1.af = (((recs Q.1.bs pg.toNat).1.length : Int), 0) := by unfold ctS; rw [hQv, if_pos rfl]
        rw [hpg]
        have A1 := F1.alloc (.cells (dskI pg a1 n1 c1 Q.1.sy Q.1.af) 24)
        have O1' := Lib.hid (O1.rd.alloc (.cells (dskI pg a1 n1 c1 Q.1.sy Q.1.af) 24))
        have c1n := Lib.hid O1.cap
        have CB := Lib.hid (Blk.new w1 24 [.int .i64 pg, .slice a1 n1 c1, .int .i64 Q.1.sy, .int .i64 Q.1.af])
        obtain ⟨b1, hb1⟩ : ∃ b, b = w1.heap.size := ⟨_, rfl⟩
        replace D3 := Lib.hid (D3.out.fr0 A1)
        replace R3 := Lib.hid (R3.out.fr0 A1)
        replace CA := Lib.hid (CA.out.fr A1 id)
        replace FW := Lib.hid (FW.out.trans0 A1)
        have Hn1 := Lib.hid hn1
        have HQ := Lib.hid hQ
        have HQv := Lib.hid hQv
        have HQp := Lib.hid hQp
        have HQc := Lib.hid hQc
        have l20 : decide ((20000 : Int) < (n1 : Int)) = false := by simp; omega
        clear x0 x1 x2 x3 F1 O1 hn1 A1 hQ hQv hQl hQp hQc hpg hQd
        have y0 := CB.out.cell (i := 0) rfl
        have y1 := CB.out.cell (i := 1) rfl
        have y2 := CB.out.cell (i := 2) rfl
        have y3 := CB.out.cell (i := 3) rfl
        have h2 : Q.2 = 27 ∨ Q.2 = 0 := by rcases HQ.out with h | ⟨_, h⟩ <;> rw [h] <;> simp
        obtain ⟨e2, he2⟩ : ∃ e2, e2 = Q.2 := ⟨_, rfl⟩
        rw [← he2] at h2 ⊢
        have He2 := Lib.hid he2
        clear he2
        rcases h2 with rfl | rfl
        · go_wp2_with fail
          clear l20
          refine (shown_any a1 n1 c1 pg Q.1.sy Q.1.af Q.1.bs _ O1'.out c1n.out HQv.out).mono ?_
          rintro e w2 ⟨a4, n4, c4, v4, S4, hn4, rfl, D4, R4, F4⟩
          rw [HQp.out] at hn4 R4
          obtain rfl : n4 = n3 := by rw [hn4, HnP.out]
          rw [← hb1] at CB
          rw [← hb1]
          clear y0 y1 y2 y3 hn4
          replace CA := Lib.hid (CA.out.fr F4 id)
          replace CB := Lib.hid (CB.out.fr F4 id)
          replace FW := Lib.hid (FW.out.trans0 F4)
          replace O1' := Lib.hid (O1'.out.fr0 F4)
          replace D3 := Lib.hid (D3.out.fr0 F4)
          replace R3 := Lib.hid (R3.out.fr0 F4)
          replace D4 := Lib.hid D4
          replace R4 := Lib.hid R4
          clear F4 hb1
          have y0 := CB.out.cell (i := 0) rfl
          have y1 := CB.out.cell (i := 1) rfl
          have y2 := CB.out.cell (i := 2) rfl
          have y3 := CB.out.cell (i := 3) rfl
          go_wp2_with fail
          refine (Commits_any a1 n1 c1 pg Q.1.sy Q.1.af Q.1.bs _ O1'.out c1n.out).mono ?_
          rintro e w4 ⟨rfl, F5⟩
          rw [HQc.out]
          obtain ⟨ct, hct⟩ : ∃ ct, ct = (recs Q.1.bs pg.toNat).1.length := ⟨_, rfl⟩
          rw [← hct]
          have Hct := Lib.hid hct
          clear y0 y1 y2 y3 hct
          replace CA := Lib.hid (CA.out.fr F5 id)
          replace CB := Lib.hid (CB.out.fr F5 id)
          replace FW := Lib.hid (FW.out.trans0 F5)
          replace O1' := Lib.hid (O1'.out.fr0 F5)
          replace D3 := Lib.hid (D3.out.fr0 F5)
          replace R3 := Lib.hid (R3.out.fr0 F5)
          replace D4 := Lib.hid (D4.out.fr0 F5)
          replace R4 := Lib.hid (R4.out.fr0 F5)
          clear F5
          have x0 := CA.out.cell (i := 0) rfl
          have x1 := CA.out.cell (i := 1) rfl
          have x2 := CA.out.cell (i := 2) rfl
          have x3 := CA.out.cell (i := 3) rfl
          have y0 := CB.out.cell (i := 0) rfl
          have y1 := CB.out.cell (i := 1) rfl
          have y2 := CB.out.cell (i := 2) rfl
          have y3 := CB.out.cell (i := 3) rfl
          go_wp2_with fail
          refine (same_any a3 a4 n4 c3 c4 P v3 v4 S3 S4 _ D3.out D4.out R3.out R4.out).mono ?_
          rintro e w5 ⟨rfl, rfl⟩
          have hq : Q.1 = ⟨pg, bs, sy, 0⟩ := by
            rcases HQ.out with h | ⟨_, h⟩
            · rw [h]
            · have := He2.out; rw [h] at this; simp at this
          have ha : Q.1.af = 0 := by rw [hq]
          have hb : Q.1.bs = bs := by rw [hq]
          have o1 := O1'.out
          rw [hb] at o1
          obtain rfl : n1 = n := by rw [Hn1.out, hb, Hbl.out]
          rw [ha] at y3
          have Heq := Lib.hid (Equal_any a1 a n1 c1 c bs _ o1 (Hr.out.fr0 FW.out))
          clear ha hb hq o1
          go_wp2_with fail
          refine Heq.out.mono ?_
          rintro e w6 ⟨rfl, rfl⟩
          go_wp2_with fail
          go_ret
          exact ⟨rfl, FW.out⟩
        · go_wp2_with fail
          clear l20
          refine (shown_any a1 n1 c1 pg Q.1.sy Q.1.af Q.1.bs _ O1'.out c1n.out HQv.out).mono ?_
          rintro e w2 ⟨a4, n4, c4, v4, S4, hn4, rfl, D4, R4, F4⟩
          rw [HQp.out] at hn4 R4
          obtain rfl : n4 = n3 := by rw [hn4, HnP.out]
          rw [← hb1] at CB
          rw [← hb1]
          clear y0 y1 y2 y3 hn4
          replace CA := Lib.hid (CA.out.fr F4 id)
          replace CB := Lib.hid (CB.out.fr F4 id)
          replace FW := Lib.hid (FW.out.trans0 F4)
          replace O1' := Lib.hid (O1'.out.fr0 F4)
          replace D3 := Lib.hid (D3.out.fr0 F4)
          replace R3 := Lib.hid (R3.out.fr0 F4)
          replace D4 := Lib.hid D4
          replace R4 := Lib.hid R4
          clear F4 hb1
          have y0 := CB.out.cell (i := 0) rfl
          have y1 := CB.out.cell (i := 1) rfl
          have y2 := CB.out.cell (i := 2) rfl
          have y3 := CB.out.cell (i := 3) rfl
          go_wp2_with fail
          refine (Commits_any a1 n1 c1 pg Q.1.sy Q.1.af Q.1.bs _ O1'.out c1n.out).mono ?_
          rintro e w4 ⟨rfl, F5⟩
          rw [HQc.out]
          obtain ⟨ct, hct⟩ : ∃ ct, ct = (recs Q.1.bs pg.toNat).1.length := ⟨_, rfl⟩
          rw [← hct]
          have Hct := Lib.hid hct
          clear y0 y1 y2 y3 hct
          replace CA := Lib.hid (CA.out.fr F5 id)
          replace CB := Lib.hid (CB.out.fr F5 id)
          replace FW := Lib.hid (FW.out.trans0 F5)
          replace O1' := Lib.hid (O1'.out.fr0 F5)
          replace D3 := Lib.hid (D3.out.fr0 F5)
          replace R3 := Lib.hid (R3.out.fr0 F5)
          replace D4 := Lib.hid (D4.out.fr0 F5)
          replace R4 := Lib.hid (R4.out.fr0 F5)
          clear F5
          have x0 := CA.out.cell (i := 0) rfl
          have x1 := CA.out.cell (i := 1) rfl
          have x2 := CA.out.cell (i := 2) rfl
          have x3 := CA.out.cell (i := 3) rfl
          have y0 := CB.out.cell (i := 0) rfl
          have y1 := CB.out.cell (i := 1) rfl
          have y2 := CB.out.cell (i := 2) rfl
          have y3 := CB.out.cell (i := 3) rfl
          go_wp2_with fail
          refine (same_any a3 a4 n4 c3 c4 P v3 v4 S3 S4 _ D3.out D4.out R3.out R4.out).mono ?_
          rintro e w5 ⟨rfl, rfl⟩
          have hq : ∃ af', Q.1 = ⟨pg, ckR P, ((ckR P).length : Nat), af'⟩ := by
            rcases HQ.out with h | ⟨x, h⟩
            · have := He2.out; rw [h] at this; simp at this
            · exact ⟨x, by rw [h]⟩
          obtain ⟨af', hq⟩ := hq
          have hs : Q.1.sy = (n1 : Int) := by rw [Hn1.out, hq]
          have hct : (ct : Int) = min 1 (n4 : Int) := by
            obtain ⟨page, hpage⟩ := Int.eq_ofNat_of_zero_le (show 0 ≤ pg by have := Hpp.out; omega)
            have hpo := pg_ok page bs
            have hP9 := HP.out
            rw [hpage] at hP9
            rw [← hP9] at hpo
            have h := (recs_ckR (page := page) hpo.1 hpo.2).2.1
            have h2 := Hct.out
            rw [hq, hpage, Int.toNat_natCast] at h2
            have h3 : ct = min 1 P.length := by rw [h2]; exact h
            have := HnP.out
            omega
          rw [hs] at y2
          clear hq hs
          rcases Nat.eq_zero_or_pos n4 with h0 | h0
          · subst h0
            have e : (ct : Int) = 0 := by rw [hct]; rfl
            clear hct
            have e' : ct = 0 := by omega
            clear e
            subst e'
            have m0 : min (1 : Int) 0 = 0 := by decide
            go_wp2_with fail
            go_ret
            exact ⟨by first | rfl | (congr 2; simp), FW.out⟩
          · have e' : ct = 1 := by omega
            have m1 : min (1 : Int) (n4 : Int) = 1 := by omega
            clear hct
            subst e'
            have h1 : (1 : Int) ≤ (n4 : Int) := by omega
            go_wp2_with fail
            all_goals go_ret
            all_goals exact ⟨by first | rfl | (congr 2; simp; try omega), FW.out⟩
theorem Keeps_law (a : Option Addr) (n c : Nat) (pg sy af : Int) (bs : List UInt8) (w : World) (h : ArgBy w a n c bs) :
    Calls Try.prog 7 #[.agg (dskI pg a n c sy af)] w fun e w' => e = .returned (.bool true) ∧ Fr F0 w w' := Keeps_walk a n c pg sy af bs w h.rd h.cap
end Go.Proofs.Ytehpikjhjghplaa
