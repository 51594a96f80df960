/- PagefileReads: the walk. -/
import Derived.Test.YtehpikjhjghplaaB22
import Derived.Test.YtehpikjhjghplaaB23
import Derived.Test.YtehpikjhjghplaaB16
import Derived.Test.YtehpikjhjghplaaArg
namespace Go.Proofs.Ytehpikjhjghplaa
open Go.RowKit
attribute [local go_sem ↓] Go.wp_at_zero Go.wp_at_succ
set_option maxHeartbeats 8000000 in
theorem Reads_walk (a : Option Addr) (n c : Nat) (pg sy af p : Int) (bs : List UInt8) (w : World) (hr : Rd w a n (byt bs)) (hc : n ≤ c) :
    Calls Try.prog 5 #[.agg (dskI pg a n c sy af), .int .i64 p] w fun e w' => e = .returned (.bool true) ∧ Fr F0 w w' := by
  have FA : Fr F0 w (w.alloc (.cells (dskI pg a n c sy af) 24)) := (Fr.refl _ _).alloc _
  have B0 : Blk (w.alloc (.cells (dskI pg a n c sy af) 24)) w.heap.size 24 [.int .i64 pg, .slice a n c, .int .i64 sy, .int .i64 af] := Blk.new w 24 [.int .i64 pg, .slice a n c, .int .i64 sy, .int .i64 af]
  obtain ⟨bA, hbA⟩ : ∃ b, b = w.heap.size := ⟨_, rfl⟩
  rw [← hbA] at B0
  have HbA := Lib.hid hbA
  have Hr := Lib.hid hr
  have HC := Lib.hid hc
  have Hbl : Hid (bs.length = n) := Lib.hid (by simpa using hr.len)
  replace FA := Lib.hid FA
  replace B0 := Lib.hid B0
  clear hr hc
  go_enter Try.func5, Try.ntmps5
  go_wp2_with fail
  refine (awake_any _).mono ?_
  rintro e w1 ⟨rfl, F1⟩
  rw [← hbA]
  clear hbA
  have CA := Lib.hid (B0.out.fr F1 id)
  have FW := Lib.hid (FA.out.trans0 F1)
  have x0 := CA.out.cell (i := 0) rfl
  have x1 := CA.out.cell (i := 1) rfl
  have x2 := CA.out.cell (i := 2) rfl
  have x3 := CA.out.cell (i := 3) rfl
  clear F1 B0 FA
  go_wp2_with fail
  refine (large_any a n c pg sy af _).mono ?_
  rintro e w2 ⟨r, rfl, _, F2⟩
  replace CA := Lib.hid (CA.out.fr F2 id)
  replace FW := Lib.hid (FW.out.trans0 F2)
  clear x0 x1 x2 x3 F2
  have x0 := CA.out.cell (i := 0) rfl
  have x1 := CA.out.cell (i := 1) rfl
  have x2 := CA.out.cell (i := 2) rfl
  have x3 := CA.out.cell (i := 3) rfl
  cases r with
  | true =>
    go_wp2_with fail
    go_ret
    exact ⟨rfl, FW.out⟩
  | false =>
    obtain ⟨P1, hP1⟩ : ∃ P, P = pgS pg bs sy af := ⟨_, rfl⟩
    obtain ⟨P2, hP2⟩ : ∃ P, P = ctS pg bs sy af := ⟨_, rfl⟩
    obtain ⟨P3, hP3⟩ : ∃ P, P = getS pg bs sy af p := ⟨_, rfl⟩
    obtain ⟨R, hR⟩ : ∃ P, P = openS pg bs sy af := ⟨_, rfl⟩
    have H1 := Lib.hid hP1
    have H2 := Lib.hid hP2
    have H3 := Lib.hid hP3
    have HRR := Lib.hid hR
    clear hP1 hP2 hP3 hR
    go_wp2_with fail
    refine (PagesN_any a n c pg sy af bs _ (Hr.out.fr0 FW.out) HC.out).mono ?_
    rintro e w3 ⟨rfl, F3⟩
    rw [← H1.out]
    replace CA := Lib.hid (CA.out.fr F3 id)
    replace FW := Lib.hid (FW.out.trans0 F3)
    clear x0 x1 x2 x3 F3
    have x0 := CA.out.cell (i := 0) rfl
    have x1 := CA.out.cell (i := 1) rfl
    have x2 := CA.out.cell (i := 2) rfl
    have x3 := CA.out.cell (i := 3) rfl
    go_wp2_with fail
    refine (Commits_any a n c pg sy af bs _ (Hr.out.fr0 FW.out) HC.out).mono ?_
    rintro e w4 ⟨rfl, F4⟩
    rw [← H2.out]
    replace CA := Lib.hid (CA.out.fr F4 id)
    replace FW := Lib.hid (FW.out.trans0 F4)
    clear x0 x1 x2 x3 F4
    have x0 := CA.out.cell (i := 0) rfl
    have x1 := CA.out.cell (i := 1) rfl
    have x2 := CA.out.cell (i := 2) rfl
    have x3 := CA.out.cell (i := 3) rfl
    go_wp2_with fail
    refine (Get_any a n c pg sy af bs p _ (Hr.out.fr0 FW.out) HC.out).mono ?_
    rintro e w5 ⟨a5, n5, c5, hn5, rfl, O5, F5⟩
    rw [← H3.out] at hn5 O5 ⊢
    have Hn5 := Lib.hid hn5
    replace O5 := Lib.hid O5.rd
    clear hn5
    replace CA := Lib.hid (CA.out.fr F5 id)
    replace FW := Lib.hid (FW.out.trans0 F5)
    clear x0 x1 x2 x3 F5
    have x0 := CA.out.cell (i := 0) rfl
    have x1 := CA.out.cell (i := 1) rfl
    have x2 := CA.out.cell (i := 2) rfl
    have x3 := CA.out.cell (i := 3) rfl
    go_wp2_with fail
    refine (Open_any a n c pg sy af bs _ (Hr.out.fr0 FW.out) HC.out).mono ?_
    rintro e w6 ⟨a6, n6, c6, hn6, rfl, O6, F6⟩
    rw [← HRR.out] at hn6 O6 ⊢
    have Hn6 := Lib.hid hn6
    have A6 : Fr F0 w5 (w6.alloc (.cells (dskI R.1.pg a6 n6 c6 R.1.sy R.1.af) 24)) := F6.alloc _
    replace O5 := Lib.hid (O5.out.fr0 A6)
    have O6' := Lib.hid (O6.rd.alloc (.cells (dskI R.1.pg a6 n6 c6 R.1.sy R.1.af) 24))
    have C6 := Lib.hid (Blk.new w6 24 [.int .i64 R.1.pg, .slice a6 n6 c6, .int .i64 R.1.sy, .int .i64 R.1.af])
    clear hn6 O6 F6
    replace CA := Lib.hid (CA.out.fr A6 id)
    replace FW := Lib.hid (FW.out.trans0 A6)
    clear x0 x1 x2 x3 A6
    have x0 := CA.out.cell (i := 0) rfl
    have x1 := CA.out.cell (i := 1) rfl
    have x2 := CA.out.cell (i := 2) rfl
    have x3 := CA.out.cell (i := 3) rfl
    go_wp2_with fail
    refine (RefOpen_any a n c pg sy af bs _ (Hr.out.fr0 FW.out) HC.out).mono ?_
    rintro e w7 ⟨a7, n7, c7, hn7, rfl, O7, F7⟩
    rw [← HRR.out] at hn7 O7 ⊢
    obtain rfl : n7 = n6 := by rw [hn7, Hn6.out]
    have A7 := F7.alloc (.cells (dskI R.1.pg a7 n7 c7 R.1.sy R.1.af) 24)
    replace O5 := Lib.hid (O5.out.fr0 A7)
    have O6 := Lib.hid (O6'.out.fr0 A7)
    have O7' := Lib.hid (O7.rd.alloc (.cells (dskI R.1.pg a7 n7 c7 R.1.sy R.1.af) 24))
    replace C6 := Lib.hid (C6.out.fr A7 id)
    obtain ⟨b6, hb6⟩ : ∃ b, b = w6.heap.size := ⟨_, rfl⟩
    rw [← hb6] at C6
    rw [← hb6]
    clear hn7 O7 F7 O6' hb6
    replace CA := Lib.hid (CA.out.fr A7 id)
    replace FW := Lib.hid (FW.out.trans0 A7)
    clear x0 x1 x2 x3 A7
    have x0 := CA.out.cell (i := 0) rfl
    have x1 := CA.out.cell (i := 1) rfl
    have x2 := CA.out.cell (i := 2) rfl
    have x3 := CA.out.cell (i := 3) rfl
    have y0 := C6.out.cell (i := 0) rfl
    have y1 := C6.out.cell (i := 1) rfl
    have y2 := C6.out.cell (i := 2) rfl
    have y3 := C6.out.cell (i := 3) rfl
    go_wp2_with fail
    refine (Same_any R.1.pg R.1.sy R.1.af a6 a7 n7 c6 c7 R.1.bs _ O6.out O7'.out).mono ?_
    rintro e w8 ⟨rfl, F8⟩
    replace O5 := Lib.hid (O5.out.fr0 F8)
    clear y0 y1 y2 y3 O6 O7' C6
    replace CA := Lib.hid (CA.out.fr F8 id)
    replace FW := Lib.hid (FW.out.trans0 F8)
    clear x0 x1 x2 x3 F8
    have x0 := CA.out.cell (i := 0) rfl
    have x1 := CA.out.cell (i := 1) rfl
    have x2 := CA.out.cell (i := 2) rfl
    have x3 := CA.out.cell (i := 3) rfl
    go_wp2_with fail
    refine (refValid_any a n c pg sy af bs _ (Hr.out.fr0 FW.out) HC.out).mono ?_
    rintro e w9 ⟨rfl, F9⟩
    replace O5 := Lib.hid (O5.out.fr0 F9)
    replace CA := Lib.hid (CA.out.fr F9 id)
    replace FW := Lib.hid (FW.out.trans0 F9)
    clear x0 x1 x2 x3 F9
    have x0 := CA.out.cell (i := 0) rfl
    have x1 := CA.out.cell (i := 1) rfl
    have x2 := CA.out.cell (i := 2) rfl
    have x3 := CA.out.cell (i := 3) rfl
    cases hv : validB pg bs sy af with
    | false =>
      have E1 := H1.out
      have E2 := H2.out
      have E3 := H3.out
      unfold pgS at E1
      unfold ctS at E2
      unfold getS at E3
      rw [hv, if_neg (by decide)] at E1 E2 E3
      subst E1
      subst E2
      subst E3
      clear H1 H2 H3 HRR hv
      obtain rfl : n5 = 0 := Hn5.out
      go_wp2_with fail
      go_ret
      exact ⟨rfl, FW.out⟩
    | true =>
      obtain ⟨⟨hp1, hp2⟩, _, hlen, _⟩ := valid_of hv
      obtain ⟨page, rfl⟩ := Int.eq_ofNat_of_zero_le (show 0 ≤ pg by omega)
      have E1 := H1.out
      have E2 := H2.out
      have E3 := H3.out
      unfold pgS at E1
      unfold ctS at E2
      unfold getS at E3
      rw [hv, if_pos rfl] at E1 E2 E3
      rw [Int.toNat_natCast] at E2
      have Hln : Hid (n ≤ 1048576 ∧ page ≤ 256 ∧ 1 ≤ page) := Lib.hid (by have := Hbl.out; omega)
      obtain ⟨P, hP⟩ : ∃ P, P = dpgs page bs := ⟨_, rfl⟩
      have hP9 : pgsL page (recs bs page).1 = P := by rw [hP]; unfold dpgs; rw [Int.toNat_natCast]
      have HP9 := Lib.hid hP9
      rw [← hP] at E1 E3
      obtain ⟨ln, hln⟩ : ∃ ln, ln = (recs bs page).1.length := ⟨_, rfl⟩
      rw [← hln] at E2
      have Hln2 := Lib.hid hln
      subst E1
      subst E2
      have HE3 := Lib.hid E3
      clear H1 H2 H3 HRR hv E3 hP9 hP hln hp1 hp2 hlen
      go_wp2_with fail
      refine (Pages_any a n c page sy af bs _ (Hr.out.fr0 FW.out) HC.out Hln.out.1 Hln.out.2.1 Hln.out.2.2).mono ?_
      rintro e w10 ⟨aP, nP, cP, vs, S, hnP, rfl, OP, RP, _, FP⟩
      rw [HP9.out] at hnP RP
      subst hnP
      replace O5 := Lib.hid (O5.out.fr0 FP)
      have OP' := Lib.hid OP.rd
      have RP' := Lib.hid RP
      clear OP RP
      replace CA := Lib.hid (CA.out.fr FP id)
      replace FW := Lib.hid (FW.out.trans0 FP)
      clear x0 x1 x2 x3 FP
      have x0 := CA.out.cell (i := 0) rfl
      have x1 := CA.out.cell (i := 1) rfl
      have x2 := CA.out.cell (i := 2) rfl
      have x3 := CA.out.cell (i := 3) rfl
      go_wp2_with fail
      refine (Records_any a n c page sy af bs _ (Hr.out.fr0 FW.out) HC.out Hln.out.1 Hln.out.2.1 Hln.out.2.2).mono ?_
      rintro e w11 ⟨aR, cR, T, SR, rfl, _, _, _, _, FR⟩
      rw [← Hln2.out]
      obtain ⟨fin, hfin⟩ : ∃ f, f = (recs bs page).2 := ⟨_, rfl⟩
      rw [← hfin]
      replace O5 := Lib.hid (O5.out.fr0 FR)
      replace OP' := Lib.hid (OP'.out.fr0 FR)
      replace RP' := Lib.hid (RP'.out.fr0 FR)
      replace FW := Lib.hid (FW.out.trans0 FR)
      clear FR x0 x1 x2 x3 hfin CA
      by_cases hp0 : p < 0
      · have E3 := HE3.out
        rw [if_pos (.inl hp0)] at E3
        clear HE3
        subst E3
        obtain rfl : n5 = 0 := Hn5.out
        go_wp2_with fail
        go_ret
        exact ⟨rfl, FW.out⟩
      · obtain ⟨q, rfl⟩ := Int.eq_ofNat_of_zero_le (show 0 ≤ p by omega)
        by_cases hq : q < P.length
        · obtain ⟨b, o, ard, crd, d, hb, hd, d2, hRow⟩ := rows_ix OP'.out RP'.out hq
          have E3 := HE3.out
          rw [if_neg (by omega), Int.toNat_natCast, hd] at E3
          clear HE3
          subst E3
          obtain rfl : n5 = d.length := Hn5.out
          obtain ⟨a9, c9, h9, _, hrd, _⟩ := hRow
          cases h9
          have heq := Equal_any a5 ard d.length c5 crd d w11 O5.out hrd
          have Heq := Lib.hid heq
          have i0 : (0 : Int) ≤ (q : Int) := by omega
          have i1 : (q : Int) < (P.length : Int) := by omega
          obtain ⟨dl, hdl⟩ : ∃ dl, dl = d.length := ⟨_, rfl⟩
          obtain ⟨pl, hpl⟩ : ∃ pl, pl = P.length := ⟨_, rfl⟩
          rw [← hdl] at d2 Heq
          rw [← hpl] at i1
          rw [← hdl, ← hpl]
          subst hb
          clear hd hrd heq hq hdl hpl
          go_wp2_with fail
          refine Heq.out.mono ?_
          rintro e w12 ⟨rfl, rfl⟩
          go_wp2_with fail
          go_ret
          exact ⟨rfl, FW.out⟩
        · have E3 := HE3.out
          rw [if_pos (.inr (by omega))] at E3
          clear HE3
          subst E3
          obtain rfl : n5 = 0 := Hn5.out
          go_wp2_with fail
          go_ret
          exact ⟨rfl, FW.out⟩
theorem Reads_law (a : Option Addr) (n c : Nat) (pg sy af : Int) (bs : List UInt8) (p : Int) (w : World) (h0 : ArgBy w a n c bs) :
    Calls Try.prog 5 #[.agg #[.int .i64 pg, .slice a n c, .int .i64 sy, .int .i64 af], .int .i64 p] w fun e w' => e = .returned (.bool true) ∧ Fr F0 w w' :=
  Reads_walk a n c pg sy af p bs w h0.rd h0.cap
end Go.Proofs.Ytehpikjhjghplaa
