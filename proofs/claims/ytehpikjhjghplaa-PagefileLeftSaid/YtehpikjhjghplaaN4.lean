/- PagefileLeft: the walk. -/
import Derived.Test.YtehpikjhjghplaaB27
import Derived.Test.YtehpikjhjghplaaB16
import Derived.Test.YtehpikjhjghplaaArg
namespace Go.Proofs.Ytehpikjhjghplaa
open Go.RowKit
attribute [local go_sem ↓] Go.wp_at_zero Go.wp_at_succ
set_option maxHeartbeats 8000000 in
theorem Left_walk (a : Option Addr) (n c : Nat) (pg sy af p : Int) (bs : List UInt8) (w : World) (hr : Rd w a n (byt bs)) (hc : n ≤ c) :
    Calls Try.prog 6 #[.agg (dskI pg a n c sy af), .int .i64 p] w fun e w' => e = .returned (.bool true) ∧ Fr F0 w w' := by
  have FA : Fr F0 w (w.alloc (.cells (dskI pg a n c sy af) 24)) := (Fr.refl _ _).alloc _
  have B0 : Blk (w.alloc (.cells (dskI pg a n c sy af) 24)) w.heap.size 24 [.int .i64 pg, .slice a n c, .int .i64 sy, .int .i64 af] := Blk.new w 24 [.int .i64 pg, .slice a n c, .int .i64 sy, .int .i64 af]
  obtain ⟨bA, hbA⟩ : ∃ b, b = w.heap.size := ⟨_, rfl⟩
  rw [← hbA] at B0
  have HbA := Lib.hid hbA
  have Hr := Lib.hid hr
  have HC := Lib.hid hc
  have Hbl : Hid (bs.length = n) := Lib.hid (by simpa using hr.len)
  replace FA := Lib.hid FA
  replace B0 := Lib.hid B0
  clear hr hc
  go_enter Try.func6, Try.ntmps6
  go_wp2_with fail
  refine (awake_any _).mono ?_
  rintro e w1 ⟨rfl, F1⟩
  rw [← hbA]
  clear hbA
  have CA := Lib.hid (B0.out.fr F1 id)
  have FW := Lib.hid (FA.out.trans0 F1)
  have x0 := CA.out.cell (i := 0) rfl
  have x1 := CA.out.cell (i := 1) rfl
  have x2 := CA.out.cell (i := 2) rfl
  have x3 := CA.out.cell (i := 3) rfl
  clear F1 B0 FA
  go_wp2_with fail
  refine (large_any a n c pg sy af _).mono ?_
  rintro e w2 ⟨r, rfl, _, F2⟩
  replace CA := Lib.hid (CA.out.fr F2 id)
  replace FW := Lib.hid (FW.out.trans0 F2)
  clear x0 x1 x2 x3 F2
  have x0 := CA.out.cell (i := 0) rfl
  have x1 := CA.out.cell (i := 1) rfl
  have x2 := CA.out.cell (i := 2) rfl
  have x3 := CA.out.cell (i := 3) rfl
  cases r with
  | true =>
    go_wp2_with fail
    go_ret
    exact ⟨rfl, FW.out⟩
  | false =>
    obtain ⟨R, hR⟩ : ∃ P, P = crashS pg bs sy af p := ⟨_, rfl⟩
    obtain ⟨U, hU⟩ : ∃ P, P = ckptS pg bs sy af := ⟨_, rfl⟩
    have HR := Lib.hid hR
    have HU := Lib.hid hU
    clear hR hU
    go_wp2_with fail
    refine (refValid_any a n c pg sy af bs _ (Hr.out.fr0 FW.out) HC.out).mono ?_
    rintro e w9 ⟨rfl, F9⟩
    replace CA := Lib.hid (CA.out.fr F9 id)
    replace FW := Lib.hid (FW.out.trans0 F9)
    clear x0 x1 x2 x3 F9
    have x0 := CA.out.cell (i := 0) rfl
    have x1 := CA.out.cell (i := 1) rfl
    have x2 := CA.out.cell (i := 2) rfl
    have x3 := CA.out.cell (i := 3) rfl
    have hall : ∀ b : Bool, b = true ∨ b = false := by decide
    rcases hall (validB pg bs sy af) with hv | hv
    rotate_left
    · rw [hv]
      clear hall hv
      have FX := FW
      have CX := CA
      obtain ⟨wv, hwv⟩ : ∃ W, W = w9 := ⟨_, rfl⟩
      rw [← hwv] at FX CX
      rw [← hwv]
      clear FW CA x0 x1 x2 x3 hwv
      have CA := CX
      have FW := FX
      clear CX FX
      have x0 := CA.out.cell (i := 0) rfl
      have x1 := CA.out.cell (i := 1) rfl
      have x2 := CA.out.cell (i := 2) rfl
      have x3 := CA.out.cell (i := 3) rfl
      go_wp2_with fail
      refine (Crash_any a n c pg sy af p bs _ (Hr.out.fr0 FW.out) HC.out).mono ?_
      rintro e w0 ⟨a0, n0, c0, hn0, rfl, O0, F0⟩
      rw [← HR.out] at hn0 O0 ⊢
      have Hn0 := Lib.hid hn0
      have A0 := F0.alloc (.cells (dskI R.1.pg a0 n0 c0 R.1.sy R.1.af) 24)
      have O0' := Lib.hid (O0.rd.alloc (.cells (dskI R.1.pg a0 n0 c0 R.1.sy R.1.af) 24))
      have C0 := Lib.hid (Blk.new w0 24 [.int .i64 R.1.pg, .slice a0 n0 c0, .int .i64 R.1.sy, .int .i64 R.1.af])
      clear hn0 O0 F0
      replace CA := Lib.hid (CA.out.fr A0 id)
      replace FW := Lib.hid (FW.out.trans0 A0)
      clear x0 x1 x2 x3 A0
      have x0 := CA.out.cell (i := 0) rfl
      have x1 := CA.out.cell (i := 1) rfl
      have x2 := CA.out.cell (i := 2) rfl
      have x3 := CA.out.cell (i := 3) rfl
      go_wp2_with fail
      refine (RefCrash_any a n c pg sy af p bs _ (Hr.out.fr0 FW.out) HC.out).mono ?_
      rintro e w1 ⟨a1, n1, c1, hn1, rfl, O1, F1⟩
      rw [← HR.out] at hn1 O1 ⊢
      obtain rfl : n1 = n0 := by rw [hn1, Hn0.out]
      have Hn1 := Lib.hid hn1
      have A1 := F1.alloc (.cells (dskI R.1.pg a1 n1 c1 R.1.sy R.1.af) 24)
      have O1' := Lib.hid (O1.rd.alloc (.cells (dskI R.1.pg a1 n1 c1 R.1.sy R.1.af) 24))
      have C1 := Lib.hid (Blk.new w1 24 [.int .i64 R.1.pg, .slice a1 n1 c1, .int .i64 R.1.sy, .int .i64 R.1.af])
      replace O0' := Lib.hid (O0'.out.fr0 A1)
      replace C0 := Lib.hid (C0.out.fr A1 id)
      obtain ⟨b0, hb0⟩ : ∃ b, b = w0.heap.size := ⟨_, rfl⟩
      rw [← hb0] at C0
      rw [← hb0]
      clear hb0
      clear hn1 O1 F1
      replace CA := Lib.hid (CA.out.fr A1 id)
      replace FW := Lib.hid (FW.out.trans0 A1)
      clear x0 x1 x2 x3 A1
      have x0 := CA.out.cell (i := 0) rfl
      have x1 := CA.out.cell (i := 1) rfl
      have x2 := CA.out.cell (i := 2) rfl
      have x3 := CA.out.cell (i := 3) rfl
      go_wp2_with fail
      refine (Checkpoint_any a n c pg sy af bs _ (Hr.out.fr0 FW.out) HC.out).mono ?_
      rintro e w2 ⟨a2, n2, c2, hn2, rfl, O2, F2⟩
      rw [← HU.out] at hn2 O2 ⊢
      have Hn2 := Lib.hid hn2
      have A2 := F2.alloc (.cells (dskI U.1.pg a2 n2 c2 U.1.sy U.1.af) 24)
      have O2' := Lib.hid (O2.rd.alloc (.cells (dskI U.1.pg a2 n2 c2 U.1.sy U.1.af) 24))
      have C2 := Lib.hid (Blk.new w2 24 [.int .i64 U.1.pg, .slice a2 n2 c2, .int .i64 U.1.sy, .int .i64 U.1.af])
      replace O0' := Lib.hid (O0'.out.fr0 A2)
      replace C0 := Lib.hid (C0.out.fr A2 id)
      replace O1' := Lib.hid (O1'.out.fr0 A2)
      replace C1 := Lib.hid (C1.out.fr A2 id)
      obtain ⟨b1, hb1⟩ : ∃ b, b = w1.heap.size := ⟨_, rfl⟩
      rw [← hb1] at C1
      rw [← hb1]
      clear hb1
      clear hn2 O2 F2
      replace CA := Lib.hid (CA.out.fr A2 id)
      replace FW := Lib.hid (FW.out.trans0 A2)
      clear x0 x1 x2 x3 A2
      have x0 := CA.out.cell (i := 0) rfl
      have x1 := CA.out.cell (i := 1) rfl
      have x2 := CA.out.cell (i := 2) rfl
      have x3 := CA.out.cell (i := 3) rfl
      go_wp2_with fail
      refine (RefCheckpoint_any a n c pg sy af bs _ (Hr.out.fr0 FW.out) HC.out).mono ?_
      rintro e w3 ⟨a3, n3, c3, hn3, rfl, O3, F3⟩
      rw [← HU.out] at hn3 O3 ⊢
      obtain rfl : n3 = n2 := by rw [hn3, Hn2.out]
      have Hn3 := Lib.hid hn3
      have A3 := F3.alloc (.cells (dskI U.1.pg a3 n3 c3 U.1.sy U.1.af) 24)
      have O3' := Lib.hid (O3.rd.alloc (.cells (dskI U.1.pg a3 n3 c3 U.1.sy U.1.af) 24))
      have C3 := Lib.hid (Blk.new w3 24 [.int .i64 U.1.pg, .slice a3 n3 c3, .int .i64 U.1.sy, .int .i64 U.1.af])
      replace O0' := Lib.hid (O0'.out.fr0 A3)
      replace C0 := Lib.hid (C0.out.fr A3 id)
      replace O1' := Lib.hid (O1'.out.fr0 A3)
      replace C1 := Lib.hid (C1.out.fr A3 id)
      replace O2' := Lib.hid (O2'.out.fr0 A3)
      replace C2 := Lib.hid (C2.out.fr A3 id)
      obtain ⟨b2, hb2⟩ : ∃ b, b = w2.heap.size := ⟨_, rfl⟩
      rw [← hb2] at C2
      rw [← hb2]
      clear hb2
      clear hn3 O3 F3
      replace CA := Lib.hid (CA.out.fr A3 id)
      replace FW := Lib.hid (FW.out.trans0 A3)
      clear x0 x1 x2 x3 A3
      have y00 := C0.out.cell (i := 0) rfl
      have y01 := C0.out.cell (i := 1) rfl
      have y02 := C0.out.cell (i := 2) rfl
      have y03 := C0.out.cell (i := 3) rfl
      have y10 := C1.out.cell (i := 0) rfl
      have y11 := C1.out.cell (i := 1) rfl
      have y12 := C1.out.cell (i := 2) rfl
      have y13 := C1.out.cell (i := 3) rfl
      go_wp2_with fail
      refine (Same_any R.1.pg R.1.sy R.1.af a0 a1 n1 c0 c1 R.1.bs _ O0'.out O1'.out).mono ?_
      rintro e w5 ⟨rfl, F5⟩
      clear y00 y01 y02 y03 y10 y11 y12 y13
      obtain ⟨b3, hb3⟩ : ∃ b, b = w3.heap.size := ⟨_, rfl⟩
      rw [← hb3] at C3
      rw [← hb3]
      clear hb3
      replace FW := Lib.hid (FW.out.trans0 F5)
      replace C2 := Lib.hid (C2.out.fr F5 id)
      replace C3 := Lib.hid (C3.out.fr F5 id)
      replace O2' := Lib.hid (O2'.out.fr0 F5)
      replace O3' := Lib.hid (O3'.out.fr0 F5)
      clear F5 C0 C1 CA O0' O1'
      have y20 := C2.out.cell (i := 0) rfl
      have y21 := C2.out.cell (i := 1) rfl
      have y22 := C2.out.cell (i := 2) rfl
      have y23 := C2.out.cell (i := 3) rfl
      have y30 := C3.out.cell (i := 0) rfl
      have y31 := C3.out.cell (i := 1) rfl
      have y32 := C3.out.cell (i := 2) rfl
      have y33 := C3.out.cell (i := 3) rfl
      go_wp2_with fail
      refine (Same_any U.1.pg U.1.sy U.1.af a2 a3 n3 c2 c3 U.1.bs _ O2'.out O3'.out).mono ?_
      rintro e w6 ⟨rfl, F6⟩
      replace FW := Lib.hid (FW.out.trans0 F6)
      clear y20 y21 y22 y23 y30 y31 y32 y33 F6
      go_wp2_with fail
      go_ret
      exact ⟨rfl, FW.out⟩
    · obtain ⟨⟨hp1, hp2⟩, _, hlen, _⟩ := valid_of hv
      obtain ⟨page, rfl⟩ := Int.eq_ofNat_of_zero_le (show 0 ≤ pg by omega)
      have Hln : Hid (n ≤ 1048576 ∧ page ≤ 256 ∧ 1 ≤ page) := Lib.hid (by have := Hbl.out; omega)
      rw [hv]
      clear hall hv hp1 hp2 hlen
      go_wp2_with fail
      refine (Pages_any a n c page sy af bs _ (Hr.out.fr0 FW.out) HC.out Hln.out.1 Hln.out.2.1 Hln.out.2.2).mono ?_
      rintro e wv ⟨aP, nP, cP, vs, S, hnP, rfl, OP, RP, _, FP⟩
      have CX := Lib.hid (CA.out.fr FP id)
      have FX := Lib.hid (FW.out.trans0 FP)
      clear x0 x1 x2 x3 FP OP RP hnP FW CA
      by_cases h40 : 40 < nP
      · go_wp2_with fail
        go_ret
        exact ⟨rfl, FX.out⟩
      · have h40' : decide ((40 : Int) < (nP : Int)) = false := by simp; omega
        clear h40
        have CA := CX
        have FW := FX
        clear CX FX
        have x0 := CA.out.cell (i := 0) rfl
        have x1 := CA.out.cell (i := 1) rfl
        have x2 := CA.out.cell (i := 2) rfl
        have x3 := CA.out.cell (i := 3) rfl
        go_wp2_with fail
        refine (Crash_any a n c page sy af p bs _ (Hr.out.fr0 FW.out) HC.out).mono ?_
        rintro e w0 ⟨a0, n0, c0, hn0, rfl, O0, F0⟩
        rw [← HR.out] at hn0 O0 ⊢
        have Hn0 := Lib.hid hn0
        have A0 := F0.alloc (.cells (dskI R.1.pg a0 n0 c0 R.1.sy R.1.af) 24)
        have O0' := Lib.hid (O0.rd.alloc (.cells (dskI R.1.pg a0 n0 c0 R.1.sy R.1.af) 24))
        have C0 := Lib.hid (Blk.new w0 24 [.int .i64 R.1.pg, .slice a0 n0 c0, .int .i64 R.1.sy, .int .i64 R.1.af])
        clear hn0 O0 F0
        replace CA := Lib.hid (CA.out.fr A0 id)
        replace FW := Lib.hid (FW.out.trans0 A0)
        clear x0 x1 x2 x3 A0
        have x0 := CA.out.cell (i := 0) rfl
        have x1 := CA.out.cell (i := 1) rfl
        have x2 := CA.out.cell (i := 2) rfl
        have x3 := CA.out.cell (i := 3) rfl
        go_wp2_with fail
        refine (RefCrash_any a n c page sy af p bs _ (Hr.out.fr0 FW.out) HC.out).mono ?_
        rintro e w1 ⟨a1, n1, c1, hn1, rfl, O1, F1⟩
        rw [← HR.out] at hn1 O1 ⊢
        obtain rfl : n1 = n0 := by rw [hn1, Hn0.out]
        have Hn1 := Lib.hid hn1
        have A1 := F1.alloc (.cells (dskI R.1.pg a1 n1 c1 R.1.sy R.1.af) 24)
        have O1' := Lib.hid (O1.rd.alloc (.cells (dskI R.1.pg a1 n1 c1 R.1.sy R.1.af) 24))
        have C1 := Lib.hid (Blk.new w1 24 [.int .i64 R.1.pg, .slice a1 n1 c1, .int .i64 R.1.sy, .int .i64 R.1.af])
        replace O0' := Lib.hid (O0'.out.fr0 A1)
        replace C0 := Lib.hid (C0.out.fr A1 id)
        obtain ⟨b0, hb0⟩ : ∃ b, b = w0.heap.size := ⟨_, rfl⟩
        rw [← hb0] at C0
        rw [← hb0]
        clear hb0
        clear hn1 O1 F1
        replace CA := Lib.hid (CA.out.fr A1 id)
        replace FW := Lib.hid (FW.out.trans0 A1)
        clear x0 x1 x2 x3 A1
        have x0 := CA.out.cell (i := 0) rfl
        have x1 := CA.out.cell (i := 1) rfl
        have x2 := CA.out.cell (i := 2) rfl
        have x3 := CA.out.cell (i := 3) rfl
        go_wp2_with fail
        refine (Checkpoint_any a n c page sy af bs _ (Hr.out.fr0 FW.out) HC.out).mono ?_
        rintro e w2 ⟨a2, n2, c2, hn2, rfl, O2, F2⟩
        rw [← HU.out] at hn2 O2 ⊢
        have Hn2 := Lib.hid hn2
        have A2 := F2.alloc (.cells (dskI U.1.pg a2 n2 c2 U.1.sy U.1.af) 24)
        have O2' := Lib.hid (O2.rd.alloc (.cells (dskI U.1.pg a2 n2 c2 U.1.sy U.1.af) 24))
        have C2 := Lib.hid (Blk.new w2 24 [.int .i64 U.1.pg, .slice a2 n2 c2, .int .i64 U.1.sy, .int .i64 U.1.af])
        replace O0' := Lib.hid (O0'.out.fr0 A2)
        replace C0 := Lib.hid (C0.out.fr A2 id)
        replace O1' := Lib.hid (O1'.out.fr0 A2)
        replace C1 := Lib.hid (C1.out.fr A2 id)
        obtain ⟨b1, hb1⟩ : ∃ b, b = w1.heap.size := ⟨_, rfl⟩
        rw [← hb1] at C1
        rw [← hb1]
        clear hb1
        clear hn2 O2 F2
        replace CA := Lib.hid (CA.out.fr A2 id)
        replace FW := Lib.hid (FW.out.trans0 A2)
        clear x0 x1 x2 x3 A2
        have x0 := CA.out.cell (i := 0) rfl
        have x1 := CA.out.cell (i := 1) rfl
        have x2 := CA.out.cell (i := 2) rfl
        have x3 := CA.out.cell (i := 3) rfl
        go_wp2_with fail
        refine (RefCheckpoint_any a n c page sy af bs _ (Hr.out.fr0 FW.out) HC.out).mono ?_
        rintro e w3 ⟨a3, n3, c3, hn3, rfl, O3, F3⟩
        rw [← HU.out] at hn3 O3 ⊢
        obtain rfl : n3 = n2 := by rw [hn3, Hn2.out]
        have Hn3 := Lib.hid hn3
        have A3 := F3.alloc (.cells (dskI U.1.pg a3 n3 c3 U.1.sy U.1.af) 24)
        have O3' := Lib.hid (O3.rd.alloc (.cells (dskI U.1.pg a3 n3 c3 U.1.sy U.1.af) 24))
        have C3 := Lib.hid (Blk.new w3 24 [.int .i64 U.1.pg, .slice a3 n3 c3, .int .i64 U.1.sy, .int .i64 U.1.af])
        replace O0' := Lib.hid (O0'.out.fr0 A3)
        replace C0 := Lib.hid (C0.out.fr A3 id)
        replace O1' := Lib.hid (O1'.out.fr0 A3)
        replace C1 := Lib.hid (C1.out.fr A3 id)
        replace O2' := Lib.hid (O2'.out.fr0 A3)
        replace C2 := Lib.hid (C2.out.fr A3 id)
        obtain ⟨b2, hb2⟩ : ∃ b, b = w2.heap.size := ⟨_, rfl⟩
        rw [← hb2] at C2
        rw [← hb2]
        clear hb2
        clear hn3 O3 F3
        replace CA := Lib.hid (CA.out.fr A3 id)
        replace FW := Lib.hid (FW.out.trans0 A3)
        clear x0 x1 x2 x3 A3
        have y00 := C0.out.cell (i := 0) rfl
        have y01 := C0.out.cell (i := 1) rfl
        have y02 := C0.out.cell (i := 2) rfl
        have y03 := C0.out.cell (i := 3) rfl
        have y10 := C1.out.cell (i := 0) rfl
        have y11 := C1.out.cell (i := 1) rfl
        have y12 := C1.out.cell (i := 2) rfl
        have y13 := C1.out.cell (i := 3) rfl
        go_wp2_with fail
        refine (Same_any R.1.pg R.1.sy R.1.af a0 a1 n1 c0 c1 R.1.bs _ O0'.out O1'.out).mono ?_
        rintro e w5 ⟨rfl, F5⟩
        clear y00 y01 y02 y03 y10 y11 y12 y13
        obtain ⟨b3, hb3⟩ : ∃ b, b = w3.heap.size := ⟨_, rfl⟩
        rw [← hb3] at C3
        rw [← hb3]
        clear hb3
        replace FW := Lib.hid (FW.out.trans0 F5)
        replace C2 := Lib.hid (C2.out.fr F5 id)
        replace C3 := Lib.hid (C3.out.fr F5 id)
        replace O2' := Lib.hid (O2'.out.fr0 F5)
        replace O3' := Lib.hid (O3'.out.fr0 F5)
        clear F5 C0 C1 CA O0' O1'
        have y20 := C2.out.cell (i := 0) rfl
        have y21 := C2.out.cell (i := 1) rfl
        have y22 := C2.out.cell (i := 2) rfl
        have y23 := C2.out.cell (i := 3) rfl
        have y30 := C3.out.cell (i := 0) rfl
        have y31 := C3.out.cell (i := 1) rfl
        have y32 := C3.out.cell (i := 2) rfl
        have y33 := C3.out.cell (i := 3) rfl
        go_wp2_with fail
        refine (Same_any U.1.pg U.1.sy U.1.af a2 a3 n3 c2 c3 U.1.bs _ O2'.out O3'.out).mono ?_
        rintro e w6 ⟨rfl, F6⟩
        replace FW := Lib.hid (FW.out.trans0 F6)
        clear y20 y21 y22 y23 y30 y31 y32 y33 F6
        go_wp2_with fail
        go_ret
        exact ⟨rfl, FW.out⟩
theorem Left_law (a : Option Addr) (n c : Nat) (pg sy af : Int) (bs : List UInt8) (p : Int) (w : World) (h : ArgBy w a n c bs) :
    Calls Try.prog 6 #[.agg (dskI pg a n c sy af), .int .i64 p] w fun e w' => e = .returned (.bool true) ∧ Fr F0 w w' := Left_walk a n c pg sy af p bs w h.rd h.cap
end Go.Proofs.Ytehpikjhjghplaa
