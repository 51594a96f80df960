/- PagefileCommits: the walk. -/
import Derived.Test.YtehpikjhjghplaaB14
import Derived.Test.YtehpikjhjghplaaB16
import Derived.Test.YtehpikjhjghplaaArg
namespace Go.Proofs.Ytehpikjhjghplaa
open Go.RowKit
attribute [local go_sem ↓] Go.wp_at_zero Go.wp_at_succ
set_option maxHeartbeats 4000000 in
theorem Commits_walk (a : Option Addr) (n c : Nat) (pg sy af : Int) (bs : List UInt8) (a1 : Option Addr) (n1 c1 : Nat) (zs : List Int) (a2 : Option Addr) (n2 c2 : Nat) (vs : List Value) (ds : List (List UInt8)) (S : Nat → Prop) (w : World)
    (hr : Rd w a n (byt bs)) (hc : n ≤ c) (h1 : Rd w a1 n1 (ints zs)) (h2 : Rd w a2 n2 vs) (hR : RowsM w S vs ds) (hS : ∀ j, S j → j < w.heap.size) :
    Calls Try.prog 3 #[.agg (dskI pg a n c sy af), .slice a1 n1 c1, .slice a2 n2 c2] w fun e w' => e = .returned (.bool true) ∧ Fr F0 w w' := by
  have FA : Fr F0 w (w.alloc (.cells (dskI pg a n c sy af) 24)) := (Fr.refl _ _).alloc _
  have B0 : Blk (w.alloc (.cells (dskI pg a n c sy af) 24)) w.heap.size 24 [.int .i64 pg, .slice a n c, .int .i64 sy, .int .i64 af] := Blk.new w 24 [.int .i64 pg, .slice a n c, .int .i64 sy, .int .i64 af]
  obtain ⟨bA, hbA⟩ : ∃ b, b = w.heap.size := ⟨_, rfl⟩
  rw [← hbA] at B0
  have HbA := Lib.hid hbA
  have Hr := Lib.hid hr
  have HC := Lib.hid hc
  have H1 := Lib.hid h1
  have H2 := Lib.hid h2
  have HR := Lib.hid hR
  have HS := Lib.hid hS
  replace FA := Lib.hid FA
  replace B0 := Lib.hid B0
  clear hr h1 h2 hR hS hc
  go_enter Try.func3, Try.ntmps3
  go_wp2_with fail
  refine (awake_any _).mono ?_
  rintro e w1 ⟨rfl, F1⟩
  rw [← hbA]
  clear hbA
  have CA := Lib.hid (B0.out.fr F1 id)
  have FW := Lib.hid (FA.out.trans0 F1)
  have x0 := CA.out.cell (i := 0) rfl
  have x1 := CA.out.cell (i := 1) rfl
  have x2 := CA.out.cell (i := 2) rfl
  have x3 := CA.out.cell (i := 3) rfl
  clear F1 B0 FA
  go_wp2_with fail
  refine (large_any a n c pg sy af _).mono ?_
  rintro e w2 ⟨r, rfl, _, F2⟩
  replace CA := Lib.hid (CA.out.fr F2 id)
  replace FW := Lib.hid (FW.out.trans0 F2)
  clear x0 x1 x2 x3 F2
  have x0 := CA.out.cell (i := 0) rfl
  have x1 := CA.out.cell (i := 1) rfl
  have x2 := CA.out.cell (i := 2) rfl
  have x3 := CA.out.cell (i := 3) rfl
  cases r with
  | true =>
    go_wp2_with fail
    go_ret
    exact ⟨rfl, FW.out⟩
  | false =>
    go_wp2_with fail
    refine (many_any a1 n1 c1 a2 n2 c2 vs ds S _ (H2.out.fr0 FW.out) (HR.out.fr0 FW.out)).mono ?_
    rintro e w3 ⟨r, rfl, rfl⟩
    cases r with
    | true =>
      go_wp2_with fail
      go_ret
      exact ⟨rfl, FW.out⟩
    | false =>
      obtain ⟨R, hR⟩ : ∃ R, R = commitS pg bs sy af zs ds := ⟨_, rfl⟩
      have HRR := Lib.hid hR
      clear hR
      go_wp2_with fail
      refine (Commit_any a n c pg sy af bs a1 n1 c1 zs a2 n2 c2 vs ds S _ (Hr.out.fr0 FW.out) HC.out (H1.out.fr0 FW.out) (H2.out.fr0 FW.out) (HR.out.fr0 FW.out) (fun j h => by have := HS.out j h; have := FW.out.size; omega)).mono ?_
      rintro e w4 ⟨a4, n4, c4, hn4, rfl, O4, F4⟩
      rw [← HRR.out] at hn4 O4 ⊢
      replace CA := Lib.hid (CA.out.fr F4 id)
      replace FW := Lib.hid (FW.out.trans0 F4)
      replace O4 := Lib.hid O4.rd
      clear x0 x1 x2 x3 F4
      have x0 := CA.out.cell (i := 0) rfl
      have x1 := CA.out.cell (i := 1) rfl
      have x2 := CA.out.cell (i := 2) rfl
      have x3 := CA.out.cell (i := 3) rfl
      have Hn4 := Lib.hid hn4
      clear hn4
      have A5 := (Fr.refl F0 w4).alloc (.cells (dskI R.1.pg a4 n4 c4 R.1.sy R.1.af) 24)
      replace CA := Lib.hid (CA.out.fr A5 id)
      replace FW := Lib.hid (FW.out.trans0 A5)
      replace O4 := Lib.hid (O4.out.fr0 A5)
      have C5 := Lib.hid (Blk.new w4 24 [.int .i64 R.1.pg, .slice a4 n4 c4, .int .i64 R.1.sy, .int .i64 R.1.af])
      clear A5 x0 x1 x2 x3
      have x0 := CA.out.cell (i := 0) rfl
      have x1 := CA.out.cell (i := 1) rfl
      have x2 := CA.out.cell (i := 2) rfl
      have x3 := CA.out.cell (i := 3) rfl
      go_wp2_with fail
      refine (refCommit_any a n c pg sy af bs a1 n1 c1 zs a2 n2 c2 vs ds S _ (Hr.out.fr0 FW.out) HC.out (H1.out.fr0 FW.out) (H2.out.fr0 FW.out) (HR.out.fr0 FW.out) (fun j h => by have := HS.out j h; have := FW.out.size; omega)).mono ?_
      rintro e w5 ⟨a6, n6, c6, hn6, rfl, O6, F6⟩
      rw [← HRR.out] at hn6 O6 ⊢
      obtain rfl : n6 = n4 := by rw [hn6, Hn4.out]
      replace C5 := Lib.hid (C5.out.fr F6 id)
      replace FW := Lib.hid (FW.out.trans0 F6)
      replace O4 := Lib.hid (O4.out.fr0 F6)
      replace O6 := Lib.hid O6.rd
      have A7 := (Fr.refl F0 w5).alloc (.cells (dskI R.1.pg a6 n6 c6 R.1.sy R.1.af) 24)
      replace C5 := Lib.hid (C5.out.fr A7 id)
      replace FW := Lib.hid (FW.out.trans0 A7)
      replace O4 := Lib.hid (O4.out.fr0 A7)
      replace O6 := Lib.hid (O6.out.fr0 A7)
      obtain ⟨b4, hb4⟩ : ∃ b, b = w4.heap.size := ⟨_, rfl⟩
      rw [← hb4] at C5
      rw [← hb4]
      clear A7 F6 hn6 x0 x1 x2 x3 hb4
      have y0 := C5.out.cell (i := 0) rfl
      have y1 := C5.out.cell (i := 1) rfl
      have y2 := C5.out.cell (i := 2) rfl
      have y3 := C5.out.cell (i := 3) rfl
      go_wp2_with fail
      refine (Same_any R.1.pg R.1.sy R.1.af a4 a6 n6 c4 c6 R.1.bs _ O4.out O6.out).mono ?_
      rintro e w7 ⟨rfl, F7⟩
      have FX := Lib.hid (FW.out.trans0 F7)
      clear F7 y0 y1 y2 y3
      go_wp2_with fail
      go_ret
      exact ⟨rfl, FX.out⟩
theorem Commits_law (a : Option Addr) (n c : Nat) (pg sy af : Int) (bs : List UInt8) (a1 : Option Addr) (n1 c1 : Nat) (zs : List Int) (a2 : Option Addr) (n2 c2 : Nat) (vs : List Value) (ds : List (List UInt8)) (w : World)
    (h0 : ArgBy w a n c bs) (h1 : ArgSl w a1 n1 c1 zs) (h2 : ArgRw w a2 n2 c2 vs ds) :
    Calls Try.prog 3 #[.agg #[.int .i64 pg, .slice a n c, .int .i64 sy, .int .i64 af], .slice a1 n1 c1, .slice a2 n2 c2] w fun e w' => e = .returned (.bool true) ∧ Fr F0 w w' :=
  Commits_walk a n c pg sy af bs a1 n1 c1 zs a2 n2 c2 vs ds _ w h0.rd h0.cap h1.rd h2.rd h2.rows (fun _ h => h)
end Go.Proofs.Ytehpikjhjghplaa
