/- Pages and Get. -/
import Derived.Test.YtehpikjhjghplaaB18
namespace Go.Proofs.Ytehpikjhjghplaa
open Go.RowKit
attribute [local go_sem ↓] Go.wp_at_zero Go.wp_at_succ
/-- The pages of a disk. -/
def dpgs (pg : Int) (bs : List UInt8) : List (List UInt8) := pgsL pg.toNat (recs bs pg.toNat).1
def pgS (pg : Int) (bs : List UInt8) (sy af : Int) : Int × Int := if validB pg bs sy af = true then ((dpgs pg bs).length, 0) else (0, 1)
set_option maxHeartbeats 2000000 in
theorem PagesN_any (a : Option Addr) (n c : Nat) (pg sy af : Int) (bs : List UInt8) (w : World) (hr : Rd w a n (byt bs)) (hc : n ≤ c) :
    Calls Try.prog 20 #[.agg (dskI pg a n c sy af)] w fun e w' => e = .returned (.tuple #[.int .i64 (pgS pg bs sy af).1, .int .i64 (pgS pg bs sy af).2]) ∧ Fr F0 w w' := by
  have hbl : bs.length = n := by simpa using hr.len
  have FA : Fr F0 w (w.alloc (.cells (dskI pg a n c sy af) 24)) := (Fr.refl _ _).alloc _
  have B0 : Blk (w.alloc (.cells (dskI pg a n c sy af) 24)) w.heap.size 24 [.int .i64 pg, .slice a n c, .int .i64 sy, .int .i64 af] := Blk.new w 24 [.int .i64 pg, .slice a n c, .int .i64 sy, .int .i64 af]
  have hval := Valid_any a n c pg sy af bs _ (hr.fr0 FA) hc
  have Hr := Lib.hid hr
  have Hbl := Lib.hid hbl
  replace FA := Lib.hid FA
  replace B0 := Lib.hid B0
  obtain ⟨R, hR⟩ : ∃ R, R = pgS pg bs sy af := ⟨_, rfl⟩
  rw [← hR]
  have HR := Lib.hid hR
  cases hv : validB pg bs sy af with
  | false =>
    have E : Hid (R = (0, 1)) := Lib.hid (by rw [HR.out]; unfold pgS; rw [hv, if_neg (by decide)])
    rw [hv] at hval
    rw [E.out]
    clear hv hr hbl hR
    go_enter Try.func20, Try.ntmps20
    go_wp2_with fail
    refine hval.mono ?_
    rintro e w1 ⟨rfl, F1⟩
    go_wp2_with fail
    go_ret2
    exact ⟨rfl, FA.out.trans0 F1⟩
  | true =>
    obtain ⟨⟨hp1, hp2⟩, _, hlen, _⟩ := valid_of hv
    obtain ⟨page, rfl⟩ := Int.eq_ofNat_of_zero_le (show 0 ≤ pg by omega)
    have E : Hid (R = (((dpgs page bs).length : Int), 0)) := Lib.hid (by rw [HR.out]; unfold pgS; rw [hv, if_pos rfl])
    rw [hv] at hval
    have Hln : Hid (n ≤ 1048576 ∧ page ≤ 256) := Lib.hid (by omega)
    rw [E.out]
    have Hc := Lib.hid hc
    clear hv hr hbl hR hp1 hp2 hlen hc
    go_enter Try.func20, Try.ntmps20
    go_wp2_with fail
    refine hval.mono ?_
    rintro e w1 ⟨rfl, F1⟩
    have CA := B0.out.fr F1 id
    have x0 := CA.cell (i := 0) rfl
    have x1 := CA.cell (i := 1) rfl
    have x2 := CA.cell (i := 2) rfl
    have x3 := CA.cell (i := 3) rfl
    have FW := Lib.hid (FA.out.trans0 F1)
    clear F1 CA hval
    go_wp2_with fail
    refine (pages_any a n c page sy af bs _ (Hr.out.fr0 FW.out) Hc.out Hln.out.1 Hln.out.2).mono ?_
    rintro e w4 ⟨ar, nr, cr, vs, S, hnr, rfl, _, _, _, F4⟩
    have Hlen : Hid (nr = (dpgs page bs).length) := Lib.hid (by rw [hnr]; unfold dpgs; rw [Int.toNat_natCast])
    clear hnr x0 x1 x2 x3
    go_wp2_with fail
    go_ret2
    exact ⟨by show Ending.returned (.tuple #[.int .i64 (nr : Int), .int .i64 0]) = _; rw [Hlen.out], FW.out.trans0 F4⟩
end Go.Proofs.Ytehpikjhjghplaa
