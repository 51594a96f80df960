/- Get. -/
import Derived.Test.YtehpikjhjghplaaB19
namespace Go.Proofs.Ytehpikjhjghplaa
open Go.RowKit
attribute [local go_sem ↓] Go.wp_at_zero Go.wp_at_succ
def getS (pg : Int) (bs : List UInt8) (sy af : Int) (p : Int) : List UInt8 × Int :=
  if validB pg bs sy af = true then (if p < 0 ∨ ((dpgs pg bs).length : Int) ≤ p then ([], 2) else (((dpgs pg bs)[p.toNat]?).getD [], 0)) else ([], 1)
def GetPost (R : List UInt8 × Int) (w : World) (e : Ending) (w' : World) : Prop :=
  ∃ a' m c', m = R.1.length ∧ e = .returned (.tuple #[.slice a' m c', .int .i64 R.2]) ∧ Own w' w.heap.size 5 a' m c' (byt R.1) ∧ Fr F0 w w'
set_option maxHeartbeats 2000000 in
theorem Get_any (a : Option Addr) (n c : Nat) (pg sy af : Int) (bs : List UInt8) (p : Int) (w : World) (hr : Rd w a n (byt bs)) (hc : n ≤ c) :
    Calls Try.prog 21 #[.agg (dskI pg a n c sy af), .int .i64 p] w (GetPost (getS pg bs sy af p) w) := by
  have hbl : bs.length = n := by simpa using hr.len
  have FA : Fr F0 w (w.alloc (.cells (dskI pg a n c sy af) 24)) := (Fr.refl _ _).alloc _
  have B0 : Blk (w.alloc (.cells (dskI pg a n c sy af) 24)) w.heap.size 24 [.int .i64 pg, .slice a n c, .int .i64 sy, .int .i64 af] := Blk.new w 24 [.int .i64 pg, .slice a n c, .int .i64 sy, .int .i64 af]
  have hval := Valid_any a n c pg sy af bs _ (hr.fr0 FA) hc
  have Hr := Lib.hid hr
  have Hbl := Lib.hid hbl
  replace FA := Lib.hid FA
  replace B0 := Lib.hid B0
  obtain ⟨R, hR⟩ : ∃ R, R = getS pg bs sy af p := ⟨_, rfl⟩
  rw [← hR]
  have HR := Lib.hid hR
  cases hv : validB pg bs sy af with
  | false =>
    have E : Hid (R = ([], 1)) := Lib.hid (by rw [HR.out]; unfold getS; rw [hv, if_neg (by decide)])
    rw [hv] at hval
    rw [E.out]
    clear hv hr hbl hR
    go_enter Try.func21, Try.ntmps21
    go_wp2_with fail
    refine hval.mono ?_
    rintro e w1 ⟨rfl, F1⟩
    go_wp2_with fail
    go_ret2
    exact ⟨none, 0, 0, rfl, rfl, Own.nil _ _ _, FA.out.trans0 F1⟩
  | true =>
    obtain ⟨⟨hp1, hp2⟩, _, hlen, _⟩ := valid_of hv
    obtain ⟨page, rfl⟩ := Int.eq_ofNat_of_zero_le (show 0 ≤ pg by omega)
    have E : Hid (R = if p < 0 ∨ ((dpgs page bs).length : Int) ≤ p then ([], 2) else (((dpgs page bs)[p.toNat]?).getD [], 0)) := Lib.hid (by rw [HR.out]; unfold getS; rw [hv, if_pos rfl])
    rw [hv] at hval
    have Hln : Hid (n ≤ 1048576 ∧ page ≤ 256) := Lib.hid (by omega)
    have Hc := Lib.hid hc
    have Hgood : Hid (∀ d ∈ dpgs page bs, d.length = page) := Lib.hid (by
      unfold dpgs
      rw [Int.toNat_natCast]
      exact (pgsL_ok _ [] (recs_good bs page) (by simp) (by simp)).2)
    clear hv hr hbl hR hp1 hp2 hlen hc
    go_enter Try.func21, Try.ntmps21
    go_wp2_with fail
    refine hval.mono ?_
    rintro e w1 ⟨rfl, F1⟩
    have CA := B0.out.fr F1 id
    have x0 := CA.cell (i := 0) rfl
    have x1 := CA.cell (i := 1) rfl
    have x2 := CA.cell (i := 2) rfl
    have x3 := CA.cell (i := 3) rfl
    have FW := Lib.hid (FA.out.trans0 F1)
    clear F1 CA hval
    go_wp2_with fail
    refine (pages_any a n c page sy af bs _ (Hr.out.fr0 FW.out) Hc.out Hln.out.1 Hln.out.2).mono ?_
    rintro e w4 ⟨ar, nr, cr, vs, S, hnr, rfl, O4, R4, _, F4⟩
    obtain ⟨P, hP⟩ : ∃ P, P = dpgs page bs := ⟨_, rfl⟩
    have hP2 : pgsL page (recs bs page).1 = P := by rw [hP]; unfold dpgs; rw [Int.toNat_natCast]
    rw [hP2] at hnr R4
    rw [← hP] at E Hgood
    have F5 := Lib.hid (FW.out.trans0 F4)
    have O5 := Lib.hid O4
    have R5 := Lib.hid R4
    have Hnr := Lib.hid hnr
    clear x0 x1 x2 x3 hP hP2 hnr O4 R4 F4 FW
    by_cases hp0 : p < 0
    · have E2 : Hid (R = ([], 2)) := Lib.hid (by rw [E.out, if_pos (.inl hp0)])
      have e2 := E2.out
      clear E E2 HR
      subst e2
      go_wp2_with fail
      go_ret2
      exact ⟨none, 0, 0, rfl, rfl, Own.nil _ _ _, F5.out⟩
    · obtain ⟨q, rfl⟩ := Int.eq_ofNat_of_zero_le (show 0 ≤ p by omega)
      by_cases hq : q < nr
      · obtain ⟨b, o, ard, crd, d, hb, hd, d2, hRow⟩ := rows_ix O5.out.rd R5.out hq
        have hdl := Hgood.out d (List.mem_of_getElem? hd)
        have E2 : Hid (R = (d, 0)) := Lib.hid (by rw [E.out, if_neg (by have := Hnr.out; omega), Int.toNat_natCast, hd]; rfl)
        have e2 := E2.out
        clear E E2 HR
        subst e2
        obtain ⟨a9, c9, h9, _, hrd, _⟩ := hRow
        cases h9
        have hdn : d.length ≤ 2000000 := by have := Hln.out.2; omega
        have hcl := Clone_any ard d.length crd d w4 hrd hdn
        have i0 : (0 : Int) ≤ (q : Int) := by omega
        have i1 : (q : Int) < (nr : Int) := by omega
        have Hcl := Lib.hid hcl
        obtain ⟨dl, hdl2⟩ : ∃ dl, dl = d.length := ⟨_, rfl⟩
        rw [← hdl2] at d2 Hcl
        have Hdl := Lib.hid hdl2
        subst hb
        clear hd hcl hrd hdl hdl2 hdn
        go_wp2_with fail
        refine Hcl.out.mono ?_
        rintro e w5 ⟨a5, c5, rfl, own5, F6⟩
        have hsz := (F5.out).size
        have own6 := Lib.hid (own5.mono hsz)
        have F7 := Lib.hid (F5.out.trans0 F6)
        clear own5 F6 hsz d2
        go_wp2_with fail
        go_ret2
        exact ⟨a5, dl, c5, Hdl.out, rfl, own6.out, F7.out⟩
      · have E2 : Hid (R = ([], 2)) := Lib.hid (by rw [E.out, if_pos (.inr (by have := Hnr.out; omega))])
        have e2 := E2.out
        clear E E2 HR
        subst e2
        go_wp2_with fail
        go_ret2
        exact ⟨none, 0, 0, rfl, rfl, Own.nil _ _ _, F5.out⟩
end Go.Proofs.Ytehpikjhjghplaa
