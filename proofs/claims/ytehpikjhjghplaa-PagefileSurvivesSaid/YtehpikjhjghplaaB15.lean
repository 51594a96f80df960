/- Commits, Format, Sum; awake, large, many. -/
import Derived.Test.YtehpikjhjghplaaB13
namespace Go.Proofs.Ytehpikjhjghplaa
open Go.RowKit
attribute [local go_sem ↓] Go.wp_at_zero Go.wp_at_succ
def ctS (pg : Int) (bs : List UInt8) (sy af : Int) : Int × Int := if validB pg bs sy af = true then ((recs bs pg.toNat).1.length, 0) else (0, 1)
set_option maxHeartbeats 2000000 in
theorem Commits_any (a : Option Addr) (n c : Nat) (pg sy af : Int) (bs : List UInt8) (w : World) (hr : Rd w a n (byt bs)) (hc : n ≤ c) :
    Calls Try.prog 19 #[.agg (dskI pg a n c sy af)] w fun e w' => e = .returned (.tuple #[.int .i64 (ctS pg bs sy af).1, .int .i64 (ctS pg bs sy af).2]) ∧ Fr F0 w w' := by
  have hbl : bs.length = n := by simpa using hr.len
  have FA : Fr F0 w (w.alloc (.cells (dskI pg a n c sy af) 24)) := (Fr.refl _ _).alloc _
  have B0 : Blk (w.alloc (.cells (dskI pg a n c sy af) 24)) w.heap.size 24 [.int .i64 pg, .slice a n c, .int .i64 sy, .int .i64 af] := Blk.new w 24 [.int .i64 pg, .slice a n c, .int .i64 sy, .int .i64 af]
  have hval := Valid_any a n c pg sy af bs _ (hr.fr0 FA) hc
  have Hr := Lib.hid hr
  have Hbl := Lib.hid hbl
  replace FA := Lib.hid FA
  replace B0 := Lib.hid B0
  obtain ⟨R, hR⟩ : ∃ R, R = ctS pg bs sy af := ⟨_, rfl⟩
  rw [← hR]
  have HR := Lib.hid hR
  cases hv : validB pg bs sy af with
  | false =>
    have E : Hid (R = (0, 1)) := Lib.hid (by rw [HR.out]; unfold ctS; rw [hv, if_neg (by decide)])
    rw [hv] at hval
    rw [E.out]
    clear hv hr hbl hR
    go_enter Try.func19, Try.ntmps19
    go_wp2_with fail
    refine hval.mono ?_
    rintro e w1 ⟨rfl, F1⟩
    go_wp2_with fail
    go_ret2
    exact ⟨rfl, FA.out.trans0 F1⟩
  | true =>
    obtain ⟨⟨hp1, hp2⟩, _, hlen, _⟩ := valid_of hv
    obtain ⟨page, rfl⟩ := Int.eq_ofNat_of_zero_le (show 0 ≤ pg by omega)
    have E : Hid (R = (((recs bs page).1.length : Int), 0)) := Lib.hid (by rw [HR.out]; unfold ctS; rw [hv, if_pos rfl, Int.toNat_natCast])
    rw [hv] at hval
    have Hln : Hid (n ≤ 1048576 ∧ page ≤ 256) := Lib.hid (by omega)
    rw [E.out]
    have Hc := Lib.hid hc
    clear hv hr hbl hR hp1 hp2 hlen hc
    go_enter Try.func19, Try.ntmps19
    go_wp2_with fail
    refine hval.mono ?_
    rintro e w1 ⟨rfl, F1⟩
    have CA := B0.out.fr F1 id
    have x0 := CA.cell (i := 0) rfl
    have x1 := CA.cell (i := 1) rfl
    have x2 := CA.cell (i := 2) rfl
    have x3 := CA.cell (i := 3) rfl
    have FW := Lib.hid (FA.out.trans0 F1)
    clear F1 CA hval
    go_wp2_with fail
    refine (records_any a n c page sy af bs _ (Hr.out.fr0 FW.out) Hc.out Hln.out.1 Hln.out.2).mono ?_
    rintro e w4 ⟨ar, cr, T, S9, rfl, _, _, _, _, F4⟩
    obtain ⟨ln, hln⟩ : ∃ ln, ln = (recs bs page).1.length := ⟨_, rfl⟩
    rw [← hln]
    have Hlen := Lib.hid hln
    clear hln x0 x1 x2 x3
    go_wp2_with fail
    go_ret2
    exact ⟨by show Ending.returned (.tuple #[.int .i64 (ln : Int), .int .i64 0]) = _; rw [Hlen.out], FW.out.trans0 F4⟩
theorem Format_ok (pg af : Int) (w : World) (h1 : 8 ≤ pg) (h2 : pg ≤ 256) (h3 : -1 ≤ af) (h4 : af ≤ 1048576) :
    Calls Try.prog 42 #[.int .i64 pg, .int .i64 af] w fun e w' => e = .returned (.tuple #[.agg (dskI pg none 0 0 0 af), .int .i64 0]) ∧ Fr F0 w w' := by
  have d1 : decide (pg < 8) = false := by simp; omega
  have d2 : decide (256 < pg) = false := by simp; omega
  have d3 : decide (af < -1) = false := by simp; omega
  have d4 : decide (1048576 < af) = false := by simp; omega
  clear h1 h2 h3 h4
  go_enter Try.func42, Try.ntmps42
  go_wp2_with fail
  refine bodyPost_ret (v := .tuple #[.agg #[.int .i64 pg, .slice none 0 0, .int .i64 0, .int .i64 af], .int .i64 0]) ?_ rfl ?_
  · simp [results, Try.results42, go_sem]
  refine ⟨rfl, ?_⟩
  repeat (first | exact Fr.refl _ _ | refine Fr.alloc ?_ _ | refine Fr.drew ?_ | refine Fr.setCell ?_ (fun h => absurd h (by simp)) _)
theorem Sum_ok (a : Option Addr) (n c : Nat) (bs : List UInt8) (w : World) (hr : Rd w a n (byt bs)) (hn : n ≤ 1048576) :
    Calls Try.prog 45 #[.slice a n c] w fun e w' => e = .returned (.tuple #[.int .i64 (fnv bs), .int .i64 0]) ∧ w = w' := by
  obtain ⟨U, hU⟩ : ∃ U, U = fnv bs := ⟨_, rfl⟩
  have hlt : U < 4294967296 := by rw [hU]; exact fnv_lt bs
  have hs := sum_any a n c bs w hr
  rw [← hU] at hs ⊢
  clear hU hr
  go_enter Try.func45, Try.ntmps45
  go_wp2_with (refine hs.mono ?_; rintro e w' ⟨rfl, rfl⟩)
  go_ret2
  exact ⟨rfl, rfl⟩
theorem large_any (a : Option Addr) (n c : Nat) (pg sy af : Int) (w : World) :
    Calls Try.prog 11 #[.agg (dskI pg a n c sy af)] w fun e w' => ∃ r : Bool, e = .returned (.bool r) ∧ (r = false → n ≤ 1500 ∨ 1048576 < n) ∧ Fr F0 w w' := by
  have FA : Fr F0 w (w.alloc (.cells (dskI pg a n c sy af) 24)) := (Fr.refl _ _).alloc _
  by_cases h1 : 1500 < n
  · by_cases h2 : n ≤ 1048576
    · have d1 : decide ((1500 : Int) < (n : Int)) = true := by simp; omega
      have d2 : decide ((n : Int) ≤ 1048576) = true := by simp; omega
      clear h1 h2
      go_enter Try.func11, Try.ntmps11
      go_wp2_with fail
      go_ret
      exact ⟨true, rfl, (fun h => by cases h), FA⟩
    · have d1 : decide ((1500 : Int) < (n : Int)) = true := by simp; omega
      have d2 : decide ((n : Int) ≤ 1048576) = false := by simp; omega
      have h3 : Hid (1048576 < n) := Lib.hid (by omega)
      clear h1 h2
      go_enter Try.func11, Try.ntmps11
      go_wp2_with fail
      go_ret
      exact ⟨_, rfl, fun _ => .inr h3.out, FA⟩
  · have d1 : decide ((1500 : Int) < (n : Int)) = false := by simp; omega
    have h3 : Hid (n ≤ 1500) := Lib.hid (by omega)
    clear h1
    go_enter Try.func11, Try.ntmps11
    go_wp2_with fail
    go_ret
    exact ⟨_, rfl, fun _ => .inl h3.out, FA⟩
theorem in4 (n : Nat) : (decide ((12 : Int) < (n : Int)) = false ∧ decide ((1100 : Int) < (n : Int)) = false) ∨ (decide ((12 : Int) < (n : Int)) = true ∧ decide ((n : Int) ≤ 1000) = true) ∨ (decide ((12 : Int) < (n : Int)) = true ∧ decide ((n : Int) ≤ 1000) = false ∧ decide ((1100 : Int) < (n : Int)) = false) ∨ (decide ((12 : Int) < (n : Int)) = true ∧ decide ((n : Int) ≤ 1000) = false ∧ decide ((1100 : Int) < (n : Int)) = true) := by
  by_cases h1 : n ≤ 12
  · left; constructor <;> simp <;> omega
  · by_cases h2 : n ≤ 1000
    · right; left; constructor <;> simp <;> omega
    · by_cases h3 : n ≤ 1100
      · right; right; left; refine ⟨?_, ?_, ?_⟩ <;> simp <;> omega
      · right; right; right; refine ⟨?_, ?_, ?_⟩ <;> simp <;> omega
def BoolAny (w : World) (e : Ending) (w' : World) : Prop := ∃ r : Bool, e = .returned (.bool r) ∧ w = w'
set_option maxHeartbeats 4000000 in
theorem many_any (a1 : Option Addr) (n1 c1 : Nat) (a2 : Option Addr) (n2 c2 : Nat) (vs : List Value) (ds : List (List UInt8)) (S : Nat → Prop) (w : World) (h2 : Rd w a2 n2 vs) (hR : RowsM w S vs ds) :
    Calls Try.prog 12 #[.slice a1 n1 c1, .slice a2 n2 c2] w (BoolAny w) := by
  have hcf := ContainsFunc_m1 (fun nn => decide ((300 : Int) < nn)) a2 n2 c2 vs ds S w h2 hR (fun ar nn cr => many1_any ar nn cr w)
  obtain ⟨v, hv⟩ : ∃ v, v = ds.any (fun d => decide ((300 : Int) < (d.length : Int))) := ⟨_, rfl⟩
  rw [← hv] at hcf
  have I1 := in4 n1
  have I2 := in4 n2
  clear hv h2 hR
  rcases I1 with ⟨e1, e2⟩ | ⟨e1, e2⟩ | ⟨e1, e2, e3⟩ | ⟨e1, e2, e3⟩
  · rcases I2 with ⟨g1, g2⟩ | ⟨g1, g2⟩ | ⟨g1, g2, g3⟩ | ⟨g1, g2, g3⟩
    all_goals
      go_enter Try.func12, Try.ntmps12
      go_wp2_with (refine hcf.mono ?_; rintro e w' ⟨rfl, rfl⟩)
      go_ret
      exact ⟨_, rfl, rfl⟩
  · clear I2
    go_enter Try.func12, Try.ntmps12
    go_wp2_with fail
    go_ret
    exact ⟨_, rfl, rfl⟩
  · rcases I2 with ⟨g1, g2⟩ | ⟨g1, g2⟩ | ⟨g1, g2, g3⟩ | ⟨g1, g2, g3⟩
    all_goals
      go_enter Try.func12, Try.ntmps12
      go_wp2_with (refine hcf.mono ?_; rintro e w' ⟨rfl, rfl⟩)
      go_ret
      exact ⟨_, rfl, rfl⟩
  · clear I2
    go_enter Try.func12, Try.ntmps12
    go_wp2_with fail
    go_ret
    exact ⟨_, rfl, rfl⟩
end Go.Proofs.Ytehpikjhjghplaa
