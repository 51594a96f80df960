/- LinkcutTrees: the walk. -/
import Derived.Test.YtfeokafjehpgnaaU20
import Derived.Deep.RegionHeld3
namespace Go.Proofs.Ytfeokafjehpgnaa
open Go.RowKit
attribute [local go_sem ↓] Go.wp_at_zero Go.wp_at_succ

set_option maxRecDepth 100000 in
set_option maxHeartbeats 4000000 in
theorem Trees_many (w : World) {a st : Option Addr} {n c m d : Nat} {ws : List Int} {R : Nat → Nat → Int} {v u : Int} (hp : Rd w a n (ints ws)) (hs : ArgSt w st m d stepK R) (hm : manyB n m = true) :
    Calls Try.prog 7 #[.slice a n c, .slice st m d, .int .i64 v, .int .i64 u] w fun e w' => e = .returned (.bool true) ∧ Fr F0 w w' := by
  have HM := Lib.hid hm
  clear hp hs hm
  go_enter Try.func7, Try.ntmps7
  go_wp2_with (first
    | (go_at_call 9; refine (awake_any _).mono ?_; rintro e w0 ⟨rfl, F0'⟩; have FA := Lib.hid F0'; clear F0')
    | (go_at_call 10; refine (many_any _ _ _ _ _ _ _).mono ?_; rintro e w1 ⟨rfl, rfl⟩; rw [HM.out]))
  go_ret
  exact ⟨rfl, FA.out⟩

set_option maxRecDepth 100000 in
set_option maxHeartbeats 4000000 in
theorem Trees_none (w : World) {a st : Option Addr} {n c m d : Nat} {ws : List Int} {R : Nat → Nat → Int} {v u : Int} (hp : Rd w a n (ints ws)) (hs : ArgSt w st m d stepK R) (hm : manyB n m = false) (hb : ws.any badW = true ∨ (ws.any badW = false ∧ 1000 < n)) :
    Calls Try.prog 7 #[.slice a n c, .slice st m d, .int .i64 v, .int .i64 u] w fun e w' => e = .returned (.bool true) ∧ Fr F0 w w' := by
  have HM := Lib.hid hm
  have Hp := Lib.hid hp
  have HB := Lib.hid hb
  clear hp hs hm hb
  go_enter Try.func7, Try.ntmps7
  go_wp2_with (first
    | (go_at_call 9; refine (awake_any _).mono ?_; rintro e w0 ⟨rfl, F0'⟩; have FA := Lib.hid F0'; clear F0')
    | (go_at_call 10; refine (many_any _ _ _ _ _ _ _).mono ?_; rintro e w1 ⟨rfl, rfl⟩; rw [HM.out])
    | (go_at_call 11; refine (play_none _ (Hp.out.fr0 FA.out) HB.out).mono ?_; rintro e w2 ⟨rfl, F2⟩; have FB := Lib.hid (FA.out.trans F2 (fun _ _ h => h)); clear F2))
  go_ret
  exact ⟨rfl, FB.out.alloc _⟩

set_option maxRecDepth 100000 in
set_option maxHeartbeats 4000000 in
theorem Trees_out (w : World) {a st : Option Addr} {n c m d : Nat} {ws : List Int} {R : Nat → Nat → Int} {v u : Int} (hp : Rd w a n (ints ws)) (hs : ArgSt w st m d stepK R) (hm : manyB n m = false) (hb : ws.any badW = false) (hn : ¬ 1000 < n) (hv : outB n v = true) :
    Calls Try.prog 7 #[.slice a n c, .slice st m d, .int .i64 v, .int .i64 u] w fun e w' => e = .returned (.bool true) ∧ Fr F0 w w' := by
  obtain ⟨hn60, hm80⟩ := cases_of hm hb hn
  have HM := Lib.hid hm
  have Hp := Lib.hid hp
  have HA := Lib.hid hs
  have HB := Lib.hid hb
  have HV := Lib.hid hv
  have HVU : Hid ((outB n v || outB n u) = true) := Lib.hid (by rw [hv]; rfl)
  clear hv
  clear hp hs hm hb hn
  go_enter Try.func7, Try.ntmps7
  go_wp2_with (first
    | (go_at_call 9; refine (awake_any _).mono ?_; rintro e w0 ⟨rfl, F0'⟩; have FA := Lib.hid F0'; clear F0')
    | (go_at_call 10; refine (many_any _ _ _ _ _ _ _).mono ?_; rintro e w1 ⟨rfl, rfl⟩; rw [HM.out])
    | (go_at_call 11; refine (play_ok _ (Hp.out.fr0 FA.out) HB.out hn60 (HA.out.fr0 FA.out) hm80).mono ?_; rintro e wp ⟨f, b, B, s1, P, wt, wa, wc, pa, pc, rfl, Y0, sa1, sb1⟩; have Y1 := Lib.hid Y0.start; have FW := FA.out; have m0 := Y1.out.mbk.cell (i := 0) rfl; have m1 := Y1.out.mbk.cell (i := 1) rfl; have ltm := Y1.out.mbk.lt; replace Y0 := Lib.hid Y0; clear FW)
    | (go_at_call 24; refine (Root_out Y1.out.fr.lf HV.out).mono ?_; rintro e w2 ⟨rfl, KK⟩; have Y2 := Lib.hid (Y1.out.fr0 KK); clear KK m0 m1 ltm Y1; have m0 := Y2.out.mbk.cell (i := 0) rfl; have m1 := Y2.out.mbk.cell (i := 1) rfl; have ltm := Y2.out.mbk.lt)
    | (go_at_call 27; refine (Parent_out Y2.out.fr.lf HV.out).mono ?_; rintro e w3 ⟨rfl, KK⟩; have Y3 := Lib.hid (Y2.out.fr0 KK); clear KK m0 m1 ltm Y2; have m0 := Y3.out.mbk.cell (i := 0) rfl; have m1 := Y3.out.mbk.cell (i := 1) rfl; have ltm := Y3.out.mbk.lt)
    | (go_at_call 25; refine (Depth_out Y3.out.fr.lf HV.out).mono ?_; rintro e w4 ⟨rfl, KK⟩; have Y4 := Lib.hid (Y3.out.fr0 KK); clear KK m0 m1 ltm Y3; have m0 := Y4.out.mbk.cell (i := 0) rfl; have m1 := Y4.out.mbk.cell (i := 1) rfl; have ltm := Y4.out.mbk.lt)
    | (go_at_call 22; refine (Connected_out Y4.out.fr.lf HVU.out).mono ?_; rintro e w5 ⟨rfl, KK⟩; have Y5 := Lib.hid (Y4.out.fr0 KK); clear KK m0 m1 ltm Y4; have m0 := Y5.out.mbk.cell (i := 0) rfl; have m1 := Y5.out.mbk.cell (i := 1) rfl; have ltm := Y5.out.mbk.lt)
    | (go_at_call 31; refine (LF.len Y5.out.fr.lf).mono ?_; rintro e w5 ⟨rfl, rfl⟩)
    | (go_at_call 15; refine (refIs_any Y5.out.fr.rs v).mono ?_; rintro e w6 ⟨rfl, KK⟩; have Y6 := Lib.hid (Y5.out.fr0 KK); clear KK m0 m1 ltm Y5; have m0 := Y6.out.mbk.cell (i := 0) rfl; have m1 := Y6.out.mbk.cell (i := 1) rfl; have ltm := Y6.out.mbk.lt; rw [HV.out]))
  go_ret
  exact ⟨rfl, FA.out.trans Y6.out.fr.fr (fun _ _ h => h)⟩

set_option maxRecDepth 100000 in
set_option maxHeartbeats 4000000 in
theorem Trees_uout (w : World) {a st : Option Addr} {n c m d : Nat} {ws : List Int} {R : Nat → Nat → Int} {v : Nat} {u : Int} (hp : Rd w a n (ints ws)) (hs : ArgSt w st m d stepK R) (hm : manyB n m = false) (hb : ws.any badW = false) (hn : ¬ 1000 < n) (hv : v < n) (hu : outB n u = true) :
    Calls Try.prog 7 #[.slice a n c, .slice st m d, .int .i64 (v : Nat), .int .i64 u] w fun e w' => e = .returned (.bool true) ∧ Fr F0 w w' := by
  obtain ⟨hn60, hm80⟩ := cases_of hm hb hn
  have HM := Lib.hid hm
  have Hp := Lib.hid hp
  have HA := Lib.hid hs
  have HB := Lib.hid hb
  have hvi : (v : Int) < (n : Int) := by omega
  have HV := Lib.hid (outB_nat hv)
  have HU := Lib.hid hu
  have HVU : Hid ((outB n (v : Int) || outB n u) = true) := Lib.hid (by rw [hu]; simp)
  clear hu
  clear hp hs hm hb hn
  go_enter Try.func7, Try.ntmps7
  go_wp2_with (first
    | (go_at_call 9; refine (awake_any _).mono ?_; rintro e w0 ⟨rfl, F0'⟩; have FA := Lib.hid F0'; clear F0')
    | (go_at_call 10; refine (many_any _ _ _ _ _ _ _).mono ?_; rintro e w1 ⟨rfl, rfl⟩; rw [HM.out])
    | (go_at_call 11; refine (play_ok _ (Hp.out.fr0 FA.out) HB.out hn60 (HA.out.fr0 FA.out) hm80).mono ?_; rintro e wp ⟨f, b, B, s1, P, wt, wa, wc, pa, pc, rfl, Y0, sa1, sb1⟩; obtain ⟨pb, po, rfl, -⟩ := Y0.rs.ps.cells (by omega); have Y1 := Lib.hid Y0.start; have FW := FA.out; have m0 := Y1.out.mbk.cell (i := 0) rfl; have m1 := Y1.out.mbk.cell (i := 1) rfl; have ltm := Y1.out.mbk.lt; replace Y0 := Lib.hid Y0; clear FW; have HQ : Hid ((ints (QL n P))[v]? = some (.int .i64 ((P (v + 1) : Int) - 1))) := Lib.hid (by unfold ints; rw [List.getElem?_map, QL_get hv]; rfl); obtain ⟨l, r, hl, hr⟩ := rt_ex Y1.out.fr.lf.par hv; obtain ⟨q, hq⟩ : ∃ q, l.length = q + 1 := ⟨l.length - 1, (by have := way_pos hl; omega)⟩; have hnq : q + 1 ≤ n := (by have h9 := hl.len Y1.out.fr.lf.par (mem_succ hv); rw [vts_length] at h9; omega); have HL := Lib.hid (And.intro hl hq); have HT := Lib.hid (show Rt P v r from ⟨l, hl, hr⟩); clear hl hr hq)
    | (go_at_call 24; refine (Root_in Y1.out.fr.lf sa1 (by omega) hv HT.out).mono ?_; rintro e w2 ⟨rfl, KK⟩; obtain ⟨s2, sa2, sb2, Y2⟩ := Y1.out.kp KK; replace Y2 := Lib.hid Y2; clear KK m0 m1 ltm Y1; have m0 := Y2.out.mbk.cell (i := 0) rfl; have m1 := Y2.out.mbk.cell (i := 1) rfl; have ltm := Y2.out.mbk.lt)
    | (go_at_call 27; refine (Parent_any Y2.out.fr.lf (by omega) (by omega) hv).mono ?_; rintro e w3 ⟨rfl, KK⟩; obtain ⟨s3, sa3, sb3, Y3⟩ := Y2.out.kp KK; replace Y3 := Lib.hid Y3; clear KK m0 m1 ltm Y2; have m0 := Y3.out.mbk.cell (i := 0) rfl; have m1 := Y3.out.mbk.cell (i := 1) rfl; have ltm := Y3.out.mbk.lt)
    | (go_at_call 25; refine (Depth_any Y3.out.fr.lf (by omega) (by omega) hv HL.out.1 HL.out.2).mono ?_; rintro e w4 ⟨rfl, KK⟩; obtain ⟨s4, sa4, sb4, Y4⟩ := Y3.out.kp KK; replace Y4 := Lib.hid Y4; clear KK m0 m1 ltm Y3; have m0 := Y4.out.mbk.cell (i := 0) rfl; have m1 := Y4.out.mbk.cell (i := 1) rfl; have ltm := Y4.out.mbk.lt)
    | (go_at_call 22; refine (Connected_out Y4.out.fr.lf HVU.out).mono ?_; rintro e w5 ⟨rfl, KK⟩; have Y5 := Lib.hid (Y4.out.fr0 KK); clear KK m0 m1 ltm Y4; have m0 := Y5.out.mbk.cell (i := 0) rfl; have m1 := Y5.out.mbk.cell (i := 1) rfl; have ltm := Y5.out.mbk.lt)
    | (go_at_call 31; refine (LF.len Y5.out.fr.lf).mono ?_; rintro e w5 ⟨rfl, rfl⟩)
    | (go_at_call 15; refine (refIs_any Y5.out.fr.rs (v : Nat)).mono ?_; rintro e w6 ⟨rfl, KK⟩; have Y6 := Lib.hid (Y5.out.fr0 KK); clear KK m0 m1 ltm Y5; have m0 := Y6.out.mbk.cell (i := 0) rfl; have m1 := Y6.out.mbk.cell (i := 1) rfl; have ltm := Y6.out.mbk.lt; rw [HV.out]; clear HV)
    | (go_at_call 32; refine (refRoot_any Y6.out.fr.lf.par Y6.out.fr.rs hv hn60 HT.out).mono ?_; rintro e w7 ⟨rfl, KK⟩; have Y7 := Lib.hid (Y6.out.fr0 KK); clear KK m0 m1 ltm Y6; have m0 := Y7.out.mbk.cell (i := 0) rfl; have m1 := Y7.out.mbk.cell (i := 1) rfl; have ltm := Y7.out.mbk.lt; have dv := Y7.out.fr.rs.ps.at HQ.out)
    | (go_at_call 33; refine (Up_len Y7.out.fr.lf.par Y7.out.fr.rs hv hn60 HL.out.1 HL.out.2).mono ?_; rintro e w8 ⟨a8, c8, rfl, KK⟩; have Y8 := Lib.hid (Y7.out.fr0 KK); clear KK m0 m1 ltm Y7; have m0 := Y8.out.mbk.cell (i := 0) rfl; have m1 := Y8.out.mbk.cell (i := 1) rfl; have ltm := Y8.out.mbk.lt; clear dv)
    | (go_at_call 15; refine (refIs_any Y8.out.fr.rs u).mono ?_; rintro e w9 ⟨rfl, KK⟩; have Y9 := Lib.hid (Y8.out.fr0 KK); clear KK m0 m1 ltm Y8; have m0 := Y9.out.mbk.cell (i := 0) rfl; have m1 := Y9.out.mbk.cell (i := 1) rfl; have ltm := Y9.out.mbk.lt; rw [HU.out]))
  go_ret
  exact ⟨rfl, FA.out.trans Y9.out.fr.fr (fun _ _ h => h)⟩

set_option maxRecDepth 100000 in
set_option maxHeartbeats 4000000 in
theorem Trees_in (w : World) {a st : Option Addr} {n c m d : Nat} {ws : List Int} {R : Nat → Nat → Int} {v u : Nat} (hp : Rd w a n (ints ws)) (hs : ArgSt w st m d stepK R) (hm : manyB n m = false) (hb : ws.any badW = false) (hn : ¬ 1000 < n) (hv : v < n) (hu : u < n) :
    Calls Try.prog 7 #[.slice a n c, .slice st m d, .int .i64 (v : Nat), .int .i64 (u : Nat)] w fun e w' => e = .returned (.bool true) ∧ Fr F0 w w' := by
  obtain ⟨hn60, hm80⟩ := cases_of hm hb hn
  have HM := Lib.hid hm
  have Hp := Lib.hid hp
  have HA := Lib.hid hs
  have HB := Lib.hid hb
  have hvi : (v : Int) < (n : Int) := by omega
  have HV := Lib.hid (outB_nat hv)
  have HU := Lib.hid (outB_nat hu)
  clear hp hs hm hb hn
  go_enter Try.func7, Try.ntmps7
  go_wp2_with (first
    | (go_at_call 9; refine (awake_any _).mono ?_; rintro e w0 ⟨rfl, F0'⟩; have FA := Lib.hid F0'; clear F0')
    | (go_at_call 10; refine (many_any _ _ _ _ _ _ _).mono ?_; rintro e w1 ⟨rfl, rfl⟩; rw [HM.out])
    | (go_at_call 11; refine (play_ok _ (Hp.out.fr0 FA.out) HB.out hn60 (HA.out.fr0 FA.out) hm80).mono ?_; rintro e wp ⟨f, b, B, s1, P, wt, wa, wc, pa, pc, rfl, Y0, sa1, sb1⟩; obtain ⟨pb, po, rfl, -⟩ := Y0.rs.ps.cells (by omega); have Y1 := Lib.hid Y0.start; have FW := FA.out; have m0 := Y1.out.mbk.cell (i := 0) rfl; have m1 := Y1.out.mbk.cell (i := 1) rfl; have ltm := Y1.out.mbk.lt; replace Y0 := Lib.hid Y0; clear FW; have HQ : Hid ((ints (QL n P))[v]? = some (.int .i64 ((P (v + 1) : Int) - 1))) := Lib.hid (by unfold ints; rw [List.getElem?_map, QL_get hv]; rfl); obtain ⟨l, r, hl, hr⟩ := rt_ex Y1.out.fr.lf.par hv; obtain ⟨q, hq⟩ : ∃ q, l.length = q + 1 := ⟨l.length - 1, (by have := way_pos hl; omega)⟩; have hnq : q + 1 ≤ n := (by have h9 := hl.len Y1.out.fr.lf.par (mem_succ hv); rw [vts_length] at h9; omega); have HL := Lib.hid (And.intro hl hq); have HT := Lib.hid (show Rt P v r from ⟨l, hl, hr⟩); clear hl hr hq; obtain ⟨l', z, hl, hr⟩ := rt_ex Y1.out.fr.lf.par hu; obtain ⟨q', hq⟩ : ∃ q, l'.length = q + 1 := ⟨l'.length - 1, (by have := way_pos hl; omega)⟩; have hnq' : q' + 1 ≤ n := (by have h9 := hl.len Y1.out.fr.lf.par (mem_succ hu); rw [vts_length] at h9; omega); have HL' := Lib.hid (And.intro hl hq); have HTU := Lib.hid (show Rt P u z from ⟨l', hl, hr⟩); clear hl hr hq)
    | (go_at_call 24; refine (Root_in Y1.out.fr.lf sa1 (by omega) hv HT.out).mono ?_; rintro e w2 ⟨rfl, KK⟩; obtain ⟨s2, sa2, sb2, Y2⟩ := Y1.out.kp KK; replace Y2 := Lib.hid Y2; clear KK m0 m1 ltm Y1; have m0 := Y2.out.mbk.cell (i := 0) rfl; have m1 := Y2.out.mbk.cell (i := 1) rfl; have ltm := Y2.out.mbk.lt)
    | (go_at_call 27; refine (Parent_any Y2.out.fr.lf (by omega) (by omega) hv).mono ?_; rintro e w3 ⟨rfl, KK⟩; obtain ⟨s3, sa3, sb3, Y3⟩ := Y2.out.kp KK; replace Y3 := Lib.hid Y3; clear KK m0 m1 ltm Y2; have m0 := Y3.out.mbk.cell (i := 0) rfl; have m1 := Y3.out.mbk.cell (i := 1) rfl; have ltm := Y3.out.mbk.lt)
    | (go_at_call 25; refine (Depth_any Y3.out.fr.lf (by omega) (by omega) hv HL.out.1 HL.out.2).mono ?_; rintro e w4 ⟨rfl, KK⟩; obtain ⟨s4, sa4, sb4, Y4⟩ := Y3.out.kp KK; replace Y4 := Lib.hid Y4; clear KK m0 m1 ltm Y3; have m0 := Y4.out.mbk.cell (i := 0) rfl; have m1 := Y4.out.mbk.cell (i := 1) rfl; have ltm := Y4.out.mbk.lt)
    | (go_at_call 22; refine (Connected_in Y4.out.fr.lf (by omega) (by omega) hv hu HT.out HTU.out).mono ?_; rintro e w5 ⟨rfl, KK⟩; obtain ⟨s5, sa5, sb5, Y5⟩ := Y4.out.kp KK; replace Y5 := Lib.hid Y5; clear KK m0 m1 ltm Y4; have m0 := Y5.out.mbk.cell (i := 0) rfl; have m1 := Y5.out.mbk.cell (i := 1) rfl; have ltm := Y5.out.mbk.lt)
    | (go_at_call 31; refine (LF.len Y5.out.fr.lf).mono ?_; rintro e w5 ⟨rfl, rfl⟩)
    | (go_at_call 15; refine (refIs_any Y5.out.fr.rs (v : Nat)).mono ?_; rintro e w6 ⟨rfl, KK⟩; have Y6 := Lib.hid (Y5.out.fr0 KK); clear KK m0 m1 ltm Y5; have m0 := Y6.out.mbk.cell (i := 0) rfl; have m1 := Y6.out.mbk.cell (i := 1) rfl; have ltm := Y6.out.mbk.lt; rw [HV.out]; clear HV)
    | (go_at_call 32; refine (refRoot_any Y6.out.fr.lf.par Y6.out.fr.rs hv hn60 HT.out).mono ?_; rintro e w7 ⟨rfl, KK⟩; have Y7 := Lib.hid (Y6.out.fr0 KK); clear KK m0 m1 ltm Y6; have m0 := Y7.out.mbk.cell (i := 0) rfl; have m1 := Y7.out.mbk.cell (i := 1) rfl; have ltm := Y7.out.mbk.lt; have dv := Y7.out.fr.rs.ps.at HQ.out)
    | (go_at_call 33; refine (Up_len Y7.out.fr.lf.par Y7.out.fr.rs hv hn60 HL.out.1 HL.out.2).mono ?_; rintro e w8 ⟨a8, c8, rfl, KK⟩; have Y8 := Lib.hid (Y7.out.fr0 KK); clear KK m0 m1 ltm Y7; have m0 := Y8.out.mbk.cell (i := 0) rfl; have m1 := Y8.out.mbk.cell (i := 1) rfl; have ltm := Y8.out.mbk.lt; clear dv)
    | (go_at_call 15; refine (refIs_any Y8.out.fr.rs (u : Nat)).mono ?_; rintro e w9 ⟨rfl, KK⟩; have Y9 := Lib.hid (Y8.out.fr0 KK); clear KK m0 m1 ltm Y8; have m0 := Y9.out.mbk.cell (i := 0) rfl; have m1 := Y9.out.mbk.cell (i := 1) rfl; have ltm := Y9.out.mbk.lt; rw [HU.out]))
  have H1 := Lib.hid (fun (W : World) (F : Fr F0 w9 W) => ((refRoot_any Y9.out.fr.lf.par (Y9.out.fr.rs.fr0 F) hv hn60 HT.out).mono (fun e w' hh => ⟨hh.1, F.trans hh.2 (fun _ _ h => h)⟩) : Calls Try.prog 32 #[rv n wa wc (some ⟨pb, po, none⟩) pc, .int .i64 (v : Nat)] W fun e w' => e = .returned (.int .i64 ((r : Int) - 1)) ∧ Fr F0 w9 w'))
  have H2 := Lib.hid (fun (W : World) (F : Fr F0 w9 W) => ((refRoot_any Y9.out.fr.lf.par (Y9.out.fr.rs.fr0 F) hu hn60 HTU.out).mono (fun e w' hh => ⟨hh.1, F.trans hh.2 (fun _ _ h => h)⟩) : Calls Try.prog 32 #[rv n wa wc (some ⟨pb, po, none⟩) pc, .int .i64 (u : Nat)] W fun e w' => e = .returned (.int .i64 ((z : Int) - 1)) ∧ Fr F0 w9 w'))
  have F9 := Lib.hid (Fr.refl F0 w9)
  have HC := Lib.hid (And.intro m0 m1)
  have Hh : (w9.drew.cell? ⟨wp.heap.size, 0, none⟩ = some (.slice wa n wc) ∧ w9.drew.cell? ⟨wp.heap.size, 1, none⟩ = some (.slice (some ⟨pb, po, none⟩) n pc)) := ⟨m0, m1⟩
  go_region_held3 (fun w' => w'.cell? ⟨wp.heap.size, 0, none⟩ = some (.slice wa n wc) ∧ w'.cell? ⟨wp.heap.size, 1, none⟩ = some (.slice (some ⟨pb, po, none⟩) n pc)) (go_keep)
    (first | (go_at_call 32; (with_reducible refine (H1.out _ (by repeat (first | exact F9.out | exact G2.out | refine Fr.drew ?_))).mono ?_); rintro e w10 ⟨rfl, G1'⟩; have G1 := Lib.hid G1'; have k0 := G1'.cell m0 id; have k1 := G1'.cell m1 id) | (go_at_call 32; (with_reducible refine (H2.out _ (by repeat (first | exact F9.out | exact G1.out | refine Fr.drew ?_))).mono ?_); rintro e w11 ⟨rfl, G2'⟩; have G2 := Lib.hid G2'; have k0' := G2'.cell m0 id; have k1' := G2'.cell m1 id) | fail)
  all_goals
    go_wp2_with fail
    go_ret
    refine ⟨ret_bool ?_, FA.out.trans (Y9.out.fr.fr.trans (by first | exact G1' | exact G2') (fun _ _ h => h)) (fun _ _ h => h)⟩
    first | exact conn_eq r z | (rw [Bool.beq_comm]; exact conn_eq r z) | (trace_state; done)

theorem Trees_law (a : Option Addr) (n c : Nat) (ws : List Int) (st : Option Addr) (m d : Nat) (R : Nat → Nat → Int) (v u : Int) (w : World) (h1 : ArgSl w a n c ws) (h2 : ArgSt w st m d [.i64, .i64, .i64] R) :
    Calls Try.prog 7 #[.slice a n c, .slice st m d, .int .i64 v, .int .i64 u] w fun e w' => e = .returned (.bool true) ∧ Fr F0 w w' := by
  cases hm : manyB n m with
  | true => exact Trees_many w h1.rd h2 hm
  | false =>
    cases hb : ws.any badW with
    | true => exact Trees_none w h1.rd h2 hm (.inl hb)
    | false =>
      by_cases hn : 1000 < n
      · exact Trees_none w h1.rd h2 hm (.inr ⟨hb, hn⟩)
      · cases hv : outB n v with
        | true => exact Trees_out w h1.rd h2 hm hb hn hv
        | false =>
          obtain ⟨v, rfl, hvn⟩ := outB_false hv
          cases hu : outB n u with
          | true => exact Trees_uout w h1.rd h2 hm hb hn hvn hu
          | false =>
            obtain ⟨u, rfl, hun⟩ := outB_false hu
            exact Trees_in w h1.rd h2 hm hb hn hvn hun

end Go.Proofs.Ytfeokafjehpgnaa
