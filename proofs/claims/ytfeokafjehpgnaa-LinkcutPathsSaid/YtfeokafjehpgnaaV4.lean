/- LinkcutPaths: the walk. -/
import Derived.Test.YtfeokafjehpgnaaV3
namespace Go.Proofs.Ytfeokafjehpgnaa
open Go.RowKit
attribute [local go_sem ↓] Go.wp_at_zero Go.wp_at_succ

theorem paths_ex {n v u : Nat} {P : Nat → Nat} (hp : K.Par P (vts n)) (hv : v < n) (hu : u < n) {lv lw : List Nat} (hlv : K.Way P (v + 1) lv) (hlw : K.Way P (u + 1) lw) {c : Nat} (hc : Cmn lv lw c) :
    ∃ o3 o4 oS c', c = c' + 1 ∧ lv = o3 ++ (c' + 1) :: o4 ∧ lw = o3 ++ (c' + 1) :: oS ∧ (∀ z ∈ oS, z ∉ o4) ∧ (∀ z ∈ o4.reverse ++ (c' + 1) :: oS, z ∈ vts n) ∧ o4.length + oS.length + 1 ≤ 2 * n ∧
      ∃ P1, K.Chain P1 0 lv.reverse ∧ (∀ z ∈ vts n, z ∉ lv → P1 z = P z) ∧ K.Way P1 (u + 1) (o4.reverse ++ (c' + 1) :: oS) := by
  obtain ⟨o3, o4, oS, e1, e2, e3⟩ := hc.ex
  subst e1 e2
  have A1 := way_all hp hlv (mem_succ hv)
  have A2 := way_all hp hlw (mem_succ hu)
  have L1 := hlv.len hp (mem_succ hv)
  have L2 := hlw.len hp (mem_succ hu)
  rw [vts_length] at L1 L2
  have hc1 := mem_vts.1 (A1.1 c (by simp))
  obtain ⟨c, rfl⟩ : ∃ q, c = q + 1 := ⟨c - 1, by omega⟩
  obtain ⟨P1, h1, h2⟩ := chain_ex (o3 ++ (c + 1) :: o4).reverse 0 P ((List.reverse_perm _).nodup_iff.2 A1.2)
  have h2' : ∀ z ∈ vts n, z ∉ o3 ++ (c + 1) :: o4 → P1 z = P z := fun z _ hz => h2 z (fun e => hz (List.mem_reverse.1 e))
  refine ⟨o3, o4, oS, c, rfl, rfl, rfl, e3, ?_, ?_, P1, h1, h2', K.Way.between hlv hlw e3 A2.2 A2.1 h1 h2'⟩
  · intro z hz
    rcases List.mem_append.1 hz with hz | hz
    · exact A1.1 z (by simp [List.mem_reverse.1 hz])
    · exact A2.1 z (List.mem_append.2 (.inr hz))
  · simp at L1 L2
    omega
theorem refCommon_ne {w : World} {B n : Nat} {wt : Nat → Int} {P : Nat → Nat} {wa pa : Option Addr} {wc pc : Nat} (hp : K.Par P (vts n)) (h : RS w B n wt P wa wc pa pc) (hn : n ≤ 60) {v u : Nat} (hv : v < n) (hu : u < n) {lv lw : List Nat} (hlv : K.Way P (v + 1) lv) (hlw : K.Way P (u + 1) lw) (hne : lv.head? ≠ lw.head?) :
    Calls Try.prog 16 #[rv n wa wc pa pc, .int .i64 (v : Nat), .int .i64 (u : Nat)] w fun e w' => e = .returned (.int .i64 (-1)) ∧ Fr F0 w w' := by
  refine (refCommon_any hp h hn hv hu hlv hlw).mono ?_
  rintro e w' ⟨y, rfl, k1, k2⟩
  rcases k1 with ⟨rfl, _⟩ | ⟨_, _, k1⟩
  · exact ⟨ret_int (by omega), k2⟩
  · exact absurd k1 hne

set_option maxRecDepth 100000 in
set_option maxHeartbeats 4000000 in
theorem Paths_many (w : World) {a st : Option Addr} {n c m d : Nat} {ws : List Int} {R : Nat → Nat → Int} {v u : Int} (_hp : Rd w a n (ints ws)) (_hs : ArgSt w st m d stepK R) (hm : manyB n m = true) :
    Calls Try.prog 3 #[.slice a n c, .slice st m d, .int .i64 v, .int .i64 u] w fun e w' => e = .returned (.bool true) ∧ Fr F0 w w' := by
  have HM := Lib.hid hm
  clear _hp _hs hm
  go_enter Try.func3, Try.ntmps3
  go_wp2_with (first
    | (go_at_call 9; refine (awake_any _).mono ?_; rintro e w0 ⟨rfl, F0'⟩; have FA := Lib.hid F0'; clear F0')
    | (go_at_call 10; refine (many_any _ _ _ _ _ _ _).mono ?_; rintro e w1 ⟨rfl, rfl⟩; rw [HM.out]))
  go_ret
  exact ⟨rfl, FA.out⟩

set_option maxRecDepth 100000 in
set_option maxHeartbeats 4000000 in
theorem Paths_none (w : World) {a st : Option Addr} {n c m d : Nat} {ws : List Int} {R : Nat → Nat → Int} {v u : Int} (hp : Rd w a n (ints ws)) (_hs : ArgSt w st m d stepK R) (hm : manyB n m = false) (hb : ws.any badW = true ∨ (ws.any badW = false ∧ 1000 < n)) :
    Calls Try.prog 3 #[.slice a n c, .slice st m d, .int .i64 v, .int .i64 u] w fun e w' => e = .returned (.bool true) ∧ Fr F0 w w' := by
  have HM := Lib.hid hm
  have Hp := Lib.hid hp
  have HB := Lib.hid hb
  clear hp _hs hm hb
  go_enter Try.func3, Try.ntmps3
  go_wp2_with (first
    | (go_at_call 9; refine (awake_any _).mono ?_; rintro e w0 ⟨rfl, F0'⟩; have FA := Lib.hid F0'; clear F0')
    | (go_at_call 10; refine (many_any _ _ _ _ _ _ _).mono ?_; rintro e w1 ⟨rfl, rfl⟩; rw [HM.out])
    | (go_at_call 11; refine (play_none _ (Hp.out.fr0 FA.out) HB.out).mono ?_; rintro e w2 ⟨rfl, F2⟩; have FB := Lib.hid (FA.out.trans F2 (fun _ _ h => h)); clear F2))
  go_ret
  exact ⟨rfl, FB.out.alloc _⟩

set_option maxRecDepth 100000 in
set_option maxHeartbeats 4000000 in
theorem Paths_out (w : World) {a st : Option Addr} {n c m d : Nat} {ws : List Int} {R : Nat → Nat → Int} {v u : Int} (hp : Rd w a n (ints ws)) (hs : ArgSt w st m d stepK R) (hm : manyB n m = false) (hb : ws.any badW = false) (hn : ¬ 1000 < n) (hv : outB n v = true) :
    Calls Try.prog 3 #[.slice a n c, .slice st m d, .int .i64 v, .int .i64 u] w fun e w' => e = .returned (.bool true) ∧ Fr F0 w w' := by
  obtain ⟨hn60, hm80⟩ := cases_of hm hb hn
  have HM := Lib.hid hm
  have Hp := Lib.hid hp
  have HA := Lib.hid hs
  have HB := Lib.hid hb
  have HV := Lib.hid hv
  have HVU : Hid ((outB n v || outB n u) = true) := Lib.hid (by rw [hv]; rfl)
  clear hv
  clear hp hs hm hb hn
  go_enter Try.func3, Try.ntmps3
  go_wp2_with (first
    | (go_at_call 9; refine (awake_any _).mono ?_; rintro e w0 ⟨rfl, F0'⟩; have FA := Lib.hid F0'; clear F0')
    | (go_at_call 10; refine (many_any _ _ _ _ _ _ _).mono ?_; rintro e w1 ⟨rfl, rfl⟩; rw [HM.out])
    | (go_at_call 11; refine (play_ok _ (Hp.out.fr0 FA.out) HB.out hn60 (HA.out.fr0 FA.out) hm80).mono ?_; rintro e wp ⟨f, b, B, s1, P, wt, wa, wc, pa, pc, rfl, Y0, sa1, sb1⟩; have Y1 := Lib.hid Y0.start; have FW := FA.out; have m0 := Y1.out.mbk.cell (i := 0) rfl; have m1 := Y1.out.mbk.cell (i := 1) rfl; have ltm := Y1.out.mbk.lt; replace Y0 := Lib.hid Y0; clear FW)
    | (go_at_call 12; refine (Common_out Y1.out.fr.lf HVU.out).mono ?_; rintro e w2 ⟨rfl, KK⟩; have Y2 := Lib.hid (Y1.out.fr0 KK); clear KK m0 m1 ltm Y1; have m0 := Y2.out.mbk.cell (i := 0) rfl; have m1 := Y2.out.mbk.cell (i := 1) rfl; have ltm := Y2.out.mbk.lt)
    | (go_at_call 13; refine (Sum_out Y2.out.fr.lf HVU.out).mono ?_; rintro e w3 ⟨rfl, KK⟩; have Y3 := Lib.hid (Y2.out.fr0 KK); clear KK m0 m1 ltm Y2; have m0 := Y3.out.mbk.cell (i := 0) rfl; have m1 := Y3.out.mbk.cell (i := 1) rfl; have ltm := Y3.out.mbk.lt)
    | (go_at_call 14; refine (Least_out Y3.out.fr.lf HVU.out).mono ?_; rintro e w4 ⟨rfl, KK⟩; have Y4 := Lib.hid (Y3.out.fr0 KK); clear KK m0 m1 ltm Y3; have m0 := Y4.out.mbk.cell (i := 0) rfl; have m1 := Y4.out.mbk.cell (i := 1) rfl; have ltm := Y4.out.mbk.lt)
    | (go_at_call 15; refine (refIs_any Y4.out.fr.rs v).mono ?_; rintro e w5 ⟨rfl, KK⟩; have Y5 := Lib.hid (Y4.out.fr0 KK); clear KK m0 m1 ltm Y4; have m0 := Y5.out.mbk.cell (i := 0) rfl; have m1 := Y5.out.mbk.cell (i := 1) rfl; have ltm := Y5.out.mbk.lt; rw [HV.out]))
  go_ret
  exact ⟨rfl, FA.out.trans Y5.out.fr.fr (fun _ _ h => h)⟩

set_option maxRecDepth 100000 in
set_option maxHeartbeats 4000000 in
theorem Paths_uout (w : World) {a st : Option Addr} {n c m d : Nat} {ws : List Int} {R : Nat → Nat → Int} {v : Nat} {u : Int} (hp : Rd w a n (ints ws)) (hs : ArgSt w st m d stepK R) (hm : manyB n m = false) (hb : ws.any badW = false) (hn : ¬ 1000 < n) (hv : v < n) (hu : outB n u = true) :
    Calls Try.prog 3 #[.slice a n c, .slice st m d, .int .i64 (v : Nat), .int .i64 u] w fun e w' => e = .returned (.bool true) ∧ Fr F0 w w' := by
  obtain ⟨hn60, hm80⟩ := cases_of hm hb hn
  have HM := Lib.hid hm
  have Hp := Lib.hid hp
  have HA := Lib.hid hs
  have HB := Lib.hid hb
  have hvi : (v : Int) < (n : Int) := by omega
  have HV := Lib.hid (outB_nat hv)
  have HU := Lib.hid hu
  have HVU : Hid ((outB n (v : Int) || outB n u) = true) := Lib.hid (by rw [hu]; simp)
  clear hu
  clear hp hs hm hb hn
  go_enter Try.func3, Try.ntmps3
  go_wp2_with (first
    | (go_at_call 9; refine (awake_any _).mono ?_; rintro e w0 ⟨rfl, F0'⟩; have FA := Lib.hid F0'; clear F0')
    | (go_at_call 10; refine (many_any _ _ _ _ _ _ _).mono ?_; rintro e w1 ⟨rfl, rfl⟩; rw [HM.out])
    | (go_at_call 11; refine (play_ok _ (Hp.out.fr0 FA.out) HB.out hn60 (HA.out.fr0 FA.out) hm80).mono ?_; rintro e wp ⟨f, b, B, s1, P, wt, wa, wc, pa, pc, rfl, Y0, sa1, sb1⟩; have Y1 := Lib.hid Y0.start; have FW := FA.out; have m0 := Y1.out.mbk.cell (i := 0) rfl; have m1 := Y1.out.mbk.cell (i := 1) rfl; have ltm := Y1.out.mbk.lt; replace Y0 := Lib.hid Y0; clear FW)
    | (go_at_call 12; refine (Common_out Y1.out.fr.lf HVU.out).mono ?_; rintro e w2 ⟨rfl, KK⟩; have Y2 := Lib.hid (Y1.out.fr0 KK); clear KK m0 m1 ltm Y1; have m0 := Y2.out.mbk.cell (i := 0) rfl; have m1 := Y2.out.mbk.cell (i := 1) rfl; have ltm := Y2.out.mbk.lt)
    | (go_at_call 13; refine (Sum_out Y2.out.fr.lf HVU.out).mono ?_; rintro e w3 ⟨rfl, KK⟩; have Y3 := Lib.hid (Y2.out.fr0 KK); clear KK m0 m1 ltm Y2; have m0 := Y3.out.mbk.cell (i := 0) rfl; have m1 := Y3.out.mbk.cell (i := 1) rfl; have ltm := Y3.out.mbk.lt)
    | (go_at_call 14; refine (Least_out Y3.out.fr.lf HVU.out).mono ?_; rintro e w4 ⟨rfl, KK⟩; have Y4 := Lib.hid (Y3.out.fr0 KK); clear KK m0 m1 ltm Y3; have m0 := Y4.out.mbk.cell (i := 0) rfl; have m1 := Y4.out.mbk.cell (i := 1) rfl; have ltm := Y4.out.mbk.lt)
    | (go_at_call 15; refine (refIs_any Y4.out.fr.rs (v : Nat)).mono ?_; rintro e w5 ⟨rfl, KK⟩; have Y5 := Lib.hid (Y4.out.fr0 KK); clear KK m0 m1 ltm Y4; have m0 := Y5.out.mbk.cell (i := 0) rfl; have m1 := Y5.out.mbk.cell (i := 1) rfl; have ltm := Y5.out.mbk.lt; rw [HV.out]; clear HV)
    | (go_at_call 15; refine (refIs_any Y5.out.fr.rs u).mono ?_; rintro e w6 ⟨rfl, KK⟩; have Y6 := Lib.hid (Y5.out.fr0 KK); clear KK m0 m1 ltm Y5; have m0 := Y6.out.mbk.cell (i := 0) rfl; have m1 := Y6.out.mbk.cell (i := 1) rfl; have ltm := Y6.out.mbk.lt; rw [HU.out]))
  go_ret
  exact ⟨rfl, FA.out.trans Y6.out.fr.fr (fun _ _ h => h)⟩

set_option maxRecDepth 100000 in
set_option maxHeartbeats 4000000 in
theorem Paths_in (w : World) {a st : Option Addr} {n c m d : Nat} {ws : List Int} {R : Nat → Nat → Int} {v u : Nat} (hp : Rd w a n (ints ws)) (hs : ArgSt w st m d stepK R) (hm : manyB n m = false) (hb : ws.any badW = false) (hn : ¬ 1000 < n) (hv : v < n) (hu : u < n) :
    Calls Try.prog 3 #[.slice a n c, .slice st m d, .int .i64 (v : Nat), .int .i64 (u : Nat)] w fun e w' => e = .returned (.bool true) ∧ Fr F0 w w' := by
  obtain ⟨hn60, hm80⟩ := cases_of hm hb hn
  have HM := Lib.hid hm
  have Hp := Lib.hid hp
  have HA := Lib.hid hs
  have HB := Lib.hid hb
  have hvi : (v : Int) < (n : Int) := by omega
  have HV := Lib.hid (outB_nat hv)
  have HU := Lib.hid (outB_nat hu)
  clear hp hs hm hb hn
  go_enter Try.func3, Try.ntmps3
  go_wp2_with (first
    | (go_at_call 9; refine (awake_any _).mono ?_; rintro e w0 ⟨rfl, F0'⟩; have FA := Lib.hid F0'; clear F0')
    | (go_at_call 10; refine (many_any _ _ _ _ _ _ _).mono ?_; rintro e w1 ⟨rfl, rfl⟩; rw [HM.out])
    | (go_at_call 11; refine (play_ok _ (Hp.out.fr0 FA.out) HB.out hn60 (HA.out.fr0 FA.out) hm80).mono ?_; rintro e wp ⟨f, b, B, s1, P, wt, wa, wc, pa, pc, rfl, Y0, sa1, sb1⟩; have Y1 := Lib.hid Y0.start; have FW := FA.out; have m0 := Y1.out.mbk.cell (i := 0) rfl; have m1 := Y1.out.mbk.cell (i := 1) rfl; have ltm := Y1.out.mbk.lt; replace Y0 := Lib.hid Y0; clear FW; obtain ⟨l, r, hl, hr⟩ := rt_ex Y1.out.fr.lf.par hv; obtain ⟨l', z, hl', hz⟩ := rt_ex Y1.out.fr.lf.par hu; have HL := Lib.hid (And.intro hl (And.intro hr (And.intro hl' hz))); clear hl hr hl' hz))
  by_cases hrz : r = z
  · subst hrz
    have HEQ : Hid (l.head? = l'.head?) := Lib.hid (HL.out.2.1.trans HL.out.2.2.2.symm)
    have HTU : Hid (Rt P u r) := Lib.hid ⟨l', HL.out.2.2⟩
    go_wp2_with (first
      | (go_at_call 12; refine (Common_ok Y1.out.fr.lf sa1 (by omega) hv hu HL.out.1 HL.out.2.2.1 HEQ.out).mono ?_; rintro e w2 ⟨c0, rfl, hC, KK⟩; obtain ⟨s2, sa2, sb2, Y2⟩ := Y1.out.kp KK; replace Y2 := Lib.hid Y2; clear KK m0 m1 ltm Y1; have m0 := Y2.out.mbk.cell (i := 0) rfl; have m1 := Y2.out.mbk.cell (i := 1) rfl; have ltm := Y2.out.mbk.lt; obtain ⟨o3, o4, oS, c, rfl, rfl, rfl, hd, hvs, hlo, P1, k1, k2, k3⟩ := paths_ex Y2.out.fr.lf.par hv hu HL.out.1 HL.out.2.2.1 hC; have ec : ((c + 1 : Nat) : Int) - 1 = (c : Nat) := (by omega); rw [ec]; have HC := Lib.hid hC; obtain ⟨lp, hlp⟩ : ∃ lp, lp = o4.reverse ++ (c + 1) :: oS := ⟨_, rfl⟩; rw [← hlp] at hvs k3; have hll : lp.length = o4.length + oS.length + 1 := (by rw [hlp]; simp; omega); rw [← hll] at hlo; have hl0 : 0 < lp.length := (by omega); have HLP := Lib.hid hlp; have HL0 := Lib.hid hl0; clear hll hlp hl0; have HX := Lib.hid (And.intro hd (And.intro hvs (And.intro hlo (And.intro k1 (And.intro k2 k3))))); clear hd hvs hlo k1 k2 k3 hC ec)
      | (go_at_call 13; refine (Sum_ok Y2.out.fr.lf (by omega) (by omega) hv hu HL.out.1 HL.out.2.1 HTU.out HX.out.2.2.2.1 HX.out.2.2.2.2.1 HX.out.2.2.2.2.2).mono ?_; rintro e w3 ⟨rfl, KK⟩; obtain ⟨s3, sa3, sb3, Y3⟩ := Y2.out.kp KK; replace Y3 := Lib.hid Y3; clear KK m0 m1 ltm Y2; have m0 := Y3.out.mbk.cell (i := 0) rfl; have m1 := Y3.out.mbk.cell (i := 1) rfl; have ltm := Y3.out.mbk.lt)
      | (go_at_call 14; refine (Least_ok Y3.out.fr.lf (by omega) (by omega) hv hu HL.out.1 HL.out.2.1 HTU.out HX.out.2.2.2.1 HX.out.2.2.2.2.1 HX.out.2.2.2.2.2).mono ?_; rintro e w4 ⟨rfl, KK⟩; obtain ⟨s4, sa4, sb4, Y4⟩ := Y3.out.kp KK; replace Y4 := Lib.hid Y4; clear KK m0 m1 ltm Y3; have m0 := Y4.out.mbk.cell (i := 0) rfl; have m1 := Y4.out.mbk.cell (i := 1) rfl; have ltm := Y4.out.mbk.lt)
      | (go_at_call 15; refine (refIs_any Y4.out.fr.rs (v : Nat)).mono ?_; rintro e w5 ⟨rfl, KK⟩; have Y5 := Lib.hid (Y4.out.fr0 KK); clear KK m0 m1 ltm Y4; have m0 := Y5.out.mbk.cell (i := 0) rfl; have m1 := Y5.out.mbk.cell (i := 1) rfl; have ltm := Y5.out.mbk.lt; rw [HV.out]; clear HV)
      | (go_at_call 15; refine (refIs_any Y5.out.fr.rs (u : Nat)).mono ?_; rintro e w6 ⟨rfl, KK⟩; have Y6 := Lib.hid (Y5.out.fr0 KK); clear KK m0 m1 ltm Y5; have m0 := Y6.out.mbk.cell (i := 0) rfl; have m1 := Y6.out.mbk.cell (i := 1) rfl; have ltm := Y6.out.mbk.lt; rw [HU.out]; clear HU)
      | (go_at_call 16; refine (refCommon_in Y6.out.fr.lf.par Y6.out.fr.rs hn60 hv hu HL.out.1 HL.out.2.2.1 HC.out).mono ?_; rintro e w7 ⟨rfl, KK⟩; have Y7 := Lib.hid (Y6.out.fr0 KK); clear KK m0 m1 ltm Y6; have m0 := Y7.out.mbk.cell (i := 0) rfl; have m1 := Y7.out.mbk.cell (i := 1) rfl; have ltm := Y7.out.mbk.lt)
      | (go_at_call 17; refine (refPath_any Y7.out.fr.lf.par Y7.out.fr.rs hn60 hv hu HL.out.1 HL.out.2.2.1 HX.out.1).mono ?_; rintro e w8 ⟨pq, pm, pk, rfl, RD, KK⟩; have Y8 := Lib.hid (Y7.out.fr0 KK); clear KK m0 m1 ltm Y7; have m0 := Y8.out.mbk.cell (i := 0) rfl; have m1 := Y8.out.mbk.cell (i := 1) rfl; have ltm := Y8.out.mbk.lt; rw [← HLP.out] at RD; have hpm : lp.length = pm := (by have := RD.len; unfold ints dn at this; simpa using this); have HPM : Hid (pm ≤ 200 ∧ 0 < pm) := Lib.hid (by have := HX.out.2.2.1; have := HL0.out; omega); replace RD := Lib.hid RD; clear hpm)
      | (go_at_call 18; refine (refSum_any Y8.out.fr.rs hn60 Y8.out.fr.lf.wok RD.out HPM.out.1 HX.out.2.1).mono ?_; rintro e w9 ⟨rfl, KK⟩; have F9 := KK; have Y9 := Lib.hid (Y8.out.fr0 KK); clear KK m0 m1 ltm Y8; have m0 := Y9.out.mbk.cell (i := 0) rfl; have m1 := Y9.out.mbk.cell (i := 1) rfl; have ltm := Y9.out.mbk.lt; replace RD := Lib.hid (RD.out.fr0 F9); clear F9)
      | (go_at_call 19; refine (refLeast_any Y9.out.fr.rs hn60 Y9.out.fr.lf.wok RD.out HPM.out.1 HPM.out.2 HX.out.2.1).mono ?_; rintro e w10 ⟨rfl, KK⟩; have Y10 := Lib.hid (Y9.out.fr0 KK); clear KK m0 m1 ltm Y9; have m0 := Y10.out.mbk.cell (i := 0) rfl; have m1 := Y10.out.mbk.cell (i := 1) rfl; have ltm := Y10.out.mbk.lt))
    go_ret
    exact ⟨rfl, FA.out.trans Y10.out.fr.fr (fun _ _ h => h)⟩
  · have HT : Hid (Rt P v r) := Lib.hid ⟨l, HL.out.1, HL.out.2.1⟩
    have HTU : Hid (Rt P u z) := Lib.hid ⟨l', HL.out.2.2⟩
    have HNE : Hid (l.head? ≠ l'.head?) := Lib.hid (fun e => hrz (by have := HL.out; rw [this.2.1, this.2.2.2] at e; injection e))
    go_wp2_with (first
      | (go_at_call 12; refine (Common_ne Y1.out.fr.lf sa1 (by omega) hv hu HT.out HTU.out hrz).mono ?_; rintro e w2 ⟨rfl, KK⟩; obtain ⟨s2, sa2, sb2, Y2⟩ := Y1.out.kp KK; replace Y2 := Lib.hid Y2; clear KK m0 m1 ltm Y1; have m0 := Y2.out.mbk.cell (i := 0) rfl; have m1 := Y2.out.mbk.cell (i := 1) rfl; have ltm := Y2.out.mbk.lt)
      | (go_at_call 13; refine (Sum_ne Y2.out.fr.lf (by omega) (by omega) hv hu HT.out HTU.out hrz).mono ?_; rintro e w3 ⟨rfl, KK⟩; obtain ⟨s3, sa3, sb3, Y3⟩ := Y2.out.kp KK; replace Y3 := Lib.hid Y3; clear KK m0 m1 ltm Y2; have m0 := Y3.out.mbk.cell (i := 0) rfl; have m1 := Y3.out.mbk.cell (i := 1) rfl; have ltm := Y3.out.mbk.lt)
      | (go_at_call 14; refine (Least_ne Y3.out.fr.lf (by omega) (by omega) hv hu HT.out HTU.out hrz).mono ?_; rintro e w4 ⟨rfl, KK⟩; obtain ⟨s4, sa4, sb4, Y4⟩ := Y3.out.kp KK; replace Y4 := Lib.hid Y4; clear KK m0 m1 ltm Y3; have m0 := Y4.out.mbk.cell (i := 0) rfl; have m1 := Y4.out.mbk.cell (i := 1) rfl; have ltm := Y4.out.mbk.lt)
      | (go_at_call 15; refine (refIs_any Y4.out.fr.rs (v : Nat)).mono ?_; rintro e w5 ⟨rfl, KK⟩; have Y5 := Lib.hid (Y4.out.fr0 KK); clear KK m0 m1 ltm Y4; have m0 := Y5.out.mbk.cell (i := 0) rfl; have m1 := Y5.out.mbk.cell (i := 1) rfl; have ltm := Y5.out.mbk.lt; rw [HV.out]; clear HV)
      | (go_at_call 15; refine (refIs_any Y5.out.fr.rs (u : Nat)).mono ?_; rintro e w6 ⟨rfl, KK⟩; have Y6 := Lib.hid (Y5.out.fr0 KK); clear KK m0 m1 ltm Y5; have m0 := Y6.out.mbk.cell (i := 0) rfl; have m1 := Y6.out.mbk.cell (i := 1) rfl; have ltm := Y6.out.mbk.lt; rw [HU.out]; clear HU)
      | (go_at_call 16; refine (refCommon_ne Y6.out.fr.lf.par Y6.out.fr.rs hn60 hv hu HL.out.1 HL.out.2.2.1 HNE.out).mono ?_; rintro e w7 ⟨rfl, KK⟩; have Y7 := Lib.hid (Y6.out.fr0 KK); clear KK m0 m1 ltm Y6; have m0 := Y7.out.mbk.cell (i := 0) rfl; have m1 := Y7.out.mbk.cell (i := 1) rfl; have ltm := Y7.out.mbk.lt))
    go_ret
    exact ⟨rfl, FA.out.trans Y7.out.fr.fr (fun _ _ h => h)⟩

theorem Paths_law (a : Option Addr) (n c : Nat) (ws : List Int) (st : Option Addr) (m d : Nat) (R : Nat → Nat → Int) (v u : Int) (w : World) (h1 : ArgSl w a n c ws) (h2 : ArgSt w st m d [.i64, .i64, .i64] R) :
    Calls Try.prog 3 #[.slice a n c, .slice st m d, .int .i64 v, .int .i64 u] w fun e w' => e = .returned (.bool true) ∧ Fr F0 w w' := by
  cases hm : manyB n m with
  | true => exact Paths_many w h1.rd h2 hm
  | false =>
    cases hb : ws.any badW with
    | true => exact Paths_none w h1.rd h2 hm (.inl hb)
    | false =>
      by_cases hn : 1000 < n
      · exact Paths_none w h1.rd h2 hm (.inr ⟨hb, hn⟩)
      · cases hv : outB n v with
        | true => exact Paths_out w h1.rd h2 hm hb hn hv
        | false =>
          obtain ⟨v, rfl, hvn⟩ := outB_false hv
          cases hu : outB n u with
          | true => exact Paths_uout w h1.rd h2 hm hb hn hvn hu
          | false =>
            obtain ⟨u, rfl, hun⟩ := outB_false hu
            exact Paths_in w h1.rd h2 hm hb hn hvn hun

end Go.Proofs.Ytfeokafjehpgnaa
