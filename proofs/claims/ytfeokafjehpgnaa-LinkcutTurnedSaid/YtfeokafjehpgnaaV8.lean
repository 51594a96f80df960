/- LinkcutTurned: the walk. -/
import Derived.Test.YtfeokafjehpgnaaV7
namespace Go.Proofs.Ytfeokafjehpgnaa
open Go.RowKit
attribute [local go_sem ↓] Go.wp_at_zero Go.wp_at_succ

theorem sum_rev (wt : Nat → Int) : ∀ l : List Nat, (l.reverse.map wt).sum = (l.map wt).sum
  | [] => rfl
  | x :: l => by
    rw [List.reverse_cons, List.map_append, List.sum_append, sum_rev wt l]
    simp
    omega
section
variable {w : World} {f b n : Nat} {s : Int} {wt : Nat → Int} {P : Nat → Nat}
theorem Connected_eq (h : LF w f b n s P wt) (hs1 : 0 ≤ s) (hs2 : s ≤ 2305843009213690000) {v u : Nat} (hv : v < n) (hu : u < n) {y : Nat} (hy : Rt P v y) (hz : Rt P u y) :
    Calls Try.prog 22 #[.pointer (some ⟨f, 0, none⟩), .int .i64 (v : Nat), .int .i64 (u : Nat)] w fun e w' => e = .returned (.tuple #[.bool true, .int .i64 0]) ∧ Kp w w' f b n s 7600 P wt := by
  have := Connected_in h hs1 hs2 hv hu hy hz
  rwa [decide_eq_true rfl] at this
theorem Connected_ne (h : LF w f b n s P wt) (hs1 : 0 ≤ s) (hs2 : s ≤ 2305843009213690000) {v u : Nat} (hv : v < n) (hu : u < n) {y z : Nat} (hy : Rt P v y) (hz : Rt P u z) (hyz : y ≠ z) :
    Calls Try.prog 22 #[.pointer (some ⟨f, 0, none⟩), .int .i64 (v : Nat), .int .i64 (u : Nat)] w fun e w' => e = .returned (.tuple #[.bool false, .int .i64 0]) ∧ Kp w w' f b n s 7600 P wt := by
  have := Connected_in h hs1 hs2 hv hu hy hz
  rwa [decide_eq_false hyz] at this
theorem Root_top (h : LF w f b n s P wt) (hs1 : 0 ≤ s) (hs2 : s ≤ 2305843009213693952) {v : Nat} (hv : v < n) (hy : Rt P v (v + 1)) :
    Calls Try.prog 24 #[.pointer (some ⟨f, 0, none⟩), .int .i64 (v : Nat)] w fun e w' => e = .returned (.tuple #[.int .i64 (v : Nat), .int .i64 0]) ∧ Kp w w' f b n s 3800 P wt := by
  have := Root_in h hs1 hs2 hv hy
  rwa [show ((v + 1 : Nat) : Int) - 1 = (v : Nat) by omega] at this
end

set_option maxRecDepth 100000 in
set_option maxHeartbeats 4000000 in
theorem Turned_many (w : World) {a st : Option Addr} {n c m d : Nat} {ws : List Int} {R : Nat → Nat → Int} {v u x : Int} (_hp : Rd w a n (ints ws)) (_hs : ArgSt w st m d stepK R) (hm : manyB n m = true) :
    Calls Try.prog 5 #[.slice a n c, .slice st m d, .int .i64 v, .int .i64 u, .int .i64 x] w fun e w' => e = .returned (.bool true) ∧ Fr F0 w w' := by
  have HM := Lib.hid hm
  clear _hp _hs hm
  go_enter Try.func5, Try.ntmps5
  go_wp2_with (first
    | (go_at_call 9; refine (awake_any _).mono ?_; rintro e w0 ⟨rfl, F0'⟩; have FA := Lib.hid F0'; clear F0')
    | (go_at_call 10; refine (many_any _ _ _ _ _ _ _).mono ?_; rintro e w1 ⟨rfl, rfl⟩; rw [HM.out]))
  go_ret
  exact ⟨rfl, FA.out⟩

set_option maxRecDepth 100000 in
set_option maxHeartbeats 4000000 in
theorem Turned_none (w : World) {a st : Option Addr} {n c m d : Nat} {ws : List Int} {R : Nat → Nat → Int} {v u x : Int} (hp : Rd w a n (ints ws)) (_hs : ArgSt w st m d stepK R) (hm : manyB n m = false) (hb : ws.any badW = true ∨ (ws.any badW = false ∧ 1000 < n)) :
    Calls Try.prog 5 #[.slice a n c, .slice st m d, .int .i64 v, .int .i64 u, .int .i64 x] w fun e w' => e = .returned (.bool true) ∧ Fr F0 w w' := by
  have HM := Lib.hid hm
  have Hp := Lib.hid hp
  have HB := Lib.hid hb
  clear hp _hs hm hb
  go_enter Try.func5, Try.ntmps5
  go_wp2_with (first
    | (go_at_call 9; refine (awake_any _).mono ?_; rintro e w0 ⟨rfl, F0'⟩; have FA := Lib.hid F0'; clear F0')
    | (go_at_call 10; refine (many_any _ _ _ _ _ _ _).mono ?_; rintro e w1 ⟨rfl, rfl⟩; rw [HM.out])
    | (go_at_call 11; refine (play_none _ (Hp.out.fr0 FA.out) HB.out).mono ?_; rintro e w2 ⟨rfl, F2⟩; have FB := Lib.hid (FA.out.trans F2 (fun _ _ h => h)); clear F2))
  go_ret
  exact ⟨rfl, FB.out.alloc _⟩

set_option maxRecDepth 100000 in
set_option maxHeartbeats 4000000 in
theorem Turned_o1 (w : World) {a st : Option Addr} {n c m d : Nat} {ws : List Int} {R : Nat → Nat → Int} {v u x : Int} (hp : Rd w a n (ints ws)) (hs : ArgSt w st m d stepK R) (hm : manyB n m = false) (hb : ws.any badW = false) (hn : ¬ 1000 < n) (hv : outB n v = true) :
    Calls Try.prog 5 #[.slice a n c, .slice st m d, .int .i64 v, .int .i64 u, .int .i64 x] w fun e w' => e = .returned (.bool true) ∧ Fr F0 w w' := by
  obtain ⟨hn60, hm80⟩ := cases_of hm hb hn
  have HM := Lib.hid hm
  have Hp := Lib.hid hp
  have HA := Lib.hid hs
  have HB := Lib.hid hb
  have HV := Lib.hid hv
  clear hp hs hm hb hn
  go_enter Try.func5, Try.ntmps5
  go_wp2_with (first
    | (go_at_call 9; refine (awake_any _).mono ?_; rintro e w0 ⟨rfl, F0'⟩; have FA := Lib.hid F0'; clear F0')
    | (go_at_call 10; refine (many_any _ _ _ _ _ _ _).mono ?_; rintro e w1 ⟨rfl, rfl⟩; rw [HM.out])
    | (go_at_call 11; refine (play_ok _ (Hp.out.fr0 FA.out) HB.out hn60 (HA.out.fr0 FA.out) hm80).mono ?_; rintro e wp ⟨f, b, B, s1, P, wt, wa, wc, pa, pc, rfl, Y0, sa1, sb1⟩; have Y1 := Lib.hid Y0.two; have FW := FA.out; have m0 := Y1.out.mbk.cell (i := 0) rfl; have m1 := Y1.out.mbk.cell (i := 1) rfl; have ltm := Y1.out.mbk.lt; replace Y0 := Lib.hid Y0; clear FW)
    | (go_at_call 15; refine (refIs_any Y1.out.rs v).mono ?_; rintro e w2 ⟨rfl, KK⟩; have Y2 := Lib.hid (Y1.out.fr0 KK); clear KK m0 m1 ltm Y1; have m0 := Y2.out.mbk.cell (i := 0) rfl; have m1 := Y2.out.mbk.cell (i := 1) rfl; have ltm := Y2.out.mbk.lt; rw [HV.out]))
  go_ret
  exact ⟨rfl, FA.out.trans Y2.out.fr (fun _ _ h => h)⟩

set_option maxRecDepth 100000 in
set_option maxHeartbeats 4000000 in
theorem Turned_o2 (w : World) {a st : Option Addr} {n c m d : Nat} {ws : List Int} {R : Nat → Nat → Int} {v : Nat} {u x : Int} (hp : Rd w a n (ints ws)) (hs : ArgSt w st m d stepK R) (hm : manyB n m = false) (hb : ws.any badW = false) (hn : ¬ 1000 < n) (hv : v < n) (hu : outB n u = true) :
    Calls Try.prog 5 #[.slice a n c, .slice st m d, .int .i64 (v : Nat), .int .i64 u, .int .i64 x] w fun e w' => e = .returned (.bool true) ∧ Fr F0 w w' := by
  obtain ⟨hn60, hm80⟩ := cases_of hm hb hn
  have HM := Lib.hid hm
  have Hp := Lib.hid hp
  have HA := Lib.hid hs
  have HB := Lib.hid hb
  have HV := Lib.hid (outB_nat hv)
  have HU := Lib.hid hu
  clear hp hs hm hb hn
  go_enter Try.func5, Try.ntmps5
  go_wp2_with (first
    | (go_at_call 9; refine (awake_any _).mono ?_; rintro e w0 ⟨rfl, F0'⟩; have FA := Lib.hid F0'; clear F0')
    | (go_at_call 10; refine (many_any _ _ _ _ _ _ _).mono ?_; rintro e w1 ⟨rfl, rfl⟩; rw [HM.out])
    | (go_at_call 11; refine (play_ok _ (Hp.out.fr0 FA.out) HB.out hn60 (HA.out.fr0 FA.out) hm80).mono ?_; rintro e wp ⟨f, b, B, s1, P, wt, wa, wc, pa, pc, rfl, Y0, sa1, sb1⟩; have Y1 := Lib.hid Y0.two; have FW := FA.out; have m0 := Y1.out.mbk.cell (i := 0) rfl; have m1 := Y1.out.mbk.cell (i := 1) rfl; have ltm := Y1.out.mbk.lt; replace Y0 := Lib.hid Y0; clear FW)
    | (go_at_call 15; refine (refIs_any Y1.out.rs (v : Nat)).mono ?_; rintro e w2 ⟨rfl, KK⟩; have Y2 := Lib.hid (Y1.out.fr0 KK); clear KK m0 m1 ltm Y1; have m0 := Y2.out.mbk.cell (i := 0) rfl; have m1 := Y2.out.mbk.cell (i := 1) rfl; have ltm := Y2.out.mbk.lt; rw [HV.out]; clear HV)
    | (go_at_call 15; refine (refIs_any Y2.out.rs u).mono ?_; rintro e w3 ⟨rfl, KK⟩; have Y3 := Lib.hid (Y2.out.fr0 KK); clear KK m0 m1 ltm Y2; have m0 := Y3.out.mbk.cell (i := 0) rfl; have m1 := Y3.out.mbk.cell (i := 1) rfl; have ltm := Y3.out.mbk.lt; rw [HU.out]))
  go_ret
  exact ⟨rfl, FA.out.trans Y3.out.fr (fun _ _ h => h)⟩

set_option maxRecDepth 100000 in
set_option maxHeartbeats 4000000 in
theorem Turned_o3 (w : World) {a st : Option Addr} {n c m d : Nat} {ws : List Int} {R : Nat → Nat → Int} {v u : Nat} {x : Int} (hp : Rd w a n (ints ws)) (hs : ArgSt w st m d stepK R) (hm : manyB n m = false) (hb : ws.any badW = false) (hn : ¬ 1000 < n) (hv : v < n) (hu : u < n) (hx : outB n x = true) :
    Calls Try.prog 5 #[.slice a n c, .slice st m d, .int .i64 (v : Nat), .int .i64 (u : Nat), .int .i64 x] w fun e w' => e = .returned (.bool true) ∧ Fr F0 w w' := by
  obtain ⟨hn60, hm80⟩ := cases_of hm hb hn
  have HM := Lib.hid hm
  have Hp := Lib.hid hp
  have HA := Lib.hid hs
  have HB := Lib.hid hb
  have HV := Lib.hid (outB_nat hv)
  have HU := Lib.hid (outB_nat hu)
  have HX := Lib.hid hx
  clear hp hs hm hb hn
  go_enter Try.func5, Try.ntmps5
  go_wp2_with (first
    | (go_at_call 9; refine (awake_any _).mono ?_; rintro e w0 ⟨rfl, F0'⟩; have FA := Lib.hid F0'; clear F0')
    | (go_at_call 10; refine (many_any _ _ _ _ _ _ _).mono ?_; rintro e w1 ⟨rfl, rfl⟩; rw [HM.out])
    | (go_at_call 11; refine (play_ok _ (Hp.out.fr0 FA.out) HB.out hn60 (HA.out.fr0 FA.out) hm80).mono ?_; rintro e wp ⟨f, b, B, s1, P, wt, wa, wc, pa, pc, rfl, Y0, sa1, sb1⟩; have Y1 := Lib.hid Y0.two; have FW := FA.out; have m0 := Y1.out.mbk.cell (i := 0) rfl; have m1 := Y1.out.mbk.cell (i := 1) rfl; have ltm := Y1.out.mbk.lt; replace Y0 := Lib.hid Y0; clear FW)
    | (go_at_call 15; refine (refIs_any Y1.out.rs (v : Nat)).mono ?_; rintro e w2 ⟨rfl, KK⟩; have Y2 := Lib.hid (Y1.out.fr0 KK); clear KK m0 m1 ltm Y1; have m0 := Y2.out.mbk.cell (i := 0) rfl; have m1 := Y2.out.mbk.cell (i := 1) rfl; have ltm := Y2.out.mbk.lt; rw [HV.out]; clear HV)
    | (go_at_call 15; refine (refIs_any Y2.out.rs (u : Nat)).mono ?_; rintro e w3 ⟨rfl, KK⟩; have Y3 := Lib.hid (Y2.out.fr0 KK); clear KK m0 m1 ltm Y2; have m0 := Y3.out.mbk.cell (i := 0) rfl; have m1 := Y3.out.mbk.cell (i := 1) rfl; have ltm := Y3.out.mbk.lt; rw [HU.out]; clear HU)
    | (go_at_call 15; refine (refIs_any Y3.out.rs x).mono ?_; rintro e w4 ⟨rfl, KK⟩; have Y4 := Lib.hid (Y3.out.fr0 KK); clear KK m0 m1 ltm Y3; have m0 := Y4.out.mbk.cell (i := 0) rfl; have m1 := Y4.out.mbk.cell (i := 1) rfl; have ltm := Y4.out.mbk.lt; rw [HX.out]))
  go_ret
  exact ⟨rfl, FA.out.trans Y4.out.fr (fun _ _ h => h)⟩

set_option maxRecDepth 100000 in
set_option maxHeartbeats 4000000 in
theorem Turned_in (w : World) {a st : Option Addr} {n c m d : Nat} {ws : List Int} {R : Nat → Nat → Int} {v u x : Nat} (hp : Rd w a n (ints ws)) (hs : ArgSt w st m d stepK R) (hm : manyB n m = false) (hb : ws.any badW = false) (hn : ¬ 1000 < n) (hv : v < n) (hu : u < n) (hx : x < n) :
    Calls Try.prog 5 #[.slice a n c, .slice st m d, .int .i64 (v : Nat), .int .i64 (u : Nat), .int .i64 (x : Nat)] w fun e w' => e = .returned (.bool true) ∧ Fr F0 w w' := by
  obtain ⟨hn60, hm80⟩ := cases_of hm hb hn
  have HM := Lib.hid hm
  have Hp := Lib.hid hp
  have HA := Lib.hid hs
  have HB := Lib.hid hb
  have HV := Lib.hid (outB_nat hv)
  have HU := Lib.hid (outB_nat hu)
  have HX := Lib.hid (outB_nat hx)
  clear hp hs hm hb hn
  go_enter Try.func5, Try.ntmps5
  go_wp2_with (first
    | (go_at_call 9; refine (awake_any _).mono ?_; rintro e w0 ⟨rfl, F0'⟩; have FA := Lib.hid F0'; clear F0')
    | (go_at_call 10; refine (many_any _ _ _ _ _ _ _).mono ?_; rintro e w1 ⟨rfl, rfl⟩; rw [HM.out])
    | (go_at_call 11; refine (play_ok _ (Hp.out.fr0 FA.out) HB.out hn60 (HA.out.fr0 FA.out) hm80).mono ?_; rintro e wp ⟨f, b, B, s1, P, wt, wa, wc, pa, pc, rfl, Y0, sa1, sb1⟩; have Y1 := Lib.hid Y0.two; have FW := FA.out; have m0 := Y1.out.mbk.cell (i := 0) rfl; have m1 := Y1.out.mbk.cell (i := 1) rfl; have ltm := Y1.out.mbk.lt; replace Y0 := Lib.hid Y0; clear FW; obtain ⟨l, r, hl, hr⟩ := rt_ex Y1.out.lf.par hv; obtain ⟨l', z, hl', hz⟩ := rt_ex Y1.out.lf.par hu; have HL := Lib.hid (And.intro hl (And.intro hr (And.intro hl' hz))); have HPR := Lib.hid Y1.out.lf.par; obtain ⟨P', hE, hp', hrt, hm1, hm2⟩ := turn_ex Y1.out.lf.par hx hv hu; obtain ⟨l2, r', hl2, hr2⟩ := rt_ex hp' hv; obtain ⟨l2', z', hl2', hz2⟩ := rt_ex hp' hu; have HE := Lib.hid hE; have HRX := Lib.hid hrt; have HM := Lib.hid (And.intro hp' (And.intro hm1 (And.intro hm2 (And.intro hl2 (And.intro hr2 (And.intro hl2' hz2)))))); clear hl hr hl' hz hE hp' hrt hm1 hm2 hl2 hr2 hl2' hz2))
  by_cases hrz : r = z
  · subst hrz
    obtain ⟨lp, hq⟩ := Pth.exists HPR.out (mem_succ hv) HL.out.1 HL.out.2.2.1 (HL.out.2.1.trans HL.out.2.2.2.symm)
    have hq2 := HM.out.2.1 lp hq
    have hh := hq2.heads HM.out.2.2.2.1 HM.out.2.2.2.2.2.1
    obtain ⟨lv, lw, lc, c, d1, d2, d3, t1, t2, t3, t4, t5, t6, t7, t8, hcn, t9, b1, b2, b3⟩ := turn_fin HM.out.1 hn60 hv hu hq2
    have HF := Lib.hid (And.intro t1 (And.intro t2 (And.intro t3 (And.intro t4 (And.intro t5 (And.intro t6 (And.intro t7 t8)))))))
    have HT : Hid (Rt P v r) := Lib.hid ⟨l, HL.out.1, HL.out.2.1⟩
    have HTU : Hid (Rt P u r) := Lib.hid ⟨l', HL.out.2.2⟩
    have HT2 : Hid (Rt P' v r') := Lib.hid ⟨_, HM.out.2.2.2.1, HM.out.2.2.2.2.1⟩
    have HTU2 : Hid (Rt P' u r') := Lib.hid ⟨_, HM.out.2.2.2.2.2.1, by rw [← hh]; exact HM.out.2.2.2.2.1⟩
    obtain ⟨S, hS⟩ : ∃ S, (lp.map wt).sum = S := ⟨_, rfl⟩
    have HSR : Hid ((lp.reverse.map wt).sum = S) := Lib.hid ((sum_rev wt lp).trans hS)
    have HS := Lib.hid hS
    have HP := Lib.hid hq
    have HQR := Lib.hid hq2.rev
    clear hq hq2 hh t1 t2 t3 t4 t5 t6 t7 t8 hS
    go_wp2_with (first
      | (go_at_call 15; refine (refIs_any Y1.out.rs (v : Nat)).mono ?_; rintro e w2 ⟨rfl, KK⟩; have Y2 := Lib.hid (Y1.out.fr0 KK); clear KK m0 m1 ltm Y1; have m0 := Y2.out.mbk.cell (i := 0) rfl; have m1 := Y2.out.mbk.cell (i := 1) rfl; have ltm := Y2.out.mbk.lt; rw [HV.out]; clear HV)
      | (go_at_call 15; refine (refIs_any Y2.out.rs (u : Nat)).mono ?_; rintro e w3 ⟨rfl, KK⟩; have Y3 := Lib.hid (Y2.out.fr0 KK); clear KK m0 m1 ltm Y2; have m0 := Y3.out.mbk.cell (i := 0) rfl; have m1 := Y3.out.mbk.cell (i := 1) rfl; have ltm := Y3.out.mbk.lt; rw [HU.out]; clear HU)
      | (go_at_call 15; refine (refIs_any Y3.out.rs (x : Nat)).mono ?_; rintro e w4 ⟨rfl, KK⟩; have Y4 := Lib.hid (Y3.out.fr0 KK); clear KK m0 m1 ltm Y3; have m0 := Y4.out.mbk.cell (i := 0) rfl; have m1 := Y4.out.mbk.cell (i := 1) rfl; have ltm := Y4.out.mbk.lt; rw [HX.out]; clear HX)
      | (go_at_call 22; refine (Connected_eq Y4.out.lf (by omega) (by omega) hv hu HT.out HTU.out).mono ?_; rintro e w5 ⟨rfl, KK⟩; obtain ⟨s5, sa5, sb5, Y5⟩ := Y4.out.kp KK; replace Y5 := Lib.hid Y5; clear KK m0 m1 ltm Y4; have m0 := Y5.out.mbk.cell (i := 0) rfl; have m1 := Y5.out.mbk.cell (i := 1) rfl; have ltm := Y5.out.mbk.lt)
      | (go_at_call 13; refine (Sum_pth Y5.out.lf (by omega) (by omega) hv hu HP.out HS.out).mono ?_; rintro e w6 ⟨rfl, KK⟩; obtain ⟨s6, sa6, sb6, Y6⟩ := Y5.out.kp KK; replace Y6 := Lib.hid Y6; clear KK m0 m1 ltm Y5; have m0 := Y6.out.mbk.cell (i := 0) rfl; have m1 := Y6.out.mbk.cell (i := 1) rfl; have ltm := Y6.out.mbk.lt)
      | (go_at_call 23; refine (Evert_in Y6.out.lf (by omega) (by omega) hx HE.out).mono ?_; rintro e w7 ⟨rfl, KK⟩; obtain ⟨s7, sa7, sb7, Y7⟩ := Y6.out.kp KK; replace Y7 := Lib.hid Y7; clear KK m0 m1 ltm Y6; have m0 := Y7.out.mbk.cell (i := 0) rfl; have m1 := Y7.out.mbk.cell (i := 1) rfl; have ltm := Y7.out.mbk.lt)
      | (go_at_call 22; refine (Connected_eq Y7.out.lf (by omega) (by omega) hv hu HT2.out HTU2.out).mono ?_; rintro e w8 ⟨rfl, KK⟩; obtain ⟨s8, sa8, sb8, Y8⟩ := Y7.out.kp KK; replace Y8 := Lib.hid Y8; clear KK m0 m1 ltm Y7; have m0 := Y8.out.mbk.cell (i := 0) rfl; have m1 := Y8.out.mbk.cell (i := 1) rfl; have ltm := Y8.out.mbk.lt)
      | (go_at_call 13; refine (Sum_pth Y8.out.lf (by omega) (by omega) hu hv HQR.out HSR.out).mono ?_; rintro e w9 ⟨rfl, KK⟩; obtain ⟨s9, sa9, sb9, Y9⟩ := Y8.out.kp KK; replace Y9 := Lib.hid Y9; clear KK m0 m1 ltm Y8; have m0 := Y9.out.mbk.cell (i := 0) rfl; have m1 := Y9.out.mbk.cell (i := 1) rfl; have ltm := Y9.out.mbk.lt)
      | (go_at_call 24; refine (Root_top Y9.out.lf (by omega) (by omega) hx HRX.out).mono ?_; rintro e w10 ⟨rfl, KK⟩; obtain ⟨s10, sa10, sb10, Y10⟩ := Y9.out.kp KK; replace Y10 := Lib.hid Y10; clear KK m0 m1 ltm Y9; have m0 := Y10.out.mbk.cell (i := 0) rfl; have m1 := Y10.out.mbk.cell (i := 1) rfl; have ltm := Y10.out.mbk.lt)
      | (go_at_call 12; refine (Common_pth Y10.out.lf (by omega) (by omega) hv hu HF.out.1 HF.out.2.2.1 HF.out.2.2.2.2.2.1 HF.out.2.2.2.2.1).mono ?_; rintro e w11 ⟨rfl, KK⟩; obtain ⟨s11, sa11, sb11, Y11⟩ := Y10.out.kp KK; replace Y11 := Lib.hid Y11; clear KK m0 m1 ltm Y10; have m0 := Y11.out.mbk.cell (i := 0) rfl; have m1 := Y11.out.mbk.cell (i := 1) rfl; have ltm := Y11.out.mbk.lt)
      | (go_at_call 25; refine (Depth_any Y11.out.lf (by omega) (by omega) hv HF.out.1 HF.out.2.1).mono ?_; rintro e w12 ⟨rfl, KK⟩; obtain ⟨s12, sa12, sb12, Y12⟩ := Y11.out.kp KK; replace Y12 := Lib.hid Y12; clear KK m0 m1 ltm Y11; have m0 := Y12.out.mbk.cell (i := 0) rfl; have m1 := Y12.out.mbk.cell (i := 1) rfl; have ltm := Y12.out.mbk.lt)
      | (go_at_call 25; refine (Depth_any Y12.out.lf (by omega) (by omega) hu HF.out.2.2.1 HF.out.2.2.2.1).mono ?_; rintro e w13 ⟨rfl, KK⟩; obtain ⟨s13, sa13, sb13, Y13⟩ := Y12.out.kp KK; replace Y13 := Lib.hid Y13; clear KK m0 m1 ltm Y12; have m0 := Y13.out.mbk.cell (i := 0) rfl; have m1 := Y13.out.mbk.cell (i := 1) rfl; have ltm := Y13.out.mbk.lt)
      | (go_at_call 25; refine (Depth_any Y13.out.lf (by omega) (by omega) hcn HF.out.2.2.2.2.2.2.1 HF.out.2.2.2.2.2.2.2).mono ?_; rintro e w14 ⟨rfl, KK⟩; obtain ⟨s14, sa14, sb14, Y14⟩ := Y13.out.kp KK; replace Y14 := Lib.hid Y14; clear KK m0 m1 ltm Y13; have m0 := Y14.out.mbk.cell (i := 0) rfl; have m1 := Y14.out.mbk.cell (i := 1) rfl; have ltm := Y14.out.mbk.lt)
      | (go_at_call 17; refine (refPath_pth HPR.out Y14.out.rs hn60 hv hu HP.out).mono ?_; rintro e w15 ⟨pq, pm, pk, rfl, RD, KK⟩; have Y15 := Lib.hid (Y14.out.fr0 KK); clear KK m0 m1 ltm Y14; have m0 := Y15.out.mbk.cell (i := 0) rfl; have m1 := Y15.out.mbk.cell (i := 1) rfl; have ltm := Y15.out.mbk.lt; have hpm : lp.length = pm := (by have := RD.len; unfold ints dn at this; simpa using this); have hfin : (d1 : Int) + (d2 : Int) - 2 * (d3 : Int) = (pm : Int) - 1 := (by omega); have hpb : pm ≤ 121 := (by omega); clear hpm RD))
    go_ret
    exact ⟨ret_bool (by first | exact decide_eq_true hfin | rfl), FA.out.trans Y15.out.fr (fun _ _ h => h)⟩
  · have HT : Hid (Rt P v r) := Lib.hid ⟨l, HL.out.1, HL.out.2.1⟩
    have HTU : Hid (Rt P u z) := Lib.hid ⟨l', HL.out.2.2⟩
    have HT2 : Hid (Rt P' v r') := Lib.hid ⟨_, HM.out.2.2.2.1, HM.out.2.2.2.2.1⟩
    have HTU2 : Hid (Rt P' u z') := Lib.hid ⟨_, HM.out.2.2.2.2.2.1, HM.out.2.2.2.2.2.2⟩
    have hrz2 : r' ≠ z' := fun e => hrz (by
      obtain ⟨lp, hq⟩ := Pth.exists HM.out.1 (mem_succ hv) HM.out.2.2.2.1 HM.out.2.2.2.2.2.1 (HM.out.2.2.2.2.1.trans (by rw [e]; exact HM.out.2.2.2.2.2.2.symm))
      have := (HM.out.2.2.1 lp hq).heads HL.out.1 HL.out.2.2.1
      rw [HL.out.2.1, HL.out.2.2.2] at this
      injection this)
    go_wp2_with (first
      | (go_at_call 15; refine (refIs_any Y1.out.rs (v : Nat)).mono ?_; rintro e w2 ⟨rfl, KK⟩; have Y2 := Lib.hid (Y1.out.fr0 KK); clear KK m0 m1 ltm Y1; have m0 := Y2.out.mbk.cell (i := 0) rfl; have m1 := Y2.out.mbk.cell (i := 1) rfl; have ltm := Y2.out.mbk.lt; rw [HV.out]; clear HV)
      | (go_at_call 15; refine (refIs_any Y2.out.rs (u : Nat)).mono ?_; rintro e w3 ⟨rfl, KK⟩; have Y3 := Lib.hid (Y2.out.fr0 KK); clear KK m0 m1 ltm Y2; have m0 := Y3.out.mbk.cell (i := 0) rfl; have m1 := Y3.out.mbk.cell (i := 1) rfl; have ltm := Y3.out.mbk.lt; rw [HU.out]; clear HU)
      | (go_at_call 15; refine (refIs_any Y3.out.rs (x : Nat)).mono ?_; rintro e w4 ⟨rfl, KK⟩; have Y4 := Lib.hid (Y3.out.fr0 KK); clear KK m0 m1 ltm Y3; have m0 := Y4.out.mbk.cell (i := 0) rfl; have m1 := Y4.out.mbk.cell (i := 1) rfl; have ltm := Y4.out.mbk.lt; rw [HX.out]; clear HX)
      | (go_at_call 22; refine (Connected_ne Y4.out.lf (by omega) (by omega) hv hu HT.out HTU.out hrz).mono ?_; rintro e w5 ⟨rfl, KK⟩; obtain ⟨s5, sa5, sb5, Y5⟩ := Y4.out.kp KK; replace Y5 := Lib.hid Y5; clear KK m0 m1 ltm Y4; have m0 := Y5.out.mbk.cell (i := 0) rfl; have m1 := Y5.out.mbk.cell (i := 1) rfl; have ltm := Y5.out.mbk.lt)
      | (go_at_call 13; refine (Sum_ne Y5.out.lf (by omega) (by omega) hv hu HT.out HTU.out hrz).mono ?_; rintro e w6 ⟨rfl, KK⟩; obtain ⟨s6, sa6, sb6, Y6⟩ := Y5.out.kp KK; replace Y6 := Lib.hid Y6; clear KK m0 m1 ltm Y5; have m0 := Y6.out.mbk.cell (i := 0) rfl; have m1 := Y6.out.mbk.cell (i := 1) rfl; have ltm := Y6.out.mbk.lt)
      | (go_at_call 23; refine (Evert_in Y6.out.lf (by omega) (by omega) hx HE.out).mono ?_; rintro e w7 ⟨rfl, KK⟩; obtain ⟨s7, sa7, sb7, Y7⟩ := Y6.out.kp KK; replace Y7 := Lib.hid Y7; clear KK m0 m1 ltm Y6; have m0 := Y7.out.mbk.cell (i := 0) rfl; have m1 := Y7.out.mbk.cell (i := 1) rfl; have ltm := Y7.out.mbk.lt)
      | (go_at_call 22; refine (Connected_ne Y7.out.lf (by omega) (by omega) hv hu HT2.out HTU2.out hrz2).mono ?_; rintro e w8 ⟨rfl, KK⟩; obtain ⟨s8, sa8, sb8, Y8⟩ := Y7.out.kp KK; replace Y8 := Lib.hid Y8; clear KK m0 m1 ltm Y7; have m0 := Y8.out.mbk.cell (i := 0) rfl; have m1 := Y8.out.mbk.cell (i := 1) rfl; have ltm := Y8.out.mbk.lt)
      | (go_at_call 13; refine (Sum_ne Y8.out.lf (by omega) (by omega) hu hv HTU2.out HT2.out (Ne.symm hrz2)).mono ?_; rintro e w9 ⟨rfl, KK⟩; obtain ⟨s9, sa9, sb9, Y9⟩ := Y8.out.kp KK; replace Y9 := Lib.hid Y9; clear KK m0 m1 ltm Y8; have m0 := Y9.out.mbk.cell (i := 0) rfl; have m1 := Y9.out.mbk.cell (i := 1) rfl; have ltm := Y9.out.mbk.lt)
      | (go_at_call 24; refine (Root_top Y9.out.lf (by omega) (by omega) hx HRX.out).mono ?_; rintro e w10 ⟨rfl, KK⟩; obtain ⟨s10, sa10, sb10, Y10⟩ := Y9.out.kp KK; replace Y10 := Lib.hid Y10; clear KK m0 m1 ltm Y9; have m0 := Y10.out.mbk.cell (i := 0) rfl; have m1 := Y10.out.mbk.cell (i := 1) rfl; have ltm := Y10.out.mbk.lt))
    go_ret
    exact ⟨rfl, FA.out.trans Y10.out.fr (fun _ _ h => h)⟩

theorem Turned_law (a : Option Addr) (n c : Nat) (ws : List Int) (st : Option Addr) (m d : Nat) (R : Nat → Nat → Int) (v u x : Int) (w : World) (h1 : ArgSl w a n c ws) (h2 : ArgSt w st m d [.i64, .i64, .i64] R) :
    Calls Try.prog 5 #[.slice a n c, .slice st m d, .int .i64 v, .int .i64 u, .int .i64 x] w fun e w' => e = .returned (.bool true) ∧ Fr F0 w w' := by
  cases hm : manyB n m with
  | true => exact Turned_many w h1.rd h2 hm
  | false =>
    cases hb : ws.any badW with
    | true => exact Turned_none w h1.rd h2 hm (.inl hb)
    | false =>
      by_cases hn : 1000 < n
      · exact Turned_none w h1.rd h2 hm (.inr ⟨hb, hn⟩)
      · cases hv : outB n v with
        | true => exact Turned_o1 w h1.rd h2 hm hb hn hv
        | false =>
          obtain ⟨v, rfl, hvn⟩ := outB_false hv
          cases hu : outB n u with
          | true => exact Turned_o2 w h1.rd h2 hm hb hn hvn hu
          | false =>
            obtain ⟨u, rfl, hun⟩ := outB_false hu
            cases hx : outB n x with
            | true => exact Turned_o3 w h1.rd h2 hm hb hn hvn hun hx
            | false =>
              obtain ⟨x, rfl, hxn⟩ := outB_false hx
              exact Turned_in w h1.rd h2 hm hb hn hvn hun hxn

end Go.Proofs.Ytfeokafjehpgnaa
