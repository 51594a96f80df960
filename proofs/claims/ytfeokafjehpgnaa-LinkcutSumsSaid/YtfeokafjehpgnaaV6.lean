/- LinkcutSums: the walk. -/
import Derived.Test.YtfeokafjehpgnaaV5
namespace Go.Proofs.Ytfeokafjehpgnaa
open Go.RowKit
attribute [local go_sem ↓] Go.wp_at_zero Go.wp_at_succ

theorem sums_ex {n v u : Nat} {P : Nat → Nat} {wt : Nat → Int} {lp : List Nat} (hp : K.Par P (vts n)) (hw : WOK n wt) (hn : n ≤ 60) (hv : v < n) (hu : u < n) (h : Pth P (v + 1) (u + 1) lp) :
    ∃ a k b S S1 S2 T, Pth P (v + 1) (k + 1) (a ++ [k + 1]) ∧ Pth P (k + 1) (u + 1) ((k + 1) :: b) ∧ k < n ∧ K.fm wt lp = k + 1 ∧ (lp.map wt).sum = S ∧ ((a ++ [k + 1]).map wt).sum = S1 ∧ (((k + 1) :: b).map wt).sum = S2 ∧ (ints (WL n wt))[k]? = some (.int .i64 T) ∧
      S1 + S2 = S + T ∧ (-200000000 ≤ S ∧ S ≤ 200000000) ∧ (-200000000 ≤ S1 ∧ S1 ≤ 200000000) ∧ (-200000000 ≤ S2 ∧ S2 ≤ 200000000) ∧ -1048576 ≤ T ∧ T ≤ 1048576 := by
  obtain ⟨f1, f2, f3, f4⟩ := h.facts hp (mem_succ hv) (mem_succ hu)
  have hk := K.fm_mem (w := wt) (l := lp) (fun e => by rw [e] at f2; exact absurd f2 (by simp))
  have hk2 := mem_vts.1 (f1 _ hk)
  obtain ⟨k, hk3⟩ : ∃ k, K.fm wt lp = k + 1 := ⟨K.fm wt lp - 1, by omega⟩
  rw [hk3] at hk hk2
  obtain ⟨a, b, hab⟩ := List.append_of_mem hk
  have hT := hw.2 (k + 1) hk2.1 hk2.2
  have hsp := h
  rw [hab] at hsp
  have hsp := hsp.split hp (mem_succ hv) (mem_succ hu)
  have key : ∀ l : List Nat, (∀ z ∈ l, z ∈ lp) → l.length ≤ lp.length → -200000000 ≤ (l.map wt).sum ∧ (l.map wt).sum ≤ 200000000 := by
    intro l hl hll
    have := K.sum_le wt 1048576 l (fun z hz => by
      have := mem_vts.1 (f1 z (hl z hz))
      exact hw.2 z this.1 this.2)
    omega
  refine ⟨a, k, b, _, _, _, wt (k + 1), hsp.1, hsp.2, by omega, hk3, rfl, rfl, rfl, by unfold ints; rw [List.getElem?_map, WL_get (by omega)]; rfl, ?_, key lp (fun _ h => h) (Nat.le_refl _), key _ (fun z hz => ?_) ?_, key _ (fun z hz => ?_) ?_, hT⟩
  · rw [hab]
    simp
    omega
  · rw [hab]
    rcases List.mem_append.1 hz with hz | hz
    · simp [hz]
    · rw [List.mem_singleton] at hz; simp [hz]
  · rw [hab]; simp
  · rw [hab]
    exact List.mem_append.2 (.inr hz)
  · rw [hab]; simp

set_option maxRecDepth 100000 in
set_option maxHeartbeats 4000000 in
theorem Sums_many (w : World) {a st : Option Addr} {n c m d : Nat} {ws : List Int} {R : Nat → Nat → Int} {v u x y : Int} (_hp : Rd w a n (ints ws)) (_hs : ArgSt w st m d stepK R) (hm : manyB n m = true) :
    Calls Try.prog 4 #[.slice a n c, .slice st m d, .int .i64 v, .int .i64 u, .int .i64 x, .int .i64 y] w fun e w' => e = .returned (.bool true) ∧ Fr F0 w w' := by
  have HM := Lib.hid hm
  clear _hp _hs hm
  go_enter Try.func4, Try.ntmps4
  go_wp2_with (first
    | (go_at_call 9; refine (awake_any _).mono ?_; rintro e w0 ⟨rfl, F0'⟩; have FA := Lib.hid F0'; clear F0')
    | (go_at_call 10; refine (many_any _ _ _ _ _ _ _).mono ?_; rintro e w1 ⟨rfl, rfl⟩; rw [HM.out]))
  go_ret
  exact ⟨rfl, FA.out⟩

set_option maxRecDepth 100000 in
set_option maxHeartbeats 4000000 in
theorem Sums_wt (w : World) {a st : Option Addr} {n c m d : Nat} {ws : List Int} {R : Nat → Nat → Int} {v u x y : Int} (_hp : Rd w a n (ints ws)) (_hs : ArgSt w st m d stepK R) (hm : manyB n m = false) (hy : y < -1048576 ∨ 1048576 < y) :
    Calls Try.prog 4 #[.slice a n c, .slice st m d, .int .i64 v, .int .i64 u, .int .i64 x, .int .i64 y] w fun e w' => e = .returned (.bool true) ∧ Fr F0 w w' := by
  have HM := Lib.hid hm
  clear _hp _hs hm
  rcases hy with hy | hy
  · go_enter Try.func4, Try.ntmps4
    go_wp2_with (first
      | (go_at_call 9; refine (awake_any _).mono ?_; rintro e w0 ⟨rfl, F0'⟩; have FA := Lib.hid F0'; clear F0')
      | (go_at_call 10; refine (many_any _ _ _ _ _ _ _).mono ?_; rintro e w1 ⟨rfl, rfl⟩; rw [HM.out]))
    go_ret
    exact ⟨rfl, FA.out⟩
  · have hy2 : ¬ y < -1048576 := by omega
    go_enter Try.func4, Try.ntmps4
    go_wp2_with (first
      | (go_at_call 9; refine (awake_any _).mono ?_; rintro e w0 ⟨rfl, F0'⟩; have FA := Lib.hid F0'; clear F0')
      | (go_at_call 10; refine (many_any _ _ _ _ _ _ _).mono ?_; rintro e w1 ⟨rfl, rfl⟩; rw [HM.out]))
    go_ret
    exact ⟨rfl, FA.out⟩

set_option maxRecDepth 100000 in
set_option maxHeartbeats 4000000 in
theorem Sums_none (w : World) {a st : Option Addr} {n c m d : Nat} {ws : List Int} {R : Nat → Nat → Int} {v u x y : Int} (hp : Rd w a n (ints ws)) (_hs : ArgSt w st m d stepK R) (hm : manyB n m = false) (hy1 : -1048576 ≤ y) (hy2 : y ≤ 1048576) (hb : ws.any badW = true ∨ (ws.any badW = false ∧ 1000 < n)) :
    Calls Try.prog 4 #[.slice a n c, .slice st m d, .int .i64 v, .int .i64 u, .int .i64 x, .int .i64 y] w fun e w' => e = .returned (.bool true) ∧ Fr F0 w w' := by
  have hy3 : ¬ y < -1048576 := by omega
  have hy4 : ¬ y > 1048576 := by omega
  have HM := Lib.hid hm
  have Hp := Lib.hid hp
  have HB := Lib.hid hb
  clear hp _hs hm hb
  go_enter Try.func4, Try.ntmps4
  go_wp2_with (first
    | (go_at_call 9; refine (awake_any _).mono ?_; rintro e w0 ⟨rfl, F0'⟩; have FA := Lib.hid F0'; clear F0')
    | (go_at_call 10; refine (many_any _ _ _ _ _ _ _).mono ?_; rintro e w1 ⟨rfl, rfl⟩; rw [HM.out])
    | (go_at_call 11; refine (play_none _ (Hp.out.fr0 FA.out) HB.out).mono ?_; rintro e w2 ⟨rfl, F2⟩; have FB := Lib.hid (FA.out.trans F2 (fun _ _ h => h)); clear F2))
  go_ret
  exact ⟨rfl, FB.out.alloc _⟩

set_option maxRecDepth 100000 in
set_option maxHeartbeats 4000000 in
theorem Sums_o1 (w : World) {a st : Option Addr} {n c m d : Nat} {ws : List Int} {R : Nat → Nat → Int} {v u x y : Int} (hp : Rd w a n (ints ws)) (hs : ArgSt w st m d stepK R) (hm : manyB n m = false) (hb : ws.any badW = false) (hn : ¬ 1000 < n) (hy1 : -1048576 ≤ y) (hy2 : y ≤ 1048576) (hv : outB n v = true) :
    Calls Try.prog 4 #[.slice a n c, .slice st m d, .int .i64 v, .int .i64 u, .int .i64 x, .int .i64 y] w fun e w' => e = .returned (.bool true) ∧ Fr F0 w w' := by
  obtain ⟨hn60, hm80⟩ := cases_of hm hb hn
  have HM := Lib.hid hm
  have Hp := Lib.hid hp
  have HA := Lib.hid hs
  have HB := Lib.hid hb
  have hy3 : ¬ y < -1048576 := by omega
  have hy4 : ¬ y > 1048576 := by omega
  have HV := Lib.hid hv
  clear hp hs hm hb hn
  go_enter Try.func4, Try.ntmps4
  go_wp2_with (first
    | (go_at_call 9; refine (awake_any _).mono ?_; rintro e w0 ⟨rfl, F0'⟩; have FA := Lib.hid F0'; clear F0')
    | (go_at_call 10; refine (many_any _ _ _ _ _ _ _).mono ?_; rintro e w1 ⟨rfl, rfl⟩; rw [HM.out])
    | (go_at_call 11; refine (play_ok _ (Hp.out.fr0 FA.out) HB.out hn60 (HA.out.fr0 FA.out) hm80).mono ?_; rintro e wp ⟨f, b, B, s1, P, wt, wa, wc, pa, pc, rfl, Y0, sa1, sb1⟩; have Y1 := Lib.hid Y0.two; have FW := FA.out; have m0 := Y1.out.mbk.cell (i := 0) rfl; have m1 := Y1.out.mbk.cell (i := 1) rfl; have ltm := Y1.out.mbk.lt; replace Y0 := Lib.hid Y0; clear FW)
    | (go_at_call 15; refine (refIs_any Y1.out.rs v).mono ?_; rintro e w2 ⟨rfl, KK⟩; have Y2 := Lib.hid (Y1.out.fr0 KK); clear KK m0 m1 ltm Y1; have m0 := Y2.out.mbk.cell (i := 0) rfl; have m1 := Y2.out.mbk.cell (i := 1) rfl; have ltm := Y2.out.mbk.lt; rw [HV.out]))
  go_ret
  exact ⟨rfl, FA.out.trans Y2.out.fr (fun _ _ h => h)⟩

set_option maxRecDepth 100000 in
set_option maxHeartbeats 4000000 in
theorem Sums_o2 (w : World) {a st : Option Addr} {n c m d : Nat} {ws : List Int} {R : Nat → Nat → Int} {v : Nat} {u x y : Int} (hp : Rd w a n (ints ws)) (hs : ArgSt w st m d stepK R) (hm : manyB n m = false) (hb : ws.any badW = false) (hn : ¬ 1000 < n) (hy1 : -1048576 ≤ y) (hy2 : y ≤ 1048576) (hv : v < n) (hu : outB n u = true) :
    Calls Try.prog 4 #[.slice a n c, .slice st m d, .int .i64 (v : Nat), .int .i64 u, .int .i64 x, .int .i64 y] w fun e w' => e = .returned (.bool true) ∧ Fr F0 w w' := by
  obtain ⟨hn60, hm80⟩ := cases_of hm hb hn
  have HM := Lib.hid hm
  have Hp := Lib.hid hp
  have HA := Lib.hid hs
  have HB := Lib.hid hb
  have hy3 : ¬ y < -1048576 := by omega
  have hy4 : ¬ y > 1048576 := by omega
  have HV := Lib.hid (outB_nat hv)
  have HU := Lib.hid hu
  clear hp hs hm hb hn
  go_enter Try.func4, Try.ntmps4
  go_wp2_with (first
    | (go_at_call 9; refine (awake_any _).mono ?_; rintro e w0 ⟨rfl, F0'⟩; have FA := Lib.hid F0'; clear F0')
    | (go_at_call 10; refine (many_any _ _ _ _ _ _ _).mono ?_; rintro e w1 ⟨rfl, rfl⟩; rw [HM.out])
    | (go_at_call 11; refine (play_ok _ (Hp.out.fr0 FA.out) HB.out hn60 (HA.out.fr0 FA.out) hm80).mono ?_; rintro e wp ⟨f, b, B, s1, P, wt, wa, wc, pa, pc, rfl, Y0, sa1, sb1⟩; have Y1 := Lib.hid Y0.two; have FW := FA.out; have m0 := Y1.out.mbk.cell (i := 0) rfl; have m1 := Y1.out.mbk.cell (i := 1) rfl; have ltm := Y1.out.mbk.lt; replace Y0 := Lib.hid Y0; clear FW)
    | (go_at_call 15; refine (refIs_any Y1.out.rs (v : Nat)).mono ?_; rintro e w2 ⟨rfl, KK⟩; have Y2 := Lib.hid (Y1.out.fr0 KK); clear KK m0 m1 ltm Y1; have m0 := Y2.out.mbk.cell (i := 0) rfl; have m1 := Y2.out.mbk.cell (i := 1) rfl; have ltm := Y2.out.mbk.lt; rw [HV.out]; clear HV)
    | (go_at_call 15; refine (refIs_any Y2.out.rs u).mono ?_; rintro e w3 ⟨rfl, KK⟩; have Y3 := Lib.hid (Y2.out.fr0 KK); clear KK m0 m1 ltm Y2; have m0 := Y3.out.mbk.cell (i := 0) rfl; have m1 := Y3.out.mbk.cell (i := 1) rfl; have ltm := Y3.out.mbk.lt; rw [HU.out]))
  go_ret
  exact ⟨rfl, FA.out.trans Y3.out.fr (fun _ _ h => h)⟩

set_option maxRecDepth 100000 in
set_option maxHeartbeats 4000000 in
theorem Sums_o3 (w : World) {a st : Option Addr} {n c m d : Nat} {ws : List Int} {R : Nat → Nat → Int} {v u : Nat} {x y : Int} (hp : Rd w a n (ints ws)) (hs : ArgSt w st m d stepK R) (hm : manyB n m = false) (hb : ws.any badW = false) (hn : ¬ 1000 < n) (hy1 : -1048576 ≤ y) (hy2 : y ≤ 1048576) (hv : v < n) (hu : u < n) (hx : outB n x = true) :
    Calls Try.prog 4 #[.slice a n c, .slice st m d, .int .i64 (v : Nat), .int .i64 (u : Nat), .int .i64 x, .int .i64 y] w fun e w' => e = .returned (.bool true) ∧ Fr F0 w w' := by
  obtain ⟨hn60, hm80⟩ := cases_of hm hb hn
  have HM := Lib.hid hm
  have Hp := Lib.hid hp
  have HA := Lib.hid hs
  have HB := Lib.hid hb
  have hy3 : ¬ y < -1048576 := by omega
  have hy4 : ¬ y > 1048576 := by omega
  have HV := Lib.hid (outB_nat hv)
  have HU := Lib.hid (outB_nat hu)
  have HX := Lib.hid hx
  clear hp hs hm hb hn
  go_enter Try.func4, Try.ntmps4
  go_wp2_with (first
    | (go_at_call 9; refine (awake_any _).mono ?_; rintro e w0 ⟨rfl, F0'⟩; have FA := Lib.hid F0'; clear F0')
    | (go_at_call 10; refine (many_any _ _ _ _ _ _ _).mono ?_; rintro e w1 ⟨rfl, rfl⟩; rw [HM.out])
    | (go_at_call 11; refine (play_ok _ (Hp.out.fr0 FA.out) HB.out hn60 (HA.out.fr0 FA.out) hm80).mono ?_; rintro e wp ⟨f, b, B, s1, P, wt, wa, wc, pa, pc, rfl, Y0, sa1, sb1⟩; have Y1 := Lib.hid Y0.two; have FW := FA.out; have m0 := Y1.out.mbk.cell (i := 0) rfl; have m1 := Y1.out.mbk.cell (i := 1) rfl; have ltm := Y1.out.mbk.lt; replace Y0 := Lib.hid Y0; clear FW)
    | (go_at_call 15; refine (refIs_any Y1.out.rs (v : Nat)).mono ?_; rintro e w2 ⟨rfl, KK⟩; have Y2 := Lib.hid (Y1.out.fr0 KK); clear KK m0 m1 ltm Y1; have m0 := Y2.out.mbk.cell (i := 0) rfl; have m1 := Y2.out.mbk.cell (i := 1) rfl; have ltm := Y2.out.mbk.lt; rw [HV.out]; clear HV)
    | (go_at_call 15; refine (refIs_any Y2.out.rs (u : Nat)).mono ?_; rintro e w3 ⟨rfl, KK⟩; have Y3 := Lib.hid (Y2.out.fr0 KK); clear KK m0 m1 ltm Y2; have m0 := Y3.out.mbk.cell (i := 0) rfl; have m1 := Y3.out.mbk.cell (i := 1) rfl; have ltm := Y3.out.mbk.lt; rw [HU.out]; clear HU)
    | (go_at_call 15; refine (refIs_any Y3.out.rs x).mono ?_; rintro e w4 ⟨rfl, KK⟩; have Y4 := Lib.hid (Y3.out.fr0 KK); clear KK m0 m1 ltm Y3; have m0 := Y4.out.mbk.cell (i := 0) rfl; have m1 := Y4.out.mbk.cell (i := 1) rfl; have ltm := Y4.out.mbk.lt; rw [HX.out]))
  go_ret
  exact ⟨rfl, FA.out.trans Y4.out.fr (fun _ _ h => h)⟩

set_option maxRecDepth 100000 in
set_option maxHeartbeats 4000000 in
theorem Sums_in (w : World) {a st : Option Addr} {n c m d : Nat} {ws : List Int} {R : Nat → Nat → Int} {v u x : Nat} {y : Int} (hp : Rd w a n (ints ws)) (hs : ArgSt w st m d stepK R) (hm : manyB n m = false) (hb : ws.any badW = false) (hn : ¬ 1000 < n) (hy1 : -1048576 ≤ y) (hy2 : y ≤ 1048576) (hv : v < n) (hu : u < n) (hx : x < n) :
    Calls Try.prog 4 #[.slice a n c, .slice st m d, .int .i64 (v : Nat), .int .i64 (u : Nat), .int .i64 (x : Nat), .int .i64 y] w fun e w' => e = .returned (.bool true) ∧ Fr F0 w w' := by
  obtain ⟨hn60, hm80⟩ := cases_of hm hb hn
  have HM := Lib.hid hm
  have Hp := Lib.hid hp
  have HA := Lib.hid hs
  have HB := Lib.hid hb
  have hy3 : ¬ y < -1048576 := by omega
  have hy4 : ¬ y > 1048576 := by omega
  have hxi : (x : Int) < (n : Int) := by omega
  have HYW : Hid ((decide (-1048576 ≤ y) && decide (y ≤ 1048576)) = true) := Lib.hid (by rw [decide_eq_true hy1, decide_eq_true hy2]; rfl)
  have HV := Lib.hid (outB_nat hv)
  have HU := Lib.hid (outB_nat hu)
  have HX := Lib.hid (outB_nat hx)
  clear hp hs hm hb hn
  go_enter Try.func4, Try.ntmps4
  go_wp2_with (first
    | (go_at_call 9; refine (awake_any _).mono ?_; rintro e w0 ⟨rfl, F0'⟩; have FA := Lib.hid F0'; clear F0')
    | (go_at_call 10; refine (many_any _ _ _ _ _ _ _).mono ?_; rintro e w1 ⟨rfl, rfl⟩; rw [HM.out])
    | (go_at_call 11; refine (play_ok _ (Hp.out.fr0 FA.out) HB.out hn60 (HA.out.fr0 FA.out) hm80).mono ?_; rintro e wp ⟨f, b, B, s1, P, wt, wa, wc, pa, pc, rfl, Y0, sa1, sb1⟩; have Y1 := Lib.hid Y0.two; have FW := FA.out; have m0 := Y1.out.mbk.cell (i := 0) rfl; have m1 := Y1.out.mbk.cell (i := 1) rfl; have ltm := Y1.out.mbk.lt; replace Y0 := Lib.hid Y0; clear FW; obtain ⟨wb, wo, rfl, -⟩ := Y0.out.rs.ws.cells (by omega); obtain ⟨l, r, hl, hr⟩ := rt_ex Y1.out.lf.par hv; obtain ⟨l', z, hl', hz⟩ := rt_ex Y1.out.lf.par hu; have HL := Lib.hid (And.intro hl (And.intro hr (And.intro hl' hz))); clear hl hr hl' hz))
  by_cases hrz : r = z
  · subst hrz
    have HEQ : Hid (l.head? = l'.head?) := Lib.hid (HL.out.2.1.trans HL.out.2.2.2.symm)
    go_wp2_with (first
      | (go_at_call 15; refine (refIs_any Y1.out.rs (v : Nat)).mono ?_; rintro e w2 ⟨rfl, KK⟩; have Y2 := Lib.hid (Y1.out.fr0 KK); clear KK m0 m1 ltm Y1; have m0 := Y2.out.mbk.cell (i := 0) rfl; have m1 := Y2.out.mbk.cell (i := 1) rfl; have ltm := Y2.out.mbk.lt; rw [HV.out]; clear HV)
      | (go_at_call 15; refine (refIs_any Y2.out.rs (u : Nat)).mono ?_; rintro e w3 ⟨rfl, KK⟩; have Y3 := Lib.hid (Y2.out.fr0 KK); clear KK m0 m1 ltm Y2; have m0 := Y3.out.mbk.cell (i := 0) rfl; have m1 := Y3.out.mbk.cell (i := 1) rfl; have ltm := Y3.out.mbk.lt; rw [HU.out]; clear HU)
      | (go_at_call 15; refine (refIs_any Y3.out.rs (x : Nat)).mono ?_; rintro e w4 ⟨rfl, KK⟩; have Y4 := Lib.hid (Y3.out.fr0 KK); clear KK m0 m1 ltm Y3; have m0 := Y4.out.mbk.cell (i := 0) rfl; have m1 := Y4.out.mbk.cell (i := 1) rfl; have ltm := Y4.out.mbk.lt; rw [HX.out]; clear HX)
      | (go_at_call 16; refine (refCommon_eq Y4.out.lf.par Y4.out.rs hn60 hv hu HL.out.1 HL.out.2.2.1 HEQ.out).mono ?_; rintro e w5 ⟨c0, rfl, hC, KK⟩; have Y5 := Lib.hid (Y4.out.fr0 KK); clear KK m0 m1 ltm Y4; have m0 := Y5.out.mbk.cell (i := 0) rfl; have m1 := Y5.out.mbk.cell (i := 1) rfl; have ltm := Y5.out.mbk.lt; obtain ⟨lp, hq⟩ := hC; obtain ⟨a1, k, b1, S, S1, S2, T, q1, q2, hkn, q3, q4, q5, q6, q7, q8, bS, bS1, bS2, bT⟩ := sums_ex Y5.out.lf.par Y5.out.lf.wok hn60 hv hu hq; have hki : (k : Int) < (n : Int) := (by omega); obtain ⟨Tx, hTx⟩ : ∃ Tx, wt (x + 1) = Tx := ⟨_, rfl⟩; have bTx := Y5.out.lf.wok.2 (x + 1) (by omega) (by omega); rw [hTx] at bTx; have HXW : Hid ((ints (WL n wt))[x]? = some (.int .i64 Tx)) := Lib.hid (by unfold ints; rw [List.getElem?_map, WL_get hx, hTx]; rfl); replace hTx := Lib.hid hTx; have HKN := Lib.hid (outB_nat hkn); have HP := Lib.hid hq; have HS := Lib.hid (And.intro q1 (And.intro q2 (And.intro q3 (And.intro q4 (And.intro q5 (And.intro q6 q7)))))); clear hq q1 q2 q3 q4 q5 q6 q7)
      | (go_at_call 13; refine (Sum_pth Y5.out.lf (by omega) (by omega) hv hu HP.out HS.out.2.2.2.1).mono ?_; rintro e w6 ⟨rfl, KK⟩; obtain ⟨s6, sa6, sb6, Y6⟩ := Y5.out.kp KK; replace Y6 := Lib.hid Y6; clear KK m0 m1 ltm Y5; have m0 := Y6.out.mbk.cell (i := 0) rfl; have m1 := Y6.out.mbk.cell (i := 1) rfl; have ltm := Y6.out.mbk.lt)
      | (go_at_call 14; refine (Least_pth Y6.out.lf (by omega) (by omega) hv hu HP.out HS.out.2.2.1).mono ?_; rintro e w7 ⟨rfl, KK⟩; obtain ⟨s7, sa7, sb7, Y7⟩ := Y6.out.kp KK; replace Y7 := Lib.hid Y7; clear KK m0 m1 ltm Y6; have m0 := Y7.out.mbk.cell (i := 0) rfl; have m1 := Y7.out.mbk.cell (i := 1) rfl; have ltm := Y7.out.mbk.lt)
      | (go_at_call 15; refine (refIs_any Y7.out.rs (k : Nat)).mono ?_; rintro e w8 ⟨rfl, KK⟩; have Y8 := Lib.hid (Y7.out.fr0 KK); clear KK m0 m1 ltm Y7; have m0 := Y8.out.mbk.cell (i := 0) rfl; have m1 := Y8.out.mbk.cell (i := 1) rfl; have ltm := Y8.out.mbk.lt; rw [HKN.out]; clear HKN)
      | (go_at_call 13; refine (Sum_pth Y8.out.lf (by omega) (by omega) hv hkn HS.out.1 HS.out.2.2.2.2.1).mono ?_; rintro e w9 ⟨rfl, KK⟩; obtain ⟨s9, sa9, sb9, Y9⟩ := Y8.out.kp KK; replace Y9 := Lib.hid Y9; clear KK m0 m1 ltm Y8; have m0 := Y9.out.mbk.cell (i := 0) rfl; have m1 := Y9.out.mbk.cell (i := 1) rfl; have ltm := Y9.out.mbk.lt)
      | (go_at_call 13; refine (Sum_pth Y9.out.lf (by omega) (by omega) hkn hu HS.out.2.1 HS.out.2.2.2.2.2.1).mono ?_; rintro e w10 ⟨rfl, KK⟩; obtain ⟨s10, sa10, sb10, Y10⟩ := Y9.out.kp KK; replace Y10 := Lib.hid Y10; clear KK m0 m1 ltm Y9; have m0 := Y10.out.mbk.cell (i := 0) rfl; have m1 := Y10.out.mbk.cell (i := 1) rfl; have ltm := Y10.out.mbk.lt; have dk := Y10.out.rs.ws.at HS.out.2.2.2.2.2.2))
    have hF := HP.out.facts Y10.out.lf.par (mem_succ hv) (mem_succ hu)
    have hss := sum_set wt (x + 1) y hF.2.2.2
    have hmd := mem_dn2 (lp := lp) x
    by_cases hxl : x + 1 ∈ lp
    · rw [if_pos hxl, HS.out.2.2.2.1, hTx.out] at hss
      rw [decide_eq_true hxl] at hmd
      have HMX := Lib.hid hmd
      have HS2 : Hid ((lp.map (fun z => if z = x + 1 then y else wt z)).sum = S + y - Tx) := Lib.hid (by omega)
      clear hss hmd hF hxl
      go_wp2_with (first
        | (go_at_call 20; refine (Set_ok Y10.out.lf (by omega) (by omega) hx HYW.out).mono ?_; rintro e w11 ⟨rfl, KK⟩; obtain ⟨s11, sa11, sb11, Y11⟩ := Y10.out.kp KK; replace Y11 := Lib.hid Y11; clear KK m0 m1 ltm Y10; have m0 := Y11.out.mbk.cell (i := 0) rfl; have m1 := Y11.out.mbk.cell (i := 1) rfl; have ltm := Y11.out.mbk.lt)
        | (go_at_call 13; refine (Sum_pth Y11.out.lf (by omega) (by omega) hv hu HP.out HS2.out).mono ?_; rintro e w12 ⟨rfl, KK⟩; obtain ⟨s12, sa12, sb12, Y12⟩ := Y11.out.kp KK; replace Y12 := Lib.hid Y12; clear KK m0 m1 ltm Y11; have m0 := Y12.out.mbk.cell (i := 0) rfl; have m1 := Y12.out.mbk.cell (i := 1) rfl; have ltm := Y12.out.mbk.lt)
        | (go_at_call 17; refine (refPath_pth Y12.out.lf.par Y12.out.rs hn60 hv hu HP.out).mono ?_; rintro e w13 ⟨pq, pm, pk, rfl, RD, KK⟩; have Y13 := Lib.hid (Y12.out.fr0 KK); clear KK m0 m1 ltm Y12; have m0 := Y13.out.mbk.cell (i := 0) rfl; have m1 := Y13.out.mbk.cell (i := 1) rfl; have ltm := Y13.out.mbk.lt; have dx := Y13.out.rs.ws.at HXW.out; replace RD := Lib.hid RD)
        | (go_at_call 21; refine (contains_any _ RD.out (x : Nat)).mono ?_; rintro e w14 ⟨rfl, rfl⟩; rw [HMX.out]))
      go_ret
      exact ⟨rfl, FA.out.trans Y13.out.fr (fun _ _ h => h)⟩
    · rw [if_neg hxl, HS.out.2.2.2.1, Int.add_zero] at hss
      rw [decide_eq_false hxl] at hmd
      have HMX := Lib.hid hmd
      have HS2 := Lib.hid hss
      clear hss hmd hF hxl
      go_wp2_with (first
        | (go_at_call 20; refine (Set_ok Y10.out.lf (by omega) (by omega) hx HYW.out).mono ?_; rintro e w11 ⟨rfl, KK⟩; obtain ⟨s11, sa11, sb11, Y11⟩ := Y10.out.kp KK; replace Y11 := Lib.hid Y11; clear KK m0 m1 ltm Y10; have m0 := Y11.out.mbk.cell (i := 0) rfl; have m1 := Y11.out.mbk.cell (i := 1) rfl; have ltm := Y11.out.mbk.lt)
        | (go_at_call 13; refine (Sum_pth Y11.out.lf (by omega) (by omega) hv hu HP.out HS2.out).mono ?_; rintro e w12 ⟨rfl, KK⟩; obtain ⟨s12, sa12, sb12, Y12⟩ := Y11.out.kp KK; replace Y12 := Lib.hid Y12; clear KK m0 m1 ltm Y11; have m0 := Y12.out.mbk.cell (i := 0) rfl; have m1 := Y12.out.mbk.cell (i := 1) rfl; have ltm := Y12.out.mbk.lt)
        | (go_at_call 17; refine (refPath_pth Y12.out.lf.par Y12.out.rs hn60 hv hu HP.out).mono ?_; rintro e w13 ⟨pq, pm, pk, rfl, RD, KK⟩; have Y13 := Lib.hid (Y12.out.fr0 KK); clear KK m0 m1 ltm Y12; have m0 := Y13.out.mbk.cell (i := 0) rfl; have m1 := Y13.out.mbk.cell (i := 1) rfl; have ltm := Y13.out.mbk.lt; have dx := Y13.out.rs.ws.at HXW.out; replace RD := Lib.hid RD)
        | (go_at_call 21; refine (contains_any _ RD.out (x : Nat)).mono ?_; rintro e w14 ⟨rfl, rfl⟩; rw [HMX.out]))
      go_ret
      exact ⟨rfl, FA.out.trans Y13.out.fr (fun _ _ h => h)⟩
  · have HNE : Hid (l.head? ≠ l'.head?) := Lib.hid (fun e => hrz (by have := HL.out; rw [this.2.1, this.2.2.2] at e; injection e))
    go_wp2_with (first
      | (go_at_call 15; refine (refIs_any Y1.out.rs (v : Nat)).mono ?_; rintro e w2 ⟨rfl, KK⟩; have Y2 := Lib.hid (Y1.out.fr0 KK); clear KK m0 m1 ltm Y1; have m0 := Y2.out.mbk.cell (i := 0) rfl; have m1 := Y2.out.mbk.cell (i := 1) rfl; have ltm := Y2.out.mbk.lt; rw [HV.out]; clear HV)
      | (go_at_call 15; refine (refIs_any Y2.out.rs (u : Nat)).mono ?_; rintro e w3 ⟨rfl, KK⟩; have Y3 := Lib.hid (Y2.out.fr0 KK); clear KK m0 m1 ltm Y2; have m0 := Y3.out.mbk.cell (i := 0) rfl; have m1 := Y3.out.mbk.cell (i := 1) rfl; have ltm := Y3.out.mbk.lt; rw [HU.out]; clear HU)
      | (go_at_call 15; refine (refIs_any Y3.out.rs (x : Nat)).mono ?_; rintro e w4 ⟨rfl, KK⟩; have Y4 := Lib.hid (Y3.out.fr0 KK); clear KK m0 m1 ltm Y3; have m0 := Y4.out.mbk.cell (i := 0) rfl; have m1 := Y4.out.mbk.cell (i := 1) rfl; have ltm := Y4.out.mbk.lt; rw [HX.out]; clear HX)
      | (go_at_call 16; refine (refCommon_ne2 Y4.out.lf.par Y4.out.rs hn60 hv hu HL.out.1 HL.out.2.2.1 HNE.out).mono ?_; rintro e w5 ⟨rfl, KK⟩; have Y5 := Lib.hid (Y4.out.fr0 KK); clear KK m0 m1 ltm Y4; have m0 := Y5.out.mbk.cell (i := 0) rfl; have m1 := Y5.out.mbk.cell (i := 1) rfl; have ltm := Y5.out.mbk.lt))
    go_ret
    exact ⟨rfl, FA.out.trans Y5.out.fr (fun _ _ h => h)⟩

theorem Sums_law (a : Option Addr) (n c : Nat) (ws : List Int) (st : Option Addr) (m d : Nat) (R : Nat → Nat → Int) (v u x y : Int) (w : World) (h1 : ArgSl w a n c ws) (h2 : ArgSt w st m d [.i64, .i64, .i64] R) :
    Calls Try.prog 4 #[.slice a n c, .slice st m d, .int .i64 v, .int .i64 u, .int .i64 x, .int .i64 y] w fun e w' => e = .returned (.bool true) ∧ Fr F0 w w' := by
  cases hm : manyB n m with
  | true => exact Sums_many w h1.rd h2 hm
  | false =>
    by_cases hy1 : y < -1048576
    · exact Sums_wt w h1.rd h2 hm (.inl hy1)
    by_cases hy2 : 1048576 < y
    · exact Sums_wt w h1.rd h2 hm (.inr hy2)
    cases hb : ws.any badW with
    | true => exact Sums_none w h1.rd h2 hm (by omega) (by omega) (.inl hb)
    | false =>
      by_cases hn : 1000 < n
      · exact Sums_none w h1.rd h2 hm (by omega) (by omega) (.inr ⟨hb, hn⟩)
      · cases hv : outB n v with
        | true => exact Sums_o1 w h1.rd h2 hm hb hn (by omega) (by omega) hv
        | false =>
          obtain ⟨v, rfl, hvn⟩ := outB_false hv
          cases hu : outB n u with
          | true => exact Sums_o2 w h1.rd h2 hm hb hn (by omega) (by omega) hvn hu
          | false =>
            obtain ⟨u, rfl, hun⟩ := outB_false hu
            cases hx : outB n x with
            | true => exact Sums_o3 w h1.rd h2 hm hb hn (by omega) (by omega) hvn hun hx
            | false =>
              obtain ⟨x, rfl, hxn⟩ := outB_false hx
              exact Sums_in w h1.rd h2 hm hb hn (by omega) (by omega) hvn hun hxn

end Go.Proofs.Ytfeokafjehpgnaa
