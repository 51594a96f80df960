/- play, where there is a forest. -/
import Derived.Test.YtfeokafjehpgnaaU17
namespace Go.Proofs.Ytfeokafjehpgnaa
open Go.RowKit
attribute [local go_sem ↓] Go.wp_at_zero Go.wp_at_succ
abbrev stepK : List IntKind := [.i64, .i64, .i64]
theorem step_cells {w : World} {a : Option Addr} {n c : Nat} {R : Nat → Nat → Int} (h : ArgSt w a n c stepK R) {i : Nat} (hi : i < n) :
    ∃ b o, a = some ⟨b, o, none⟩ ∧ w.cell? ⟨b, o + i * 3, none⟩ = some (.int .i64 (R i 0)) ∧ w.cell? ⟨b, o + i * 3 + 1, none⟩ = some (.int .i64 (R i 1)) ∧ w.cell? ⟨b, o + i * 3 + 2, none⟩ = some (.int .i64 (R i 2)) := by
  obtain ⟨b, o, ha, hc⟩ := h.cells (by omega)
  exact ⟨b, o, ha, (hc i 0 .i64 hi rfl).1, (hc i 1 .i64 hi rfl).1, (hc i 2 .i64 hi rfl).1⟩
/-- The forest and its reference, both under way. -/
structure FR (w W : World) (f b B n : Nat) (s : Int) (P : Nat → Nat) (wt : Nat → Int) (wa : Option Addr) (wc : Nat) (pa : Option Addr) (pc : Nat) : Prop where
  lf : LF W f b n s P wt
  rs : RS W B n wt P wa wc pa pc
  fr : Fr F0 w W
  fB : f < B
  bB : b < B
  wf : w.heap.size ≤ f
  wb : w.heap.size ≤ b
  BW : B ≤ W.heap.size
theorem FR.fr0 {w W W' : World} {f b B n : Nat} {s : Int} {P : Nat → Nat} {wt : Nat → Int} {wa : Option Addr} {wc : Nat} {pa : Option Addr} {pc : Nat} (h : FR w W f b B n s P wt wa wc pa pc) (F : Fr F0 W W') : FR w W' f b B n s P wt wa wc pa pc :=
  ⟨h.lf.fr0 F, h.rs.fr0 F, h.fr.trans F (fun _ _ h => h), h.fB, h.bB, h.wf, h.wb, Nat.le_trans h.BW F.size⟩
/-- Behind an operation on the forest. -/
theorem FR.kp {w W W' : World} {f b B n : Nat} {s d : Int} {P P' : Nat → Nat} {wt wt' : Nat → Int} {wa : Option Addr} {wc : Nat} {pa : Option Addr} {pc : Nat} {wa' pa' : Option Addr} {wc' pc' : Nat} (h : FR w W f b B n s P wt wa wc pa pc) (hk : Kp W W' f b n s d P' wt') (hr : RS W B n wt' P' wa' wc' pa' pc') :
    ∃ s', s ≤ s' ∧ s' ≤ s + d ∧ FR w W' f b B n s' P' wt' wa' wc' pa' pc' := by
  obtain ⟨s', h1, h2, h3, h4⟩ := hk
  have h5 := h.fB
  have h6 := h.bB
  have h7 := h.wf
  have h8 := h.wb
  exact ⟨s', h1, h2, h3, hr.fr h4 (fun k hk e => by rcases e with e | e <;> omega), h.fr.new0 h4 (fun k e => by rcases e with e | e <;> omega), h.fB, h.bB, h.wf, h.wb, Nat.le_trans h.BW h4.size⟩
/-- In play. -/
structure PS (w W : World) (rb mb f b B n : Nat) (s : Int) (P : Nat → Nat) (wt : Nat → Int) (wa : Option Addr) (wc : Nat) (pa : Option Addr) (pc : Nat) : Prop where
  fr : FR w W f b B n s P wt wa wc pa pc
  mbk : Blk W mb 28 [.slice wa n wc, .slice pa n pc]
  brk : Blk W rb 28 [.slice none 0 0, .slice none 0 0]
  nm : mb ≠ f ∧ mb ≠ b ∧ mb ≠ rb
  nr : rb ≠ f ∧ rb ≠ b
  wm : w.heap.size ≤ mb
  wrb : w.heap.size ≤ rb
theorem FR.st {w W : World} {f b B n mb : Nat} {s : Int} {P : Nat → Nat} {wt : Nat → Int} {wa : Option Addr} {wc : Nat} {pa : Option Addr} {pc : Nat} {vs : List Value} (h : FR w W f b B n s P wt wa wc pa pc) (hb : Blk W mb 28 vs) (hv : ∀ u ∈ vs, ∀ x, u ≠ .int .i64 x) (h1 : mb ≠ f) (h2 : mb ≠ b) (h3 : w.heap.size ≤ mb) (i : Nat) (u : Value) : FR w (W.setCell ⟨mb, i, none⟩ u) f b B n s P wt wa wc pa pc :=
  ⟨h.lf.fr (S := fun k => k = mb) (Fr.setCell (S := fun k => k = mb) (Fr.refl _ W) (p := ⟨mb, i, none⟩) (fun _ => rfl) u) (Ne.symm h1) (Ne.symm h2), h.rs.skip hb hv i u, h.fr.setCell (p := ⟨mb, i, none⟩) (fun e => by dsimp only at e; omega) u, h.fB, h.bB, h.wf, h.wb, by simpa using h.BW⟩
theorem PS.next {w W : World} {rb mb f b B n : Nat} {s s' : Int} {P P' : Nat → Nat} {wt wt' : Nat → Int} {wa : Option Addr} {wc : Nat} {pa : Option Addr} {pc : Nat} {wa' : Option Addr} {wc' : Nat} {pa' : Option Addr} {pc' : Nat} {W0 : World} (h : PS w W0 rb mb f b B n s P wt wa wc pa pc) (k : FR w W f b B n s' P' wt' wa' wc' pa' pc') (hb : Blk W mb 28 [.slice wa n wc, .slice pa n pc]) (hr : Blk W rb 28 [.slice none 0 0, .slice none 0 0]) :
    PS w ((W.setCell ⟨mb, 0, none⟩ (.slice wa' n wc')).setCell ⟨mb, 1, none⟩ (.slice pa' n pc')) rb mb f b B n s' P' wt' wa' wc' pa' pc' := by
  have b1 := hb.set 0 (.slice wa' n wc')
  exact ⟨(k.st hb (by simp) h.nm.1 h.nm.2.1 h.wm 0 _).st b1 (by simp) h.nm.1 h.nm.2.1 h.wm 1 _, b1.set 1 _, (hr.other (p := ⟨mb, 0, none⟩) (Ne.symm h.nm.2.2) _).other (p := ⟨mb, 1, none⟩) (Ne.symm h.nm.2.2) _, h.nm, h.nr, h.wm, h.wrb⟩
theorem FR.steps {w W : World} {f b B n : Nat} {s : Int} {P : Nat → Nat} {wt : Nat → Int} {wa : Option Addr} {wc : Nat} {pa : Option Addr} {pc : Nat} (h : FR w W f b B n s P wt wa wc pa pc) : Calls Try.prog 34 #[.pointer (some ⟨f, 0, none⟩)] W fun e w' => e = .returned (.int .i64 s) ∧ W = w' := h.lf.steps
set_option maxRecDepth 100000 in
set_option maxHeartbeats 4000000 in
theorem play_ok (w : World) {a st : Option Addr} {n c m d : Nat} {ws : List Int} {R : Nat → Nat → Int} (hp : Rd w a n (ints ws)) (hb : ws.any badW = false) (hn : n ≤ 60) (hs : ArgSt w st m d stepK R) (hm : m ≤ 80) :
    Calls Try.prog 11 #[.slice a n c, .slice st m d] w fun e w' => ∃ f b B s P wt wa wc pa pc, e = .returned (.tuple #[.pointer (some ⟨f, 0, none⟩), rv n wa wc pa pc, .bool true]) ∧ FR w w' f b B n s P wt wa wc pa pc ∧ 0 ≤ s ∧ s ≤ 1600000 := by
  have bR := Blk.new w 28 [.slice none 0 0, .slice none 0 0]
  have Hp := Lib.hid hp
  have HB := Lib.hid hb
  have HR := Lib.hid bR
  have HA := Lib.hid hs
  have hcap := hs.cap
  clear hp hb hs bR
  go_enter Try.func11, Try.ntmps11
  go_wp2_with (first
    | (go_at_call 36; refine (New_ok _ (Hp.out.fr0 ((Fr.refl _ _).alloc _)) HB.out hn).mono ?_; rintro e w1 ⟨f, b, rfl, L1, F1, hf1, hb1⟩; rw [size_alloc] at hf1 hb1; have L1' := L1.bounds; replace L1 := Lib.hid L1; replace F1 := Lib.hid F1)
    | (go_at_call 37; refine (refNew_ok _ (Hp.out.fr0 (((Fr.refl _ _).alloc _).trans F1.out (fun _ _ h => h))) HB.out hn).mono ?_; rintro e w2 ⟨wa, wc, pa, pc, rfl, R2, F2⟩; replace R2 := Lib.hid R2; replace F2 := Lib.hid F2; have hsz2 := F2.out.size)
    | (go_at_call 34; refine (LF.steps ((L1.out.fr0 F2.out).fr0 ((Fr.refl _ _).alloc _))).mono ?_; rintro e w3 ⟨rfl, rfl⟩))
  have hPS : PS w (w2.alloc (.cells #[.slice wa n wc, .slice pa n pc] 28)) w.heap.size w2.heap.size f b w1.heap.size n 0 (fun _ => 0) (wtN ws n) wa wc pa pc := by
    have F12 := (((Fr.refl F0 w).alloc (.cells #[.slice none 0 0, .slice none 0 0] 28)).trans F1.out (fun _ _ h => h)).trans F2.out (fun _ _ h => h)
    exact ⟨⟨(L1.out.fr0 F2.out).fr0 ((Fr.refl _ _).alloc _), R2.out.fr0 ((Fr.refl _ _).alloc _), F12.alloc _, L1'.1, L1'.2, by omega, by omega, by rw [size_alloc]; omega⟩, Blk.new _ _ _, ((HR.out.fr F1.out id).fr F2.out id).alloc _, ⟨by omega, by omega, by have := F12.size; have := ((HR.out.fr F1.out id).fr F2.out id).lt; omega⟩, ⟨by omega, by omega⟩, by have := F12.size; omega, Nat.le_refl _⟩
  have HP := Lib.hid hPS
  clear hPS L1 R2 F1 F2 HR Hp HB hf1 hb1 L1' hsz2
  obtain ⟨W0, eW0⟩ : ∃ W0, w2.alloc (.cells #[.slice wa n wc, .slice pa n pc] 28) = W0 := ⟨_, rfl⟩
  obtain ⟨mb, emb⟩ : ∃ mb, w2.heap.size = mb := ⟨_, rfl⟩
  obtain ⟨B, eB⟩ : ∃ B, w1.heap.size = B := ⟨_, rfl⟩
  obtain ⟨rb, erb⟩ : ∃ rb, w.heap.size = rb := ⟨_, rfl⟩
  rw [eW0, emb, eB, erb] at HP
  rw [eW0, emb, erb]
  go_loopw [11, 45] (fun s1 i wr => ∃ (j : Nat) (s : Int) (P : Nat → Nat) (wt : Nat → Int) (wa : Option Addr) (wc : Nat) (pa : Option Addr) (pc : Nat), j ≤ m ∧ i = .int .i64 j ∧ s1 = .int .i64 s ∧ 0 ≤ s ∧ s ≤ (j : Int) * 20000 ∧ Hid (PS w wr rb mb f b B n s P wt wa wc pa pc)) (fun _ i _ => m - (intOf i).toNat)
  case atStart => exact ⟨0, 0, _, _, wa, wc, pa, pc, Nat.zero_le _, rfl, rfl, by omega, by omega, HP⟩
  case round =>
    obtain ⟨j, s, P, wt, wa', wc', pa', pc', hj, rfl, rfl, hs0, hsj, HS⟩ := hrel
    clear HP eW0 emb eB erb
    by_cases hlt : j < m
    · obtain ⟨sb, so, rfl, t0, t1, t2⟩ := step_cells (HA.out.fr0 HS.out.fr.fr) hlt
      obtain ⟨e, P', wt', hstp⟩ := stp_ex HS.out.fr.lf.par wt (R j 0) (R j 1) (R j 2)
      have HE := Lib.hid hstp
      have hji : (j : Int) < (m : Int) := by omega
      have m0 := HS.out.mbk.cell (i := 0) rfl
      have m1 := HS.out.mbk.cell (i := 1) rfl
      have ltm := HS.out.mbk.lt
      have hBW := HS.out.fr.BW
      have hs3 : s ≤ 1600000 := by omega
      generalize R j 0 = k at *
      generalize R j 1 = v at *
      generalize R j 2 = u at *
      clear hstp
      go_wp2_with (first
        | (go_at_call 38; refine (refDo_any HS.out.fr.lf.par hn (HS.out.fr.rs.fr0 ((Fr.refl _ _).alloc _)) (by rw [size_alloc]; omega) HE.out).mono ?_; rintro r w4 ⟨wa4, wc4, pa4, pc4, rfl, R4, F4⟩; have hbx := (Blk.new wr 60 [.int .i64 k, .int .i64 v, .int .i64 u]).fr F4 id; have x0 := hbx.cell (i := 0) rfl; have x1 := hbx.cell (i := 1) rfl; have x2 := hbx.cell (i := 2) rfl; have ltx := hbx.lt; clear hbx m0 m1 t0 t1 t2 ltm; replace R4 := Lib.hid R4; replace F4 := Lib.hid F4)
        | (go_at_call 39; refine (do_any ((HS.out.fr.lf.fr0 (((Fr.refl _ _).alloc _).trans F4.out (fun _ _ h => h))).fr0 ((Fr.refl _ _).alloc _)) hs0 (by omega) HE.out).mono ?_; rintro r w5 ⟨rfl, K5⟩; have K5' := K5; obtain ⟨_, _, _, _, F5⟩ := K5'; obtain ⟨s5, q1, q2, Y5⟩ := ((HS.out.fr.fr0 ((Fr.refl _ _).alloc _)).fr0 F4.out |>.fr0 ((Fr.refl _ _).alloc _)).kp K5 (R4.out.fr0 ((Fr.refl _ _).alloc _)); have hnb := (Blk.new w4 28 [.slice wa4 n wc4, .slice pa4 n pc4]).fr F5 (fun e => by have h1 := HS.out.fr.fB; have h2 := HS.out.fr.bB; have h3 := F4.out.size; rw [size_alloc] at h3; rcases e with e | e <;> omega); have y0 := hnb.cell (i := 0) rfl; have y1 := hnb.cell (i := 1) rfl; have hmb := (((HS.out.mbk.alloc _).fr F4.out id).alloc (.cells #[.slice wa4 n wc4, .slice pa4 n pc4] 28)).fr F5 (fun e => by rcases e with e | e; exact HS.out.nm.1 e; exact HS.out.nm.2.1 e); have hrb := (((HS.out.brk.alloc _).fr F4.out id).alloc (.cells #[.slice wa4 n wc4, .slice pa4 n pc4] 28)).fr F5 (fun e => by rcases e with e | e; exact HS.out.nr.1 e; exact HS.out.nr.2 e); have m0 := hmb.cell (i := 0) rfl; have m1 := hmb.cell (i := 1) rfl; have z0 := hmb.free 0; have z1 := hmb.free 1; have HN := Lib.hid (HS.out.next Y5 hmb hrb); have hle : ¬ s5 < s := (by omega); clear K5 F5 Y5 hnb hmb hrb x0 x1 x2 ltx)
        | (go_at_call 34; refine HN.out.fr.steps.mono ?_; rintro r w6 ⟨rfl, rfl⟩))
      go_roundw
      case rel => exact ⟨j + 1, s5, P', wt', wa4, wc4, pa4, pc4, by omega, by go_num, rfl, by omega, by omega, HN⟩
      case measure => simp [intOf]; omega
    · obtain rfl : j = m := by omega
      clear hlt
      have m0 := HS.out.mbk.cell (i := 0) rfl
      have m1 := HS.out.mbk.cell (i := 1) rfl
      have r0 := HS.out.brk.cell (i := 0) rfl
      have r1 := HS.out.brk.cell (i := 1) rfl
      have y0 := HS.out.brk.free 0
      have y1 := HS.out.brk.free 1
      have nmr := HS.out.nm.2.2
      have nmr' := Ne.symm nmr
      have b1 := HS.out.brk.set 0 (.slice wa' n wc')
      have bE := b1.set 1 (.slice pa' n pc')
      have HQ := Lib.hid (And.intro b1 bE)
      clear b1 bE
      go_wp2_with fail
      go_region
      all_goals go_wp2_with fail
      have q0 := HQ.out.2.cell (i := 0) rfl
      have q1 := HQ.out.2.cell (i := 1) rfl
      refine bodyPost_ret (v := .tuple #[.pointer (some ⟨f, 0, none⟩), rv n wa' wc' pa' pc', .bool true]) (by simp [results, Try.results11, go_sem, q0, q1]) rfl ⟨f, b, B, s, P, wt, wa', wc', pa', pc', rfl, ?_, hs0, by omega⟩
      exact ((HS.out.fr.st HS.out.brk (by simp) HS.out.nr.1 HS.out.nr.2 HS.out.wrb 0 (.slice wa' n wc')).st HQ.out.1 (by simp) HS.out.nr.1 HS.out.nr.2 HS.out.wrb 1 (.slice pa' n pc')).fr0 ((Fr.refl _ _).drew)
end Go.Proofs.Ytfeokafjehpgnaa
