/- Parent. -/
import Derived.Test.YtfeokafjehpgnaaU7
namespace Go.Proofs.Ytfeokafjehpgnaa
open Go.RowKit
attribute [local go_sem ↓] Go.wp_at_zero Go.wp_at_succ
/-- The loop of Parent. -/
noncomputable abbrev PB : Code := .seq (.seq (rg27 9) (.cond (.tmp 41) .skip (.exit 0))) (.seq (.block 1 (rg27 11)) (rg27 10))
theorem pa_rounds {w : World} {f b n : Nat} {s : Int} {c1 c4 c5 c6 : Value} {Q : Exit → Act → World → Prop} {V V' : K.Vs} {y y' : Nat} (h : K.DnRun false V y V' y') :
    GV n V → y ≤ n → y ≠ 0 → (∀ a W, PaO w f b n s V' c1 c4 c5 c6 (.int .i64 (y' : Nat)) 0 undef a W → Q (.exit 0) a W) →
    ∃ r, ∀ a W, PaO w f b n s (K.pushF V y) c1 c4 c5 c6 (.int .i64 (y : Nat)) 0 undef a W → Code.rounds Try.prog PB Q r a W := by
  induction h with
  | @stop V y hc =>
    intro g hy hy0 hQ
    refine ⟨1, fun a W S => ?_⟩
    refine wp_seq (wp_seq (wp_step (pa_r9 S.1 S.2.2.1 S.2.2.2 hy) (fun a1 W1 k1 => ?_)))
    refine wp_cond (k1.slot (by decide)) ?_
    have hc' : (K.pushF V y y).right = 0 := hc
    rw [if_neg (by rw [hc']; decide)]
    exact wp_exit (hQ _ _ k1.drop)
  | @go V V' y y' hc _ ih =>
    intro g hy hy0 hQ
    have hc' : (K.pushF V y y).right ≠ 0 := hc
    have gp := g.push y
    have hl := gp.right y hy
    obtain ⟨r, hm⟩ := ih gp hl hc' hQ
    refine ⟨r + 1, fun a W S => ?_⟩
    refine wp_seq (wp_seq (wp_step (pa_r9 S.1 S.2.2.1 S.2.2.2 hy) (fun a1 W1 k1 => ?_)))
    refine wp_cond (k1.slot (by decide)) ?_
    rw [if_pos (decide_eq_true hc')]
    refine wp_skip (wp_seq (wp_block (wp_step (pa_r11 k1.1 k1.2.2.1 k1.2.2.2 hy) (fun a2 W2 k2 => ?_))))
    exact wp_step (pa_r10 k2.1 k2.2.2.1 k2.2.2.2 gp hl hc') (fun a3 W3 k3 => hm _ _ k3)
section
variable {w : World} {f b n : Nat} {s : Int} {P : Nat → Nat} {wt : Nat → Int}
set_option maxRecDepth 100000 in
set_option maxHeartbeats 1000000 in
theorem Parent_root (h : LF w f b n s P wt) (hs1 : 0 ≤ s) (hs2 : s ≤ 2305843009213690000) {v : Nat} (hv : v < n) (h0 : P (v + 1) = 0) :
    Calls Try.prog 27 #[.pointer (some ⟨f, 0, none⟩), .int .i64 (v : Nat)] w fun e w' => e = .returned (.tuple #[.int .i64 (-1), .int .i64 0]) ∧ Kp w w' f b n s 3800 P wt := by
  have hsm := h.small
  have HL := Lib.hid h
  have HV := Lib.hid (outB_nat hv)
  obtain ⟨V, V1, l1, m1, a1, T1, A⟩ := h.open hv
  have e0 : (V1 (v + 1)).left = 0 := (K.depth_fo A.fo).2.2 (A.nil.1 h0)
  have HA := Lib.hid A
  clear h A h0
  go_enter Try.func27, Try.ntmps27
  go_wp2_with (first
    | (go_at_call 47; refine (LF.check (HL.out.fr0 ((Fr.refl _ _).alloc _)) (rd1 _ _) (r := false) (by simp [HV.out])).mono ?_; rintro e w1 ⟨rfl, G1⟩; replace G1 := Lib.hid G1)
    | (go_at_call 41; refine (access_v _ ((HA.out.fs.fr0 ((Fr.refl _ _).alloc _)).fr0 G1.out) HA.out.gv hv HA.out.acc HA.out.hm hs1 (by omega)).mono ?_; rintro e w2 ⟨rfl, S2, F2⟩; replace F2 := Lib.hid F2; have y0 := S2.fb.cell (i := 0) rfl; have y1 := S2.c1 (x := v + 1) (by omega); rw [e0] at y1; have HS := Lib.hid S2; clear S2; have bv : (v : Int) + 1 < (n : Int) + 1 := by omega))
  go_ret2
  exact ⟨rfl, HA.out.kp HL.out HS.out (((((Fr.refl F0 w).alloc _).trans G1.out (fun _ _ h => h)).mono (S' := onFB f b) (fun _ _ h => h.elim)).trans F2.out (fun _ _ h => h))⟩
set_option maxRecDepth 100000 in
set_option maxHeartbeats 1000000 in
theorem Parent_ok (h : LF w f b n s P wt) (hs1 : 0 ≤ s) (hs2 : s ≤ 2305843009213690000) {v : Nat} (hv : v < n) (h0 : P (v + 1) ≠ 0) :
    Calls Try.prog 27 #[.pointer (some ⟨f, 0, none⟩), .int .i64 (v : Nat)] w fun e w' => e = .returned (.tuple #[.int .i64 ((P (v + 1) : Nat) - 1), .int .i64 0]) ∧ Kp w w' f b n s 3900 P wt := by
  have hsm := h.small
  have HL := Lib.hid h
  have HV := Lib.hid (outB_nat hv)
  obtain ⟨V, V1, l1, m1, a1, T1, A⟩ := h.open hv
  have hn0 : a1 ≠ .nil := fun e => h0 (A.nil.2 e)
  have e0 : (V1 (v + 1)).left ≠ 0 := fun e => hn0 ((K.depth_fo A.fo).2.1 e)
  have hlf := A.gv1.left (v + 1) (by omega)
  obtain ⟨V2, y, k, W, T2, r1, r2, r3, r4, r5, r6⟩ := K.parent_run (G := GV n) h.par (fun V' T' h1 h2 => h.gv h1 (h2.trans A.wt)) A.fo hn0
  rw [vts_length] at r2 r5
  have hy : y = P (v + 1) := by
    have hw := (A.way.parent.2 (fun e => hn0 (K.ord_nil.1 e))).2
    obtain ⟨o, ho⟩ := hw.last
    rw [ho] at r6
    simpa using r6.symm
  subst hy
  obtain ⟨g2, y1, y2⟩ := dnrun_gv r1 A.gv1 hlf e0
  have g1 := A.gv1
  have HA := Lib.hid A
  have hm := A.hm
  have HR1 := Lib.hid r1
  have HR2 := Lib.hid r2
  have HK := Lib.hid (And.intro r3 (r4.trans A.wt))
  clear h A h0 r1 r2 r3 r4 r6 hn0
  generalize P (v + 1) = p at *
  generalize hLL : (V1 (v + 1)).left = L at *
  have HLL := Lib.hid hLL
  clear hLL
  go_enter Try.func27, Try.ntmps27
  go_wp2_with (first
    | (go_at_call 47; refine (LF.check (HL.out.fr0 ((Fr.refl _ _).alloc _)) (rd1 _ _) (r := false) (by simp [HV.out])).mono ?_; rintro e w1 ⟨rfl, G1⟩; replace G1 := Lib.hid G1)
    | (go_at_call 41; refine (access_v _ ((HA.out.fs.fr0 ((Fr.refl _ _).alloc _)).fr0 G1.out) HA.out.gv hv HA.out.acc HA.out.hm hs1 (by omega)).mono ?_; rintro e w2 ⟨rfl, S2, F2⟩; replace F2 := Lib.hid F2; have q0 := S2.fb.cell (i := 0) rfl; have q1 := S2.c1 (x := v + 1) (by omega); rw [HLL.out] at q1; have HS := Lib.hid S2; clear S2; have bv : (v : Int) + 1 < (n : Int) + 1 := by omega)
    | (go_at_call 52; refine (push_any _ HS.out g1 hlf e0).mono ?_; rintro e w3 ⟨rfl, S3, F3⟩; replace S3 := Lib.hid S3; replace F3 := Lib.hid F3))
  rename_i Q' hh C hC
  replace hC := Lib.hid hC
  obtain ⟨r, hm'⟩ := pa_rounds (w := w) (f := f) (b := b) (s := s + (m1 + 1 : Nat)) (c1 := .int .i64 (v : Nat)) (c4 := .int .i64 0) (c5 := .int .i64 0) (c6 := .int .i64 0) (Q := Exit.inBlock 0 (Exit.then C Q')) HR1.out g1 hlf e0 (fun a4 W4 k4 => by
    refine inBlock_exit (hC.out _ _ ?_)
    refine wp_seq (wp_step (pa_r12 k4.1 k4.2.2.1 k4.2.2.2 g2 y1 y2 HR2.out (by omega) (by omega) (by omega)) (fun a5 W5 k5 => ?_))
    refine wp_seq (wp_step (pa_r13 k5.1 k5.2.2.1 k5.2.2.2 y1 y2) (fun a6 W6 k6 => ?_))
    refine wp_ret ?_
    obtain ⟨ha, -, S, F⟩ := k6
    rw [ha]
    refine bodyPost_ret (results_tmp2 rfl _ _ _) rfl ⟨rfl, _, ?_, ?_, ⟨HL.out.par, HL.out.wok, hsm, _, _, S, HK.out.1, HK.out.2⟩, F⟩ <;> omega)
  refine wp_loop_rounds r (hm' _ _ ⟨rfl, fun h => absurd rfl h, S3.out, ?_⟩)
  exact (((((Fr.refl F0 w).alloc _).trans G1.out (fun _ _ h => h)).mono (S' := onFB f b) (fun _ _ h => h.elim)).trans F2.out (fun _ _ h => h)).trans F3.out (fun _ _ h => .inr h)
end
end Go.Proofs.Ytfeokafjehpgnaa
