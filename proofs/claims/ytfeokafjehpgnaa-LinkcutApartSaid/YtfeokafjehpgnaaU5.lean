/- Depth, Link, Cut, Set. -/
import Derived.Test.YtfeokafjehpgnaaU4
namespace Go.Proofs.Ytfeokafjehpgnaa
open Go.RowKit
attribute [local go_sem ↓] Go.wp_at_zero Go.wp_at_succ
section
variable {w : World} {f b n : Nat} {s : Int} {P : Nat → Nat} {wt : Nat → Int}
/-- What an access to v makes of a forest. -/
structure Acc (w : World) (f b n : Nat) (s : Int) (P : Nat → Nat) (wt : Nat → Int) (v : Nat) (V V1 : K.Vs) (l1 m1 : Nat) (a1 : K.BT) (T1 : List (K.BT × Nat)) : Prop where
  fs : FS w f b n s V
  gv : GV n V
  acc : K.Access (GV n) n V (v + 1) V1 l1 m1
  hm : m1 ≤ 3720
  fo : K.Fo V1 P (vts n) ((.node a1 (v + 1) .nil, 0) :: T1)
  turned : (V1 (v + 1)).turned = false
  wt : K.wt V1 = wt
  way : K.Way P (v + 1) (K.ord V1 false a1 ++ [v + 1])
  gv1 : GV n V1
theorem LF.gv (h : LF w f b n s P wt) {V : K.Vs} {T : List (K.BT × Nat)} (h1 : K.Fo V P (vts n) T) (h2 : K.wt V = wt) : GV n V := gv_of h.small h.par h1 (by rw [h2]; exact h.wok)
theorem LF.open (h : LF w f b n s P wt) {v : Nat} (hv : v < n) : ∃ V V1 l1 m1 a1 T1, Acc w f b n s P wt v V V1 l1 m1 a1 T1 := by
  obtain ⟨V, T, k1, k2, k3⟩ := h.ex
  have hG : ∀ V' T', K.Fo V' P (vts n) T' → K.wt V' = K.wt V → GV n V' := fun V' T' h1 h2 => h.gv h1 (h2.trans k3)
  obtain ⟨V1, l1, m1, a1, T1, r1, r2, r3, r4, r5, r6, -⟩ := K.access_ok (G := GV n) h.par hG k2 (mem_succ hv)
  rw [vts_length] at r1 r6
  exact ⟨V, V1, l1, m1, a1, T1, k1, hG V T k2 rfl, r1, m_le1 h.small r6, r2, r3, r4.trans k3, r5, hG V1 _ r2 r4⟩
theorem Acc.kp {w2 : World} {v : Nat} {V V1 : K.Vs} {l1 m1 : Nat} {a1 : K.BT} {T1 : List (K.BT × Nat)} (A : Acc w f b n s P wt v V V1 l1 m1 a1 T1) (h : LF w f b n s P wt) (S : FS w2 f b n (s + (m1 + 1 : Nat)) V1) (F : Fr (onFB f b) w w2) : Kp w w2 f b n s 3800 P wt := by
  have := A.hm
  exact ⟨_, by omega, by omega, ⟨h.par, h.wok, h.small, V1, _, S, A.fo, A.wt⟩, F⟩
theorem access_v (w : World) {f b n : Nat} {s : Int} {V Vf : K.Vs} {v l m : Nat} (h : FS w f b n s V) (g : GV n V) (hv : v < n) (hA : K.Access (GV n) n V (v + 1) Vf l m) (hm : m ≤ 3720) (hs1 : 0 ≤ s) (hs2 : s ≤ 2305843009213700000) :
    Calls Try.prog 41 #[.pointer (some ⟨f, 0, none⟩), .int .i64 ((v : Int) + 1)] w fun e w' => e = .returned (.int .i64 (l : Nat)) ∧ FS w' f b n (s + (m + 1 : Nat)) Vf ∧ Fr (onFB f b) w w' := by
  have hn := h.small
  have := access_any w h g (show v + 1 ≤ n by omega) (by omega) hA (by omega) (by omega) (by omega)
  rwa [show (((v + 1 : Nat)) : Int) = (v : Int) + 1 by omega] at this
theorem pull_v (w : World) {f b n : Nat} {s : Int} {V : K.Vs} {v : Nat} (h : FS w f b n s V) (g : BV n V) (hv : v < n) :
    Calls Try.prog 48 #[.pointer (some ⟨f, 0, none⟩), .int .i64 ((v : Int) + 1)] w fun e w' => e = .returned (.tuple #[]) ∧ FS w' f b n s (K.pullF V (v + 1)) ∧ Fr (onB b) w w' := by
  have := pull_any w h g (show v + 1 ≤ n by omega)
  rwa [show (((v + 1 : Nat)) : Int) = (v : Int) + 1 by omega] at this

set_option maxRecDepth 100000 in
set_option maxHeartbeats 1000000 in
theorem Depth_in (h : LF w f b n s P wt) (hs1 : 0 ≤ s) (hs2 : s ≤ 2305843009213690000) {v : Nat} (hv : v < n) {l : List Nat} (hl : K.Way P (v + 1) l) :
    Calls Try.prog 25 #[.pointer (some ⟨f, 0, none⟩), .int .i64 (v : Nat)] w fun e w' => e = .returned (.tuple #[.int .i64 ((l.length - 1 : Nat)), .int .i64 0]) ∧ Kp w w' f b n s 3800 P wt := by
  have hsm := h.small
  have HL := Lib.hid h
  have HV := Lib.hid (outB_nat hv)
  obtain ⟨V, V1, l1, m1, a1, T1, A⟩ := h.open hv
  obtain ⟨d1, d2⟩ := K.depth_fo A.fo
  have el : l = K.ord V1 false a1 ++ [v + 1] := hl.uniq A.way
  have ed : (V1 (V1 (v + 1)).left).size = l.length - 1 := by rw [d1, el]; simp
  have hlf := A.gv1.left (v + 1) (by omega)
  have HA := Lib.hid A
  clear h A d1 d2 el hl
  go_enter Try.func25, Try.ntmps25
  go_wp2_with (first
    | (go_at_call 47; refine (LF.check (HL.out.fr0 ((Fr.refl _ _).alloc _)) (rd1 _ _) (r := false) (by simp [HV.out])).mono ?_; rintro e w1 ⟨rfl, G1⟩; replace G1 := Lib.hid G1)
    | (go_at_call 41; refine (access_v _ ((HA.out.fs.fr0 ((Fr.refl _ _).alloc _)).fr0 G1.out) HA.out.gv hv HA.out.acc HA.out.hm hs1 (by omega)).mono ?_; rintro e w2 ⟨rfl, S2, F2⟩; replace F2 := Lib.hid F2))
  have y0 := S2.fb.cell (i := 0) rfl
  have y1 := S2.c1 (x := v + 1) (by omega)
  have y2 := S2.c6 hlf
  rw [ed] at y2
  have HS := Lib.hid S2
  clear S2
  generalize (V1 (v + 1)).left = L at *
  have bL : (L : Int) < (n : Int) + 1 := by omega
  have bv : (v : Int) + 1 < (n : Int) + 1 := by omega
  go_quiet (fail)
  go_wp2_with fail
  go_ret2
  exact ⟨rfl, HA.out.kp HL.out (HS.out.fr0 ((Fr.refl _ _).drewN _)) (((((Fr.refl F0 w).alloc _).trans G1.out (fun _ _ h => h)).mono (S' := onFB f b) (fun _ _ h => h.elim)).trans F2.out (fun _ _ h => h) |>.drewN _)⟩

theorem weighs_any (w : World) (x : Int) : Calls Try.prog 46 #[.int .i64 x] w fun e w' => e = .returned (.bool (decide (-1048576 ≤ x) && decide (x ≤ 1048576))) ∧ w = w' := by
  by_cases h0 : -1048576 ≤ x
  · rw [decide_eq_true h0, Bool.true_and]
    go_enter Try.func46, Try.ntmps46
    go_wp2_with fail
    go_ret
    exact ⟨rfl, rfl⟩
  · rw [decide_eq_false h0, Bool.false_and]
    go_enter Try.func46, Try.ntmps46
    go_wp2_with fail
    go_ret
    exact ⟨rfl, rfl⟩
theorem Set_arg (w : World) {f : Nat} {v x : Int} (hx : (decide (-1048576 ≤ x) && decide (x ≤ 1048576)) = false) :
    Calls Try.prog 20 #[.pointer (some ⟨f, 0, none⟩), .int .i64 v, .int .i64 x] w fun e w' => e = .returned (.int .i64 1) ∧ w = w' := by
  have HX := Lib.hid hx
  clear hx
  go_enter Try.func20, Try.ntmps20
  go_wp2_with (go_at_call 46; refine (weighs_any _ x).mono ?_; rintro e w1 ⟨rfl, rfl⟩; rw [HX.out])
  go_ret
  exact ⟨rfl, rfl⟩
theorem Set_out (h : LF w f b n s P wt) {v x : Int} (hx : (decide (-1048576 ≤ x) && decide (x ≤ 1048576)) = true) (hv : outB n v = true) :
    Calls Try.prog 20 #[.pointer (some ⟨f, 0, none⟩), .int .i64 v, .int .i64 x] w fun e w' => e = .returned (.int .i64 2) ∧ Fr F0 w w' := by
  have HX := Lib.hid hx
  have HL := Lib.hid h
  have HV := Lib.hid hv
  clear hx h hv
  go_enter Try.func20, Try.ntmps20
  go_wp2_with (first
    | (go_at_call 46; refine (weighs_any _ x).mono ?_; rintro e w1 ⟨rfl, rfl⟩; rw [HX.out])
    | (go_at_call 47; refine (LF.check (HL.out.fr0 ((Fr.refl _ _).alloc _)) (rd1 _ _) (r := true) (by simp [HV.out])).mono ?_; rintro e w1 ⟨rfl, G1⟩; replace G1 := Lib.hid G1))
  go_ret
  exact ⟨rfl, ((Fr.refl F0 w).alloc _).trans G1.out (fun _ _ h => h)⟩
set_option maxRecDepth 100000 in
set_option maxHeartbeats 1000000 in
theorem Set_ok (h : LF w f b n s P wt) (hs1 : 0 ≤ s) (hs2 : s ≤ 2305843009213690000) {v : Nat} (hv : v < n) {x : Int} (hx : (decide (-1048576 ≤ x) && decide (x ≤ 1048576)) = true) :
    Calls Try.prog 20 #[.pointer (some ⟨f, 0, none⟩), .int .i64 (v : Nat), .int .i64 x] w fun e w' => e = .returned (.int .i64 0) ∧ Kp w w' f b n s 3800 P (fun z => if z = v + 1 then x else wt z) := by
  have hsm := h.small
  have HX := Lib.hid hx
  have HL := Lib.hid h
  have HV := Lib.hid (outB_nat hv)
  obtain ⟨V, V1, l1, m1, a1, T1, A⟩ := h.open hv
  have hx' : -1048576 ≤ x ∧ x ≤ 1048576 := by simpa using hx
  have hb : BV n (K.put V1 (v + 1) { V1 (v + 1) with weight := x }) := A.gv1.bv.put (v + 1) (by
    have k := A.gv1.bv.bx (show v + 1 ≤ n by omega)
    exact ⟨k.up, k.left, k.right, k.first, k.last, k.size, k.sum, hx'⟩)
  obtain ⟨d1, d2⟩ := K.setW_fo (n := x) h.par A.fo A.turned
  rw [A.wt] at d2
  have HA := Lib.hid A
  have HD := Lib.hid (And.intro d1 d2)
  have HW : Hid (WOK n (fun z => if z = v + 1 then x else wt z)) := Lib.hid ⟨by simp only [show ¬ (0 = v + 1) by omega, if_false]; exact h.wok.1, fun z z0 hz => by
    by_cases e : z = v + 1
    · simp only [e, if_true]; exact hx'
    · simp only [e, if_false]; exact h.wok.2 z z0 hz⟩
  clear h A d1 d2 hx hx'
  go_enter Try.func20, Try.ntmps20
  go_wp2_with (first
    | (go_at_call 46; refine (weighs_any _ x).mono ?_; rintro e w1 ⟨rfl, rfl⟩; rw [HX.out])
    | (go_at_call 47; refine (LF.check (HL.out.fr0 ((Fr.refl _ _).alloc _)) (rd1 _ _) (r := false) (by simp [HV.out])).mono ?_; rintro e w1 ⟨rfl, G1⟩; replace G1 := Lib.hid G1)
    | (go_at_call 41; refine (access_v _ ((HA.out.fs.fr0 ((Fr.refl _ _).alloc _)).fr0 G1.out) HA.out.gv hv HA.out.acc HA.out.hm hs1 (by omega)).mono ?_; rintro e w2 ⟨rfl, S2, F2⟩; replace F2 := Lib.hid F2; have y0 := S2.fb.cell (i := 0) rfl; have y4 := S2.c4 (x := v + 1) (by omega); have z4 := S2.free ((v + 1) * 9 + 4); have HS := Lib.hid S2; clear S2; have bv : (v : Int) + 1 < (n : Int) + 1 := by omega)
    | (go_at_call 48; refine (pull_v _ (HS.out.putN (x := v + 1) (by omega) (j := 4) (by omega) (.int .i64 x) (v := { V1 (v + 1) with weight := x }) (fld9 rfl rfl rfl rfl rfl rfl rfl rfl rfl)) hb hv).mono ?_; rintro e w3 ⟨rfl, S3, F3⟩; replace S3 := Lib.hid S3; replace F3 := Lib.hid F3))
  go_ret
  have hm := HA.out.hm
  exact ⟨rfl, _, by omega, by omega, ⟨HL.out.par, HW.out, hsm, _, _, S3.out, HD.out.1, HD.out.2⟩, ((((((Fr.refl F0 w).alloc _).trans G1.out (fun _ _ h => h)).mono (S' := onFB f b) (fun _ _ h => h.elim)).trans F2.out (fun _ _ h => h)).setCell (p := ⟨b, (v + 1) * 9 + 4, none⟩) (fun _ => .inr rfl) _).trans F3.out (fun _ _ h => .inr h)⟩

theorem Acc.nil {v : Nat} {V V1 : K.Vs} {l1 m1 : Nat} {a1 : K.BT} {T1 : List (K.BT × Nat)} (A : Acc w f b n s P wt v V V1 l1 m1 a1 T1) : P (v + 1) = 0 ↔ a1 = .nil := by
  have h2 := A.way.parent
  constructor
  · intro e
    refine (K.ord_nil (V := V1) (b := false)).1 (Classical.byContradiction fun hne => ?_)
    exact (h2.2 hne).1 e
  · intro e
    exact h2.1 (K.ord_nil.2 e)
set_option maxRecDepth 100000 in
set_option maxHeartbeats 1000000 in
theorem Cut_state (h : LF w f b n s P wt) (hs1 : 0 ≤ s) (hs2 : s ≤ 2305843009213690000) {v : Nat} (hv : v < n) (h0 : P (v + 1) = 0) :
    Calls Try.prog 29 #[.pointer (some ⟨f, 0, none⟩), .int .i64 (v : Nat)] w fun e w' => e = .returned (.int .i64 13) ∧ Kp w w' f b n s 3800 P wt := by
  have hsm := h.small
  have HL := Lib.hid h
  have HV := Lib.hid (outB_nat hv)
  obtain ⟨V, V1, l1, m1, a1, T1, A⟩ := h.open hv
  have e0 : (V1 (v + 1)).left = 0 := (K.depth_fo A.fo).2.2 (A.nil.1 h0)
  have HA := Lib.hid A
  clear h A h0
  go_enter Try.func29, Try.ntmps29
  go_wp2_with (first
    | (go_at_call 47; refine (LF.check (HL.out.fr0 ((Fr.refl _ _).alloc _)) (rd1 _ _) (r := false) (by simp [HV.out])).mono ?_; rintro e w1 ⟨rfl, G1⟩; replace G1 := Lib.hid G1)
    | (go_at_call 41; refine (access_v _ ((HA.out.fs.fr0 ((Fr.refl _ _).alloc _)).fr0 G1.out) HA.out.gv hv HA.out.acc HA.out.hm hs1 (by omega)).mono ?_; rintro e w2 ⟨rfl, S2, F2⟩; replace F2 := Lib.hid F2; have y0 := S2.fb.cell (i := 0) rfl; have y1 := S2.c1 (x := v + 1) (by omega); rw [e0] at y1; have HS := Lib.hid S2; clear S2; have bv : (v : Int) + 1 < (n : Int) + 1 := by omega))
  go_ret
  exact ⟨rfl, HA.out.kp HL.out HS.out (((((Fr.refl F0 w).alloc _).trans G1.out (fun _ _ h => h)).mono (S' := onFB f b) (fun _ _ h => h.elim)).trans F2.out (fun _ _ h => h))⟩
set_option maxRecDepth 100000 in
set_option maxHeartbeats 1000000 in
theorem Cut_ok (h : LF w f b n s P wt) (hs1 : 0 ≤ s) (hs2 : s ≤ 2305843009213690000) {v : Nat} (hv : v < n) (h0 : P (v + 1) ≠ 0) {P' : Nat → Nat} (h1 : P' (v + 1) = 0) (h2 : ∀ z ∈ vts n, z ≠ v + 1 → P' z = P z) :
    Calls Try.prog 29 #[.pointer (some ⟨f, 0, none⟩), .int .i64 (v : Nat)] w fun e w' => e = .returned (.int .i64 0) ∧ Kp w w' f b n s 3800 P' wt := by
  have hsm := h.small
  have HL := Lib.hid h
  have HV := Lib.hid (outB_nat hv)
  obtain ⟨V, V1, l1, m1, a1, T1, A⟩ := h.open hv
  have hn0 : a1 ≠ .nil := fun e => h0 (A.nil.2 e)
  have e0 : (V1 (v + 1)).left ≠ 0 := fun e => hn0 ((K.depth_fo A.fo).2.1 e)
  obtain ⟨d1, d2⟩ := K.cutL_fo (P' := P') h.par A.fo hn0 A.turned h1 h2
  rw [A.wt] at d2
  have hlf := A.gv1.left (v + 1) (by omega)
  have hb : BV n (K.put (K.put V1 (V1 (v + 1)).left { V1 (V1 (v + 1)).left with up := 0 }) (v + 1) { K.put V1 (V1 (v + 1)).left { V1 (V1 (v + 1)).left with up := 0 } (v + 1) with left := 0 }) := by
    have b1 := A.gv1.bv.put (V1 (v + 1)).left ((A.gv1.bv.bx hlf).setUp (Nat.zero_le _))
    exact b1.put (v + 1) ((b1.bx (by omega)).setLeft (Nat.zero_le _))
  have hnl := A.gv1.nl (v + 1) (by omega) (by omega)
  have hpar := K.par_cut h.par h1 h2
  have HA := Lib.hid A
  have HD := Lib.hid (And.intro d1 (And.intro d2 hpar))
  unfold K.cutL at HD
  replace hb := Lib.hid hb
  clear h A d1 d2 h0 h1 h2 hn0 hpar
  generalize hLL : (V1 (v + 1)).left = L at *
  have HLL := Lib.hid hLL
  clear hLL
  have bL : (L : Int) < (n : Int) + 1 := by omega
  go_enter Try.func29, Try.ntmps29
  go_wp2_with (first
    | (go_at_call 47; refine (LF.check (HL.out.fr0 ((Fr.refl _ _).alloc _)) (rd1 _ _) (r := false) (by simp [HV.out])).mono ?_; rintro e w1 ⟨rfl, G1⟩; replace G1 := Lib.hid G1)
    | (go_at_call 41; refine (access_v _ ((HA.out.fs.fr0 ((Fr.refl _ _).alloc _)).fr0 G1.out) HA.out.gv hv HA.out.acc HA.out.hm hs1 (by omega)).mono ?_; rintro e w2 ⟨rfl, S2, F2⟩; replace F2 := Lib.hid F2; have y0 := S2.fb.cell (i := 0) rfl; have y1 := S2.c1 (x := v + 1) (by omega); rw [HLL.out] at y1; have z1 := S2.free ((v + 1) * 9 + 1); have yL := S2.c0 hlf; have zL := S2.free (L * 9); have HS := Lib.hid S2; clear S2; have bv : (v : Int) + 1 < (n : Int) + 1 := by omega)
    | (go_at_call 48; refine (pull_v _ ((HS.out.putN hlf (j := 0) (by omega) (.int .i64 (0 : Nat)) (v := { V1 L with up := 0 }) (fld9 rfl rfl rfl rfl rfl rfl rfl rfl rfl)).putN (x := v + 1) (by omega) (j := 1) (by omega) (.int .i64 (0 : Nat)) (v := { K.put V1 L { V1 L with up := 0 } (v + 1) with left := 0 }) (fld9 rfl rfl rfl rfl rfl rfl rfl rfl rfl)) hb.out hv).mono ?_; rintro e w3 ⟨rfl, S3, F3⟩; replace S3 := Lib.hid S3; replace F3 := Lib.hid F3))
  go_ret
  have hm := HA.out.hm
  exact ⟨rfl, _, by omega, by omega, ⟨HD.out.2.2, HL.out.wok, hsm, _, _, S3.out, HD.out.1, HD.out.2.1⟩, (((((((Fr.refl F0 w).alloc _).trans G1.out (fun _ _ h => h)).mono (S' := onFB f b) (fun _ _ h => h.elim)).trans F2.out (fun _ _ h => h)).setCell (p := ⟨b, L * 9, none⟩) (fun _ => .inr rfl) _).setCell (p := ⟨b, (v + 1) * 9 + 1, none⟩) (fun _ => .inr rfl) _).trans F3.out (fun _ _ h => .inr h)⟩

theorem way_head {x z : Nat} {l : List Nat} (h : K.Way P x l) (hz : z ∈ l) (h0 : P z = 0) : l.head? = some z := by
  induction h with
  | root _ _ => rw [List.mem_singleton.1 hz]; rfl
  | @down x l h1 h2 h3 ih =>
    rcases List.mem_append.1 hz with e | e
    · have := ih e
      rw [List.head?_append, this]; rfl
    · rw [List.mem_singleton.1 e] at h0; exact absurd h0 h2
set_option maxRecDepth 100000 in
theorem Link_state (h : LF w f b n s P wt) (hs1 : 0 ≤ s) (hs2 : s ≤ 2305843009213690000) {v u : Nat} (hv : v < n) (hu : u < n) {y : Nat} (hy : Rt P v y) (hyv : y ≠ v + 1) :
    Calls Try.prog 28 #[.pointer (some ⟨f, 0, none⟩), .int .i64 (v : Nat), .int .i64 (u : Nat)] w fun e w' => e = .returned (.int .i64 13) ∧ Kp w w' f b n s 3800 P wt := by
  have hsm := h.small
  have HL := Lib.hid h
  have HV := Lib.hid (outB_nat hv)
  have HU := Lib.hid (outB_nat hu)
  have hyv' : (y : Int) ≠ (v : Int) + 1 := by omega
  clear h
  go_enter Try.func28, Try.ntmps28
  go_wp2_with (first
    | (go_at_call 47; refine (LF.check (HL.out.fr0 ((Fr.refl _ _).alloc _)) (rd2 _ _ _) (r := false) (by simp [HV.out, HU.out])).mono ?_; rintro e w1 ⟨rfl, G1⟩; replace G1 := Lib.hid G1)
    | (go_at_call 50; refine (LF.rootv ((HL.out.fr0 ((Fr.refl _ _).alloc _)).fr0 G1.out) hs1 (by omega) hv hy).mono ?_; rintro e w2 ⟨rfl, s2, t1, t2, K2, F2⟩; replace K2 := Lib.hid K2; replace F2 := Lib.hid F2; clear hy))
  go_ret
  exact ⟨rfl, Kp.pre (((Fr.refl F0 w).alloc _).trans G1.out (fun _ _ h => h)) ⟨s2, t1, t2, K2.out, F2.out⟩⟩
set_option maxRecDepth 100000 in
theorem Link_cycle (h : LF w f b n s P wt) (hs1 : 0 ≤ s) (hs2 : s ≤ 2305843009213690000) {v u : Nat} (hv : v < n) (hu : u < n) (h0 : P (v + 1) = 0) (hz : Rt P u (v + 1)) :
    Calls Try.prog 28 #[.pointer (some ⟨f, 0, none⟩), .int .i64 (v : Nat), .int .i64 (u : Nat)] w fun e w' => e = .returned (.int .i64 16) ∧ Kp w w' f b n s 7600 P wt := by
  have hsm := h.small
  have HL := Lib.hid h
  have HV := Lib.hid (outB_nat hv)
  have HU := Lib.hid (outB_nat hu)
  have hy : Rt P v (v + 1) := ⟨[v + 1], .root (by omega) h0, rfl⟩
  have hc : ((v + 1 : Nat) : Int) = (v : Int) + 1 := by omega
  clear h
  go_enter Try.func28, Try.ntmps28
  go_wp2_with (first
    | (go_at_call 47; refine (LF.check (HL.out.fr0 ((Fr.refl _ _).alloc _)) (rd2 _ _ _) (r := false) (by simp [HV.out, HU.out])).mono ?_; rintro e w1 ⟨rfl, G1⟩; replace G1 := Lib.hid G1)
    | (go_at_call 50; refine (LF.rootv ((HL.out.fr0 ((Fr.refl _ _).alloc _)).fr0 G1.out) hs1 (by omega) hv hy).mono ?_; rintro e w2 ⟨rfl, s2, t1, t2, K2, F2⟩; replace K2 := Lib.hid K2; replace F2 := Lib.hid F2; clear hy)
    | (go_at_call 50; refine (LF.rootv K2.out (by omega) (by omega) hu hz).mono ?_; rintro e w3 ⟨rfl, s3, t3, t4, K3, F3⟩; replace K3 := Lib.hid K3; replace F3 := Lib.hid F3; clear hz))
  go_ret
  exact ⟨rfl, Kp.pre (((Fr.refl F0 w).alloc _).trans G1.out (fun _ _ h => h)) (Kp.trans ⟨s2, t1, t2, K2.out, F2.out, ⟨s3, t3, t4, K3.out, F3.out⟩⟩)⟩
set_option maxRecDepth 100000 in
set_option maxHeartbeats 1000000 in
theorem Link_ok (h : LF w f b n s P wt) (hs1 : 0 ≤ s) (hs2 : s ≤ 2305843009213690000) {v u : Nat} (hv : v < n) (hu : u < n) (h0 : P (v + 1) = 0) {z : Nat} (hz : Rt P u z) (hzv : z ≠ v + 1) {P' : Nat → Nat} (h1 : P' (v + 1) = u + 1) (h2 : ∀ z ∈ vts n, z ≠ v + 1 → P' z = P z) :
    Calls Try.prog 28 #[.pointer (some ⟨f, 0, none⟩), .int .i64 (v : Nat), .int .i64 (u : Nat)] w fun e w' => e = .returned (.int .i64 0) ∧ Kp w w' f b n s 11400 P' wt := by
  have hsm := h.small
  have HL := Lib.hid h
  have HV := Lib.hid (outB_nat hv)
  have HU := Lib.hid (outB_nat hu)
  have hy : Rt P v (v + 1) := ⟨[v + 1], .root (by omega) h0, rfl⟩
  have hzv' : (z : Int) ≠ (v : Int) + 1 := by omega
  have HP : Hid (K.Par P' (vts n)) := Lib.hid (by
    obtain ⟨lw, w1, w2⟩ := hz
    have hall := way_all h.par w1 (mem_succ hu)
    refine K.par_link h.par (mem_succ hu) w1 (fun hm => ?_) h1 h2 hall.1
    have := way_head w1 hm h0
    rw [w2] at this
    injection this with e
    exact hzv e)
  replace h1 := Lib.hid h1
  replace h2 := Lib.hid h2
  clear h hzv
  go_enter Try.func28, Try.ntmps28
  go_wp2_with (first
    | (go_at_call 47; refine (LF.check (HL.out.fr0 ((Fr.refl _ _).alloc _)) (rd2 _ _ _) (r := false) (by simp [HV.out, HU.out])).mono ?_; rintro e w1 ⟨rfl, G1⟩; replace G1 := Lib.hid G1)
    | (go_at_call 50; refine (LF.rootv ((HL.out.fr0 ((Fr.refl _ _).alloc _)).fr0 G1.out) hs1 (by omega) hv hy).mono ?_; rintro e w2 ⟨rfl, s2, t1, t2, K2, F2⟩; replace K2 := Lib.hid K2; replace F2 := Lib.hid F2; clear hy)
    | (go_at_call 50; refine (LF.rootv K2.out (by omega) (by omega) hu hz).mono ?_; rintro e w3 ⟨rfl, s3, t3, t4, K3, F3⟩; replace F3 := Lib.hid F3; obtain ⟨V, V1, l1, m1, a1, T1, A⟩ := K3.open hv; have HA := Lib.hid A; replace K3 := Lib.hid K3; clear hz A)
    | (go_at_call 41; refine (access_v _ HA.out.fs HA.out.gv hv HA.out.acc HA.out.hm (by omega) (by omega)).mono ?_; rintro e w4 ⟨rfl, S4, F4⟩; replace F4 := Lib.hid F4; have y0 := S4.fb.cell (i := 0) rfl; have y1 := S4.c0 (x := v + 1) (by omega); have z1 := S4.free ((v + 1) * 9); have HS := Lib.hid S4; clear S4; have bv : (v : Int) + 1 < (n : Int) + 1 := by omega))
  go_ret
  have hm := HA.out.hm
  have en := HA.out.nil.1 h0
  obtain ⟨d1, d2⟩ := K.link_fo (P' := P') (w := u + 1) K3.out.par HA.out.fo en h1.out h2.out
  rw [HA.out.wt] at d2
  have S5 := HS.out.putN (x := v + 1) (by omega) (j := 0) (by omega) (.int .i64 ((u + 1 : Nat) : Int)) (v := { V1 (v + 1) with up := u + 1 }) (fld9 rfl rfl rfl rfl rfl rfl rfl rfl rfl)
  refine ⟨rfl, s3 + (m1 + 1 : Nat), by omega, by omega, ⟨HP.out, HL.out.wok, hsm, _, _, ?_, d1, d2⟩, ((((((((Fr.refl F0 w).alloc _).trans G1.out (fun _ _ h => h)).mono (S' := onFB f b) (fun _ _ h => h.elim)).trans F2.out (fun _ _ h => h))).trans F3.out (fun _ _ h => h)).trans F4.out (fun _ _ h => h)).setCell (p := ⟨b, (v + 1) * 9, none⟩) (fun _ => .inr rfl) _⟩
  exact S5

end
end Go.Proofs.Ytfeokafjehpgnaa
