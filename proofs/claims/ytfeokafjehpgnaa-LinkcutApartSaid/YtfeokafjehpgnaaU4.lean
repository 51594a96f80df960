/- Root, Connected, Evert, pair. -/
import Derived.Test.YtfeokafjehpgnaaU3
namespace Go.Proofs.Ytfeokafjehpgnaa
open Go.RowKit
attribute [local go_sem ↓] Go.wp_at_zero Go.wp_at_succ
section
variable {w : World} {f b n : Nat} {s : Int} {P : Nat → Nat} {wt : Nat → Int}
/-- The root of v's tree is y - 1 (v from 0 on). -/
def Rt (P : Nat → Nat) (v y : Nat) : Prop := ∃ l, K.Way P (v + 1) l ∧ l.head? = some y
theorem LF.rootv (h : LF w f b n s P wt) (hs1 : 0 ≤ s) (hs2 : s ≤ 2305843009213693952) {v : Nat} (hv : v < n) {y : Nat} (hy : Rt P v y) :
    Calls Try.prog 50 #[.pointer (some ⟨f, 0, none⟩), .int .i64 ((v : Int) + 1)] w fun e w' => e = .returned (.int .i64 (y : Nat)) ∧ Kp w w' f b n s 3800 P wt := by
  obtain ⟨l, hl, hy⟩ := hy
  have := h.root hs1 hs2 (mem_succ hv) hl hy
  rwa [show (((v + 1 : Nat)) : Int) = (v : Int) + 1 by omega] at this
/-- v is turned to the root: the parents behind. -/
structure Ev (n : Nat) (P : Nat → Nat) (v : Nat) (P' : Nat → Nat) : Prop where
  ex : ∃ l, K.Way P (v + 1) l ∧ K.Chain P' 0 l.reverse ∧ (∀ z ∈ vts n, z ∉ l → P' z = P z) ∧ ∀ z ∈ l, z ∈ vts n
theorem LF.evertv (h : LF w f b n s P wt) (hs1 : 0 ≤ s) (hs2 : s ≤ 2305843009213693952) {v : Nat} (hv : v < n) {P' : Nat → Nat} (hE : Ev n P v P') :
    Calls Try.prog 51 #[.pointer (some ⟨f, 0, none⟩), .int .i64 ((v : Int) + 1)] w fun e w' => e = .returned (.tuple #[]) ∧ Kp w w' f b n s 3800 P' wt := by
  obtain ⟨l, hl, h1, h2, h3⟩ := hE.ex
  have := h.evert hs1 hs2 (mem_succ hv) hl h1 h2 h3
  rwa [show (((v + 1 : Nat)) : Int) = (v : Int) + 1 by omega] at this
theorem LF.wf (h : LF w f b n s P wt) : n ≤ 60 := h.small

theorem Root_out (h : LF w f b n s P wt) {v : Int} (hv : outB n v = true) :
    Calls Try.prog 24 #[.pointer (some ⟨f, 0, none⟩), .int .i64 v] w fun e w' => e = .returned (.tuple #[.int .i64 0, .int .i64 2]) ∧ Fr F0 w w' := by
  have HL := Lib.hid h
  have HV := Lib.hid hv
  clear h hv
  go_enter Try.func24, Try.ntmps24
  go_wp2_with (go_at_call 47; refine (LF.check (HL.out.fr0 ((Fr.refl _ _).alloc _)) (rd1 _ _) (r := true) (by simp [HV.out])).mono ?_; rintro e w1 ⟨rfl, G1⟩; replace G1 := Lib.hid G1)
  go_ret2
  exact ⟨rfl, ((Fr.refl F0 w).alloc _).trans G1.out (fun _ _ h => h)⟩
theorem Evert_out (h : LF w f b n s P wt) {v : Int} (hv : outB n v = true) :
    Calls Try.prog 23 #[.pointer (some ⟨f, 0, none⟩), .int .i64 v] w fun e w' => e = .returned (.int .i64 2) ∧ Fr F0 w w' := by
  have HL := Lib.hid h
  have HV := Lib.hid hv
  clear h hv
  go_enter Try.func23, Try.ntmps23
  go_wp2_with (go_at_call 47; refine (LF.check (HL.out.fr0 ((Fr.refl _ _).alloc _)) (rd1 _ _) (r := true) (by simp [HV.out])).mono ?_; rintro e w1 ⟨rfl, G1⟩; replace G1 := Lib.hid G1)
  go_ret
  exact ⟨rfl, ((Fr.refl F0 w).alloc _).trans G1.out (fun _ _ h => h)⟩
theorem Depth_out (h : LF w f b n s P wt) {v : Int} (hv : outB n v = true) :
    Calls Try.prog 25 #[.pointer (some ⟨f, 0, none⟩), .int .i64 v] w fun e w' => e = .returned (.tuple #[.int .i64 0, .int .i64 2]) ∧ Fr F0 w w' := by
  have HL := Lib.hid h
  have HV := Lib.hid hv
  clear h hv
  go_enter Try.func25, Try.ntmps25
  go_wp2_with (go_at_call 47; refine (LF.check (HL.out.fr0 ((Fr.refl _ _).alloc _)) (rd1 _ _) (r := true) (by simp [HV.out])).mono ?_; rintro e w1 ⟨rfl, G1⟩; replace G1 := Lib.hid G1)
  go_ret2
  exact ⟨rfl, ((Fr.refl F0 w).alloc _).trans G1.out (fun _ _ h => h)⟩
theorem Parent_out (h : LF w f b n s P wt) {v : Int} (hv : outB n v = true) :
    Calls Try.prog 27 #[.pointer (some ⟨f, 0, none⟩), .int .i64 v] w fun e w' => e = .returned (.tuple #[.int .i64 0, .int .i64 2]) ∧ Fr F0 w w' := by
  have HL := Lib.hid h
  have HV := Lib.hid hv
  clear h hv
  go_enter Try.func27, Try.ntmps27
  go_wp2_with (go_at_call 47; refine (LF.check (HL.out.fr0 ((Fr.refl _ _).alloc _)) (rd1 _ _) (r := true) (by simp [HV.out])).mono ?_; rintro e w1 ⟨rfl, G1⟩; replace G1 := Lib.hid G1)
  go_ret2
  exact ⟨rfl, ((Fr.refl F0 w).alloc _).trans G1.out (fun _ _ h => h)⟩
theorem Cut_out (h : LF w f b n s P wt) {v : Int} (hv : outB n v = true) :
    Calls Try.prog 29 #[.pointer (some ⟨f, 0, none⟩), .int .i64 v] w fun e w' => e = .returned (.int .i64 2) ∧ Fr F0 w w' := by
  have HL := Lib.hid h
  have HV := Lib.hid hv
  clear h hv
  go_enter Try.func29, Try.ntmps29
  go_wp2_with (go_at_call 47; refine (LF.check (HL.out.fr0 ((Fr.refl _ _).alloc _)) (rd1 _ _) (r := true) (by simp [HV.out])).mono ?_; rintro e w1 ⟨rfl, G1⟩; replace G1 := Lib.hid G1)
  go_ret
  exact ⟨rfl, ((Fr.refl F0 w).alloc _).trans G1.out (fun _ _ h => h)⟩
theorem Connected_out (h : LF w f b n s P wt) {v u : Int} (hv : (outB n v || outB n u) = true) :
    Calls Try.prog 22 #[.pointer (some ⟨f, 0, none⟩), .int .i64 v, .int .i64 u] w fun e w' => e = .returned (.tuple #[.bool false, .int .i64 2]) ∧ Fr F0 w w' := by
  have HL := Lib.hid h
  have HV := Lib.hid hv
  clear h hv
  go_enter Try.func22, Try.ntmps22
  go_wp2_with (go_at_call 47; refine (LF.check (HL.out.fr0 ((Fr.refl _ _).alloc _)) (rd2 _ _ _) (r := true) (by simp [HV.out])).mono ?_; rintro e w1 ⟨rfl, G1⟩; replace G1 := Lib.hid G1)
  go_ret2
  exact ⟨rfl, ((Fr.refl F0 w).alloc _).trans G1.out (fun _ _ h => h)⟩
theorem Link_out (h : LF w f b n s P wt) {v u : Int} (hv : (outB n v || outB n u) = true) :
    Calls Try.prog 28 #[.pointer (some ⟨f, 0, none⟩), .int .i64 v, .int .i64 u] w fun e w' => e = .returned (.int .i64 2) ∧ Fr F0 w w' := by
  have HL := Lib.hid h
  have HV := Lib.hid hv
  clear h hv
  go_enter Try.func28, Try.ntmps28
  go_wp2_with (go_at_call 47; refine (LF.check (HL.out.fr0 ((Fr.refl _ _).alloc _)) (rd2 _ _ _) (r := true) (by simp [HV.out])).mono ?_; rintro e w1 ⟨rfl, G1⟩; replace G1 := Lib.hid G1)
  go_ret
  exact ⟨rfl, ((Fr.refl F0 w).alloc _).trans G1.out (fun _ _ h => h)⟩
theorem pair_out (h : LF w f b n s P wt) {v u : Int} (hv : (outB n v || outB n u) = true) :
    Calls Try.prog 40 #[.pointer (some ⟨f, 0, none⟩), .int .i64 v, .int .i64 u] w fun e w' => e = .returned (.int .i64 2) ∧ Fr F0 w w' := by
  have HL := Lib.hid h
  have HV := Lib.hid hv
  clear h hv
  go_enter Try.func40, Try.ntmps40
  go_wp2_with (go_at_call 47; refine (LF.check (HL.out.fr0 ((Fr.refl _ _).alloc _)) (rd2 _ _ _) (r := true) (by simp [HV.out])).mono ?_; rintro e w1 ⟨rfl, G1⟩; replace G1 := Lib.hid G1)
  go_ret
  exact ⟨rfl, ((Fr.refl F0 w).alloc _).trans G1.out (fun _ _ h => h)⟩
theorem Root_in (h : LF w f b n s P wt) (hs1 : 0 ≤ s) (hs2 : s ≤ 2305843009213693952) {v : Nat} (hv : v < n) {y : Nat} (hy : Rt P v y) :
    Calls Try.prog 24 #[.pointer (some ⟨f, 0, none⟩), .int .i64 (v : Nat)] w fun e w' => e = .returned (.tuple #[.int .i64 ((y : Int) - 1), .int .i64 0]) ∧ Kp w w' f b n s 3800 P wt := by
  have hsm := h.small
  have HL := Lib.hid h
  have HV := Lib.hid (outB_nat hv)
  have hy' := mem_vts.1 ((way_all h.par hy.choose_spec.1 (mem_succ hv)).1 y (List.mem_of_mem_head? hy.choose_spec.2))
  clear h
  go_enter Try.func24, Try.ntmps24
  go_wp2_with (first
    | (go_at_call 47; refine (LF.check (HL.out.fr0 ((Fr.refl _ _).alloc _)) (rd1 _ _) (r := false) (by simp [HV.out])).mono ?_; rintro e w1 ⟨rfl, G1⟩; replace G1 := Lib.hid G1)
    | (go_at_call 50; refine (LF.rootv ((HL.out.fr0 ((Fr.refl _ _).alloc _)).fr0 G1.out) hs1 hs2 hv hy).mono ?_; rintro e w2 ⟨rfl, K2⟩; replace K2 := Lib.hid K2))
  go_ret2
  exact ⟨rfl, K2.out.pre (((Fr.refl F0 w).alloc _).trans G1.out (fun _ _ h => h))⟩
theorem Evert_in (h : LF w f b n s P wt) (hs1 : 0 ≤ s) (hs2 : s ≤ 2305843009213693952) {v : Nat} (hv : v < n) {P' : Nat → Nat} (hE : Ev n P v P') :
    Calls Try.prog 23 #[.pointer (some ⟨f, 0, none⟩), .int .i64 (v : Nat)] w fun e w' => e = .returned (.int .i64 0) ∧ Kp w w' f b n s 3800 P' wt := by
  have hsm := h.small
  have HL := Lib.hid h
  have HV := Lib.hid (outB_nat hv)
  clear h
  go_enter Try.func23, Try.ntmps23
  go_wp2_with (first
    | (go_at_call 47; refine (LF.check (HL.out.fr0 ((Fr.refl _ _).alloc _)) (rd1 _ _) (r := false) (by simp [HV.out])).mono ?_; rintro e w1 ⟨rfl, G1⟩; replace G1 := Lib.hid G1)
    | (go_at_call 51; refine (LF.evertv ((HL.out.fr0 ((Fr.refl _ _).alloc _)).fr0 G1.out) hs1 hs2 hv hE).mono ?_; rintro e w2 ⟨rfl, K2⟩; replace K2 := Lib.hid K2))
  go_ret
  exact ⟨rfl, K2.out.pre (((Fr.refl F0 w).alloc _).trans G1.out (fun _ _ h => h))⟩
theorem Connected_in (h : LF w f b n s P wt) (hs1 : 0 ≤ s) (hs2 : s ≤ 2305843009213690000) {v u : Nat} (hv : v < n) (hu : u < n) {y z : Nat} (hy : Rt P v y) (hz : Rt P u z) :
    Calls Try.prog 22 #[.pointer (some ⟨f, 0, none⟩), .int .i64 (v : Nat), .int .i64 (u : Nat)] w fun e w' => e = .returned (.tuple #[.bool (decide (y = z)), .int .i64 0]) ∧ Kp w w' f b n s 7600 P wt := by
  have hsm := h.small
  have HL := Lib.hid h
  have HV := Lib.hid (outB_nat hv)
  have HU := Lib.hid (outB_nat hu)
  have hs2' : s + 3800 ≤ 2305843009213693952 := by omega
  clear h
  go_enter Try.func22, Try.ntmps22
  go_wp2_with (first
    | (go_at_call 47; refine (LF.check (HL.out.fr0 ((Fr.refl _ _).alloc _)) (rd2 _ _ _) (r := false) (by simp [HV.out, HU.out])).mono ?_; rintro e w1 ⟨rfl, G1⟩; replace G1 := Lib.hid G1)
    | (go_at_call 50; refine (LF.rootv ((HL.out.fr0 ((Fr.refl _ _).alloc _)).fr0 G1.out) hs1 (by omega) hv hy).mono ?_; rintro e w2 ⟨rfl, s2, t1, t2, K2, F2⟩; replace K2 := Lib.hid K2; replace F2 := Lib.hid F2; clear hy)
    | (go_at_call 50; refine (LF.rootv K2.out (by omega) (by omega) hu hz).mono ?_; rintro e w3 ⟨rfl, K3⟩; replace K3 := Lib.hid K3))
  go_ret2
  refine ⟨?_, Kp.pre (((Fr.refl F0 w).alloc _).trans G1.out (fun _ _ h => h)) (Kp.trans ⟨s2, t1, t2, K2.out, F2.out, K3.out⟩)⟩
  rw [← nat_beq]
  rfl
theorem pair_ok (h : LF w f b n s P wt) (hs1 : 0 ≤ s) (hs2 : s ≤ 2305843009213690000) {v u : Nat} (hv : v < n) (hu : u < n) {y z : Nat} (hy : Rt P v y) (hz : Rt P u z) (hyz : y = z) :
    Calls Try.prog 40 #[.pointer (some ⟨f, 0, none⟩), .int .i64 (v : Nat), .int .i64 (u : Nat)] w fun e w' => e = .returned (.int .i64 0) ∧ Kp w w' f b n s 7600 P wt := by
  have hsm := h.small
  have HL := Lib.hid h
  have HV := Lib.hid (outB_nat hv)
  have HU := Lib.hid (outB_nat hu)
  have hs2' : s + 3800 ≤ 2305843009213693952 := by omega
  subst hyz
  clear h
  go_enter Try.func40, Try.ntmps40
  go_wp2_with (first
    | (go_at_call 47; refine (LF.check (HL.out.fr0 ((Fr.refl _ _).alloc _)) (rd2 _ _ _) (r := false) (by simp [HV.out, HU.out])).mono ?_; rintro e w1 ⟨rfl, G1⟩; replace G1 := Lib.hid G1)
    | (go_at_call 50; refine (LF.rootv ((HL.out.fr0 ((Fr.refl _ _).alloc _)).fr0 G1.out) hs1 (by omega) hv hy).mono ?_; rintro e w2 ⟨rfl, s2, t1, t2, K2, F2⟩; replace K2 := Lib.hid K2; replace F2 := Lib.hid F2; clear hy)
    | (go_at_call 50; refine (LF.rootv K2.out (by omega) (by omega) hu hz).mono ?_; rintro e w3 ⟨rfl, K3⟩; replace K3 := Lib.hid K3))
  go_ret
  exact ⟨rfl, Kp.pre (((Fr.refl F0 w).alloc _).trans G1.out (fun _ _ h => h)) (Kp.trans ⟨s2, t1, t2, K2.out, F2.out, K3.out⟩)⟩
theorem pair_ne (h : LF w f b n s P wt) (hs1 : 0 ≤ s) (hs2 : s ≤ 2305843009213690000) {v u : Nat} (hv : v < n) (hu : u < n) {y z : Nat} (hy : Rt P v y) (hz : Rt P u z) (hyz : y ≠ z) :
    Calls Try.prog 40 #[.pointer (some ⟨f, 0, none⟩), .int .i64 (v : Nat), .int .i64 (u : Nat)] w fun e w' => e = .returned (.int .i64 12) ∧ Kp w w' f b n s 7600 P wt := by
  have hsm := h.small
  have HL := Lib.hid h
  have HV := Lib.hid (outB_nat hv)
  have HU := Lib.hid (outB_nat hu)
  have hs2' : s + 3800 ≤ 2305843009213693952 := by omega
  have hyz' : (y : Int) ≠ z := by omega
  clear h
  go_enter Try.func40, Try.ntmps40
  go_wp2_with (first
    | (go_at_call 47; refine (LF.check (HL.out.fr0 ((Fr.refl _ _).alloc _)) (rd2 _ _ _) (r := false) (by simp [HV.out, HU.out])).mono ?_; rintro e w1 ⟨rfl, G1⟩; replace G1 := Lib.hid G1)
    | (go_at_call 50; refine (LF.rootv ((HL.out.fr0 ((Fr.refl _ _).alloc _)).fr0 G1.out) hs1 (by omega) hv hy).mono ?_; rintro e w2 ⟨rfl, s2, t1, t2, K2, F2⟩; replace K2 := Lib.hid K2; replace F2 := Lib.hid F2; clear hy)
    | (go_at_call 50; refine (LF.rootv K2.out (by omega) (by omega) hu hz).mono ?_; rintro e w3 ⟨rfl, K3⟩; replace K3 := Lib.hid K3))
  go_ret
  exact ⟨rfl, Kp.pre (((Fr.refl F0 w).alloc _).trans G1.out (fun _ _ h => h)) (Kp.trans ⟨s2, t1, t2, K2.out, F2.out, K3.out⟩)⟩
end
end Go.Proofs.Ytfeokafjehpgnaa
