/- The reference: Link, Cut, Set. -/
import Derived.Test.YtfeokafjehpgnaaU11
namespace Go.Proofs.Ytfeokafjehpgnaa
open Go.RowKit
attribute [local go_sem ↓] Go.wp_at_zero Go.wp_at_succ
theorem start2 (w : World) (u v : Value) :
    Fr F0 w ((w.alloc (.cells #[u, v] 28)).alloc (.cells #[.slice none 0 0, .slice none 0 0] 28)) ∧
    Blk ((w.alloc (.cells #[u, v] 28)).alloc (.cells #[.slice none 0 0, .slice none 0 0] 28)) w.heap.size 28 [u, v] ∧
    Blk ((w.alloc (.cells #[u, v] 28)).alloc (.cells #[.slice none 0 0, .slice none 0 0] 28)) (w.heap.size + 1) 28 [.slice none 0 0, .slice none 0 0] := by
  refine ⟨((Fr.refl _ _).alloc _).alloc _, (Blk.new w 28 [u, v]).alloc _, ?_⟩
  have := Blk.new (w.alloc (.cells #[u, v] 28)) 28 [.slice none 0 0, .slice none 0 0]
  rw [size_alloc] at this
  exact this
theorem Fr.res {w w1 : World} (h : Fr F0 w w1) (u v : Value) : Fr F0 w ((w1.setCell ⟨w.heap.size + 1, 0, none⟩ u).setCell ⟨w.heap.size + 1, 1, none⟩ v) :=
  (h.setCell (p := ⟨w.heap.size + 1, 0, none⟩) (fun h => by dsimp only at h; omega) _).setCell (p := ⟨w.heap.size + 1, 1, none⟩) (fun h => by dsimp only at h; omega) _
theorem Rd.at {w : World} {b o n : Nat} {vs : List Value} (h : Rd w (some ⟨b, o, none⟩) n vs) {i : Nat} {u : Value} (hu : vs[i]? = some u) : w.cell? ⟨b, o + i, none⟩ = some u := by
  have hi := (List.getElem?_eq_some_iff.1 hu).1
  obtain ⟨b', o', e, hc⟩ := h.cells (by have := h.len; omega)
  injection e with e
  injection e with e1 e2
  subst e1
  subst e2
  exact hc i u hu
section
variable {w w' : World} {B n : Nat} {wt : Nat → Int} {P : Nat → Nat} {wa pa : Option Addr} {wc pc : Nat}

set_option maxRecDepth 100000 in
theorem refLink_out1 (h : RS w B n wt P wa wc pa pc) {v u : Int} (hv : outB n v = true) :
    Calls Try.prog 57 #[rv n wa wc pa pc, .int .i64 v, .int .i64 u] w fun e w' => e = .returned (.tuple #[rv n wa wc pa pc, .int .i64 2]) ∧ Fr F0 w w' := by
  have HV := Lib.hid hv
  clear hv
  obtain ⟨f2, bx2, br2⟩ := start2 w (.slice wa n wc) (.slice pa n pc)
  obtain ⟨W2, hW2⟩ : ∃ W2, (w.alloc (.cells #[.slice wa n wc, .slice pa n pc] 28)).alloc (.cells #[.slice none 0 0, .slice none 0 0] 28) = W2 := ⟨_, rfl⟩
  have b0 : (w.alloc (.cells #[.slice wa n wc, .slice pa n pc] 28)).cell? ⟨w.heap.size, 0, none⟩ = some (.slice wa n wc) := (Blk.new w 28 [.slice wa n wc, .slice pa n pc]).cell (i := 0) rfl
  have b1 : (w.alloc (.cells #[.slice wa n wc, .slice pa n pc] 28)).cell? ⟨w.heap.size, 1, none⟩ = some (.slice pa n pc) := (Blk.new w 28 [.slice wa n wc, .slice pa n pc]).cell (i := 1) rfl
  rw [hW2] at f2 bx2 br2
  have FF2 := Lib.hid f2
  have HR := Lib.hid (h.fr0 f2)
  have W2e := Lib.hid hW2
  replace bx2 := Lib.hid bx2
  replace br2 := Lib.hid br2
  clear h f2 hW2
  go_enter Try.func57, Try.ntmps57
  go_wp2_with (first
    | (go_at_call 15; rw [W2e.out]; refine (refIs_any HR.out (v)).mono ?_; rintro e w3 ⟨rfl, F1⟩; have FF3 := Lib.hid (FF2.out.trans F1 (fun _ _ h => h)); have bx3 := Lib.hid ((bx2.out).fr F1 id); have br3 := Lib.hid ((br2.out).fr F1 id); replace HR := Lib.hid (HR.out.fr0 F1); clear F1; clear b0 b1; have x0 := (bx3.out).cell (i := 0) rfl; have x1 := (bx3.out).cell (i := 1) rfl; have r0 := (br3.out).cell (i := 0) rfl; have r1 := (br3.out).cell (i := 1) rfl; have y0 := (br3.out).free 0; have y1 := (br3.out).free 1; rw [HV.out]))
  have bE := (br3.out.set 0 (.slice wa n wc)).set 1 (.slice pa n pc)
  have q0 := bE.cell (i := 0) rfl
  have q1 := bE.cell (i := 1) rfl
  refine bodyPost_ret (v := .tuple #[rv n wa wc pa pc, .int .i64 2]) (by simp [results, Try.results57, go_sem, q0, q1]) rfl ⟨rfl, FF3.out.res _ _⟩

set_option maxRecDepth 100000 in
theorem refLink_out2 (h : RS w B n wt P wa wc pa pc) {v u : Int} (hv : outB n v = false) (hu : outB n u = true) :
    Calls Try.prog 57 #[rv n wa wc pa pc, .int .i64 v, .int .i64 u] w fun e w' => e = .returned (.tuple #[rv n wa wc pa pc, .int .i64 2]) ∧ Fr F0 w w' := by
  have HV := Lib.hid hv
  have HU := Lib.hid hu
  clear hv hu
  obtain ⟨f2, bx2, br2⟩ := start2 w (.slice wa n wc) (.slice pa n pc)
  obtain ⟨W2, hW2⟩ : ∃ W2, (w.alloc (.cells #[.slice wa n wc, .slice pa n pc] 28)).alloc (.cells #[.slice none 0 0, .slice none 0 0] 28) = W2 := ⟨_, rfl⟩
  have b0 : (w.alloc (.cells #[.slice wa n wc, .slice pa n pc] 28)).cell? ⟨w.heap.size, 0, none⟩ = some (.slice wa n wc) := (Blk.new w 28 [.slice wa n wc, .slice pa n pc]).cell (i := 0) rfl
  have b1 : (w.alloc (.cells #[.slice wa n wc, .slice pa n pc] 28)).cell? ⟨w.heap.size, 1, none⟩ = some (.slice pa n pc) := (Blk.new w 28 [.slice wa n wc, .slice pa n pc]).cell (i := 1) rfl
  rw [hW2] at f2 bx2 br2
  have FF2 := Lib.hid f2
  have HR := Lib.hid (h.fr0 f2)
  have W2e := Lib.hid hW2
  replace bx2 := Lib.hid bx2
  replace br2 := Lib.hid br2
  clear h f2 hW2
  go_enter Try.func57, Try.ntmps57
  go_wp2_with (first
    | (go_at_call 15; rw [W2e.out]; refine (refIs_any HR.out (v)).mono ?_; rintro e w3 ⟨rfl, F1⟩; have FF3 := Lib.hid (FF2.out.trans F1 (fun _ _ h => h)); have bx3 := Lib.hid ((bx2.out).fr F1 id); have br3 := Lib.hid ((br2.out).fr F1 id); replace HR := Lib.hid (HR.out.fr0 F1); clear F1; clear b0 b1; have x0 := (bx3.out).cell (i := 0) rfl; have x1 := (bx3.out).cell (i := 1) rfl; have r0 := (br3.out).cell (i := 0) rfl; have r1 := (br3.out).cell (i := 1) rfl; have y0 := (br3.out).free 0; have y1 := (br3.out).free 1; rw [HV.out]; clear HV)
    | (go_at_call 15; refine (refIs_any HR.out (u)).mono ?_; rintro e w4 ⟨rfl, F1⟩; have FF4 := Lib.hid (FF3.out.trans F1 (fun _ _ h => h)); have bx4 := Lib.hid ((bx3.out).fr F1 id); have br4 := Lib.hid ((br3.out).fr F1 id); replace HR := Lib.hid (HR.out.fr0 F1); clear F1; clear x0 x1 r0 r1 y0 y1; have x0 := (bx4.out).cell (i := 0) rfl; have x1 := (bx4.out).cell (i := 1) rfl; have r0 := (br4.out).cell (i := 0) rfl; have r1 := (br4.out).cell (i := 1) rfl; have y0 := (br4.out).free 0; have y1 := (br4.out).free 1; rw [HU.out]))
  have bE := (br4.out.set 0 (.slice wa n wc)).set 1 (.slice pa n pc)
  have q0 := bE.cell (i := 0) rfl
  have q1 := bE.cell (i := 1) rfl
  refine bodyPost_ret (v := .tuple #[rv n wa wc pa pc, .int .i64 2]) (by simp [results, Try.results57, go_sem, q0, q1]) rfl ⟨rfl, FF4.out.res _ _⟩

set_option maxRecDepth 100000 in
theorem refCut_out (h : RS w B n wt P wa wc pa pc) {v : Int} (hv : outB n v = true) :
    Calls Try.prog 58 #[rv n wa wc pa pc, .int .i64 v] w fun e w' => e = .returned (.tuple #[rv n wa wc pa pc, .int .i64 2]) ∧ Fr F0 w w' := by
  have HV := Lib.hid hv
  clear hv
  obtain ⟨f2, bx2, br2⟩ := start2 w (.slice wa n wc) (.slice pa n pc)
  obtain ⟨W2, hW2⟩ : ∃ W2, (w.alloc (.cells #[.slice wa n wc, .slice pa n pc] 28)).alloc (.cells #[.slice none 0 0, .slice none 0 0] 28) = W2 := ⟨_, rfl⟩
  have b0 : (w.alloc (.cells #[.slice wa n wc, .slice pa n pc] 28)).cell? ⟨w.heap.size, 0, none⟩ = some (.slice wa n wc) := (Blk.new w 28 [.slice wa n wc, .slice pa n pc]).cell (i := 0) rfl
  have b1 : (w.alloc (.cells #[.slice wa n wc, .slice pa n pc] 28)).cell? ⟨w.heap.size, 1, none⟩ = some (.slice pa n pc) := (Blk.new w 28 [.slice wa n wc, .slice pa n pc]).cell (i := 1) rfl
  rw [hW2] at f2 bx2 br2
  have FF2 := Lib.hid f2
  have HR := Lib.hid (h.fr0 f2)
  have W2e := Lib.hid hW2
  replace bx2 := Lib.hid bx2
  replace br2 := Lib.hid br2
  clear h f2 hW2
  go_enter Try.func58, Try.ntmps58
  go_wp2_with (first
    | (go_at_call 15; rw [W2e.out]; refine (refIs_any HR.out (v)).mono ?_; rintro e w3 ⟨rfl, F1⟩; have FF3 := Lib.hid (FF2.out.trans F1 (fun _ _ h => h)); have bx3 := Lib.hid ((bx2.out).fr F1 id); have br3 := Lib.hid ((br2.out).fr F1 id); replace HR := Lib.hid (HR.out.fr0 F1); clear F1; clear b0 b1; have x0 := (bx3.out).cell (i := 0) rfl; have x1 := (bx3.out).cell (i := 1) rfl; have r0 := (br3.out).cell (i := 0) rfl; have r1 := (br3.out).cell (i := 1) rfl; have y0 := (br3.out).free 0; have y1 := (br3.out).free 1; rw [HV.out]))
  have bE := (br3.out.set 0 (.slice wa n wc)).set 1 (.slice pa n pc)
  have q0 := bE.cell (i := 0) rfl
  have q1 := bE.cell (i := 1) rfl
  refine bodyPost_ret (v := .tuple #[rv n wa wc pa pc, .int .i64 2]) (by simp [results, Try.results58, go_sem, q0, q1]) rfl ⟨rfl, FF3.out.res _ _⟩

set_option maxRecDepth 100000 in
theorem refEvert_out (h : RS w B n wt P wa wc pa pc) {v : Int} (hv : outB n v = true) :
    Calls Try.prog 59 #[rv n wa wc pa pc, .int .i64 v] w fun e w' => e = .returned (.tuple #[rv n wa wc pa pc, .int .i64 2]) ∧ Fr F0 w w' := by
  have HV := Lib.hid hv
  clear hv
  obtain ⟨f2, bx2, br2⟩ := start2 w (.slice wa n wc) (.slice pa n pc)
  obtain ⟨W2, hW2⟩ : ∃ W2, (w.alloc (.cells #[.slice wa n wc, .slice pa n pc] 28)).alloc (.cells #[.slice none 0 0, .slice none 0 0] 28) = W2 := ⟨_, rfl⟩
  have b0 : (w.alloc (.cells #[.slice wa n wc, .slice pa n pc] 28)).cell? ⟨w.heap.size, 0, none⟩ = some (.slice wa n wc) := (Blk.new w 28 [.slice wa n wc, .slice pa n pc]).cell (i := 0) rfl
  have b1 : (w.alloc (.cells #[.slice wa n wc, .slice pa n pc] 28)).cell? ⟨w.heap.size, 1, none⟩ = some (.slice pa n pc) := (Blk.new w 28 [.slice wa n wc, .slice pa n pc]).cell (i := 1) rfl
  rw [hW2] at f2 bx2 br2
  have FF2 := Lib.hid f2
  have HR := Lib.hid (h.fr0 f2)
  have W2e := Lib.hid hW2
  replace bx2 := Lib.hid bx2
  replace br2 := Lib.hid br2
  clear h f2 hW2
  go_enter Try.func59, Try.ntmps59
  go_wp2_with (first
    | (go_at_call 15; rw [W2e.out]; refine (refIs_any HR.out (v)).mono ?_; rintro e w3 ⟨rfl, F1⟩; have FF3 := Lib.hid (FF2.out.trans F1 (fun _ _ h => h)); have bx3 := Lib.hid ((bx2.out).fr F1 id); have br3 := Lib.hid ((br2.out).fr F1 id); replace HR := Lib.hid (HR.out.fr0 F1); clear F1; clear b0 b1; have x0 := (bx3.out).cell (i := 0) rfl; have x1 := (bx3.out).cell (i := 1) rfl; have r0 := (br3.out).cell (i := 0) rfl; have r1 := (br3.out).cell (i := 1) rfl; have y0 := (br3.out).free 0; have y1 := (br3.out).free 1; rw [HV.out]))
  have bE := (br3.out.set 0 (.slice wa n wc)).set 1 (.slice pa n pc)
  have q0 := bE.cell (i := 0) rfl
  have q1 := bE.cell (i := 1) rfl
  refine bodyPost_ret (v := .tuple #[rv n wa wc pa pc, .int .i64 2]) (by simp [results, Try.results59, go_sem, q0, q1]) rfl ⟨rfl, FF3.out.res _ _⟩

theorem weight0 (w : World) (x : Int) : Calls Try.prog 56 #[.int .i64 x] w fun e w' => e = .returned (.bool (decide (-1048576 ≤ x) && decide (x ≤ 1048576))) ∧ Fr F0 w w' :=
  (refweight_any w x).mono (fun e w1 hh => ⟨hh.1, hh.2 ▸ Fr.refl F0 w⟩)
set_option maxRecDepth 100000 in
theorem refSet_arg (h : RS w B n wt P wa wc pa pc) {v x : Int} (hx : (decide (-1048576 ≤ x) && decide (x ≤ 1048576)) = false) :
    Calls Try.prog 60 #[rv n wa wc pa pc, .int .i64 v, .int .i64 x] w fun e w' => e = .returned (.tuple #[rv n wa wc pa pc, .int .i64 1]) ∧ Fr F0 w w' := by
  have HX := Lib.hid hx
  clear hx
  obtain ⟨f2, bx2, br2⟩ := start2 w (.slice wa n wc) (.slice pa n pc)
  obtain ⟨W2, hW2⟩ : ∃ W2, (w.alloc (.cells #[.slice wa n wc, .slice pa n pc] 28)).alloc (.cells #[.slice none 0 0, .slice none 0 0] 28) = W2 := ⟨_, rfl⟩
  have b0 : (w.alloc (.cells #[.slice wa n wc, .slice pa n pc] 28)).cell? ⟨w.heap.size, 0, none⟩ = some (.slice wa n wc) := (Blk.new w 28 [.slice wa n wc, .slice pa n pc]).cell (i := 0) rfl
  have b1 : (w.alloc (.cells #[.slice wa n wc, .slice pa n pc] 28)).cell? ⟨w.heap.size, 1, none⟩ = some (.slice pa n pc) := (Blk.new w 28 [.slice wa n wc, .slice pa n pc]).cell (i := 1) rfl
  rw [hW2] at f2 bx2 br2
  have FF2 := Lib.hid f2
  have HR := Lib.hid (h.fr0 f2)
  have W2e := Lib.hid hW2
  replace bx2 := Lib.hid bx2
  replace br2 := Lib.hid br2
  clear h f2 hW2
  go_enter Try.func60, Try.ntmps60
  go_wp2_with (first
    | (go_at_call 56; rw [W2e.out]; refine (weight0 _ x).mono ?_; rintro e w3 ⟨rfl, F1⟩; have FF3 := Lib.hid (FF2.out.trans F1 (fun _ _ h => h)); have bx3 := Lib.hid ((bx2.out).fr F1 id); have br3 := Lib.hid ((br2.out).fr F1 id); replace HR := Lib.hid (HR.out.fr0 F1); clear F1; clear b0 b1; have x0 := (bx3.out).cell (i := 0) rfl; have x1 := (bx3.out).cell (i := 1) rfl; have r0 := (br3.out).cell (i := 0) rfl; have r1 := (br3.out).cell (i := 1) rfl; have y0 := (br3.out).free 0; have y1 := (br3.out).free 1; rw [HX.out]))
  have bE := (br3.out.set 0 (.slice wa n wc)).set 1 (.slice pa n pc)
  have q0 := bE.cell (i := 0) rfl
  have q1 := bE.cell (i := 1) rfl
  refine bodyPost_ret (v := .tuple #[rv n wa wc pa pc, .int .i64 1]) (by simp [results, Try.results60, go_sem, q0, q1]) rfl ⟨rfl, FF3.out.res _ _⟩

set_option maxRecDepth 100000 in
theorem refSet_out (h : RS w B n wt P wa wc pa pc) {v x : Int} (hx : (decide (-1048576 ≤ x) && decide (x ≤ 1048576)) = true) (hv : outB n v = true) :
    Calls Try.prog 60 #[rv n wa wc pa pc, .int .i64 v, .int .i64 x] w fun e w' => e = .returned (.tuple #[rv n wa wc pa pc, .int .i64 2]) ∧ Fr F0 w w' := by
  have HX := Lib.hid hx
  have HV := Lib.hid hv
  clear hx hv
  obtain ⟨f2, bx2, br2⟩ := start2 w (.slice wa n wc) (.slice pa n pc)
  obtain ⟨W2, hW2⟩ : ∃ W2, (w.alloc (.cells #[.slice wa n wc, .slice pa n pc] 28)).alloc (.cells #[.slice none 0 0, .slice none 0 0] 28) = W2 := ⟨_, rfl⟩
  have b0 : (w.alloc (.cells #[.slice wa n wc, .slice pa n pc] 28)).cell? ⟨w.heap.size, 0, none⟩ = some (.slice wa n wc) := (Blk.new w 28 [.slice wa n wc, .slice pa n pc]).cell (i := 0) rfl
  have b1 : (w.alloc (.cells #[.slice wa n wc, .slice pa n pc] 28)).cell? ⟨w.heap.size, 1, none⟩ = some (.slice pa n pc) := (Blk.new w 28 [.slice wa n wc, .slice pa n pc]).cell (i := 1) rfl
  rw [hW2] at f2 bx2 br2
  have FF2 := Lib.hid f2
  have HR := Lib.hid (h.fr0 f2)
  have W2e := Lib.hid hW2
  replace bx2 := Lib.hid bx2
  replace br2 := Lib.hid br2
  clear h f2 hW2
  go_enter Try.func60, Try.ntmps60
  go_wp2_with (first
    | (go_at_call 56; rw [W2e.out]; refine (weight0 _ x).mono ?_; rintro e w3 ⟨rfl, F1⟩; have FF3 := Lib.hid (FF2.out.trans F1 (fun _ _ h => h)); have bx3 := Lib.hid ((bx2.out).fr F1 id); have br3 := Lib.hid ((br2.out).fr F1 id); replace HR := Lib.hid (HR.out.fr0 F1); clear F1; clear b0 b1; have x0 := (bx3.out).cell (i := 0) rfl; have x1 := (bx3.out).cell (i := 1) rfl; have r0 := (br3.out).cell (i := 0) rfl; have r1 := (br3.out).cell (i := 1) rfl; have y0 := (br3.out).free 0; have y1 := (br3.out).free 1; rw [HX.out])
    | (go_at_call 15; refine (refIs_any HR.out (v)).mono ?_; rintro e w4 ⟨rfl, F1⟩; have FF4 := Lib.hid (FF3.out.trans F1 (fun _ _ h => h)); have bx4 := Lib.hid ((bx3.out).fr F1 id); have br4 := Lib.hid ((br3.out).fr F1 id); replace HR := Lib.hid (HR.out.fr0 F1); clear F1; clear x0 x1 r0 r1 y0 y1; have x0 := (bx4.out).cell (i := 0) rfl; have x1 := (bx4.out).cell (i := 1) rfl; have r0 := (br4.out).cell (i := 0) rfl; have r1 := (br4.out).cell (i := 1) rfl; have y0 := (br4.out).free 0; have y1 := (br4.out).free 1; rw [HV.out]))
  have bE := (br4.out.set 0 (.slice wa n wc)).set 1 (.slice pa n pc)
  have q0 := bE.cell (i := 0) rfl
  have q1 := bE.cell (i := 1) rfl
  refine bodyPost_ret (v := .tuple #[rv n wa wc pa pc, .int .i64 2]) (by simp [results, Try.results60, go_sem, q0, q1]) rfl ⟨rfl, FF4.out.res _ _⟩

set_option maxRecDepth 100000 in
theorem refLink_state (h : RS w B n wt P wa wc pa pc) {v u : Nat} (hv : v < n) (hu : u < n) (h0 : P (v + 1) ≠ 0) :
    Calls Try.prog 57 #[rv n wa wc pa pc, .int .i64 (v : Nat), .int .i64 (u : Nat)] w fun e w' => e = .returned (.tuple #[rv n wa wc pa pc, .int .i64 13]) ∧ Fr F0 w w' := by
  obtain ⟨pb, po, hpa, -⟩ := h.ps.cells (by omega)
  subst hpa
  have HV := Lib.hid (outB_nat hv)
  have HU := Lib.hid (outB_nat hu)
  have HQV : Hid ((ints (QL n P))[v]? = some (.int .i64 ((P (v + 1) : Int) - 1))) := Lib.hid (by unfold ints; rw [List.getElem?_map, QL_get hv]; rfl)
  have hvi : (v : Int) < (n : Int) := by omega
  have h0' : ¬ ((P (v + 1) : Int) - 1 < 0) := by omega
  obtain ⟨f2, bx2, br2⟩ := start2 w (.slice wa n wc) (.slice (some ⟨pb, po, none⟩) n pc)
  obtain ⟨W2, hW2⟩ : ∃ W2, (w.alloc (.cells #[.slice wa n wc, .slice (some ⟨pb, po, none⟩) n pc] 28)).alloc (.cells #[.slice none 0 0, .slice none 0 0] 28) = W2 := ⟨_, rfl⟩
  have b0 : (w.alloc (.cells #[.slice wa n wc, .slice (some ⟨pb, po, none⟩) n pc] 28)).cell? ⟨w.heap.size, 0, none⟩ = some (.slice wa n wc) := (Blk.new w 28 [.slice wa n wc, .slice (some ⟨pb, po, none⟩) n pc]).cell (i := 0) rfl
  have b1 : (w.alloc (.cells #[.slice wa n wc, .slice (some ⟨pb, po, none⟩) n pc] 28)).cell? ⟨w.heap.size, 1, none⟩ = some (.slice (some ⟨pb, po, none⟩) n pc) := (Blk.new w 28 [.slice wa n wc, .slice (some ⟨pb, po, none⟩) n pc]).cell (i := 1) rfl
  rw [hW2] at f2 bx2 br2
  have FF2 := Lib.hid f2
  have HR := Lib.hid (h.fr0 f2)
  have W2e := Lib.hid hW2
  replace bx2 := Lib.hid bx2
  replace br2 := Lib.hid br2
  clear h f2 hW2
  go_enter Try.func57, Try.ntmps57
  go_wp2_with (first
    | (go_at_call 15; rw [W2e.out]; refine (refIs_any HR.out (v : Nat)).mono ?_; rintro e w3 ⟨rfl, F1⟩; have FF3 := Lib.hid (FF2.out.trans F1 (fun _ _ h => h)); have bx3 := Lib.hid ((bx2.out).fr F1 id); have br3 := Lib.hid ((br2.out).fr F1 id); replace HR := Lib.hid (HR.out.fr0 F1); clear F1; clear b0 b1; have x0 := (bx3.out).cell (i := 0) rfl; have x1 := (bx3.out).cell (i := 1) rfl; have r0 := (br3.out).cell (i := 0) rfl; have r1 := (br3.out).cell (i := 1) rfl; have y0 := (br3.out).free 0; have y1 := (br3.out).free 1; rw [HV.out]; clear HV)
    | (go_at_call 15; refine (refIs_any HR.out (u : Nat)).mono ?_; rintro e w4 ⟨rfl, F1⟩; have FF4 := Lib.hid (FF3.out.trans F1 (fun _ _ h => h)); have bx4 := Lib.hid ((bx3.out).fr F1 id); have br4 := Lib.hid ((br3.out).fr F1 id); replace HR := Lib.hid (HR.out.fr0 F1); clear F1; clear x0 x1 r0 r1 y0 y1; have x0 := (bx4.out).cell (i := 0) rfl; have x1 := (bx4.out).cell (i := 1) rfl; have r0 := (br4.out).cell (i := 0) rfl; have r1 := (br4.out).cell (i := 1) rfl; have y0 := (br4.out).free 0; have y1 := (br4.out).free 1; rw [HU.out]; have dv := HR.out.ps.at HQV.out))
  have bE := (br4.out.set 0 (.slice wa n wc)).set 1 (.slice (some ⟨pb, po, none⟩) n pc)
  have q0 := bE.cell (i := 0) rfl
  have q1 := bE.cell (i := 1) rfl
  refine bodyPost_ret (v := .tuple #[rv n wa wc (some ⟨pb, po, none⟩) pc, .int .i64 13]) (by simp [results, Try.results57, go_sem, q0, q1]) rfl ⟨rfl, FF4.out.res _ _⟩

set_option maxRecDepth 100000 in
theorem refLink_cycle (h : RS w B n wt P wa wc pa pc) (hp : K.Par P (vts n)) (hn : n ≤ 60) {v u : Nat} (hv : v < n) (hu : u < n) (h0 : P (v + 1) = 0) (hz : Rt P u (v + 1)) :
    Calls Try.prog 57 #[rv n wa wc pa pc, .int .i64 (v : Nat), .int .i64 (u : Nat)] w fun e w' => e = .returned (.tuple #[rv n wa wc pa pc, .int .i64 16]) ∧ Fr F0 w w' := by
  obtain ⟨pb, po, hpa, -⟩ := h.ps.cells (by omega)
  subst hpa
  have HV := Lib.hid (outB_nat hv)
  have HU := Lib.hid (outB_nat hu)
  have HQV : Hid ((ints (QL n P))[v]? = some (.int .i64 ((P (v + 1) : Int) - 1))) := Lib.hid (by unfold ints; rw [List.getElem?_map, QL_get hv]; rfl)
  have hvi : (v : Int) < (n : Int) := by omega
  rw [h0] at HQV
  have hzz : (((v + 1 : Nat) : Int) - 1) = (v : Int) := by omega
  obtain ⟨f2, bx2, br2⟩ := start2 w (.slice wa n wc) (.slice (some ⟨pb, po, none⟩) n pc)
  obtain ⟨W2, hW2⟩ : ∃ W2, (w.alloc (.cells #[.slice wa n wc, .slice (some ⟨pb, po, none⟩) n pc] 28)).alloc (.cells #[.slice none 0 0, .slice none 0 0] 28) = W2 := ⟨_, rfl⟩
  have b0 : (w.alloc (.cells #[.slice wa n wc, .slice (some ⟨pb, po, none⟩) n pc] 28)).cell? ⟨w.heap.size, 0, none⟩ = some (.slice wa n wc) := (Blk.new w 28 [.slice wa n wc, .slice (some ⟨pb, po, none⟩) n pc]).cell (i := 0) rfl
  have b1 : (w.alloc (.cells #[.slice wa n wc, .slice (some ⟨pb, po, none⟩) n pc] 28)).cell? ⟨w.heap.size, 1, none⟩ = some (.slice (some ⟨pb, po, none⟩) n pc) := (Blk.new w 28 [.slice wa n wc, .slice (some ⟨pb, po, none⟩) n pc]).cell (i := 1) rfl
  rw [hW2] at f2 bx2 br2
  have FF2 := Lib.hid f2
  have HR := Lib.hid (h.fr0 f2)
  have W2e := Lib.hid hW2
  replace bx2 := Lib.hid bx2
  replace br2 := Lib.hid br2
  clear h f2 hW2
  go_enter Try.func57, Try.ntmps57
  go_wp2_with (first
    | (go_at_call 15; rw [W2e.out]; refine (refIs_any HR.out (v : Nat)).mono ?_; rintro e w3 ⟨rfl, F1⟩; have FF3 := Lib.hid (FF2.out.trans F1 (fun _ _ h => h)); have bx3 := Lib.hid ((bx2.out).fr F1 id); have br3 := Lib.hid ((br2.out).fr F1 id); replace HR := Lib.hid (HR.out.fr0 F1); clear F1; clear b0 b1; have x0 := (bx3.out).cell (i := 0) rfl; have x1 := (bx3.out).cell (i := 1) rfl; have r0 := (br3.out).cell (i := 0) rfl; have r1 := (br3.out).cell (i := 1) rfl; have y0 := (br3.out).free 0; have y1 := (br3.out).free 1; rw [HV.out]; clear HV)
    | (go_at_call 15; refine (refIs_any HR.out (u : Nat)).mono ?_; rintro e w4 ⟨rfl, F1⟩; have FF4 := Lib.hid (FF3.out.trans F1 (fun _ _ h => h)); have bx4 := Lib.hid ((bx3.out).fr F1 id); have br4 := Lib.hid ((br3.out).fr F1 id); replace HR := Lib.hid (HR.out.fr0 F1); clear F1; clear x0 x1 r0 r1 y0 y1; have x0 := (bx4.out).cell (i := 0) rfl; have x1 := (bx4.out).cell (i := 1) rfl; have r0 := (br4.out).cell (i := 0) rfl; have r1 := (br4.out).cell (i := 1) rfl; have y0 := (br4.out).free 0; have y1 := (br4.out).free 1; rw [HU.out]; have dv := HR.out.ps.at HQV.out)
    | (go_at_call 32; refine (refRoot_any hp HR.out hu hn hz).mono ?_; rintro e w5 ⟨rfl, F1⟩; have FF5 := Lib.hid (FF4.out.trans F1 (fun _ _ h => h)); have bx5 := Lib.hid ((bx4.out).fr F1 id); have br5 := Lib.hid ((br4.out).fr F1 id); replace HR := Lib.hid (HR.out.fr0 F1); clear F1; clear x0 x1 r0 r1 y0 y1; have x0 := (bx5.out).cell (i := 0) rfl; have x1 := (bx5.out).cell (i := 1) rfl; have r0 := (br5.out).cell (i := 0) rfl; have r1 := (br5.out).cell (i := 1) rfl; have y0 := (br5.out).free 0; have y1 := (br5.out).free 1))
  have bE := (br5.out.set 0 (.slice wa n wc)).set 1 (.slice (some ⟨pb, po, none⟩) n pc)
  have q0 := bE.cell (i := 0) rfl
  have q1 := bE.cell (i := 1) rfl
  refine bodyPost_ret (v := .tuple #[rv n wa wc (some ⟨pb, po, none⟩) pc, .int .i64 16]) (by simp [results, Try.results57, go_sem, q0, q1]) rfl ⟨rfl, FF5.out.res _ _⟩

set_option maxRecDepth 100000 in
theorem refCut_state (h : RS w B n wt P wa wc pa pc) {v : Nat} (hv : v < n) (h0 : P (v + 1) = 0) :
    Calls Try.prog 58 #[rv n wa wc pa pc, .int .i64 (v : Nat)] w fun e w' => e = .returned (.tuple #[rv n wa wc pa pc, .int .i64 13]) ∧ Fr F0 w w' := by
  obtain ⟨pb, po, hpa, -⟩ := h.ps.cells (by omega)
  subst hpa
  have HV := Lib.hid (outB_nat hv)
  have HQV : Hid ((ints (QL n P))[v]? = some (.int .i64 ((P (v + 1) : Int) - 1))) := Lib.hid (by unfold ints; rw [List.getElem?_map, QL_get hv]; rfl)
  have hvi : (v : Int) < (n : Int) := by omega
  rw [h0] at HQV
  obtain ⟨f2, bx2, br2⟩ := start2 w (.slice wa n wc) (.slice (some ⟨pb, po, none⟩) n pc)
  obtain ⟨W2, hW2⟩ : ∃ W2, (w.alloc (.cells #[.slice wa n wc, .slice (some ⟨pb, po, none⟩) n pc] 28)).alloc (.cells #[.slice none 0 0, .slice none 0 0] 28) = W2 := ⟨_, rfl⟩
  have b0 : (w.alloc (.cells #[.slice wa n wc, .slice (some ⟨pb, po, none⟩) n pc] 28)).cell? ⟨w.heap.size, 0, none⟩ = some (.slice wa n wc) := (Blk.new w 28 [.slice wa n wc, .slice (some ⟨pb, po, none⟩) n pc]).cell (i := 0) rfl
  have b1 : (w.alloc (.cells #[.slice wa n wc, .slice (some ⟨pb, po, none⟩) n pc] 28)).cell? ⟨w.heap.size, 1, none⟩ = some (.slice (some ⟨pb, po, none⟩) n pc) := (Blk.new w 28 [.slice wa n wc, .slice (some ⟨pb, po, none⟩) n pc]).cell (i := 1) rfl
  rw [hW2] at f2 bx2 br2
  have FF2 := Lib.hid f2
  have HR := Lib.hid (h.fr0 f2)
  have W2e := Lib.hid hW2
  replace bx2 := Lib.hid bx2
  replace br2 := Lib.hid br2
  clear h f2 hW2
  go_enter Try.func58, Try.ntmps58
  go_wp2_with (first
    | (go_at_call 15; rw [W2e.out]; refine (refIs_any HR.out (v : Nat)).mono ?_; rintro e w3 ⟨rfl, F1⟩; have FF3 := Lib.hid (FF2.out.trans F1 (fun _ _ h => h)); have bx3 := Lib.hid ((bx2.out).fr F1 id); have br3 := Lib.hid ((br2.out).fr F1 id); replace HR := Lib.hid (HR.out.fr0 F1); clear F1; clear b0 b1; have x0 := (bx3.out).cell (i := 0) rfl; have x1 := (bx3.out).cell (i := 1) rfl; have r0 := (br3.out).cell (i := 0) rfl; have r1 := (br3.out).cell (i := 1) rfl; have y0 := (br3.out).free 0; have y1 := (br3.out).free 1; rw [HV.out]; have dv := HR.out.ps.at HQV.out))
  have bE := (br3.out.set 0 (.slice wa n wc)).set 1 (.slice (some ⟨pb, po, none⟩) n pc)
  have q0 := bE.cell (i := 0) rfl
  have q1 := bE.cell (i := 1) rfl
  refine bodyPost_ret (v := .tuple #[rv n wa wc (some ⟨pb, po, none⟩) pc, .int .i64 13]) (by simp [results, Try.results58, go_sem, q0, q1]) rfl ⟨rfl, FF3.out.res _ _⟩

set_option maxRecDepth 100000 in
theorem refLink_ok (h : RS w B n wt P wa wc pa pc) (hB : B ≤ w.heap.size) (hp : K.Par P (vts n)) (hn : n ≤ 60) {v u : Nat} (hv : v < n) (hu : u < n) (h0 : P (v + 1) = 0) {z : Nat} (hz : Rt P u z) (hzv : z ≠ v + 1) {P' : Nat → Nat} (h1 : P' (v + 1) = u + 1) (h2 : ∀ z ∈ vts n, z ≠ v + 1 → P' z = P z) :
    Calls Try.prog 57 #[rv n wa wc pa pc, .int .i64 (v : Nat), .int .i64 (u : Nat)] w fun e w' => ∃ pa' pc', e = .returned (.tuple #[rv n wa wc pa' pc', .int .i64 0]) ∧ RS w' B n wt P' wa wc pa' pc' ∧ Fr F0 w w' := by
  obtain ⟨pb, po, hpa, -⟩ := h.ps.cells (by omega)
  subst hpa
  have H0 := Lib.hid h
  have HV := Lib.hid (outB_nat hv)
  have HU := Lib.hid (outB_nat hu)
  have HQV : Hid ((ints (QL n P))[v]? = some (.int .i64 ((P (v + 1) : Int) - 1))) := Lib.hid (by unfold ints; rw [List.getElem?_map, QL_get hv]; rfl)
  have hvi : (v : Int) < (n : Int) := by omega
  rw [h0] at HQV
  have hzz : ((z : Int) - 1) ≠ (v : Int) := by omega
  obtain ⟨f2, bx2, br2⟩ := start2 w (.slice wa n wc) (.slice (some ⟨pb, po, none⟩) n pc)
  obtain ⟨W2, hW2⟩ : ∃ W2, (w.alloc (.cells #[.slice wa n wc, .slice (some ⟨pb, po, none⟩) n pc] 28)).alloc (.cells #[.slice none 0 0, .slice none 0 0] 28) = W2 := ⟨_, rfl⟩
  have b0 : (w.alloc (.cells #[.slice wa n wc, .slice (some ⟨pb, po, none⟩) n pc] 28)).cell? ⟨w.heap.size, 0, none⟩ = some (.slice wa n wc) := (Blk.new w 28 [.slice wa n wc, .slice (some ⟨pb, po, none⟩) n pc]).cell (i := 0) rfl
  have b1 : (w.alloc (.cells #[.slice wa n wc, .slice (some ⟨pb, po, none⟩) n pc] 28)).cell? ⟨w.heap.size, 1, none⟩ = some (.slice (some ⟨pb, po, none⟩) n pc) := (Blk.new w 28 [.slice wa n wc, .slice (some ⟨pb, po, none⟩) n pc]).cell (i := 1) rfl
  rw [hW2] at f2 bx2 br2
  have FF2 := Lib.hid f2
  have HR := Lib.hid (h.fr0 f2)
  have W2e := Lib.hid hW2
  replace bx2 := Lib.hid bx2
  replace br2 := Lib.hid br2
  clear h f2 hW2
  go_enter Try.func57, Try.ntmps57
  go_wp2_with (first
    | (go_at_call 15; rw [W2e.out]; refine (refIs_any HR.out (v : Nat)).mono ?_; rintro e w3 ⟨rfl, F1⟩; have FF3 := Lib.hid (FF2.out.trans F1 (fun _ _ h => h)); have bx3 := Lib.hid ((bx2.out).fr F1 id); have br3 := Lib.hid ((br2.out).fr F1 id); replace HR := Lib.hid (HR.out.fr0 F1); clear F1; clear b0 b1; have x0 := (bx3.out).cell (i := 0) rfl; have x1 := (bx3.out).cell (i := 1) rfl; have r0 := (br3.out).cell (i := 0) rfl; have r1 := (br3.out).cell (i := 1) rfl; have y0 := (br3.out).free 0; have y1 := (br3.out).free 1; rw [HV.out]; clear HV)
    | (go_at_call 15; refine (refIs_any HR.out (u : Nat)).mono ?_; rintro e w4 ⟨rfl, F1⟩; have FF4 := Lib.hid (FF3.out.trans F1 (fun _ _ h => h)); have bx4 := Lib.hid ((bx3.out).fr F1 id); have br4 := Lib.hid ((br3.out).fr F1 id); replace HR := Lib.hid (HR.out.fr0 F1); clear F1; clear x0 x1 r0 r1 y0 y1; have x0 := (bx4.out).cell (i := 0) rfl; have x1 := (bx4.out).cell (i := 1) rfl; have r0 := (br4.out).cell (i := 0) rfl; have r1 := (br4.out).cell (i := 1) rfl; have y0 := (br4.out).free 0; have y1 := (br4.out).free 1; rw [HU.out]; have dv := HR.out.ps.at HQV.out)
    | (go_at_call 32; refine (refRoot_any hp HR.out hu hn hz).mono ?_; rintro e w5 ⟨rfl, F1⟩; have FF5 := Lib.hid (FF4.out.trans F1 (fun _ _ h => h)); have bx5 := Lib.hid ((bx4.out).fr F1 id); have br5 := Lib.hid ((br4.out).fr F1 id); replace HR := Lib.hid (HR.out.fr0 F1); clear F1; clear x0 x1 r0 r1 y0 y1; have x0 := (bx5.out).cell (i := 0) rfl; have x1 := (bx5.out).cell (i := 1) rfl; have r0 := (br5.out).cell (i := 0) rfl; have r1 := (br5.out).cell (i := 1) rfl; have y0 := (br5.out).free 0; have y1 := (br5.out).free 1)
    | (go_at_call 67; refine (with_any HR.out (by have := FF5.out.size; omega) hv hn (q := u + 1) (x := (u : Int)) (by omega) h1 h2).mono ?_; rintro e w6 ⟨pa', pc', rfl, R1, F1, hk1⟩; have hsz1 : w.heap.size + 1 < w5.heap.size := (br5.out).lt; have FF6 := Lib.hid (FF5.out.trans F1 (fun _ _ h => h)); have bx6 := Lib.hid ((bx5.out).fr F1 id); have br6 := Lib.hid ((br5.out).fr F1 id); replace R1 := Lib.hid R1; clear F1; clear x0 x1 r0 r1 y0 y1; have x0 := (bx6.out).cell (i := 0) rfl; have x1 := (bx6.out).cell (i := 1) rfl; have r0 := (br6.out).cell (i := 0) rfl; have r1 := (br6.out).cell (i := 1) rfl; have y0 := (br6.out).free 0; have y1 := (br6.out).free 1))
  have bE := (br6.out.set 0 (.slice wa n wc)).set 1 (.slice pa' n pc')
  have q0 := bE.cell (i := 0) rfl
  have q1 := bE.cell (i := 1) rfl
  refine bodyPost_ret (v := .tuple #[rv n wa wc pa' pc', .int .i64 0]) (by simp [results, Try.results57, go_sem, q0, q1]) rfl ⟨_, _, rfl, ⟨H0.out.ws.fr0 (FF6.out.res _ _), R1.out.ps.fr (((Fr.refl (fun k => k = w.heap.size + 1) _).setCell (p := ⟨w.heap.size + 1, 0, none⟩) (fun _ => rfl) _).setCell (p := ⟨w.heap.size + 1, 1, none⟩) (fun _ => rfl) _) (fun k hk e => by have := hk1 k hk; omega), H0.out.wb, R1.out.pb⟩, FF6.out.res _ _⟩

set_option maxRecDepth 100000 in
theorem refCut_ok (h : RS w B n wt P wa wc pa pc) (hB : B ≤ w.heap.size) (hn : n ≤ 60) {v : Nat} (hv : v < n) (h0 : P (v + 1) ≠ 0) {P' : Nat → Nat} (h1 : P' (v + 1) = 0) (h2 : ∀ z ∈ vts n, z ≠ v + 1 → P' z = P z) :
    Calls Try.prog 58 #[rv n wa wc pa pc, .int .i64 (v : Nat)] w fun e w' => ∃ pa' pc', e = .returned (.tuple #[rv n wa wc pa' pc', .int .i64 0]) ∧ RS w' B n wt P' wa wc pa' pc' ∧ Fr F0 w w' := by
  obtain ⟨pb, po, hpa, -⟩ := h.ps.cells (by omega)
  subst hpa
  have H0 := Lib.hid h
  have HV := Lib.hid (outB_nat hv)
  have HQV : Hid ((ints (QL n P))[v]? = some (.int .i64 ((P (v + 1) : Int) - 1))) := Lib.hid (by unfold ints; rw [List.getElem?_map, QL_get hv]; rfl)
  have hvi : (v : Int) < (n : Int) := by omega
  have h0' : ¬ ((P (v + 1) : Int) - 1 < 0) := by omega
  obtain ⟨f2, bx2, br2⟩ := start2 w (.slice wa n wc) (.slice (some ⟨pb, po, none⟩) n pc)
  obtain ⟨W2, hW2⟩ : ∃ W2, (w.alloc (.cells #[.slice wa n wc, .slice (some ⟨pb, po, none⟩) n pc] 28)).alloc (.cells #[.slice none 0 0, .slice none 0 0] 28) = W2 := ⟨_, rfl⟩
  have b0 : (w.alloc (.cells #[.slice wa n wc, .slice (some ⟨pb, po, none⟩) n pc] 28)).cell? ⟨w.heap.size, 0, none⟩ = some (.slice wa n wc) := (Blk.new w 28 [.slice wa n wc, .slice (some ⟨pb, po, none⟩) n pc]).cell (i := 0) rfl
  have b1 : (w.alloc (.cells #[.slice wa n wc, .slice (some ⟨pb, po, none⟩) n pc] 28)).cell? ⟨w.heap.size, 1, none⟩ = some (.slice (some ⟨pb, po, none⟩) n pc) := (Blk.new w 28 [.slice wa n wc, .slice (some ⟨pb, po, none⟩) n pc]).cell (i := 1) rfl
  rw [hW2] at f2 bx2 br2
  have FF2 := Lib.hid f2
  have HR := Lib.hid (h.fr0 f2)
  have W2e := Lib.hid hW2
  replace bx2 := Lib.hid bx2
  replace br2 := Lib.hid br2
  clear h f2 hW2
  go_enter Try.func58, Try.ntmps58
  go_wp2_with (first
    | (go_at_call 15; rw [W2e.out]; refine (refIs_any HR.out (v : Nat)).mono ?_; rintro e w3 ⟨rfl, F1⟩; have FF3 := Lib.hid (FF2.out.trans F1 (fun _ _ h => h)); have bx3 := Lib.hid ((bx2.out).fr F1 id); have br3 := Lib.hid ((br2.out).fr F1 id); replace HR := Lib.hid (HR.out.fr0 F1); clear F1; clear b0 b1; have x0 := (bx3.out).cell (i := 0) rfl; have x1 := (bx3.out).cell (i := 1) rfl; have r0 := (br3.out).cell (i := 0) rfl; have r1 := (br3.out).cell (i := 1) rfl; have y0 := (br3.out).free 0; have y1 := (br3.out).free 1; rw [HV.out]; have dv := HR.out.ps.at HQV.out)
    | (go_at_call 67; refine (with_any HR.out (by have := FF3.out.size; omega) hv hn (q := 0) (x := -1) (by omega) h1 h2).mono ?_; rintro e w4 ⟨pa', pc', rfl, R1, F1, hk1⟩; have hsz1 : w.heap.size + 1 < w3.heap.size := (br3.out).lt; have FF4 := Lib.hid (FF3.out.trans F1 (fun _ _ h => h)); have bx4 := Lib.hid ((bx3.out).fr F1 id); have br4 := Lib.hid ((br3.out).fr F1 id); replace R1 := Lib.hid R1; clear F1; clear x0 x1 r0 r1 y0 y1; have x0 := (bx4.out).cell (i := 0) rfl; have x1 := (bx4.out).cell (i := 1) rfl; have r0 := (br4.out).cell (i := 0) rfl; have r1 := (br4.out).cell (i := 1) rfl; have y0 := (br4.out).free 0; have y1 := (br4.out).free 1))
  have bE := (br4.out.set 0 (.slice wa n wc)).set 1 (.slice pa' n pc')
  have q0 := bE.cell (i := 0) rfl
  have q1 := bE.cell (i := 1) rfl
  refine bodyPost_ret (v := .tuple #[rv n wa wc pa' pc', .int .i64 0]) (by simp [results, Try.results58, go_sem, q0, q1]) rfl ⟨_, _, rfl, ⟨H0.out.ws.fr0 (FF4.out.res _ _), R1.out.ps.fr (((Fr.refl (fun k => k = w.heap.size + 1) _).setCell (p := ⟨w.heap.size + 1, 0, none⟩) (fun _ => rfl) _).setCell (p := ⟨w.heap.size + 1, 1, none⟩) (fun _ => rfl) _) (fun k hk e => by have := hk1 k hk; omega), H0.out.wb, R1.out.pb⟩, FF4.out.res _ _⟩

end
end Go.Proofs.Ytfeokafjehpgnaa
