/- The reference: Root, with, Link, Cut. -/
import Derived.Test.YtfeokafjehpgnaaU10
namespace Go.Proofs.Ytfeokafjehpgnaa
open Go.RowKit
attribute [local go_sem ↓] Go.wp_at_zero Go.wp_at_succ
section
variable {w w' : World} {B n : Nat} {wt : Nat → Int} {P : Nat → Nat} {wa pa : Option Addr} {wc pc : Nat}
theorem Up_v (hp : K.Par P (vts n)) (h : RS w B n wt P wa wc pa pc) {v : Nat} (hv : v < n) (hn : n ≤ 60) {l : List Nat} (hl : K.Way P (v + 1) l) :
    Calls Try.prog 33 #[rv n wa wc pa pc, .int .i64 (v : Nat)] w fun e w' => ∃ a c, e = .returned (.slice a l.length c) ∧ Own w' w.heap.size 3 a l.length c (ints (dn l.reverse)) ∧ Fr F0 w w' := by
  have := Up_any hp h (y := v + 1) (by omega) hn (.inr ⟨by omega, hl⟩)
  rwa [show ((v + 1 : Nat) : Int) - 1 = (v : Nat) by omega] at this
theorem way_pos {x : Nat} {l : List Nat} (hl : K.Way P x l) : 0 < l.length := by
  obtain ⟨o, e⟩ := hl.last
  rw [e]; simp
theorem refRoot_any (hp : K.Par P (vts n)) (h : RS w B n wt P wa wc pa pc) {v : Nat} (hv : v < n) (hn : n ≤ 60) {r : Nat} (hr : Rt P v r) :
    Calls Try.prog 32 #[rv n wa wc pa pc, .int .i64 (v : Nat)] w fun e w' => e = .returned (.int .i64 ((r : Int) - 1)) ∧ Fr F0 w w' := by
  obtain ⟨l, hl, hr⟩ := hr
  have hlen := hl.len hp (mem_succ hv)
  rw [vts_length] at hlen
  have hlp := way_pos hl
  obtain ⟨m, hm⟩ : ∃ m, l.length = m + 1 := ⟨l.length - 1, by omega⟩
  have hel : (ints (dn l.reverse))[m]? = some (.int .i64 ((r : Int) - 1)) := by
    unfold ints dn
    rw [List.getElem?_map, List.getElem?_map, List.getElem?_reverse (by omega)]
    have : l.length - 1 - m = 0 := by omega
    rw [this, ← List.head?_eq_getElem?, hr]
    rfl
  have HE := Lib.hid hel
  have HR := Lib.hid h
  have HU : Hid (∀ W : World, RS W B n wt P wa wc pa pc → Calls Try.prog 33 #[rv n wa wc pa pc, .int .i64 (v : Nat)] W fun e w' => ∃ a c, e = .returned (.slice a (m + 1) c) ∧ Own w' W.heap.size 3 a (m + 1) c (ints (dn l.reverse)) ∧ Fr F0 W w') := Lib.hid (fun W hW => by
    have := Up_v hp hW hv hn hl
    rwa [hm] at this)
  have hB := Blk.new w 28 [.slice wa n wc, .slice pa n pc]
  have b0 := hB.cell (i := 0) rfl
  have b1 := hB.cell (i := 1) rfl
  have hmm : (m : Int) < (m : Int) + 1 := by omega
  have hm60 : m ≤ 60 := by omega
  clear h hp hl hel hr hB hlen hlp hm
  go_enter Try.func32, Try.ntmps32
  go_wp2_with (go_at_call 33; refine (HU.out _ (HR.out.fr0 ((Fr.refl _ _).alloc _))).mono ?_; rintro e w1 ⟨a1, c1, rfl, O1, F1⟩; obtain ⟨g1, rfl, _, _, hc1, _⟩ := O1.at (by omega); have d1 := hc1 m _ HE.out; replace F1 := Lib.hid F1; clear b0 b1 hc1 O1)
  go_ret
  exact ⟨rfl, ((Fr.refl F0 w).alloc _).trans F1.out (fun _ _ h => h)⟩
theorem QL_set {P' : Nat → Nat} {v : Nat} {q : Nat} (h1 : P' (v + 1) = q) (h2 : ∀ z ∈ vts n, z ≠ v + 1 → P' z = P z) : QL n P' = (QL n P).set v ((q : Int) - 1) := by
  apply List.ext_getElem?
  intro i
  rw [List.getElem?_set]
  by_cases e : v = i
  · subst e
    rw [if_pos rfl]
    by_cases hv : v < n
    · rw [QL_get hv, h1, if_pos (by rw [QL_length]; exact hv)]
    · rw [if_neg (by rw [QL_length]; exact hv)]
      exact List.getElem?_eq_none (by rw [QL_length]; omega)
  · rw [if_neg e]
    by_cases hi : i < n
    · rw [QL_get hi, QL_get hi, h2 (i + 1) (mem_succ hi) (by omega)]
    · rw [List.getElem?_eq_none (by rw [QL_length]; omega), List.getElem?_eq_none (by rw [QL_length]; omega)]
theorem ints_set (l : List Int) (i : Nat) (x : Int) : ints (l.set i x) = (ints l).set i (.int .i64 x) := by unfold ints; exact List.map_set
theorem Fr.new0 {S : Nat → Prop} {w w1 w2 : World} (h : Fr F0 w w1) (g : Fr S w1 w2) (hS : ∀ k, S k → w.heap.size ≤ k) : Fr F0 w w2 :=
  ⟨g.os.trans h.os, g.tape.trans h.tape, g.output.trans h.output, Nat.le_trans h.size g.size, fun k hk hn => (g.block k (Nat.lt_of_lt_of_le hk h.size) (fun e => by have := hS k e; omega)).trans (h.block k hk hn)⟩
theorem copy_start (w : World) (u v : Value) :
    Own (((w.alloc (.cells #[u, v] 28)).alloc (.cells #[.slice none 0 0, .slice none 0 0] 28)).alloc (.cells #[] 3)) (w.heap.size + 2) 3 (some ⟨w.heap.size + 1 + 1, 0, none⟩) 0 0 [] ∧
    Fr F0 w (((w.alloc (.cells #[u, v] 28)).alloc (.cells #[.slice none 0 0, .slice none 0 0] 28)).alloc (.cells #[] 3)) ∧
    Blk (((w.alloc (.cells #[u, v] 28)).alloc (.cells #[.slice none 0 0, .slice none 0 0] 28)).alloc (.cells #[] 3)) w.heap.size 28 [u, v] ∧
    Blk (((w.alloc (.cells #[u, v] 28)).alloc (.cells #[.slice none 0 0, .slice none 0 0] 28)).alloc (.cells #[] 3)) (w.heap.size + 1) 28 [.slice none 0 0, .slice none 0 0] := by
  refine ⟨?_, (((Fr.refl _ _).alloc _).alloc _).alloc _, ((Blk.new w 28 [u, v]).alloc _).alloc _, ?_⟩
  · have := Own.lit (w := (w.alloc (.cells #[u, v] 28)).alloc (.cells #[.slice none 0 0, .slice none 0 0] 28)) (B := w.heap.size + 2) (T := 3) [] 0 rfl (by rw [size_alloc, size_alloc]; omega) (by omega)
    rw [size_alloc, size_alloc] at this
    exact this
  · have := Blk.new (w.alloc (.cells #[u, v] 28)) 28 [.slice none 0 0, .slice none 0 0]
    rw [size_alloc] at this
    exact this.alloc _
set_option maxRecDepth 100000 in
set_option maxHeartbeats 1000000 in
theorem with_any (h : RS w B n wt P wa wc pa pc) (hB : B ≤ w.heap.size) {v : Nat} (hv : v < n) (hn : n ≤ 60) {q : Nat} {x : Int} (hx : x = (q : Int) - 1) {P' : Nat → Nat} (h1 : P' (v + 1) = q) (h2 : ∀ z ∈ vts n, z ≠ v + 1 → P' z = P z) :
    Calls Try.prog 67 #[rv n wa wc pa pc, .int .i64 (v : Nat), .int .i64 x] w fun e w' => ∃ pa' pc', e = .returned (rv n wa wc pa' pc') ∧ RS w' B n wt P' wa wc pa' pc' ∧ Fr F0 w w' ∧ ∀ k, onBlk pa' k → w.heap.size ≤ k := by
  have HQ := Lib.hid (QL_set (n := n) h1 h2)
  have HR := Lib.hid h
  have HX := Lib.hid hx
  have hv' : (v : Int) < (n : Int) := by omega
  obtain ⟨W3, hW3⟩ : ∃ W3, ((w.alloc (.cells #[.slice wa n wc, .slice pa n pc] 28)).alloc (.cells #[.slice none 0 0, .slice none 0 0] 28)).alloc (.cells #[] 3) = W3 := ⟨_, rfl⟩
  obtain ⟨o3, f3, bx3, br3⟩ := copy_start w (.slice wa n wc) (.slice pa n pc)
  rw [hW3] at o3 f3 bx3 br3
  have b1 : (w.alloc (.cells #[.slice wa n wc, .slice pa n pc] 28)).cell? ⟨w.heap.size, 1, none⟩ = some (.slice pa n pc) := (Blk.new w 28 [.slice wa n wc, .slice pa n pc]).cell (i := 1) rfl
  have HQV : Hid ((ints (QL n P))[v]? = some (.int .i64 ((P (v + 1) : Int) - 1))) := Lib.hid (by unfold ints; rw [List.getElem?_map, QL_get hv]; rfl)
  have H3 := Lib.hid (And.intro o3 (And.intro f3 (And.intro bx3 br3)))
  have W3e := Lib.hid hW3
  clear h h1 h2 hx o3 f3 bx3 br3 hW3
  go_enter Try.func67, Try.ntmps67
  go_wp2_with (at_builtin; go_loud (rw [W3e.out]; refine wpAppRd E3 H3.out.1 (HR.out.ps.fr0 H3.out.2.1) (oneCell_ints _) (by omega) (by omega) (by have := H3.out.2.2.2.lt; omega) n (by omega) rfl rfl ?_; intro a5 c5 w5 own5 fr5 at5; have bx5 := H3.out.2.2.1.fr fr5 (fun e => by have := (onBlk_some _ _ _ _).1 e; omega); have br5 := H3.out.2.2.2.fr fr5 (fun e => by have := (onBlk_some _ _ _ _).1 e; omega); obtain ⟨g5, rfl, hg5, hl5, hc5, hz5⟩ := own5.at (by omega); have d5 := hc5 v _ (by rw [List.nil_append]; exact HQV.out); have z5 := hz5 v; have e0 := bx5.cell (i := 0) rfl; have r0 := br5.cell (i := 0) rfl; have r1 := br5.cell (i := 1) rfl; have y0 := br5.free 0; have y1 := br5.free 1; have n1 : g5 ≠ w.heap.size := (by omega); have n2 : g5 ≠ w.heap.size + 1 := (by omega); replace own5 := Lib.hid own5; replace fr5 := Lib.hid fr5; replace bx5 := Lib.hid bx5; replace br5 := Lib.hid br5; clear hc5 hz5 b1))
  have F5 : Fr F0 w w5 := H3.out.2.1.new0 fr5.out (fun k hk => by have := (onBlk_some _ _ _ _).1 hk; omega)
  have bE := ((br5.out.other (p := ⟨g5, v, none⟩) (Ne.symm n2) (.int .i64 x)).set 0 (.slice wa n wc)).set 1 (.slice (some ⟨g5, 0, none⟩) n c5)
  have q0 := bE.cell (i := 0) rfl
  have q1 := bE.cell (i := 1) rfl
  have FE : Fr F0 w (((w5.setCell ⟨g5, v, none⟩ (.int .i64 x)).setCell ⟨w.heap.size + 1, 0, none⟩ (.slice wa n wc)).setCell ⟨w.heap.size + 1, 1, none⟩ (.slice (some ⟨g5, 0, none⟩) n c5)) :=
    ((F5.setCell (p := ⟨g5, v, none⟩) (fun h => by dsimp only at h; omega) _).setCell (p := ⟨w.heap.size + 1, 0, none⟩) (fun h => by dsimp only at h; omega) _).setCell (p := ⟨w.heap.size + 1, 1, none⟩) (fun h => by dsimp only at h; omega) _
  refine bodyPost_ret (v := rv n wa wc (some ⟨g5, 0, none⟩) c5) (by simp [results, Try.results67, go_sem, q0, q1]) rfl ⟨_, _, rfl, ⟨HR.out.ws.fr0 FE, ?_, HR.out.wb, fun k hk => ?_⟩, FE, fun k hk => by have := (onBlk_some _ _ _ _).1 hk; omega⟩
  · have O := ((own5.out.set (i := v) (.int .i64 x)).other (p := ⟨w.heap.size + 1, 0, none⟩) (fun e => n2 ((onBlk_some _ _ _ _).1 e).symm) (.slice wa n wc)).other (p := ⟨w.heap.size + 1, 1, none⟩) (fun e => n2 ((onBlk_some _ _ _ _).1 e).symm) (.slice (some ⟨g5, 0, none⟩) n c5)
    rw [HQ.out, ints_set, ← HX.out]
    exact O.rd
  · have := (onBlk_some _ _ _ _).1 hk
    omega
end
end Go.Proofs.Ytfeokafjehpgnaa
