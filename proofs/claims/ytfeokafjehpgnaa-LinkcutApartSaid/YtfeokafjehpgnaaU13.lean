/- The reference: Set, Evert. -/
import Derived.Test.YtfeokafjehpgnaaU12
namespace Go.Proofs.Ytfeokafjehpgnaa
open Go.RowKit
attribute [local go_sem ↓] Go.wp_at_zero Go.wp_at_succ
section
variable {w w' : World} {B n : Nat} {wt : Nat → Int} {P : Nat → Nat} {wa pa : Option Addr} {wc pc : Nat}
theorem WL_set (n : Nat) (wt : Nat → Int) (v : Nat) (x : Int) : WL n (fun z => if z = v + 1 then x else wt z) = (WL n wt).set v x := by
  apply List.ext_getElem?
  intro i
  rw [List.getElem?_set]
  by_cases e : v = i
  · subst e
    rw [if_pos rfl]
    by_cases hv : v < n
    · rw [WL_get hv, if_pos rfl, if_pos (by rw [WL_length]; exact hv)]
    · rw [if_neg (by rw [WL_length]; exact hv)]
      exact List.getElem?_eq_none (by rw [WL_length]; omega)
  · rw [if_neg e]
    by_cases hi : i < n
    · rw [WL_get hi, WL_get hi, if_neg (by omega)]
    · rw [List.getElem?_eq_none (by rw [WL_length]; omega), List.getElem?_eq_none (by rw [WL_length]; omega)]

set_option maxRecDepth 100000 in
set_option maxHeartbeats 1000000 in
theorem refSet_ok (h : RS w B n wt P wa wc pa pc) (hB : B ≤ w.heap.size) (hn : n ≤ 60) {v : Nat} (hv : v < n) {x : Int} (hx : (decide (-1048576 ≤ x) && decide (x ≤ 1048576)) = true) :
    Calls Try.prog 60 #[rv n wa wc pa pc, .int .i64 (v : Nat), .int .i64 x] w fun e w' => ∃ wa' wc', e = .returned (.tuple #[rv n wa' wc' pa pc, .int .i64 0]) ∧ RS w' B n (fun z => if z = v + 1 then x else wt z) P wa' wc' pa pc ∧ Fr F0 w w' := by
  have H0 := Lib.hid h
  have HV := Lib.hid (outB_nat hv)
  have HX := Lib.hid hx
  have HQV : Hid ((ints (WL n wt))[v]? = some (.int .i64 (wt (v + 1)))) := Lib.hid (by unfold ints; rw [List.getElem?_map, WL_get hv]; rfl)
  have hvi : (v : Int) < (n : Int) := by omega
  clear hx
  obtain ⟨f2, bx2, br2⟩ := start2 w (.slice wa n wc) (.slice pa n pc)
  obtain ⟨W2, hW2⟩ : ∃ W2, (w.alloc (.cells #[.slice wa n wc, .slice pa n pc] 28)).alloc (.cells #[.slice none 0 0, .slice none 0 0] 28) = W2 := ⟨_, rfl⟩
  have b0 : (w.alloc (.cells #[.slice wa n wc, .slice pa n pc] 28)).cell? ⟨w.heap.size, 0, none⟩ = some (.slice wa n wc) := (Blk.new w 28 [.slice wa n wc, .slice pa n pc]).cell (i := 0) rfl
  have b1 : (w.alloc (.cells #[.slice wa n wc, .slice pa n pc] 28)).cell? ⟨w.heap.size, 1, none⟩ = some (.slice pa n pc) := (Blk.new w 28 [.slice wa n wc, .slice pa n pc]).cell (i := 1) rfl
  rw [hW2] at f2 bx2 br2
  have FF2 := Lib.hid f2
  have HR := Lib.hid (h.fr0 f2)
  have W2e := Lib.hid hW2
  replace bx2 := Lib.hid bx2
  replace br2 := Lib.hid br2
  clear h f2 hW2
  go_enter Try.func60, Try.ntmps60
  go_wp2_with (first
    | (go_at_call 56; rw [W2e.out]; refine (weight0 _ x).mono ?_; rintro e w3 ⟨rfl, F1⟩; have FF3 := Lib.hid (FF2.out.trans F1 (fun _ _ h => h)); have bx3 := Lib.hid ((bx2.out).fr F1 id); have br3 := Lib.hid ((br2.out).fr F1 id); replace HR := Lib.hid (HR.out.fr0 F1); clear F1; clear b0 b1; have x0 := (bx3.out).cell (i := 0) rfl; have x1 := (bx3.out).cell (i := 1) rfl; have r0 := (br3.out).cell (i := 0) rfl; have r1 := (br3.out).cell (i := 1) rfl; have y0 := (br3.out).free 0; have y1 := (br3.out).free 1; have lt3 := (bx3.out).lt; have lu3 := (br3.out).lt; rw [HX.out])
    | (go_at_call 15; refine (refIs_any HR.out (v : Nat)).mono ?_; rintro e w4 ⟨rfl, F1⟩; have FF4 := Lib.hid (FF3.out.trans F1 (fun _ _ h => h)); have bx4 := Lib.hid ((bx3.out).fr F1 id); have br4 := Lib.hid ((br3.out).fr F1 id); replace HR := Lib.hid (HR.out.fr0 F1); clear F1; clear x0 x1 r0 r1 y0 y1; have x0 := (bx4.out).cell (i := 0) rfl; have x1 := (bx4.out).cell (i := 1) rfl; have r0 := (br4.out).cell (i := 0) rfl; have r1 := (br4.out).cell (i := 1) rfl; have y0 := (br4.out).free 0; have y1 := (br4.out).free 1; have lt4 := (bx4.out).lt; have lu4 := (br4.out).lt; rw [HV.out])
    | (at_builtin; refine wpAppRd E3 (Own.lit (w := w4) (B := w4.heap.size) (T := 3) [] 0 rfl (Nat.le_refl _) (by omega)) (HR.out.ws.fr0 ((Fr.refl _ _).alloc _)) (oneCell_ints _) (by omega) (by omega) (by rw [size_alloc]; omega) n (by omega) rfl rfl ?_; intro a5 c5 w5 own5 fr5 at5; have hl5 : w.heap.size + 1 < w4.heap.size := (br4.out).lt; have FF5 := Lib.hid ((FF4.out.alloc (.cells #[] 3)).new0 fr5 (fun k hk => (by have := (onBlk_some _ _ _ _).1 hk; omega))); have bx5 := Lib.hid (((bx4.out).alloc (.cells #[] 3)).fr fr5 (fun e => (by have := (onBlk_some _ _ _ _).1 e; omega))); have br5 := Lib.hid (((br4.out).alloc (.cells #[] 3)).fr fr5 (fun e => (by have := (onBlk_some _ _ _ _).1 e; omega))); obtain ⟨g5, rfl, hg5, hl5, hc5, hz5⟩ := own5.at (by omega); have d5 := hc5 v _ (by rw [List.nil_append]; exact HQV.out); have z5 := hz5 v; have n1 : g5 ≠ w.heap.size := (by omega); have n2 : g5 ≠ w.heap.size + 1 := (by omega); have n3 : w4.heap.size ≤ g5 := hg5; replace own5 := Lib.hid own5; replace fr5 := Lib.hid fr5; clear hc5 hz5; clear x0 x1 r0 r1 y0 y1; have x0 := (bx5.out).cell (i := 0) rfl; have x1 := (bx5.out).cell (i := 1) rfl; have r0 := (br5.out).cell (i := 0) rfl; have r1 := (br5.out).cell (i := 1) rfl; have y0 := (br5.out).free 0; have y1 := (br5.out).free 1; have lt5 := (bx5.out).lt; have lu5 := (br5.out).lt))
  have bE := ((br5.out.other (p := ⟨g5, v, none⟩) (Ne.symm n2) (.int .i64 x)).set 0 (.slice (some ⟨g5, 0, none⟩) n c5)).set 1 (.slice pa n pc)
  have q0 := bE.cell (i := 0) rfl
  have q1 := bE.cell (i := 1) rfl
  have FE := (FF5.out.setCell (p := ⟨g5, v, none⟩) (fun h => by dsimp only at h; omega) (.int .i64 x)).res (.slice (some ⟨g5, 0, none⟩) n c5) (.slice pa n pc)
  refine bodyPost_ret (v := .tuple #[rv n (some ⟨g5, 0, none⟩) c5 pa pc, .int .i64 0]) (by simp [results, Try.results60, go_sem, q0, q1]) rfl ⟨_, _, rfl, ⟨?_, H0.out.ps.fr0 FE, fun k hk => ?_, H0.out.pb⟩, FE⟩
  · have O := ((own5.out.set (i := v) (.int .i64 x)).other (p := ⟨w.heap.size + 1, 0, none⟩) (fun e => n2 ((onBlk_some _ _ _ _).1 e).symm) (.slice (some ⟨g5, 0, none⟩) n c5)).other (p := ⟨w.heap.size + 1, 1, none⟩) (fun e => n2 ((onBlk_some _ _ _ _).1 e).symm) (.slice pa n pc)
    rw [WL_set, ints_set]
    exact O.rd
  · have := (onBlk_some _ _ _ _).1 hk
    omega

/-- What is known of an everted forest. -/
def PkE (P P' : Nat → Nat) (r : List Nat) (k : Nat) : Nat → Nat := fun z => if z ∈ r.take k then P' z else P z
/-- In Evert: p under way. -/
structure ES (w W : World) (n B3 B4 g4 m c4 g5 c5 : Nat) (u v : Value) (l : List Nat) (P P' : Nat → Nat) (k : Nat) : Prop where
  own : Own W B4 3 (some ⟨g5, 0, none⟩) n c5 (ints (QL n (PkE P P' l.reverse k)))
  up : Own W B3 3 (some ⟨g4, 0, none⟩) m c4 (ints (dn l.reverse))
  fr : Fr F0 w W
  bx : Blk W w.heap.size 28 [u, v]
  br : Blk W (w.heap.size + 1) 28 [.slice none 0 0, .slice none 0 0]
theorem ES.set {w W : World} {n B3 B4 g4 m c4 g5 c5 : Nat} {u v : Value} {l : List Nat} {P P' : Nat → Nat} {k : Nat} (h : ES w W n B3 B4 g4 m c4 g5 c5 u v l P P' k) {i : Nat} {x : Int} {k' : Nat} (hq : QL n (PkE P P' l.reverse k') = (QL n (PkE P P' l.reverse k)).set i x) (h1 : g5 ≠ g4) (h2 : g5 ≠ w.heap.size) (h3 : g5 ≠ w.heap.size + 1) (h4 : w.heap.size ≤ g5) :
    ES w (W.setCell ⟨g5, i, none⟩ (.int .i64 x)) n B3 B4 g4 m c4 g5 c5 u v l P P' k' := by
  refine ⟨?_, h.up.other (p := ⟨g5, i, none⟩) (fun e => h1 ((onBlk_some _ _ _ _).1 e)) _, h.fr.setCell (p := ⟨g5, i, none⟩) (fun e => by dsimp only at e; omega) _, h.bx.other (p := ⟨g5, i, none⟩) (Ne.symm h2) _, h.br.other (p := ⟨g5, i, none⟩) (Ne.symm h3) _⟩
  rw [hq, ints_set]
  exact h.own.set _
theorem ES.drew {w W : World} {n B3 B4 g4 m c4 g5 c5 : Nat} {u v : Value} {l : List Nat} {P P' : Nat → Nat} {k : Nat} (h : ES w W n B3 B4 g4 m c4 g5 c5 u v l P P' k) : ES w W.drew n B3 B4 g4 m c4 g5 c5 u v l P P' k := ⟨h.own, h.up, h.fr.drew, h.bx, h.br⟩
theorem chain_get {P' : Nat → Nat} : ∀ {u : Nat} {r : List Nat}, K.Chain P' u r → ∀ {i a b : Nat}, r[i]? = some a → r[i + 1]? = some b → P' b = a
  | u, [], _, i, a, b, h1, _ => by simp at h1
  | u, x :: r, hc, 0, a, b, h1, h2 => by
    simp at h1
    subst h1
    cases r with
    | nil => simp at h2
    | cons y r => simp at h2; subst h2; exact hc.2.1
  | u, x :: r, hc, i + 1, a, b, h1, h2 => chain_get (r := r) hc.2 (i := i) (by simpa using h1) (by simpa using h2)
set_option maxRecDepth 100000 in
set_option maxHeartbeats 2000000 in
theorem refEvert_ok (hp : K.Par P (vts n)) (h : RS w B n wt P wa wc pa pc) (hB : B ≤ w.heap.size) (hn : n ≤ 60) {v : Nat} (hv : v < n) {l : List Nat} (hl : K.Way P (v + 1) l) {P' : Nat → Nat} (h1 : K.Chain P' 0 l.reverse) (h2 : ∀ z ∈ vts n, z ∉ l → P' z = P z) :
    Calls Try.prog 59 #[rv n wa wc pa pc, .int .i64 (v : Nat)] w fun e w' => ∃ pa' pc', e = .returned (.tuple #[rv n wa wc pa' pc', .int .i64 0]) ∧ RS w' B n wt P' wa wc pa' pc' ∧ Fr F0 w w' := by
  have H0 := Lib.hid h
  have HV := Lib.hid (outB_nat hv)
  have HQV : Hid ((ints (QL n P))[v]? = some (.int .i64 ((P (v + 1) : Int) - 1))) := Lib.hid (by unfold ints; rw [List.getElem?_map, QL_get hv]; rfl)
  have hvi : (v : Int) < (n : Int) := by omega
  obtain ⟨m, hm⟩ : ∃ m, l.length = m := ⟨_, rfl⟩
  have hm0 := way_pos hl
  have hmn := hl.len hp (mem_succ hv)
  rw [vts_length] at hmn
  rw [hm] at hm0 hmn
  have HU : Hid (∀ W : World, RS W B n wt P wa wc pa pc → Calls Try.prog 33 #[rv n wa wc pa pc, .int .i64 (v : Nat)] W fun e w' => ∃ a c, e = .returned (.slice a m c) ∧ Own w' W.heap.size 3 a m c (ints (dn l.reverse)) ∧ Fr F0 W w') := Lib.hid (fun W hW => by
    have := Up_v hp hW hv hn hl
    rwa [hm] at this)
  have HE := Lib.hid (And.intro hp (And.intro hl (And.intro h1 (And.intro h2 hm))))
  clear hp hl h1 h2 hm
  obtain ⟨f2, bx2, br2⟩ := start2 w (.slice wa n wc) (.slice pa n pc)
  obtain ⟨W2, hW2⟩ : ∃ W2, (w.alloc (.cells #[.slice wa n wc, .slice pa n pc] 28)).alloc (.cells #[.slice none 0 0, .slice none 0 0] 28) = W2 := ⟨_, rfl⟩
  have b0 : (w.alloc (.cells #[.slice wa n wc, .slice pa n pc] 28)).cell? ⟨w.heap.size, 0, none⟩ = some (.slice wa n wc) := (Blk.new w 28 [.slice wa n wc, .slice pa n pc]).cell (i := 0) rfl
  have b1 : (w.alloc (.cells #[.slice wa n wc, .slice pa n pc] 28)).cell? ⟨w.heap.size, 1, none⟩ = some (.slice pa n pc) := (Blk.new w 28 [.slice wa n wc, .slice pa n pc]).cell (i := 1) rfl
  rw [hW2] at f2 bx2 br2
  have FF2 := Lib.hid f2
  have HR := Lib.hid (h.fr0 f2)
  have W2e := Lib.hid hW2
  replace bx2 := Lib.hid bx2
  replace br2 := Lib.hid br2
  clear h f2 hW2
  go_enter Try.func59, Try.ntmps59
  go_wp2_with (first
    | (go_at_call 15; rw [W2e.out]; refine (refIs_any HR.out (v : Nat)).mono ?_; rintro e w3 ⟨rfl, F1⟩; have FF3 := Lib.hid (FF2.out.trans F1 (fun _ _ h => h)); have bx3 := Lib.hid ((bx2.out).fr F1 id); have br3 := Lib.hid ((br2.out).fr F1 id); replace HR := Lib.hid (HR.out.fr0 F1); clear F1; clear b0 b1; have x0 := (bx3.out).cell (i := 0) rfl; have x1 := (bx3.out).cell (i := 1) rfl; have r0 := (br3.out).cell (i := 0) rfl; have r1 := (br3.out).cell (i := 1) rfl; have y0 := (br3.out).free 0; have y1 := (br3.out).free 1; have lt3 := (bx3.out).lt; have lu3 := (br3.out).lt; rw [HV.out])
    | (go_at_call 33; refine (HU.out _ HR.out).mono ?_; rintro e w4 ⟨a4, c4, rfl, O4, F1⟩; have hl4 : w.heap.size + 1 < w3.heap.size := (br3.out).lt; have FF4 := Lib.hid (FF3.out.trans F1 (fun _ _ h => h)); have bx4 := Lib.hid ((bx3.out).fr F1 id); have br4 := Lib.hid ((br3.out).fr F1 id); replace HR := Lib.hid (HR.out.fr0 F1); obtain ⟨g4, rfl, hg4, hl4', hc4, hz4⟩ := O4.at hm0; replace O4 := Lib.hid O4; clear F1 hc4 hz4; clear x0 x1 r0 r1 y0 y1; have x0 := (bx4.out).cell (i := 0) rfl; have x1 := (bx4.out).cell (i := 1) rfl; have r0 := (br4.out).cell (i := 0) rfl; have r1 := (br4.out).cell (i := 1) rfl; have y0 := (br4.out).free 0; have y1 := (br4.out).free 1; have lt4 := (bx4.out).lt; have lu4 := (br4.out).lt)
    | (at_builtin; refine wpAppRd E3 (Own.lit (w := w4) (B := w4.heap.size) (T := 3) [] 0 rfl (Nat.le_refl _) (by omega)) (HR.out.ps.fr0 ((Fr.refl _ _).alloc _)) (oneCell_ints _) (by omega) (by omega) (by rw [size_alloc]; omega) n (by omega) rfl rfl ?_; intro a5 c5 w5 own5 fr5 at5; have hl5 : w.heap.size + 1 < w4.heap.size := (br4.out).lt; have FF5 := Lib.hid ((FF4.out.alloc (.cells #[] 3)).new0 fr5 (fun k hk => (by have := (onBlk_some _ _ _ _).1 hk; omega))); have bx5 := Lib.hid (((bx4.out).alloc (.cells #[] 3)).fr fr5 (fun e => (by have := (onBlk_some _ _ _ _).1 e; omega))); have br5 := Lib.hid (((br4.out).alloc (.cells #[] 3)).fr fr5 (fun e => (by have := (onBlk_some _ _ _ _).1 e; omega))); obtain ⟨g5, rfl, hg5, hl5, hc5, hz5⟩ := own5.at (by omega); have d5 := hc5 v _ (by rw [List.nil_append]; exact HQV.out); have z5 := hz5 v; have n1 : g5 ≠ w.heap.size := (by omega); have n2 : g5 ≠ w.heap.size + 1 := (by omega); have n3 : w4.heap.size ≤ g5 := hg5; replace own5 := Lib.hid own5; replace fr5 := Lib.hid fr5; clear hc5 hz5; clear x0 x1 r0 r1 y0 y1; have x0 := (bx5.out).cell (i := 0) rfl; have x1 := (bx5.out).cell (i := 1) rfl; have r0 := (br5.out).cell (i := 0) rfl; have r1 := (br5.out).cell (i := 1) rfl; have y0 := (br5.out).free 0; have y1 := (br5.out).free 1; have lt5 := (bx5.out).lt; have lu5 := (br5.out).lt))
  have hne : g5 ≠ g4 := by omega
  have e0 : QL n (PkE P P' l.reverse 1) = (QL n P).set v (-1) := by
    obtain ⟨o, eo⟩ := HE.out.2.1.last
    have er : l.reverse = (v + 1) :: o.reverse := by rw [eo]; simp
    have hc := HE.out.2.2.1
    rw [er] at hc
    have := QL_set (n := n) (P := P) (P' := PkE P P' l.reverse 1) (v := v) (q := 0) (by unfold PkE; rw [er]; simp; exact hc.1) (fun z hz hne => by unfold PkE; rw [er]; simp [hne])
    simpa using this
  have S0 : ES w w5 n w3.heap.size w4.heap.size g4 m c4 g5 c5 (.slice wa n wc) (.slice pa n pc) l P P' 0 := by
    refine ⟨?_, O4.out.fr ((Fr.refl F0 w4).alloc (.cells #[] 3) |>.new0 (w2 := w5) fr5.out (fun k hk => by have := (onBlk_some _ _ _ _).1 hk; omega)) (fun _ _ => id), FF5.out, bx5.out, br5.out⟩
    have : PkE P P' l.reverse 0 = P := by funext z; unfold PkE; simp
    rw [this]
    exact own5.out
  have S1 := Lib.hid (S0.set (k' := 1) (i := v) (x := -1) (by
    have : PkE P P' l.reverse 0 = P := by funext z; unfold PkE; simp
    rw [this]; exact e0) hne n1 n2 (by omega))
  clear e0 S0 d5 z5 at5 x0 x1 r0 r1 y0 y1 own5 O4 HR
  go_loopw [8] (fun i wr => ∃ j : Nat, j + 1 ≤ m ∧ i = .int .i64 ((j : Int) + 1) ∧ Hid (ES w wr n w3.heap.size w4.heap.size g4 m c4 g5 c5 (.slice wa n wc) (.slice pa n pc) l P P' (j + 1))) (fun i _ => m - (intOf i).toNat)
  case atStart => exact ⟨0, by omega, rfl, S1⟩
  case round =>
    obtain ⟨j, hj, rfl, HS⟩ := hrel
    clear S1
    by_cases hlt : j + 1 < m
    · have hlen := HE.out.2.2.2.2
      have hall := (way_all HE.out.1 HE.out.2.1 (mem_succ hv)).1
      have hnd := (way_all HE.out.1 HE.out.2.1 (mem_succ hv)).2
      obtain ⟨a, ha⟩ : ∃ a, l.reverse[j + 1]? = some a := ⟨l.reverse[j + 1]'(by rw [List.length_reverse]; omega), List.getElem?_eq_getElem _⟩
      obtain ⟨b, hb⟩ : ∃ b, l.reverse[j]? = some b := ⟨l.reverse[j]'(by rw [List.length_reverse]; omega), List.getElem?_eq_getElem _⟩
      have ma := mem_vts.1 (hall a (List.mem_reverse.1 (List.mem_of_getElem? ha)))
      have mb := mem_vts.1 (hall b (List.mem_reverse.1 (List.mem_of_getElem? hb)))
      obtain ⟨a, rfl⟩ : ∃ k, a = k + 1 := ⟨a - 1, by omega⟩
      obtain ⟨b, rfl⟩ : ∃ k, b = k + 1 := ⟨b - 1, by omega⟩
      have hP := chain_get HE.out.2.2.1 hb ha
      obtain ⟨_, e4, _, _, hc4, _⟩ := HS.out.up.at hm0
      injection e4 with e4
      injection e4 with e4
      subst e4
      have u1 := hc4 (j + 1) (.int .i64 (a : Nat)) (by unfold ints dn; rw [List.getElem?_map, List.getElem?_map, ha]; simp)
      have u0 := hc4 j (.int .i64 (b : Nat)) (by unfold ints dn; rw [List.getElem?_map, List.getElem?_map, hb]; simp)
      obtain ⟨_, e5, _, _, hc5, hz5⟩ := HS.out.own.at (by omega)
      injection e5 with e5
      injection e5 with e5
      subst e5
      have d5 := hc5 a _ (by unfold ints; rw [List.getElem?_map, QL_get (by omega)]; rfl)
      have z5 := hz5 a
      have hai : (a : Int) < (n : Int) := by omega
      have hji : (j : Int) + 1 < (m : Int) := by omega
      have hj0 : (j : Int) < (m : Int) := by omega
      have eq : QL n (PkE P P' l.reverse (j + 1 + 1)) = (QL n (PkE P P' l.reverse (j + 1))).set a (b : Nat) := by
        have tk : l.reverse.take (j + 1 + 1) = l.reverse.take (j + 1) ++ [a + 1] := by rw [List.take_add_one, ha]; rfl
        have := QL_set (n := n) (P := PkE P P' l.reverse (j + 1)) (P' := PkE P P' l.reverse (j + 1 + 1)) (v := a) (q := b + 1) (by unfold PkE; rw [tk]; simp; exact hP) (fun z hz hne => by unfold PkE; rw [tk]; simp [hne])
        rw [this]
        congr 1
        omega
      have HQ := Lib.hid eq
      clear hlen hall hnd ha hb hP hc4 hc5 hz5 eq
      go_wp2_with fail
      go_region
      all_goals go_wp2_with fail
      go_roundw
      case rel => exact ⟨j + 1, by omega, by go_num, Lib.hid (HS.out.set HQ.out hne n1 n2 (by omega)).drew⟩
      case measure => simp [intOf]; omega
    · have hjm : j + 1 = m := by omega
      have hji : ¬ ((j : Int) + 1 < (m : Int)) := by omega
      have x0 := HS.out.bx.cell (i := 0) rfl
      have r0 := HS.out.br.cell (i := 0) rfl
      have r1 := HS.out.br.cell (i := 1) rfl
      have y0 := HS.out.br.free 0
      have y1 := HS.out.br.free 1
      have bE := (HS.out.br.set 0 (.slice wa n wc)).set 1 (.slice (some ⟨g5, 0, none⟩) n c5)
      have q0 := Lib.hid (bE.cell (i := 0) rfl)
      have q1 := Lib.hid (bE.cell (i := 1) rfl)
      clear bE
      go_wp2_with fail
      have FE := HS.out.fr.res (.slice wa n wc) (.slice (some ⟨g5, 0, none⟩) n c5)
      have q0' := q0.out
      have q1' := q1.out
      refine bodyPost_ret (v := .tuple #[rv n wa wc (some ⟨g5, 0, none⟩) c5, .int .i64 0]) (by simp [results, Try.results59, go_sem, q0', q1']) rfl ⟨_, _, rfl, ⟨H0.out.ws.fr0 FE, ?_, H0.out.wb, fun k hk => ?_⟩, FE⟩
      · have O := (HS.out.own.other (p := ⟨w.heap.size + 1, 0, none⟩) (fun e => n2 ((onBlk_some _ _ _ _).1 e).symm) (.slice wa n wc)).other (p := ⟨w.heap.size + 1, 1, none⟩) (fun e => n2 ((onBlk_some _ _ _ _).1 e).symm) (.slice (some ⟨g5, 0, none⟩) n c5)
        have eq : QL n (PkE P P' l.reverse (j + 1)) = QL n P' := by
          unfold QL
          refine List.map_congr_left (fun i hi => ?_)
          have hi := List.mem_range.1 hi
          unfold PkE
          rw [List.take_of_length_le (by rw [List.length_reverse, HE.out.2.2.2.2]; omega)]
          by_cases hm : i + 1 ∈ l.reverse
          · rw [if_pos hm]
          · rw [if_neg hm, HE.out.2.2.2.1 (i + 1) (mem_succ hi) (fun e => hm (List.mem_reverse.2 e))]
        rw [eq] at O
        exact O.rd
      · have := (onBlk_some _ _ _ _).1 hk
        omega

end
end Go.Proofs.Ytfeokafjehpgnaa
