/- The reference's Do. -/
import Derived.Test.YtfeokafjehpgnaaU14
namespace Go.Proofs.Ytfeokafjehpgnaa
open Go.RowKit
attribute [local go_sem ↓] Go.wp_at_zero Go.wp_at_succ
/-- A block whose cells are no ints is no slice of ints. -/
theorem Rd.skip {w : World} {a : Option Addr} {n k T : Nat} {zs : List Int} {vs : List Value} (h : Rd w a n (ints zs)) (hb : Blk w k T vs) (hv : ∀ u ∈ vs, ∀ x, u ≠ .int .i64 x) (i : Nat) (u : Value) : Rd (w.setCell ⟨k, i, none⟩ u) a n (ints zs) := by
  refine ⟨h.len, h.max, fun hn => ?_⟩
  obtain ⟨b, o, rfl, hc⟩ := h.cells hn
  refine ⟨b, o, rfl, fun j y hj => ?_⟩
  have hne : b ≠ k := by
    intro e
    subst e
    have hl : 0 < (ints zs).length := by rw [← h.len] at hn; exact hn
    have h0 := hc 0 _ (List.getElem?_eq_getElem hl)
    rw [cell_of_row w b (o + 0) vs.toArray T (0, 0) hb] at h0
    simp only [List.getElem?_toArray] at h0
    have hm := List.mem_of_getElem? h0
    have he : ∃ x, (ints zs)[0] = .int .i64 x := by
      unfold ints
      rw [List.getElem_map]
      exact ⟨_, rfl⟩
    obtain ⟨x, hx⟩ := he
    exact hv _ hm x hx
  exact (Fr.setCell (S := fun j => j = k) (Fr.refl _ w) (p := ⟨k, i, none⟩) (fun _ => rfl) u).cell (hc j y hj) hne
theorem RS.skip {w : World} {B n : Nat} {wt : Nat → Int} {P : Nat → Nat} {wa pa : Option Addr} {wc pc k T : Nat} {vs : List Value} (h : RS w B n wt P wa wc pa pc) (hb : Blk w k T vs) (hv : ∀ u ∈ vs, ∀ x, u ≠ .int .i64 x) (i : Nat) (u : Value) : RS (w.setCell ⟨k, i, none⟩ u) B n wt P wa wc pa pc :=
  ⟨h.ws.skip hb hv i u, h.ps.skip hb hv i u, h.wb, h.pb⟩
theorem start3 (w : World) (u v : Value) (k x y : Int) (p q : Value) :
    Fr F0 w (((w.alloc (.cells #[u, v] 28)).alloc (.cells #[.int .i64 k, .int .i64 x, .int .i64 y] 60)).alloc (.cells #[p, q] 28)) ∧
    Blk (((w.alloc (.cells #[u, v] 28)).alloc (.cells #[.int .i64 k, .int .i64 x, .int .i64 y] 60)).alloc (.cells #[p, q] 28)) w.heap.size 28 [u, v] ∧
    Blk (((w.alloc (.cells #[u, v] 28)).alloc (.cells #[.int .i64 k, .int .i64 x, .int .i64 y] 60)).alloc (.cells #[p, q] 28)) (w.heap.size + 1) 60 [.int .i64 k, .int .i64 x, .int .i64 y] ∧
    Blk (((w.alloc (.cells #[u, v] 28)).alloc (.cells #[.int .i64 k, .int .i64 x, .int .i64 y] 60)).alloc (.cells #[p, q] 28)) (w.heap.size + 1 + 1) 28 [p, q] := by
  refine ⟨(((Fr.refl _ _).alloc _).alloc _).alloc _, ((Blk.new w 28 [u, v]).alloc _).alloc _, ?_, ?_⟩
  · have := Blk.new (w.alloc (.cells #[u, v] 28)) 60 [.int .i64 k, .int .i64 x, .int .i64 y]
    rw [size_alloc] at this
    exact this.alloc _
  · have := Blk.new ((w.alloc (.cells #[u, v] 28)).alloc (.cells #[.int .i64 k, .int .i64 x, .int .i64 y] 60)) 28 [p, q]
    rw [size_alloc, size_alloc] at this
    exact this
section
variable {w : World} {B n : Nat} {P : Nat → Nat} {wt : Nat → Int} {wa pa : Option Addr} {wc pc : Nat}
/-- What a step of the reference leaves. -/
def RPost (w : World) (B n : Nat) (P' : Nat → Nat) (wt' : Nat → Int) (e : Int) (r : Ending) (w' : World) : Prop :=
  ∃ wa' wc' pa' pc', r = .returned (.tuple #[rv n wa' wc' pa' pc', .int .i64 e]) ∧ RS w' B n wt' P' wa' wc' pa' pc' ∧ Fr F0 w w'

theorem RPost.same (h : RS w B n wt P wa wc pa pc) {e : Int} {r : Ending} {w' : World} (hh : r = .returned (.tuple #[rv n wa wc pa pc, .int .i64 e]) ∧ Fr F0 w w') : RPost w B n P wt e r w' := ⟨_, _, _, _, hh.1, h.fr0 hh.2, hh.2⟩
theorem reflink_call (hp : K.Par P (vts n)) (hn : n ≤ 60) (h : RS w B n wt P wa wc pa pc) (hB : B ≤ w.heap.size) {v u e : Int} {P' : Nat → Nat} {wt' : Nat → Int} (hS : Stp n P wt 1 v u e P' wt') :
    Calls Try.prog 57 #[rv n wa wc pa pc, .int .i64 v, .int .i64 u] w fun r w' => RPost w B n P' wt' e r w' := by
  cases hS with
  | link_out hb =>
    cases hv : outB n v with
    | true => exact (refLink_out1 h hv).mono (fun r w' hh => RPost.same h hh)
    | false => exact (refLink_out2 h hv (by rw [hv] at hb; simpa using hb)).mono (fun r w' hh => RPost.same h hh)
  | link_state hv hu h0 => exact (refLink_state h hv hu h0).mono (fun r w' hh => RPost.same h hh)
  | link_cycle hv hu h0 hz => exact (refLink_cycle h hp hn hv hu h0 hz).mono (fun r w' hh => RPost.same h hh)
  | link_ok hv hu h0 hz hzv h1 h2 => exact (refLink_ok h hB hp hn hv hu h0 hz hzv h1 h2).mono (fun r w' ⟨pa', pc', h3, h4, h5⟩ => ⟨_, _, _, _, h3, h4, h5⟩)
  | none h1 => exact absurd rfl h1
theorem refcut_call (hp : K.Par P (vts n)) (hn : n ≤ 60) (h : RS w B n wt P wa wc pa pc) (hB : B ≤ w.heap.size) {v u e : Int} {P' : Nat → Nat} {wt' : Nat → Int} (hS : Stp n P wt 2 v u e P' wt') :
    Calls Try.prog 58 #[rv n wa wc pa pc, .int .i64 v] w fun r w' => RPost w B n P' wt' e r w' := by
  cases hS with
  | cut_out hb => exact (refCut_out h hb).mono (fun r w' hh => RPost.same h hh)
  | cut_state hv h0 => exact (refCut_state h hv h0).mono (fun r w' hh => RPost.same h hh)
  | cut_ok hv h0 h1 h2 => exact (refCut_ok h hB hn hv h0 h1 h2).mono (fun r w' ⟨pa', pc', h3, h4, h5⟩ => ⟨_, _, _, _, h3, h4, h5⟩)
  | none _ h1 => exact absurd rfl h1
theorem refevert_call (hp : K.Par P (vts n)) (hn : n ≤ 60) (h : RS w B n wt P wa wc pa pc) (hB : B ≤ w.heap.size) {v u e : Int} {P' : Nat → Nat} {wt' : Nat → Int} (hS : Stp n P wt 3 v u e P' wt') :
    Calls Try.prog 59 #[rv n wa wc pa pc, .int .i64 v] w fun r w' => RPost w B n P' wt' e r w' := by
  cases hS with
  | evert_out hb => exact (refEvert_out h hb).mono (fun r w' hh => RPost.same h hh)
  | evert_ok hv hl h1 h2 => exact (refEvert_ok hp h hB hn hv hl h1 h2).mono (fun r w' ⟨pa', pc', h3, h4, h5⟩ => ⟨_, _, _, _, h3, h4, h5⟩)
  | none _ _ h1 => exact absurd rfl h1
theorem refset_call (hp : K.Par P (vts n)) (hn : n ≤ 60) (h : RS w B n wt P wa wc pa pc) (hB : B ≤ w.heap.size) {v u e : Int} {P' : Nat → Nat} {wt' : Nat → Int} (hS : Stp n P wt 4 v u e P' wt') :
    Calls Try.prog 60 #[rv n wa wc pa pc, .int .i64 v, .int .i64 u] w fun r w' => RPost w B n P' wt' e r w' := by
  cases hS with
  | set_arg hx => exact (refSet_arg h hx).mono (fun r w' hh => RPost.same h hh)
  | set_out hx hb => exact (refSet_out h hx hb).mono (fun r w' hh => RPost.same h hh)
  | set_ok hx hv => exact (refSet_ok h hB hn hv hx).mono (fun r w' ⟨wa', wc', h3, h4, h5⟩ => ⟨_, _, _, _, h3, h4, h5⟩)
  | none _ _ _ h1 => exact absurd rfl h1

set_option maxRecDepth 100000 in
set_option maxHeartbeats 1000000 in
theorem refDo_any (hp : K.Par P (vts n)) (hn : n ≤ 60) (h : RS w B n wt P wa wc pa pc) (hB : B ≤ w.heap.size) {k v u e : Int} {P' : Nat → Nat} {wt' : Nat → Int} (hS : Stp n P wt k v u e P' wt') :
    Calls Try.prog 38 #[rv n wa wc pa pc, .agg #[.int .i64 k, .int .i64 v, .int .i64 u]] w fun r w' => RPost w B n P' wt' e r w' := by
  obtain ⟨f3, bx3, by3, br3⟩ := start3 w (.slice wa n wc) (.slice pa n pc) k v u (.slice none 0 0) (.slice none 0 0)
  obtain ⟨W3, hW3⟩ : ∃ W3, ((w.alloc (.cells #[.slice wa n wc, .slice pa n pc] 28)).alloc (.cells #[.int .i64 k, .int .i64 v, .int .i64 u] 60)).alloc (.cells #[.slice none 0 0, .slice none 0 0] 28) = W3 := ⟨_, rfl⟩
  rw [hW3] at f3 bx3 by3 br3
  have c0 := bx3.cell (i := 0) rfl
  have c1 := bx3.cell (i := 1) rfl
  have d0 := by3.cell (i := 0) rfl
  have d1 := by3.cell (i := 1) rfl
  have d2 := by3.cell (i := 2) rfl
  have z0 := br3.cell (i := 0) rfl
  have z1 := br3.cell (i := 1) rfl
  have x0 := br3.free 0
  have x1 := br3.free 1
  have hsz : B ≤ W3.heap.size := Nat.le_trans hB f3.size
  have HR0 := Lib.hid h
  have HR := Lib.hid (h.fr0 f3)
  have FF3 := Lib.hid f3
  replace br3 := Lib.hid br3
  have HS := Lib.hid hS
  have W3e := Lib.hid hW3
  rw [← hW3] at c0 c1 d0 d1 d2 z0 z1 x0 x1
  clear h f3 bx3 by3 hS hW3
  by_cases k1 : k = 1
  · subst k1
    go_enter Try.func38, Try.ntmps38
    go_wp2_with (go_at_call 57; rw [W3e.out]; refine (reflink_call hp hn HR.out hsz HS.out).mono ?_; rintro r w1 ⟨wa', wc', pa', pc', rfl, R1, F1⟩; have br1 := br3.out.fr F1 id; have r0 := br1.cell (i := 0) rfl; have r1 := br1.cell (i := 1) rfl; have y0 := br1.free 0; have y1 := br1.free 1; replace R1 := Lib.hid R1; replace F1 := Lib.hid F1; replace br1 := Lib.hid br1)
    have b1' := br1.out.set 0 (.slice wa' n wc')
    have bE := b1'.set 1 (.slice pa' n pc')
    have q0 := bE.cell (i := 0) rfl
    have q1 := bE.cell (i := 1) rfl
    refine bodyPost_ret (v := .tuple #[rv n wa' wc' pa' pc', .int .i64 e]) (by simp [results, Try.results38, go_sem, q0, q1]) rfl ⟨_, _, _, _, rfl, ?_, ?_⟩
    · exact (R1.out.skip br1.out (by simp) 0 _).skip b1' (by simp) 1 _
    · exact ((FF3.out.trans F1.out (fun _ _ h => h)).setCell (p := ⟨w.heap.size + 1 + 1, 0, none⟩) (fun h => by dsimp only at h; omega) _).setCell (p := ⟨w.heap.size + 1 + 1, 1, none⟩) (fun h => by dsimp only at h; omega) _
  by_cases k2 : k = 2
  · subst k2
    go_enter Try.func38, Try.ntmps38
    go_wp2_with (go_at_call 58; rw [W3e.out]; refine (refcut_call hp hn HR.out hsz HS.out).mono ?_; rintro r w1 ⟨wa', wc', pa', pc', rfl, R1, F1⟩; have br1 := br3.out.fr F1 id; have r0 := br1.cell (i := 0) rfl; have r1 := br1.cell (i := 1) rfl; have y0 := br1.free 0; have y1 := br1.free 1; replace R1 := Lib.hid R1; replace F1 := Lib.hid F1; replace br1 := Lib.hid br1)
    have b1' := br1.out.set 0 (.slice wa' n wc')
    have bE := b1'.set 1 (.slice pa' n pc')
    have q0 := bE.cell (i := 0) rfl
    have q1 := bE.cell (i := 1) rfl
    refine bodyPost_ret (v := .tuple #[rv n wa' wc' pa' pc', .int .i64 e]) (by simp [results, Try.results38, go_sem, q0, q1]) rfl ⟨_, _, _, _, rfl, ?_, ?_⟩
    · exact (R1.out.skip br1.out (by simp) 0 _).skip b1' (by simp) 1 _
    · exact ((FF3.out.trans F1.out (fun _ _ h => h)).setCell (p := ⟨w.heap.size + 1 + 1, 0, none⟩) (fun h => by dsimp only at h; omega) _).setCell (p := ⟨w.heap.size + 1 + 1, 1, none⟩) (fun h => by dsimp only at h; omega) _
  by_cases k3 : k = 3
  · subst k3
    go_enter Try.func38, Try.ntmps38
    go_wp2_with (go_at_call 59; rw [W3e.out]; refine (refevert_call hp hn HR.out hsz HS.out).mono ?_; rintro r w1 ⟨wa', wc', pa', pc', rfl, R1, F1⟩; have br1 := br3.out.fr F1 id; have r0 := br1.cell (i := 0) rfl; have r1 := br1.cell (i := 1) rfl; have y0 := br1.free 0; have y1 := br1.free 1; replace R1 := Lib.hid R1; replace F1 := Lib.hid F1; replace br1 := Lib.hid br1)
    have b1' := br1.out.set 0 (.slice wa' n wc')
    have bE := b1'.set 1 (.slice pa' n pc')
    have q0 := bE.cell (i := 0) rfl
    have q1 := bE.cell (i := 1) rfl
    refine bodyPost_ret (v := .tuple #[rv n wa' wc' pa' pc', .int .i64 e]) (by simp [results, Try.results38, go_sem, q0, q1]) rfl ⟨_, _, _, _, rfl, ?_, ?_⟩
    · exact (R1.out.skip br1.out (by simp) 0 _).skip b1' (by simp) 1 _
    · exact ((FF3.out.trans F1.out (fun _ _ h => h)).setCell (p := ⟨w.heap.size + 1 + 1, 0, none⟩) (fun h => by dsimp only at h; omega) _).setCell (p := ⟨w.heap.size + 1 + 1, 1, none⟩) (fun h => by dsimp only at h; omega) _
  by_cases k4 : k = 4
  · subst k4
    go_enter Try.func38, Try.ntmps38
    go_wp2_with (go_at_call 60; rw [W3e.out]; refine (refset_call hp hn HR.out hsz HS.out).mono ?_; rintro r w1 ⟨wa', wc', pa', pc', rfl, R1, F1⟩; have br1 := br3.out.fr F1 id; have r0 := br1.cell (i := 0) rfl; have r1 := br1.cell (i := 1) rfl; have y0 := br1.free 0; have y1 := br1.free 1; replace R1 := Lib.hid R1; replace F1 := Lib.hid F1; replace br1 := Lib.hid br1)
    have b1' := br1.out.set 0 (.slice wa' n wc')
    have bE := b1'.set 1 (.slice pa' n pc')
    have q0 := bE.cell (i := 0) rfl
    have q1 := bE.cell (i := 1) rfl
    refine bodyPost_ret (v := .tuple #[rv n wa' wc' pa' pc', .int .i64 e]) (by simp [results, Try.results38, go_sem, q0, q1]) rfl ⟨_, _, _, _, rfl, ?_, ?_⟩
    · exact (R1.out.skip br1.out (by simp) 0 _).skip b1' (by simp) 1 _
    · exact ((FF3.out.trans F1.out (fun _ _ h => h)).setCell (p := ⟨w.heap.size + 1 + 1, 0, none⟩) (fun h => by dsimp only at h; omega) _).setCell (p := ⟨w.heap.size + 1 + 1, 1, none⟩) (fun h => by dsimp only at h; omega) _
  have hE : e = 0 ∧ P' = P ∧ wt' = wt := by
    cases HS.out with
    | none _ _ _ _ => exact ⟨rfl, rfl, rfl⟩
    | _ => simp at k1 k2 k3 k4
  obtain ⟨rfl, rfl, rfl⟩ := hE
  clear HS
  go_enter Try.func38, Try.ntmps38
  go_wp2_with fail
  obtain ⟨fE, _, _, bE⟩ := start3 w (.slice wa n wc) (.slice pa n pc) k v u (.slice wa n wc) (.slice pa n pc)
  have q0 := bE.cell (i := 0) rfl
  have q1 := bE.cell (i := 1) rfl
  exact bodyPost_ret (v := .tuple #[rv n wa wc pa pc, .int .i64 0]) (by simp [results, Try.results38, go_sem, q0, q1]) rfl ⟨_, _, _, _, rfl, HR0.out.fr0 fE, fE⟩
end
end Go.Proofs.Ytfeokafjehpgnaa
