/- The cache as it lies; cut and front in these words; New, Misses, Blocks. -/
import Derived.Test.YtnlgjpcnnnilpaaR2
namespace Go.Proofs.Ytnlgjpcnnnilpaa
open Go.RowKit
attribute [local go_sem ↓] Go.wp_at_zero Go.wp_at_succ

def natL (V : List Nat) : List Int := V.map fun v : Nat => (v : Int)
theorem natL_set (V : List Nat) (i v : Nat) : ints (natL (V.set i v)) = (ints (natL V)).set i (.int .i64 v) := by unfold natL; rw [List.map_set]; exact List.map_set
/-- The cache's own cells. -/
structure CL (w : World) (B x : Nat) (m mi : Int) (bm gb gn gp cb cn cp s : Nat) (BL : List Int) (NX PV : List Nat) : Prop where
  kx : w.heap[x]? = some (.cells (cacheV m mi bm gb gn gp cb cn cp s) 52 (0, 0))
  ob : Own w B 3 (some ⟨gb, 0, none⟩) (s + 1) cb (ints BL)
  on : Own w B 3 (some ⟨gn, 0, none⟩) (s + 1) cn (ints (natL NX))
  op : Own w B 3 (some ⟨gp, 0, none⟩) (s + 1) cp (ints (natL PV))
  d1 : gn ≠ gp ∧ gn ≠ x ∧ gp ≠ x
  d2 : gb ≠ gn ∧ gb ≠ gp ∧ gb ≠ x
  bx : B ≤ x
section
variable {w w' : World} {B x bm gb gn gp cb cn cp s : Nat} {m mi : Int} {BL : List Int} {NX PV : List Nat}
theorem CL.fr {S : Nat → Prop} (h : CL w B x m mi bm gb gn gp cb cn cp s BL NX PV) (f : Fr S w w') (hx : ¬ S x) (hb : ¬ S gb) (hn : ¬ S gn) (hp : ¬ S gp) : CL w' B x m mi bm gb gn gp cb cn cp s BL NX PV :=
  ⟨(f.block x (lt_of_block h.kx) hx).trans h.kx, h.ob.fr f (fun k hk => by rw [(onBlk_some _ _ _ _).1 hk]; exact hb), h.on.fr f (fun k hk => by rw [(onBlk_some _ _ _ _).1 hk]; exact hn), h.op.fr f (fun k hk => by rw [(onBlk_some _ _ _ _).1 hk]; exact hp), h.d1, h.d2, h.bx⟩
theorem CL.fr0 (h : CL w B x m mi bm gb gn gp cb cn cp s BL NX PV) (f : Fr F0 w w') : CL w' B x m mi bm gb gn gp cb cn cp s BL NX PV := h.fr f id id id id
theorem CL.lens (h : CL w B x m mi bm gb gn gp cb cn cp s BL NX PV) : BL.length = s + 1 ∧ NX.length = s + 1 ∧ PV.length = s + 1 :=
  ⟨by simpa using h.ob.len, by simpa [natL] using h.on.len, by simpa [natL] using h.op.len⟩
theorem nat_cell {g c : Nat} {V : List Nat} (h : Own w B 3 (some ⟨g, 0, none⟩) (s + 1) c (ints (natL V))) {i v : Nat} (hv : V[i]? = some v) : w.cell? ⟨g, i, none⟩ = some (.int .i64 v) := by
  obtain ⟨b, o, hb, hc⟩ := h.rd.cells (by omega)
  injection hb with hb
  injection hb with e1 e2
  subst e1
  subst e2
  have := hc i (.int .i64 v) (by unfold natL; rw [List.getElem?_map, List.getElem?_map, hv]; rfl)
  rwa [Nat.zero_add] at this
theorem CL.setN (h : CL w B x m mi bm gb gn gp cb cn cp s BL NX PV) (i v : Nat) : CL (w.setCell ⟨gn, i, none⟩ (.int .i64 v)) B x m mi bm gb gn gp cb cn cp s BL (NX.set i v) PV := by
  have F : Fr (onB gn) w (w.setCell ⟨gn, i, none⟩ (.int .i64 v)) := (Fr.refl _ _).setB i _
  have hn : Own (w.setCell ⟨gn, i, none⟩ (.int .i64 v)) B 3 (some ⟨gn, 0, none⟩) (s + 1) cn (ints (natL (NX.set i v))) := by rw [natL_set]; exact h.on.set (i := i) _
  obtain ⟨a1, a2, a3⟩ := h.d1
  obtain ⟨b1, b2, b3⟩ := h.d2
  exact ⟨(F.block x (lt_of_block h.kx) (fun e => a2 (Eq.symm e))).trans h.kx, h.ob.fr F (fun k hk e => by have := (onBlk_some _ _ _ _).1 hk; exact b1 (this.symm.trans e)), hn, h.op.fr F (fun k hk e => by have := (onBlk_some _ _ _ _).1 hk; exact a1 (Eq.symm (this.symm.trans e))), h.d1, h.d2, h.bx⟩
theorem CL.setP (h : CL w B x m mi bm gb gn gp cb cn cp s BL NX PV) (i v : Nat) : CL (w.setCell ⟨gp, i, none⟩ (.int .i64 v)) B x m mi bm gb gn gp cb cn cp s BL NX (PV.set i v) := by
  have F : Fr (onB gp) w (w.setCell ⟨gp, i, none⟩ (.int .i64 v)) := (Fr.refl _ _).setB i _
  have hn : Own (w.setCell ⟨gp, i, none⟩ (.int .i64 v)) B 3 (some ⟨gp, 0, none⟩) (s + 1) cp (ints (natL (PV.set i v))) := by rw [natL_set]; exact h.op.set (i := i) _
  obtain ⟨a1, a2, a3⟩ := h.d1
  obtain ⟨b1, b2, b3⟩ := h.d2
  exact ⟨(F.block x (lt_of_block h.kx) (fun e => a3 (Eq.symm e))).trans h.kx, h.ob.fr F (fun k hk e => by have := (onBlk_some _ _ _ _).1 hk; exact b2 (this.symm.trans e)), h.on.fr F (fun k hk e => by have := (onBlk_some _ _ _ _).1 hk; exact a1 (this.symm.trans e)), hn, h.d1, h.d2, h.bx⟩
theorem CL.setB (h : CL w B x m mi bm gb gn gp cb cn cp s BL NX PV) (i : Nat) (v : Int) : CL (w.setCell ⟨gb, i, none⟩ (.int .i64 v)) B x m mi bm gb gn gp cb cn cp s (BL.set i v) NX PV := by
  have F : Fr (onB gb) w (w.setCell ⟨gb, i, none⟩ (.int .i64 v)) := (Fr.refl _ _).setB i _
  have hn : Own (w.setCell ⟨gb, i, none⟩ (.int .i64 v)) B 3 (some ⟨gb, 0, none⟩) (s + 1) cb (ints (BL.set i v)) := by
    have e : ints (BL.set i v) = (ints BL).set i (.int .i64 v) := List.map_set
    rw [e]; exact h.ob.set (i := i) _
  obtain ⟨a1, a2, a3⟩ := h.d1
  obtain ⟨b1, b2, b3⟩ := h.d2
  exact ⟨(F.block x (lt_of_block h.kx) (fun e => b3 (Eq.symm e))).trans h.kx, hn, h.on.fr F (fun k hk e => by have := (onBlk_some _ _ _ _).1 hk; exact b1 (Eq.symm (this.symm.trans e))), h.op.fr F (fun k hk e => by have := (onBlk_some _ _ _ _).1 hk; exact b2 (Eq.symm (this.symm.trans e))), h.d1, h.d2, h.bx⟩
theorem CL.setM (h : CL w B x m mi bm gb gn gp cb cn cp s BL NX PV) (v : Int) : CL (w.setCell ⟨x, 1, none⟩ (.int .i64 v)) B x m v bm gb gn gp cb cn cp s BL NX PV := by
  have F : Fr (onB x) w (w.setCell ⟨x, 1, none⟩ (.int .i64 v)) := (Fr.refl _ _).setB 1 _
  obtain ⟨a1, a2, a3⟩ := h.d1
  obtain ⟨b1, b2, b3⟩ := h.d2
  refine ⟨?_, h.ob.fr F (fun k hk e => by have := (onBlk_some _ _ _ _).1 hk; exact b3 (this.symm.trans e)), h.on.fr F (fun k hk e => by have := (onBlk_some _ _ _ _).1 hk; exact a2 (this.symm.trans e)), h.op.fr F (fun k hk e => by have := (onBlk_some _ _ _ _).1 hk; exact a3 (this.symm.trans e)), h.d1, h.d2, h.bx⟩
  have := heap_setCell_same (i := 1) h.kx (.int .i64 v)
  simpa [cacheV] using this
theorem own_free {g c : Nat} {vs : List Value} (h : Own w B 3 (some ⟨g, 0, none⟩) (s + 1) c vs) (j : Nat) : w.frozen? ⟨g, j, none⟩ = false := by
  obtain ⟨g', hg, _, _, _, hf⟩ := h.at (by omega)
  injection hg with hg
  injection hg with hg
  subst hg
  exact hf j
theorem nat_some {V : List Nat} {i : Nat} (h : i < V.length) : ∃ v, V[i]? = some v := ⟨V[i], List.getElem?_eq_getElem h⟩
abbrev onG (gn gp : Nat) : Nat → Prop := fun k => k = gn ∨ k = gp
theorem cut_R (h : CL w B x m mi bm gb gn gp cb cn cp s BL NX PV) {i p n : Nat} (hi : i ≤ s) (e1 : NX[i]? = some n) (e2 : PV[i]? = some p) (hpi : p ≠ i) (hni : n ≠ i) (hp : p ≤ s) (hn : n ≤ s) :
    Calls Try.prog 37 #[.pointer (some ⟨x, 0, none⟩), .int .i64 i] w fun e w' => e = .returned (.tuple #[]) ∧ CL w' B x m mi bm gb gn gp cb cn cp s BL (NX.set p n) (PV.set n p) ∧ Fr (onG gn gp) w w' := by
  obtain ⟨l1, l2, l3⟩ := h.lens
  obtain ⟨y1, hy1⟩ := nat_some (V := NX) (i := p) (by omega)
  obtain ⟨y2, hy2⟩ := nat_some (V := PV) (i := n) (by omega)
  refine (cut_any h.kx h.d1 hi hpi hni hp hn (nat_cell h.on e1) (nat_cell h.op e2) ⟨_, nat_cell h.on hy1⟩ ⟨_, nat_cell h.op hy2⟩ (own_free h.on p) (own_free h.op n)).mono ?_
  rintro e w' ⟨rfl, q, rfl⟩
  refine ⟨rfl, ((h.setN p n).setP n p).fr0 ((Fr.refl _ _).drewN q), Fr.drewN ?_ q⟩
  exact Fr.setCell (p := ⟨gp, n, none⟩) (Fr.setCell (p := ⟨gn, p, none⟩) (Fr.refl _ _) (fun _ => .inl rfl) _) (fun _ => .inr rfl) _
theorem front_R (h : CL w B x m mi bm gb gn gp cb cn cp s BL NX PV) {i hd : Nat} (hi : i ≤ s) (hi0 : 0 ≠ i) (e1 : NX[0]? = some hd) (hhi : hd ≠ i) (hh : hd ≤ s) (hs : s ≤ 1000000) :
    Calls Try.prog 38 #[.pointer (some ⟨x, 0, none⟩), .int .i64 i] w fun e w' => e = .returned (.tuple #[]) ∧ CL w' B x m mi bm gb gn gp cb cn cp s BL ((NX.set i hd).set 0 i) ((PV.set i 0).set hd i) ∧ Fr (onG gn gp) w w' := by
  obtain ⟨l1, l2, l3⟩ := h.lens
  obtain ⟨y1, hy1⟩ := nat_some (V := NX) (i := i) (by omega)
  obtain ⟨y2, hy2⟩ := nat_some (V := PV) (i := i) (by omega)
  obtain ⟨y3, hy3⟩ := nat_some (V := PV) (i := hd) (by omega)
  refine (front_any h.kx h.d1 hi hi0 hhi hh hs (nat_cell h.on e1) ⟨_, nat_cell h.on hy1⟩ ⟨_, nat_cell h.op hy2⟩ ⟨_, nat_cell h.op hy3⟩ (own_free h.on) (own_free h.op)).mono ?_
  rintro e w' ⟨rfl, q, rfl⟩
  refine ⟨rfl, ?_, Fr.drewN ?_ q⟩
  · have h1 := ((((h.setN i hd).setP i 0).setP hd i).setN 0 i).fr0 ((Fr.refl _ _).drewN q)
    exact h1
  · exact Fr.setCell (p := ⟨gn, 0, none⟩) (Fr.setCell (p := ⟨gp, hd, none⟩) (Fr.setCell (p := ⟨gp, i, none⟩) (Fr.setCell (p := ⟨gn, i, none⟩) (Fr.refl _ _) (fun _ => .inl rfl) _) (fun _ => .inr rfl) _) (fun _ => .inr rfl) _) (fun _ => .inl rfl) _
end
end Go.Proofs.Ytnlgjpcnnnilpaa
