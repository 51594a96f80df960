/- leaf, take. -/
import Derived.Test.YtdphademoeofkaaS1
import Derived.Test.YtdphademoeofkaaCom6
import Derived.Deep.RegionLaw
namespace Go.Proofs.Ytdphademoeofkaa
open Go.RowKit
attribute [local go_sem ↓] Go.wp_at_zero Go.wp_at_succ
theorem leaf_yes {w : World} {b : Nat} {vs : List Value} (hb : Blk w b 62 (.pointer none :: .pointer none :: vs)) : Calls Try.prog 31 #[.pointer (some ⟨b, 0, none⟩)] w fun e w' => e = .returned (.bool true) ∧ w = w' := by
  have y0 := hb.cell (i := 0) rfl
  have y1 := hb.cell (i := 1) rfl
  clear hb
  go_enter Try.func31, Try.ntmps31
  go_wp2_with fail
  go_ret
  exact ⟨rfl, rfl⟩
theorem leaf_no {w : World} {b : Nat} {pl pr : Option Addr} {vs : List Value} (hb : Blk w b 62 (.pointer pl :: .pointer pr :: vs)) (h : ¬ (pl = none ∧ pr = none)) : Calls Try.prog 31 #[.pointer (some ⟨b, 0, none⟩)] w fun e w' => e = .returned (.bool false) ∧ w = w' := by
  have y0 := hb.cell (i := 0) rfl
  have y1 := hb.cell (i := 1) rfl
  clear hb
  cases pl with
  | some p =>
    clear h
    go_enter Try.func31, Try.ntmps31
    go_wp2_with fail
    go_ret
    exact ⟨rfl, rfl⟩
  | none =>
    cases pr with
    | none => exact absurd ⟨rfl, rfl⟩ h
    | some p =>
      clear h
      go_enter Try.func31, Try.ntmps31
      go_wp2_with fail
      go_ret
      exact ⟨rfl, rfl⟩
/-- The heap's list of where items are; apart from the blocks N. -/
structure HI (w : World) (hb ig m cI : Nat) (I : List (Option Nat)) (N : Nat → Prop) : Prop where
  cell : w.cell? ⟨hb, 3, none⟩ = some (.slice (some ⟨ig, 0, none⟩) m cI)
  own : Own w 0 60 (some ⟨ig, 0, none⟩) m cI (ptrs I)
  hg : hb ≠ ig
  hN : ¬ N hb
  gN : ¬ N ig
  hlt : hb < w.heap.size
theorem HI.fr {w w' : World} {hb ig m cI : Nat} {I : List (Option Nat)} {N F : Nat → Prop} (h : HI w hb ig m cI I N) (f : Fr F w w') (h1 : ¬ F hb) (h2 : ¬ F ig) : HI w' hb ig m cI I N :=
  { h with cell := f.cell h.cell h1, own := h.own.fr f (fun q hq => by rw [(onBlk_some _ _ _ _).1 hq]; exact h2), hlt := Nat.lt_of_lt_of_le h.hlt f.size }
theorem HI.ilt {w : World} {hb ig m cI : Nat} {I : List (Option Nat)} {N : Nat → Prop} (h : HI w hb ig m cI I N) : ig < w.heap.size := (h.own.blk ig ((onBlk_some _ _ _ _).2 rfl)).2
theorem HI.grw {w0 w : World} {hb ig m cI : Nat} {I : List (Option Nat)} {N : Nat → Prop} (h : HI w hb ig m cI I N) (h1 : hb < w0.heap.size) (h2 : ig < w0.heap.size) : HI w hb ig m cI I (Grw N w0 w) :=
  { h with hN := fun e => e.elim h.hN (fun e => by omega), gN := fun e => e.elim h.gN (fun e => by omega) }
theorem HI.len {w : World} {hb ig m cI : Nat} {I : List (Option Nat)} {N : Nat → Prop} (h : HI w hb ig m cI I N) : I.length = m := by simpa using h.own.len
/-- What refill leaves. -/
def RfPost (w : World) (hb ig m cI : Nat) (N : Nat → Prop) (x' : Tr) (I' : List (Option Nat)) (e : Ending) (w' : World) : Prop :=
  e = .returned (.tuple #[]) ∧ TM w' x' (Grw N w w') ∧ HI w' hb ig m cI I' (Grw N w w') ∧ Fr (fun q => N q ∨ q = ig) w w'
def RfC (n : Nat) : Prop := ∀ x I x' I', Rf n x I x' I' → ∀ (w : World) (hb ig m cI : Nat) (N : Nat → Prop), TM w x N → HI w hb ig m cI I N → (∀ i ∈ x.ids, 0 ≤ i ∧ i < (m : Int)) → x.ids.length ≤ 100000 →
  Calls Try.prog 32 #[.pointer (some ⟨hb, 0, none⟩), .pointer x.ptr] w (RfPost w hb ig m cI N x' I')
theorem Rf.ptr {n : Nat} {x x' : Tr} {I I' : List (Option Nat)} (h : Rf n x I x' I') : x'.ptr = x.ptr := by
  induction h with
  | stop => rfl
  | leaf _ _ _ _ ih => exact ih
  | deep _ _ _ _ _ _ _ ih => exact ih
theorem ptrs_set (I : List (Option Nat)) (i b : Nat) : (ptrs I).set i (.pointer (some ⟨b, 0, none⟩)) = ptrs (I.set i (some b)) := by simp [ptrs, List.map_set]
theorem items_succ {l : List Int} {j : Nat} (h : j < l.length) (I : List (Option Nat)) (b : Nat) : setMany I (l.take (j + 1)) b = (setMany I (l.take j) b).set l[j].toNat (some b) := by
  rw [← List.take_append_getElem h, setMany_append]
  rfl
set_option maxHeartbeats 2000000 in
theorem take_leaf {w : World} {hb ig m cI b bY : Nat} {r : Tr} {it ity : List Int} {key ky : Int} {rank size rky sy : Nat} {I : List (Option Nat)} {N : Nat → Prop}
    (hT : TM w (.nd b (.nd bY .nil .nil ity ky rky sy) r it key rank size) N) (hI : HI w hb ig m cI I N) (hid : ∀ i ∈ Tr.ids (.nd b (.nd bY .nil .nil ity ky rky sy) r it key rank size), 0 ≤ i ∧ i < (m : Int)) (hl : (Tr.ids (.nd b (.nd bY .nil .nil ity ky rky sy) r it key rank size)).length ≤ 100000) :
    Calls Try.prog 48 #[.pointer (some ⟨hb, 0, none⟩), .pointer (some ⟨b, 0, none⟩), .pointer (some ⟨b, 0, none⟩)] w (RfPost w hb ig m cI N (.nd b .nil r (it ++ ity) ky rank size) (setMany I ity b)) := by
  obtain ⟨a, n, c, Nl, Nr, X⟩ := hT
  obtain ⟨aY, nY, cY, Nl', Nr', Y⟩ := X.left
  have hbb : b ≠ bY := fun e => (X.ol bY Y.nb).2.1 e.symm
  have HX := Lib.hid X
  have HY := Lib.hid Y
  have HI0 := Lib.hid hI
  have hyl := Lib.hid (show ity.length = nY by simpa using Y.own.len)
  have hxl := Lib.hid (show it.length = n by simpa using X.own.len)
  have hidY := Lib.hid (show ∀ i ∈ ity, 0 ≤ i ∧ i < (m : Int) from fun i hi => hid i (by simp [Tr.ids, hi]))
  have hnn : n + nY ≤ 100000 := by
    have h1 := hyl.out
    have h2 := hxl.out
    simp only [Tr.ids, List.length_append] at hl
    omega
  have hNig := Lib.hid (fun q (hq : N q) (e : q = ig) => hI.gN (e ▸ hq))
  have hidA := Lib.hid hid
  have hlA := Lib.hid hl
  have x0 : w.cell? ⟨b, 0, none⟩ = some (.pointer (some ⟨bY, 0, none⟩)) := X.blk.cell (i := 0) rfl
  have y2 : w.cell? ⟨bY, 2, none⟩ = some (.slice aY nY cY) := Y.blk.cell (i := 2) rfl
  clear X Y hI hid hl
  go_enter Try.func48, Try.ntmps48
  go_wp2_with fail
  clear x0 y2
  go_loopw [17] (fun s17 wr => ∃ j : Nat, j ≤ nY ∧ s17 = .int .i64 j ∧ Hid (HI wr hb ig m cI (setMany I (ity.take j) b) N) ∧ Hid (Fr (onB ig) w wr)) (fun s17 _ => nY - (intOf s17).toNat)
  case atStart => exact ⟨0, by omega, rfl, HI0, Lib.hid (Fr.refl _ _)⟩
  case round =>
    obtain ⟨j, hj, rfl, HIr, HF⟩ := hrel
    have HYr := Lib.hid (HY.out.own.fr HF.out (fun q hq => hNig.out q (HX.out.ol q (HY.out.oa q hq).1).1))
    by_cases hlt : j < nY
    · obtain ⟨b1, o1, i, ea1, hi, hc1⟩ := HYr.out.rd.ix hlt
      subst ea1
      obtain ⟨hi0, him⟩ := hidY.out i (List.mem_of_getElem? hi)
      obtain ⟨i, rfl⟩ : ∃ k : Nat, i = k := ⟨i.toNat, by omega⟩
      have him' : i < m := by omega
      have y3 := HIr.out.cell
      obtain ⟨g', eg, _, _, hcg, hfg⟩ := HIr.out.own.at (by omega)
      injection eg with eg
      injection eg with eg _ _
      subst eg
      have hil : i < (setMany I (ity.take j) b).length := by rw [HIr.out.len]; exact him'
      have d1 := hcg i _ (by rw [List.getElem?_map, List.getElem?_eq_getElem hil]; rfl)
      have f1 := hfg i
      have hjl : j < ity.length := by have := hyl.out; omega
      have HS : Hid (setMany I (ity.take (j + 1)) b = (setMany I (ity.take j) b).set i (some b)) := Lib.hid (by
        rw [items_succ hjl]
        rw [List.getElem?_eq_getElem hjl] at hi
        injection hi with hi
        rw [hi]
        rfl)
      generalize (setMany I (ity.take j) b)[i] = ov at *
      clear hi hcg hfg hil hi0 him hjl
      go_wp2_with fail
      go_roundw
      case rel =>
        refine ⟨j + 1, by omega, by go_num, ?_, Lib.hid (HF.out.setB i _)⟩
        have hF1 : Fr (onB ig) wr (wr.setCell ⟨ig, i, none⟩ (.pointer (some ⟨b, 0, none⟩))) := (Fr.refl (onB ig) wr).setB i _
        have ho := HIr.out.own.set (i := i) (.pointer (some ⟨b, 0, none⟩))
        rw [ptrs_set, ← HS.out] at ho
        exact Lib.hid { HIr.out with cell := hF1.cell HIr.out.cell (fun e => HIr.out.hg e), own := ho, hlt := Nat.lt_of_lt_of_le HIr.out.hlt hF1.size }
      case measure => simp [intOf]; omega
    · obtain rfl : nY = j := by omega
      have hI2 : Hid (HI wr hb ig m cI (setMany I ity b) N) := Lib.hid (by have := HIr.out; rwa [← hyl.out, List.take_length] at this)
      have hbN : ∀ q, N q → ¬ onB ig q := fun q hq (e : q = ig) => hNig.out q hq e
      have BX := Lib.hid (HX.out.blk.fr HF.out (hbN b HX.out.nb))
      have BY := Lib.hid (HY.out.blk.fr HF.out (hbN bY (HX.out.ol bY HY.out.nb).1))
      have OX : Hid (Own wr.drew 0 3 a n c (ints it)) := Lib.hid (HX.out.own.fr HF.out (fun q hq => hbN q (HX.out.oa q hq).1)).drew
      have RY : Hid (Rd wr.drew aY nY (ints ity)) := Lib.hid (HYr.out.rd.fr0 (Fr.refl _ _).drew)
      have x2 : wr.cell? ⟨b, 2, none⟩ = some (.slice a n c) := BX.out.cell (i := 2) rfl
      have y2 : wr.cell? ⟨bY, 2, none⟩ = some (.slice aY nY cY) := BY.out.cell (i := 2) rfl
      have z2 := BX.out.free 2
      have hba : Hid (¬ onBlk a b) := Lib.hid (fun e => (HX.out.oa b e).2.1 rfl)
      have hbY : Hid (¬ onBlk a bY) := Lib.hid (fun e => (HX.out.oa bY e).2.2.1 HY.out.nb)
      obtain ⟨kk, hk⟩ : ∃ kk, n + nY = kk := ⟨_, rfl⟩
      have Hk := Lib.hid hk
      have hkk : kk ≤ 100000 := by omega
      clear hk
      go_wp2_with fail
      go_region_law ((refine stepAppRd E3 (by rfl) (by rfl) (by rfl) (by rfl) OX.out RY.out (oneCell_ints _) (by omega) (by omega) (by omega) kk Hk.out ?_; intro a6 c6 w6 own6 fr6 at6; have q1 : w6.cell? ⟨b, 2, none⟩ = some (.slice a n c) := fr6.cell (w := wr.drew) x2 hba.out; have q2 : w6.frozen? ⟨b, 2, none⟩ = false := (fr6.frozen (w := wr.drew) BX.out.lt hba.out).trans z2; have HO6 := Lib.hid own6; have HF6 := Lib.hid fr6; have HA6 := Lib.hid at6; clear own6 fr6 at6))
      all_goals
        obtain ⟨W, hW⟩ : ∃ W, W = w6.setCell ⟨b, 2, none⟩ (.slice a6 kk c6) := ⟨_, rfl⟩
        rw [← hW]
        have FW : Fr (fun q => onBlk a q ∨ q = b) wr W := by
          rw [hW]
          exact (((Fr.refl _ wr).drew).trans HF6.out (fun q _ e => .inl e)).setCell (p := ⟨b, 2, none⟩) (fun _ => .inr rfl) _
        have hs1 := HF.out.size
        have hs6 := HF6.out.size
        have hs6' : wr.heap.size ≤ w6.heap.size := hs6
        have hblt : b < w.heap.size := HX.out.blk.lt
        have ha6 : Hid (∀ q, onBlk a6 q → q ≠ b ∧ q ≠ bY ∧ ¬ Nl q ∧ ¬ Nr q ∧ (N q ∨ w.heap.size ≤ q) ∧ q < W.heap.size) := Lib.hid (fun q hq => by
          have h9 := (HO6.out.blk q hq).2
          have h8 : q < W.heap.size := by rw [hW]; simpa using h9
          rcases HA6.out q hq with e | e
          · have := HX.out.oa q e
            exact ⟨this.2.1, fun g => hbY.out (g ▸ e), this.2.2.1, this.2.2.2, .inl this.1, h8⟩
          · have e' : wr.heap.size ≤ q := e
            have hbYl : bY < w.heap.size := HX.out.lt _ (HX.out.ol bY HY.out.nb).1
            exact ⟨fun g => by omega, fun g => by omega, fun g => by have := HX.out.lt q (HX.out.ol q g).1; omega, fun g => by have := HX.out.lt q (HX.out.or q g).1; omega, .inr (by omega), h8⟩)
        have BX7 : Hid (Blk W b 62 (ndS (some ⟨bY, 0, none⟩) r.ptr a6 kk c6 key rank size)) := Lib.hid (by
          rw [hW]
          exact (Blk.fr (w := wr.drew) BX.out HF6.out hba.out).set 2 (.slice a6 kk c6))
        have BY7 : Hid (Blk W bY 62 (ndS none none aY nY cY ky rky sy)) := Lib.hid (BY.out.fr FW (fun e => e.elim hbY.out (fun e => hbb e.symm)))
        have OX7 : Hid (Own W 0 3 a6 kk c6 (ints (it ++ ity))) := Lib.hid (by
          have h := Own.other (p := ⟨b, 2, none⟩) HO6.out (fun e => (ha6.out b e).1 rfl) (.slice a6 kk c6)
          rw [hW]
          simpa [ints] using h)
        have hI7 : Hid (HI W hb ig m cI (setMany I ity b) N) := Lib.hid (hI2.out.fr FW (fun e => e.elim (fun e => HI0.out.hN (HX.out.oa hb e).1) (fun e => HI0.out.hN (e ▸ HX.out.nb))) (fun e => e.elim (fun e => HI0.out.gN (HX.out.oa ig e).1) (fun e => HI0.out.gN (e ▸ HX.out.nb))))
        have HFW : Hid (Fr (fun q => N q ∨ q = ig) w W) := Lib.hid ((HF.out.mono (fun q _ (e : q = ig) => .inr e)).trans FW (fun q _ e => .inl (e.elim (fun e => (HX.out.oa q e).1) (fun e => e ▸ HX.out.nb))))
        have HFr : Hid (Fr (fun q => q = ig ∨ onBlk a q ∨ q = b) w W) := Lib.hid ((HF.out.mono (fun q _ (e : q = ig) => .inl e)).trans FW (fun q _ e => .inr e))
        have hsW := FW.size
        clear hW FW HO6 HF6 HA6 HF HIr hI2 BX BY OX RY x2 y2 z2 HYr hs6
        have k3 : W.cell? ⟨bY, 3, none⟩ = some (.int .i64 ky) := BY7.out.cell (i := 3) rfl
        have x3 : W.cell? ⟨b, 3, none⟩ = some (.int .i64 key) := BX7.out.cell (i := 3) rfl
        have z3 := BX7.out.free 3
        have y2 : W.cell? ⟨bY, 2, none⟩ = some (.slice aY nY cY) := BY7.out.cell (i := 2) rfl
        have z2 := BY7.out.free 2
        have BY8 : Hid (Blk ((W.setCell ⟨b, 3, none⟩ (.int .i64 ky)).setCell ⟨bY, 2, none⟩ (.slice none 0 0)) bY 62 (ndS none none none 0 0 ky rky sy)) := Lib.hid ((BY7.out.other (p := ⟨b, 3, none⟩) (Ne.symm hbb) _).set 2 _)
        have BX8 : Hid (Blk ((W.setCell ⟨b, 3, none⟩ (.int .i64 ky)).setCell ⟨bY, 2, none⟩ (.slice none 0 0)) b 62 (ndS (some ⟨bY, 0, none⟩) r.ptr a6 kk c6 ky rank size)) := Lib.hid ((BX7.out.set 3 _).other (p := ⟨bY, 2, none⟩) hbb _)
        have F8 : Hid (Fr (fun q => q = b ∨ q = bY) W ((W.setCell ⟨b, 3, none⟩ (.int .i64 ky)).setCell ⟨bY, 2, none⟩ (.slice none 0 0))) := Lib.hid (((Fr.refl _ W).setCell (p := ⟨b, 3, none⟩) (fun _ => .inl rfl) _).setCell (p := ⟨bY, 2, none⟩) (fun _ => .inr rfl) _)
        go_wp2_with fail
        refine (leaf_yes BY8.out).mono ?_
        rintro e w9 ⟨rfl, rfl⟩
        generalize (W.setCell ⟨b, 3, none⟩ (.int .i64 ky)).setCell ⟨bY, 2, none⟩ (.slice none 0 0) = W8 at *
        have b0 : W8.cell? ⟨b, 0, none⟩ = some (.pointer (some ⟨bY, 0, none⟩)) := BX8.out.cell (i := 0) rfl
        have z0 := BX8.out.free 0
        go_wp2_with fail
        go_end0
        have F9 : Fr (fun q => q = b ∨ q = bY) W (W8.setCell ⟨b, 0, none⟩ (.pointer none)) := F8.out.setCell (p := ⟨b, 0, none⟩) (fun _ => .inl rfl) _
        have hs9 := F9.size
        have hNbY : N bY := (HX.out.ol bY HY.out.nb).1
        have hhlt := HI0.out.hlt
        have hilt := HI0.out.ilt
        refine ⟨rfl, ⟨a6, kk, c6, fun _ => False, Nr, ⟨BX8.out.set 0 _, OX7.out.fr F9 (fun q hq e => e.elim (ha6.out q hq).1 (ha6.out q hq).2.1), fun _ h => h.elim, ?_, .inl HX.out.nb, fun q hq => ⟨?_, (ha6.out q hq).1, id, (ha6.out q hq).2.2.2.1⟩, fun _ h => h.elim, fun q hq => ⟨.inl (HX.out.or q hq).1, (HX.out.or q hq).2⟩, Grw.lt HX.out.lt (by omega)⟩⟩, (hI7.out.fr F9 (fun e => e.elim (fun e => HI0.out.hN (e ▸ HX.out.nb)) (fun e => HI0.out.hN (e ▸ hNbY))) (fun e => e.elim (fun e => HI0.out.gN (e ▸ HX.out.nb)) (fun e => HI0.out.gN (e ▸ hNbY)))).grw hhlt hilt, HFW.out.trans F9 (fun q _ e => .inl (e.elim (fun e => e ▸ HX.out.nb) (fun e => e ▸ hNbY)))⟩
        · refine (HX.out.right.fr HFr.out (fun q hq e => ?_)).fr F9 (fun q hq e => ?_)
          · rcases e with e | e | e
            · exact hNig.out q (HX.out.or q hq).1 e
            · exact (HX.out.oa q e).2.2.2 hq
            · exact (HX.out.or q hq).2 e
          · rcases e with e | e
            · exact (HX.out.or q hq).2 e
            · exact (HX.out.ol bY HY.out.nb).2.2 (e ▸ hq)
        · rcases (ha6.out q hq).2.2.2.2.1 with e | e
          · exact .inl e
          · exact .inr ⟨e, by have := (ha6.out q hq).2.2.2.2.2; omega⟩
set_option maxHeartbeats 2000000 in
theorem take_deep {w : World} {hb ig m cI b bY : Nat} {lY rY y2 r : Tr} {it ity : List Int} {key ky : Int} {rank size rky sy k : Nat} {I I2 : List (Option Nat)} {N : Nat → Prop} (IH : RfC k)
    (hT : TM w (.nd b (.nd bY lY rY ity ky rky sy) r it key rank size) N) (hI : HI w hb ig m cI I N) (hid : ∀ i ∈ Tr.ids (.nd b (.nd bY lY rY ity ky rky sy) r it key rank size), 0 ≤ i ∧ i < (m : Int)) (hl : (Tr.ids (.nd b (.nd bY lY rY ity ky rky sy) r it key rank size)).length ≤ 100000) (h3 : ¬ (lY = .nil ∧ rY = .nil)) (hy : Rf k (.nd bY lY rY [] ky rky sy) (setMany I ity b) y2 I2) :
    Calls Try.prog 48 #[.pointer (some ⟨hb, 0, none⟩), .pointer (some ⟨b, 0, none⟩), .pointer (some ⟨b, 0, none⟩)] w (RfPost w hb ig m cI N (.nd b y2 r (it ++ ity) ky rank size) I2) := by
  obtain ⟨a, n, c, Nl, Nr, X⟩ := hT
  obtain ⟨aY, nY, cY, Nl', Nr', Y⟩ := X.left
  have hbb : b ≠ bY := fun e => (X.ol bY Y.nb).2.1 e.symm
  have HX := Lib.hid X
  have HY := Lib.hid Y
  have HI0 := Lib.hid hI
  have hyl := Lib.hid (show ity.length = nY by simpa using Y.own.len)
  have hxl := Lib.hid (show it.length = n by simpa using X.own.len)
  have hidY := Lib.hid (show ∀ i ∈ ity, 0 ≤ i ∧ i < (m : Int) from fun i hi => hid i (by simp [Tr.ids, hi]))
  have hnn : n + nY ≤ 100000 := by
    have h1 := hyl.out
    have h2 := hxl.out
    simp only [Tr.ids, List.length_append] at hl
    omega
  have hNig := Lib.hid (fun q (hq : N q) (e : q = ig) => hI.gN (e ▸ hq))
  have hidA := Lib.hid hid
  have hlA := Lib.hid hl
  have x0 : w.cell? ⟨b, 0, none⟩ = some (.pointer (some ⟨bY, 0, none⟩)) := X.blk.cell (i := 0) rfl
  have y2 : w.cell? ⟨bY, 2, none⟩ = some (.slice aY nY cY) := Y.blk.cell (i := 2) rfl
  clear X Y hI hid hl
  go_enter Try.func48, Try.ntmps48
  go_wp2_with fail
  clear x0 y2
  go_loopw [17] (fun s17 wr => ∃ j : Nat, j ≤ nY ∧ s17 = .int .i64 j ∧ Hid (HI wr hb ig m cI (setMany I (ity.take j) b) N) ∧ Hid (Fr (onB ig) w wr)) (fun s17 _ => nY - (intOf s17).toNat)
  case atStart => exact ⟨0, by omega, rfl, HI0, Lib.hid (Fr.refl _ _)⟩
  case round =>
    obtain ⟨j, hj, rfl, HIr, HF⟩ := hrel
    have HYr := Lib.hid (HY.out.own.fr HF.out (fun q hq => hNig.out q (HX.out.ol q (HY.out.oa q hq).1).1))
    by_cases hlt : j < nY
    · obtain ⟨b1, o1, i, ea1, hi, hc1⟩ := HYr.out.rd.ix hlt
      subst ea1
      obtain ⟨hi0, him⟩ := hidY.out i (List.mem_of_getElem? hi)
      obtain ⟨i, rfl⟩ : ∃ k : Nat, i = k := ⟨i.toNat, by omega⟩
      have him' : i < m := by omega
      have y3 := HIr.out.cell
      obtain ⟨g', eg, _, _, hcg, hfg⟩ := HIr.out.own.at (by omega)
      injection eg with eg
      injection eg with eg _ _
      subst eg
      have hil : i < (setMany I (ity.take j) b).length := by rw [HIr.out.len]; exact him'
      have d1 := hcg i _ (by rw [List.getElem?_map, List.getElem?_eq_getElem hil]; rfl)
      have f1 := hfg i
      have hjl : j < ity.length := by have := hyl.out; omega
      have HS : Hid (setMany I (ity.take (j + 1)) b = (setMany I (ity.take j) b).set i (some b)) := Lib.hid (by
        rw [items_succ hjl]
        rw [List.getElem?_eq_getElem hjl] at hi
        injection hi with hi
        rw [hi]
        rfl)
      generalize (setMany I (ity.take j) b)[i] = ov at *
      clear hi hcg hfg hil hi0 him hjl
      go_wp2_with fail
      go_roundw
      case rel =>
        refine ⟨j + 1, by omega, by go_num, ?_, Lib.hid (HF.out.setB i _)⟩
        have hF1 : Fr (onB ig) wr (wr.setCell ⟨ig, i, none⟩ (.pointer (some ⟨b, 0, none⟩))) := (Fr.refl (onB ig) wr).setB i _
        have ho := HIr.out.own.set (i := i) (.pointer (some ⟨b, 0, none⟩))
        rw [ptrs_set, ← HS.out] at ho
        exact Lib.hid { HIr.out with cell := hF1.cell HIr.out.cell (fun e => HIr.out.hg e), own := ho, hlt := Nat.lt_of_lt_of_le HIr.out.hlt hF1.size }
      case measure => simp [intOf]; omega
    · obtain rfl : nY = j := by omega
      have hI2 : Hid (HI wr hb ig m cI (setMany I ity b) N) := Lib.hid (by have := HIr.out; rwa [← hyl.out, List.take_length] at this)
      have hbN : ∀ q, N q → ¬ onB ig q := fun q hq (e : q = ig) => hNig.out q hq e
      have BX := Lib.hid (HX.out.blk.fr HF.out (hbN b HX.out.nb))
      have BY := Lib.hid (HY.out.blk.fr HF.out (hbN bY (HX.out.ol bY HY.out.nb).1))
      have OX : Hid (Own wr.drew 0 3 a n c (ints it)) := Lib.hid (HX.out.own.fr HF.out (fun q hq => hbN q (HX.out.oa q hq).1)).drew
      have RY : Hid (Rd wr.drew aY nY (ints ity)) := Lib.hid (HYr.out.rd.fr0 (Fr.refl _ _).drew)
      have x2 : wr.cell? ⟨b, 2, none⟩ = some (.slice a n c) := BX.out.cell (i := 2) rfl
      have y2 : wr.cell? ⟨bY, 2, none⟩ = some (.slice aY nY cY) := BY.out.cell (i := 2) rfl
      have z2 := BX.out.free 2
      have hba : Hid (¬ onBlk a b) := Lib.hid (fun e => (HX.out.oa b e).2.1 rfl)
      have hbY : Hid (¬ onBlk a bY) := Lib.hid (fun e => (HX.out.oa bY e).2.2.1 HY.out.nb)
      obtain ⟨kk, hk⟩ : ∃ kk, n + nY = kk := ⟨_, rfl⟩
      have Hk := Lib.hid hk
      have hkk : kk ≤ 100000 := by omega
      clear hk
      go_wp2_with fail
      go_region_law ((refine stepAppRd E3 (by rfl) (by rfl) (by rfl) (by rfl) OX.out RY.out (oneCell_ints _) (by omega) (by omega) (by omega) kk Hk.out ?_; intro a6 c6 w6 own6 fr6 at6; have q1 : w6.cell? ⟨b, 2, none⟩ = some (.slice a n c) := fr6.cell (w := wr.drew) x2 hba.out; have q2 : w6.frozen? ⟨b, 2, none⟩ = false := (fr6.frozen (w := wr.drew) BX.out.lt hba.out).trans z2; have HO6 := Lib.hid own6; have HF6 := Lib.hid fr6; have HA6 := Lib.hid at6; clear own6 fr6 at6))
      all_goals
        obtain ⟨W, hW⟩ : ∃ W, W = w6.setCell ⟨b, 2, none⟩ (.slice a6 kk c6) := ⟨_, rfl⟩
        rw [← hW]
        have FW : Fr (fun q => onBlk a q ∨ q = b) wr W := by
          rw [hW]
          exact (((Fr.refl _ wr).drew).trans HF6.out (fun q _ e => .inl e)).setCell (p := ⟨b, 2, none⟩) (fun _ => .inr rfl) _
        have hs1 := HF.out.size
        have hs6 := HF6.out.size
        have hs6' : wr.heap.size ≤ w6.heap.size := hs6
        have hblt : b < w.heap.size := HX.out.blk.lt
        have ha6 : Hid (∀ q, onBlk a6 q → q ≠ b ∧ q ≠ bY ∧ ¬ Nl q ∧ ¬ Nr q ∧ (N q ∨ w.heap.size ≤ q) ∧ q < W.heap.size) := Lib.hid (fun q hq => by
          have h9 := (HO6.out.blk q hq).2
          have h8 : q < W.heap.size := by rw [hW]; simpa using h9
          rcases HA6.out q hq with e | e
          · have := HX.out.oa q e
            exact ⟨this.2.1, fun g => hbY.out (g ▸ e), this.2.2.1, this.2.2.2, .inl this.1, h8⟩
          · have e' : wr.heap.size ≤ q := e
            have hbYl : bY < w.heap.size := HX.out.lt _ (HX.out.ol bY HY.out.nb).1
            exact ⟨fun g => by omega, fun g => by omega, fun g => by have := HX.out.lt q (HX.out.ol q g).1; omega, fun g => by have := HX.out.lt q (HX.out.or q g).1; omega, .inr (by omega), h8⟩)
        have BX7 : Hid (Blk W b 62 (ndS (some ⟨bY, 0, none⟩) r.ptr a6 kk c6 key rank size)) := Lib.hid (by
          rw [hW]
          exact (Blk.fr (w := wr.drew) BX.out HF6.out hba.out).set 2 (.slice a6 kk c6))
        have BY7 : Hid (Blk W bY 62 (ndS lY.ptr rY.ptr aY nY cY ky rky sy)) := Lib.hid (BY.out.fr FW (fun e => e.elim hbY.out (fun e => hbb e.symm)))
        have OX7 : Hid (Own W 0 3 a6 kk c6 (ints (it ++ ity))) := Lib.hid (by
          have h := Own.other (p := ⟨b, 2, none⟩) HO6.out (fun e => (ha6.out b e).1 rfl) (.slice a6 kk c6)
          rw [hW]
          simpa [ints] using h)
        have hI7 : Hid (HI W hb ig m cI (setMany I ity b) N) := Lib.hid (hI2.out.fr FW (fun e => e.elim (fun e => HI0.out.hN (HX.out.oa hb e).1) (fun e => HI0.out.hN (e ▸ HX.out.nb))) (fun e => e.elim (fun e => HI0.out.gN (HX.out.oa ig e).1) (fun e => HI0.out.gN (e ▸ HX.out.nb))))
        have HFW : Hid (Fr (fun q => N q ∨ q = ig) w W) := Lib.hid ((HF.out.mono (fun q _ (e : q = ig) => .inr e)).trans FW (fun q _ e => .inl (e.elim (fun e => (HX.out.oa q e).1) (fun e => e ▸ HX.out.nb))))
        have HFr : Hid (Fr (fun q => q = ig ∨ onBlk a q ∨ q = b) w W) := Lib.hid ((HF.out.mono (fun q _ (e : q = ig) => .inl e)).trans FW (fun q _ e => .inr e))
        have hsW := FW.size
        clear hW FW HO6 HF6 HA6 HF HIr hI2 BX BY OX RY x2 y2 z2 HYr hs6
        have k3 : W.cell? ⟨bY, 3, none⟩ = some (.int .i64 ky) := BY7.out.cell (i := 3) rfl
        have x3 : W.cell? ⟨b, 3, none⟩ = some (.int .i64 key) := BX7.out.cell (i := 3) rfl
        have z3 := BX7.out.free 3
        have y2 : W.cell? ⟨bY, 2, none⟩ = some (.slice aY nY cY) := BY7.out.cell (i := 2) rfl
        have z2 := BY7.out.free 2
        have BY8 : Hid (Blk ((W.setCell ⟨b, 3, none⟩ (.int .i64 ky)).setCell ⟨bY, 2, none⟩ (.slice none 0 0)) bY 62 (ndS lY.ptr rY.ptr none 0 0 ky rky sy)) := Lib.hid ((BY7.out.other (p := ⟨b, 3, none⟩) (Ne.symm hbb) _).set 2 _)
        have BX8 : Hid (Blk ((W.setCell ⟨b, 3, none⟩ (.int .i64 ky)).setCell ⟨bY, 2, none⟩ (.slice none 0 0)) b 62 (ndS (some ⟨bY, 0, none⟩) r.ptr a6 kk c6 ky rank size)) := Lib.hid ((BX7.out.set 3 _).other (p := ⟨bY, 2, none⟩) hbb _)
        have F8 : Hid (Fr (fun q => q = b ∨ q = bY) W ((W.setCell ⟨b, 3, none⟩ (.int .i64 ky)).setCell ⟨bY, 2, none⟩ (.slice none 0 0))) := Lib.hid (((Fr.refl _ W).setCell (p := ⟨b, 3, none⟩) (fun _ => .inl rfl) _).setCell (p := ⟨bY, 2, none⟩) (fun _ => .inr rfl) _)
        have hnl : ¬ (lY.ptr = none ∧ rY.ptr = none) := fun e => h3 ⟨Tr.ptr_nil.1 e.1, Tr.ptr_nil.1 e.2⟩
        go_wp2_with fail
        refine (leaf_no BY8.out hnl).mono ?_
        rintro e w9 ⟨rfl, rfl⟩
        generalize (W.setCell ⟨b, 3, none⟩ (.int .i64 ky)).setCell ⟨bY, 2, none⟩ (.slice none 0 0) = W8 at *
        go_wp2_with fail
        have hNbY : N bY := (HX.out.ol bY HY.out.nb).1
        have hhlt := HI0.out.hlt
        have hilt := HI0.out.ilt
        have hs8 := F8.out.size
        have hI8 : Hid (HI W8 hb ig m cI (setMany I ity b) N) := Lib.hid (hI7.out.fr F8.out (fun e => e.elim (fun e => HI0.out.hN (e ▸ HX.out.nb)) (fun e => HI0.out.hN (e ▸ hNbY))) (fun e => e.elim (fun e => HI0.out.gN (e ▸ HX.out.nb)) (fun e => HI0.out.gN (e ▸ hNbY))))
        have FT : Hid (Fr (fun q => q = ig ∨ onBlk a q ∨ q = b ∨ q = bY) w W8) := Lib.hid ((HFr.out.mono (fun q _ e => e.elim .inl (fun e => .inr (e.elim .inl (fun e => .inr (.inl e)))))).trans F8.out (fun q _ e => .inr (.inr e)))
        have TY : Hid (TM W8 (.nd bY lY rY [] ky rky sy) Nl) := Lib.hid ⟨none, 0, 0, Nl', Nr', ⟨BY8.out, Own.nil _ _ _, HY.out.left.fr FT.out (fun q hq e => by
            have hq' := HX.out.ol q (HY.out.ol q hq).1
            rcases e with e | e | e | e
            · exact hNig.out q hq'.1 e
            · exact (HX.out.oa q e).2.2.1 (HY.out.ol q hq).1
            · exact hq'.2.1 e
            · exact (HY.out.ol q hq).2.1 e), HY.out.right.fr FT.out (fun q hq e => by
            have hq' := HX.out.ol q (HY.out.or q hq).1
            rcases e with e | e | e | e
            · exact hNig.out q hq'.1 e
            · exact (HX.out.oa q e).2.2.1 (HY.out.or q hq).1
            · exact hq'.2.1 e
            · exact (HY.out.or q hq).2 e), HY.out.nb, fun q hq => absurd hq (onBlk_none _), HY.out.ol, HY.out.or, fun q hq => by have := HX.out.lt q (HX.out.ol q hq).1; omega⟩⟩
        have hI8' : Hid (HI W8 hb ig m cI (setMany I ity b) Nl) := Lib.hid { hI8.out with hN := fun e => HI0.out.hN (HX.out.ol hb e).1, gN := fun e => HI0.out.gN (HX.out.ol ig e).1 }
        clear BY7 BX7 hI7 k3 x3 z3 y2 z2
        refine (IH _ _ _ _ hy W8 hb ig m cI Nl TY.out hI8'.out (fun i hi => hidA.out i (by simp only [Tr.ids, List.nil_append, List.mem_append] at hi ⊢; rcases hi with hi | hi <;> simp [hi])) (by have := hlA.out; simp only [Tr.ids, List.length_append, List.length_nil] at this ⊢; omega)).mono ?_
        rintro e w9 ⟨rfl, T9, I9, F9⟩
        have HT9 := Lib.hid T9
        have HI9 := Lib.hid I9
        have HF9 := Lib.hid F9
        clear T9 I9 F9
        go_wp2_with fail
        go_end0
        have hs9 := HF9.out.size
        refine ⟨rfl, ⟨a6, kk, c6, Grw Nl W8 w9, Nr, ⟨?_, OX7.out.fr (F8.out.mono (S' := fun q => (q = b ∨ q = bY) ∨ Nl q ∨ q = ig) (fun q _ e => .inl e) |>.trans HF9.out (fun q _ e => .inr e)) (fun q hq e => ?_), HT9.out, ?_, .inl HX.out.nb, fun q hq => ⟨?_, (ha6.out q hq).1, fun e => e.elim (ha6.out q hq).2.2.1 (fun e => by have := (ha6.out q hq).2.2.2.2.2; omega), (ha6.out q hq).2.2.2.1⟩, fun q hq => ?_, fun q hq => ⟨.inl (HX.out.or q hq).1, (HX.out.or q hq).2⟩, Grw.lt HX.out.lt (by omega)⟩⟩, ?_, ?_⟩
        · have h := BX8.out.fr HF9.out (fun e => e.elim (fun e => (HX.out.ol b e).2.1 rfl) (fun e => hNig.out b HX.out.nb e))
          have e : y2.ptr = some ⟨bY, 0, none⟩ := Rf.ptr hy
          rw [e]
          exact h
        · rcases e with (e | e) | e | e
          · exact (ha6.out q hq).1 e
          · exact (ha6.out q hq).2.1 e
          · exact (ha6.out q hq).2.2.1 e
          · rcases (ha6.out q hq).2.2.2.2.1 with g | g
            · exact hNig.out q g e
            · omega
        · refine (HX.out.right.fr FT.out (fun q hq e => ?_)).fr HF9.out (fun q hq e => ?_)
          · rcases e with e | e | e | e
            · exact hNig.out q (HX.out.or q hq).1 e
            · exact (HX.out.oa q e).2.2.2 hq
            · exact (HX.out.or q hq).2 e
            · exact (HX.out.ol bY HY.out.nb).2.2 (e ▸ hq)
          · rcases e with e | e
            · exact (HX.out.ol q e).2.2 hq
            · exact hNig.out q (HX.out.or q hq).1 e
        · rcases (ha6.out q hq).2.2.2.2.1 with e | e
          · exact .inl e
          · exact .inr ⟨e, by have := (ha6.out q hq).2.2.2.2.2; omega⟩
        · rcases hq with hq | hq
          · exact ⟨.inl (HX.out.ol q hq).1, (HX.out.ol q hq).2⟩
          · exact ⟨.inr ⟨by omega, hq.2⟩, fun e => by omega, fun e => by have := HX.out.lt q (HX.out.or q e).1; omega⟩
        · exact ({ HI9.out with hN := HI0.out.hN, gN := HI0.out.gN } : HI w9 hb ig m cI I2 N).grw hhlt hilt
        · exact (HFW.out.trans F8.out (fun q _ e => .inl (e.elim (fun e => e ▸ HX.out.nb) (fun e => e ▸ hNbY)))).trans HF9.out (fun q _ e => e.elim (fun e => .inl (HX.out.ol q e).1) .inr)
end Go.Proofs.Ytdphademoeofkaa
