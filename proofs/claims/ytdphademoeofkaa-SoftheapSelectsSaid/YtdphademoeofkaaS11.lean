/- Meld's closure: the items get new names. -/
import Derived.Test.YtdphademoeofkaaS10
import Derived.Deep.RegionWith
namespace Go.Proofs.Ytdphademoeofkaa
open Go.RowKit
attribute [local go_sem ↓] Go.wp_at_zero Go.wp_at_succ
/-- A tree with other names. -/
def Rn (f : Int → Int) : Tr → Tr
  | .nil => .nil
  | .nd b l r it k rk sz => .nd b (Rn f l) (Rn f r) (it.map f) k rk sz
theorem Rn.ptr (f : Int → Int) (t : Tr) : (Rn f t).ptr = t.ptr := by cases t <;> rfl
theorem Rn.ids (f : Int → Int) : ∀ t : Tr, (Rn f t).ids = t.ids.map f
  | .nil => rfl
  | .nd _ l r it _ _ _ => by simp [Rn, Tr.ids, Rn.ids f l, Rn.ids f r]
/-- The closure's boxes: the list of names, and the closure itself. -/
structure Bx (w : World) (bo br : Nat) (a : Option Addr) (n c : Nat) (outs : List Int) (N : Nat → Prop) : Prop where
  o : One w bo 22 (.slice a n c)
  r : One w br 63 (.func (.func 30) #[] #[.pointer (some ⟨bo, 0, none⟩), .pointer (some ⟨br, 0, none⟩)])
  rd : Rd w a n (ints outs)
  oN : ¬ N bo
  rN : ¬ N br
  aN : ∀ q, onBlk a q → ¬ N q
theorem Bx.fr {w w' : World} {bo br : Nat} {a : Option Addr} {n c : Nat} {outs : List Int} {N F : Nat → Prop} (h : Bx w bo br a n c outs N) (f : Fr F w w') (hF : ∀ q, F q → N q) : Bx w' bo br a n c outs N :=
  { h with o := h.o.fr f (fun e => h.oN (hF _ e)), r := h.r.fr f (fun e => h.rN (hF _ e)), rd := h.rd.fr f (fun q hq e => h.aN q hq (hF q e)) }
theorem Bx.less {w : World} {bo br : Nat} {a : Option Addr} {n c : Nat} {outs : List Int} {N N' : Nat → Prop} (h : Bx w bo br a n c outs N) (hN : ∀ q, N' q → N q) : Bx w bo br a n c outs N' :=
  { h with oN := fun e => h.oN (hN _ e), rN := fun e => h.rN (hN _ e), aN := fun q hq e => h.aN q hq (hN _ e) }
/-- The name of an item. -/
def nm (outs : List Int) (i : Int) : Int := outs.getD i.toNat 0
def RnP (w : World) (outs : List Int) (t : Tr) (N : Nat → Prop) (e : Ending) (w' : World) : Prop := e = .returned (.tuple #[]) ∧ TM w' (Rn (nm outs) t) N ∧ Fr N w w'
set_option maxHeartbeats 2000000 in
theorem rename_any {bo br : Nat} {a : Option Addr} {n c : Nat} {outs : List Int} : ∀ (t : Tr) (w : World) (N : Nat → Prop), TM w t N → Bx w bo br a n c outs N → (∀ i ∈ t.ids, 0 ≤ i ∧ i < (n : Int)) → t.ids.length ≤ 100000 →
    Calls Try.prog 30 #[.pointer t.ptr, .pointer (some ⟨bo, 0, none⟩), .pointer (some ⟨br, 0, none⟩)] w (RnP w outs t N) := by
  intro t
  induction t with
  | nil =>
    intro w N hT hB hid hl
    have HT := Lib.hid hT
    clear hT hB hid hl
    show Calls Try.prog 30 #[.pointer none, .pointer (some ⟨bo, 0, none⟩), .pointer (some ⟨br, 0, none⟩)] w (RnP w outs .nil N)
    go_enter Try.func30, Try.ntmps30
    go_wp2_with fail
    go_end0
    exact ⟨rfl, HT.out, Fr.refl _ _⟩
  | nd b l r it k rk sz ihl ihr =>
    intro w N hT hB hid hl
    obtain ⟨ax, m, cx, Nl, Nr, X⟩ := hT
    have hm : it.length = m := by simpa using X.own.len
    have HX := Lib.hid X
    have HB := Lib.hid hB
    have Hm := Lib.hid hm
    have Hid0 := Lib.hid (And.intro hid hl)
    have hml : m ≤ 100000 := by simp only [Tr.ids, List.length_append] at hl; omega
    have x2 : w.cell? ⟨b, 2, none⟩ = some (.slice ax m cx) := X.blk.cell (i := 2) rfl
    have IHL := Lib.hid ihl
    have IHR := Lib.hid ihr
    have hbax : ¬ onBlk ax b := fun e => (X.oa b e).2.1 rfl
    have HBA := Lib.hid hbax
    clear X hB hm hid hl ihl ihr hbax
    show Calls Try.prog 30 #[.pointer (some ⟨b, 0, none⟩), .pointer (some ⟨bo, 0, none⟩), .pointer (some ⟨br, 0, none⟩)] w (RnP w outs (.nd b l r it k rk sz) N)
    go_enter Try.func30, Try.ntmps30
    go_wp2_with fail
    go_loopw [13] (fun s13 wr => ∃ j : Nat, j ≤ m ∧ s13 = .int .i64 j ∧ Hid (Own wr 0 3 ax m cx (ints ((it.take j).map (nm outs) ++ it.drop j))) ∧ Hid (Fr (onBlk ax) w wr)) (fun s13 _ => m - (intOf s13).toNat)
    case atStart => exact ⟨0, by omega, rfl, Lib.hid (by simpa using HX.out.own), Lib.hid (Fr.refl _ _)⟩
    case round =>
      obtain ⟨j, hj, rfl, HO, HF⟩ := hrel
      have x2r : wr.cell? ⟨b, 2, none⟩ = some (.slice ax m cx) := HF.out.cell x2 HBA.out
      by_cases hlt : j < m
      · obtain ⟨ga, rfl, _, _, hgc, hgf⟩ := HO.out.at (by omega)
        have hjl : j < it.length := by rw [Hm.out]; exact hlt
        have hi := Hid0.out.1 it[j] (by simp [Tr.ids])
        obtain ⟨i, hie⟩ : ∃ i : Nat, it[j] = i := ⟨it[j].toNat, by omega⟩
        have hin : i < n := by omega
        have d1 := hgc j (.int .i64 i) (by rw [List.getElem?_map, List.getElem?_append_right (by simp; omega)]; simp [hjl, Nat.min_eq_left (Nat.le_of_lt hjl), hie])
        have f1 := hgf j
        have hBr := HB.out.fr HF.out (fun q hq => (HX.out.oa q hq).1)
        obtain ⟨bq, oq, v, ea, hv, hc2⟩ := hBr.rd.ix hin
        have hbo := hBr.o.cell
        have HS : Hid (((it.take j).map (nm outs) ++ it.drop j).set j v = (it.take (j + 1)).map (nm outs) ++ it.drop (j + 1)) := Lib.hid (by
          have hvn : v = nm outs it[j] := by
            unfold nm
            rw [hie, Int.toNat_natCast, List.getD_eq_getElem?_getD, hv]; rfl
          have e0 : ((it.take j).map (nm outs)).length = j := by simp; omega
          rw [List.set_append_right _ _ (by rw [e0]; exact Nat.le_refl _), e0, Nat.sub_self, List.drop_eq_getElem_cons hjl, List.set_cons_zero, ← List.take_append_getElem hjl, List.map_append, hvn]
          simp)
        subst ea
        clear hgc hgf hv hi hie hjl hBr
        go_wp2_with fail
        go_region
        all_goals
          go_wp2_with fail
          go_roundw
          case rel =>
            refine ⟨j + 1, by omega, by go_num, ?_, Lib.hid (((HF.out.setOn (s := none) (o := 0) j _)).drew)⟩
            have h := (HO.out.set (i := j) (.int .i64 v)).drew
            have e : (ints ((it.take j).map (nm outs) ++ it.drop j)).set j (.int .i64 v) = ints ((it.take (j + 1)).map (nm outs) ++ it.drop (j + 1)) := by
              rw [← HS.out]
              simp only [ints, List.map_set]
            rw [e] at h
            exact Lib.hid h
          case measure => simp [intOf]; omega
      · obtain rfl : m = j := by omega
        have hFN : Fr N w wr := HF.out.mono (fun q _ e => (HX.out.oa q e).1)
        have hBr := HB.out.fr hFN (fun q hq => hq)
        have hmin : ((it.take m).map (nm outs) ++ it.drop m) = it.map (nm outs) := by rw [← Hm.out]; simp
        have OX : Hid (Own wr 0 3 ax m cx (ints (it.map (nm outs)))) := Lib.hid (by rw [← hmin]; exact HO.out)
        have BX : Hid (Blk wr b 62 (ndS l.ptr r.ptr ax m cx k rk sz)) := Lib.hid (HX.out.blk.fr HF.out HBA.out)
        have TL : Hid (TM wr.drew l Nl) := Lib.hid ((HX.out.left.fr HF.out (fun q hq e => (HX.out.oa q e).2.2.1 hq)).fr ((Fr.refl F0 wr).drew) (fun _ _ => id))
        have TR : Hid (TM wr r Nr) := Lib.hid (HX.out.right.fr HF.out (fun q hq e => (HX.out.oa q e).2.2.2 hq))
        have BL : Hid (Bx wr.drew bo br a n c outs Nl) := Lib.hid ((hBr.less (fun q hq => (HX.out.ol q hq).1)).fr ((Fr.refl F0 wr).drew) (fun _ h => h.elim))
        have BR : Hid (Bx wr bo br a n c outs Nr) := Lib.hid (hBr.less (fun q hq => (HX.out.or q hq).1))
        have hidl : Hid ((∀ i ∈ l.ids, 0 ≤ i ∧ i < (n : Int)) ∧ l.ids.length ≤ 100000) := Lib.hid ⟨fun i hi => Hid0.out.1 i (by simp [Tr.ids, hi]), by have := Hid0.out.2; simp only [Tr.ids, List.length_append] at this; omega⟩
        have hidr : Hid ((∀ i ∈ r.ids, 0 ≤ i ∧ i < (n : Int)) ∧ r.ids.length ≤ 100000) := Lib.hid ⟨fun i hi => Hid0.out.1 i (by simp [Tr.ids, hi]), by have := Hid0.out.2; simp only [Tr.ids, List.length_append] at this; omega⟩
        have c0 : wr.cell? ⟨b, 0, none⟩ = some (.pointer l.ptr) := BX.out.cell (i := 0) rfl
        have cr : wr.cell? ⟨br, 0, none⟩ = some (.func (.func 30) #[] #[.pointer (some ⟨bo, 0, none⟩), .pointer (some ⟨br, 0, none⟩)]) := hBr.r.cell
        have HFN := Lib.hid hFN
        clear hFN hBr hmin HO HF x2 x2r
        go_wp2_with fail
        go_region_with (refine (IHL.out _ Nl TL.out BL.out hidl.out.1 hidl.out.2).mono ?_; rintro e w2 ⟨rfl, T2, F2⟩)
        all_goals
          have F2' : Fr Nl wr w2 := ((Fr.refl Nl wr).drew).trans F2 (fun _ _ h => h)
          have T2' := Lib.hid T2
          have BX2 : Hid (Blk w2 b 62 (ndS l.ptr r.ptr ax m cx k rk sz)) := Lib.hid (BX.out.fr F2' (fun e => (HX.out.ol b e).2.1 rfl))
          have OX2 : Hid (Own w2 0 3 ax m cx (ints (it.map (nm outs)))) := Lib.hid (OX.out.fr F2' (fun q hq e => (HX.out.oa q hq).2.2.1 e))
          have TR2 : Hid (TM w2.drew r Nr) := Lib.hid ((TR.out.fr F2' (fun q hq e => (HX.out.ol q e).2.2 hq)).fr ((Fr.refl F0 w2).drew) (fun _ _ => id))
          have BR2 : Hid (Bx w2.drew bo br a n c outs Nr) := Lib.hid ((((HB.out.fr HFN.out (fun q hq => hq)).fr F2' (fun q hq => (HX.out.ol q hq).1)).less (fun q hq => (HX.out.or q hq).1)).fr ((Fr.refl F0 w2).drew) (fun _ h => h.elim))
          have c1 : w2.cell? ⟨b, 1, none⟩ = some (.pointer r.ptr) := BX2.out.cell (i := 1) rfl
          have cr2 : w2.cell? ⟨br, 0, none⟩ = some (.func (.func 30) #[] #[.pointer (some ⟨bo, 0, none⟩), .pointer (some ⟨br, 0, none⟩)]) := F2'.cell cr (fun e => HB.out.rN (HX.out.ol br e).1)
          have HF2 : Hid (Fr N w w2) := Lib.hid (HFN.out.trans F2' (fun q _ e => (HX.out.ol q e).1))
          clear F2 F2' T2 c0 cr
          go_wp2_with fail
          go_region_with (refine (IHR.out _ Nr TR2.out BR2.out hidr.out.1 hidr.out.2).mono ?_; rintro e w3 ⟨rfl, T3, F3⟩)
          all_goals
            have T3' := Lib.hid T3
            have F3' : Hid (Fr Nr w2 w3) := Lib.hid (((Fr.refl Nr w2).drew).trans F3 (fun _ _ h => h))
            clear T3 F3
            go_wp2_with fail
            go_end0
            have f3 := F3'.out
            have hs3 := HF2.out.size
            have hs4 := f3.size
            refine ⟨rfl, ⟨ax, m, cx, Nl, Nr, ⟨by rw [Rn.ptr, Rn.ptr]; exact BX2.out.fr f3 (fun e => (HX.out.or b e).2 rfl), OX2.out.fr f3 (fun q hq e => (HX.out.oa q hq).2.2.2 e), T2'.out.fr f3 (fun q hq e => (HX.out.ol q hq).2.2 e), T3'.out, HX.out.nb, HX.out.oa, HX.out.ol, HX.out.or, fun q hq => by have := HX.out.lt q hq; omega⟩⟩, HF2.out.trans f3 (fun q _ e => (HX.out.or q e).1)⟩
end Go.Proofs.Ytdphademoeofkaa
