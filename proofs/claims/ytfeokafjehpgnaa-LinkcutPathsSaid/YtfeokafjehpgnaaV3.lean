/- The reference's Path. -/
import Derived.Test.YtfeokafjehpgnaaV2
namespace Go.Proofs.Ytfeokafjehpgnaa
open Go.RowKit
attribute [local go_sem ↓] Go.wp_at_zero Go.wp_at_succ
theorem way_nz {P : Nat → Nat} {x : Nat} {l : List Nat} (h : K.Way P x l) : x ≠ 0 := by
  cases h with
  | root h1 _ => exact h1
  | down h1 _ _ => exact h1
theorem way_up {P : Nat → Nat} {z c : Nat} {o3 l1 : List Nat} (h : K.Way P z (o3 ++ c :: l1)) (hz : z ≠ c) : ∃ q, l1 = q ++ [z] ∧ K.Way P (P z) (o3 ++ c :: q) := by
  obtain ⟨o, e⟩ := h.last
  rcases List.eq_nil_or_concat l1 with h1 | ⟨q, y, h1⟩
  · subst h1
    have := congrArg List.getLast? e
    simp at this
    exact absurd this.symm hz
  · rw [List.concat_eq_append] at h1
    subst h1
    have e2 : (o3 ++ c :: q) ++ [y] = o ++ [z] := by rw [← e]; simp
    have e3 := List.append_inj' e2 rfl
    have e4 : y = z := by injection e3.2
    subst e4
    refine ⟨q, rfl, ?_⟩
    rw [show o3 ++ c :: (q ++ [y]) = (o3 ++ c :: q) ++ [y] by simp] at h
    generalize hL : (o3 ++ c :: q) ++ [y] = L at h
    cases h with
    | root h1 h2 =>
      have := congrArg List.length hL
      simp at this
      omega
    | down h1 h2 h3 =>
      have := List.append_inj' hL rfl
      rw [this.1]
      exact h3
theorem way_at {P : Nat → Nat} {c : Nat} {o3 l1 : List Nat} (h : K.Way P c (o3 ++ c :: l1)) (hn : (o3 ++ c :: l1).Nodup) : l1 = [] := by
  obtain ⟨o, e⟩ := h.last
  rcases List.eq_nil_or_concat l1 with h1 | ⟨q, y, h1⟩
  · exact h1
  · rw [List.concat_eq_append] at h1
    subst h1
    have e2 : (o3 ++ c :: q) ++ [y] = o ++ [c] := by rw [← e]; simp
    have e3 := (List.append_inj' e2 rfl).2
    have e4 : y = c := by injection e3
    subst e4
    have hn2 := (List.nodup_append.1 hn).2.1
    rw [List.nodup_cons] at hn2
    exact absurd (by simp) hn2.1
theorem own_fr0 {w W W' : World} {a : Option Addr} (h : Fr F0 w W) (hb : ∀ k, onBlk a k → w.heap.size ≤ k) (f : Fr (onBlk a) W W') : Fr F0 w W' :=
  ⟨f.os.trans h.os, f.tape.trans h.tape, f.output.trans h.output, Nat.le_trans h.size f.size, fun i hi hn => (f.block i (Nat.lt_of_lt_of_le hi h.size) (fun e => by have := hb _ e; omega)).trans (h.block i hi hn)⟩
section
variable {w : World} {B n : Nat} {wt : Nat → Int} {P : Nat → Nat} {wa pa : Option Addr} {wc pc : Nat}
theorem refCommon_in (hp : K.Par P (vts n)) (h : RS w B n wt P wa wc pa pc) (hn : n ≤ 60) {v u : Nat} (hv : v < n) (hu : u < n) {lv lw : List Nat} (hlv : K.Way P (v + 1) lv) (hlw : K.Way P (u + 1) lw) {c : Nat} (hc : Cmn lv lw (c + 1)) :
    Calls Try.prog 16 #[rv n wa wc pa pc, .int .i64 (v : Nat), .int .i64 (u : Nat)] w fun e w' => e = .returned (.int .i64 (c : Nat)) ∧ Fr F0 w w' := by
  refine (refCommon_any hp h hn hv hu hlv hlw).mono ?_
  rintro e w' ⟨y, rfl, k1, k2⟩
  rcases k1 with ⟨_, k1⟩ | ⟨_, k1, _⟩
  · obtain ⟨o3, o4, oS, e1, e2, _⟩ := hc.ex
    refine absurd ?_ k1
    rw [e1, e2]
    cases o3 <;> rfl
  · rw [cmn_uniq k1 hc]
    exact ⟨ret_int (by omega), k2⟩
set_option maxRecDepth 100000 in
set_option maxHeartbeats 1000000 in
theorem refPath_any (hp : K.Par P (vts n)) (h : RS w B n wt P wa wc pa pc) (hn : n ≤ 60) {v u : Nat} (hv : v < n) (hu : u < n) {o3 o4 oS : List Nat} {c : Nat} (hlv : K.Way P (v + 1) (o3 ++ (c + 1) :: o4)) (hlw : K.Way P (u + 1) (o3 ++ (c + 1) :: oS)) (hd : ∀ z ∈ oS, z ∉ o4) :
    Calls Try.prog 17 #[rv n wa wc pa pc, .int .i64 (v : Nat), .int .i64 (u : Nat)] w fun e w' => ∃ a m k, e = .returned (.slice a m k) ∧ Rd w' a m (ints (dn (o4.reverse ++ (c + 1) :: oS))) ∧ Fr F0 w w' := by
  have A1 := way_all hp hlv (mem_succ hv)
  have A2 := way_all hp hlw (mem_succ hu)
  have L1 := hlv.len hp (mem_succ hv)
  have L2 := hlw.len hp (mem_succ hu)
  rw [vts_length] at L1 L2
  have hc1 := mem_vts.1 (A1.1 (c + 1) (by simp))
  have HR := Lib.hid h
  have HP := Lib.hid hp
  have HW := Lib.hid (And.intro hlv (And.intro hlw (And.intro A1.2 A2.2)))
  have HL := Lib.hid (And.intro L1 L2)
  have hB := Lib.hid (Blk.new w 28 [.slice wa n wc, .slice pa n pc])
  have b0 := hB.out.cell (i := 0) rfl
  have b1 := hB.out.cell (i := 1) rfl
  have HC := Lib.hid (refCommon_in hp (h.fr0 ((Fr.refl F0 w).alloc (.cells #[.slice wa n wc, .slice pa n pc] 28))) hn hv hu hlv hlw ⟨o3, o4, oS, rfl, rfl, hd⟩)
  obtain ⟨pb, po, hpa, hpc⟩ := h.ps.cells (by omega)
  subst hpa
  have HD := Lib.hid hpc
  clear h hp hlv hlw A1 A2 L1 L2 hd hpc
  go_enter Try.func17, Try.ntmps17
  go_wp2_with (go_at_call 16; refine HC.out.mono ?_; rintro e w1 ⟨rfl, F1⟩; have hx1 := hB.out.fr F1 id; have Q1 : Hid (QP w w1 B n wt P wa wc (some ⟨pb, po, none⟩) pc) := Lib.hid ⟨HR.out.fr0 (((Fr.refl F0 w).alloc (.cells #[.slice wa n wc, .slice (some ⟨pb, po, none⟩) n pc] 28)).trans F1 (fun _ _ h => h)), hx1, ((Fr.refl F0 w).alloc (.cells #[.slice wa n wc, .slice (some ⟨pb, po, none⟩) n pc] 28)).trans F1 (fun _ _ h => h)⟩; clear F1 b0 b1 hx1 HC)
  go_loopw [8, 9] (fun s8 s9 wr => ∃ (z : Nat) (l1 l2 : List Nat) (a : Option Addr) (m k : Nat), m = l2.length ∧ Hid (o4 = l1 ++ l2 ∧ K.Way P (z + 1) (o3 ++ (c + 1) :: l1) ∧ Own wr (w.heap.size + 1) 3 a m k (ints (dn l2.reverse)) ∧ QP w wr B n wt P wa wc (some ⟨pb, po, none⟩) pc) ∧ z < n ∧ s9 = .int .i64 (z : Nat) ∧ s8 = .slice a m k)
    (fun s8 _ _ => 61 - lenS s8)
  case atStart => exact ⟨v, o4, [], none, 0, 0, rfl, Lib.hid ⟨by simp, HW.out.1, Own.nil _ _ _, Q1.out⟩, hv, rfl, rfl⟩
  case round =>
    obtain ⟨z, l1, l2, a, m, k, hm, HH, hz, rfl, rfl⟩ := hrel
    have hm' := Lib.hid hm
    have hm60 : m + 1 ≤ 61 := by
      have h1 := HH.out.1
      have h2 := HL.out.1
      rw [h1] at h2
      simp at h2
      omega
    have hsz : w.heap.size + 1 ≤ wr.heap.size := by have := HH.out.2.2.2.bx.lt; omega
    by_cases zc : z = c
    · subst zc
      have e1 := way_at HH.out.2.1 (by have h2 := HW.out.2.2.1; rw [HH.out.1] at h2; rw [show o3 ++ (z + 1) :: (l1 ++ l2) = (o3 ++ (z + 1) :: l1) ++ l2 by simp] at h2; exact (List.nodup_append.1 h2).1)
      subst e1
      have e2 : o4 = l2 := by have := HH.out.1; rwa [List.nil_append] at this
      subst e2
      go_wp2_with (at_builtin; refine wpAppAt E3 HH.out.2.2.1 (by omega) (by omega) hsz (u := .int .i64 (z : Nat)) rfl rfl rfl ?_; intro a5 c5 w5 own5 fr5 at5; have hq5 := HH.out.2.2.2.step (fun _ e => (HH.out.2.2.1.blk _ e).1) fr5 HR.out; replace hq5 := Lib.hid hq5; replace own5 := Lib.hid own5; clear fr5)
      have F0' := Lib.hid (Fr.refl F0 w5)
      have hm61 : m ≤ 60 := by omega
      clear hm hsz hm60 HH
      go_loopw [10, 11] (fun s8 s9 wr => ∃ (z' : Nat) (l1 l2 : List Nat) (a : Option Addr) (m k : Nat), m = l2.length ∧ Hid (oS = l1 ++ l2 ∧ K.Way P (z' + 1) (o3 ++ (z + 1) :: l1) ∧ Own wr (w5.heap.size) 3 a m k (ints (dn l2.reverse)) ∧ QP w wr B n wt P wa wc (some ⟨pb, po, none⟩) pc ∧ Fr F0 w5 wr) ∧ z' < n ∧ s9 = .int .i64 (z' : Nat) ∧ s8 = .slice a m k)
        (fun s8 _ _ => 61 - lenS s8)
      case atStart => exact ⟨u, oS, [], none, 0, 0, rfl, Lib.hid ⟨by simp, HW.out.2.1, Own.nil _ _ _, hq5.out, Fr.refl _ _⟩, hu, rfl, rfl⟩
      case round =>
        obtain ⟨y, l1, l2, a', m', k', hm1, HH, hy, rfl, rfl⟩ := hrel
        have hm2 := Lib.hid hm1
        have hm60 : m' + 1 ≤ 61 := by
          have h1 := HH.out.1
          have h2 := HL.out.2
          rw [h1] at h2
          simp at h2
          omega
        have hsz : w5.heap.size ≤ wr.heap.size := HH.out.2.2.2.2.size
        by_cases yc : y = z
        · subst yc
          have e1 := way_at HH.out.2.1 (by have h2 := HW.out.2.2.2; rw [HH.out.1] at h2; rw [show o3 ++ (y + 1) :: (l1 ++ l2) = (o3 ++ (y + 1) :: l1) ++ l2 by simp] at h2; exact (List.nodup_append.1 h2).1)
          subst e1
          have e2 : oS = l2 := by have := HH.out.1; rwa [List.nil_append] at this
          subst e2
          have hmi : (m' : Int) ≤ 61 := by omega
          clear hm1
          go_wp2_with fail
          go_loopw [8, 12] (fun s8 s12 wr => ∃ (j i : Nat) (a : Option Addr) (m k : Nat), j + i = m' ∧ m ≤ 61 + i ∧ Hid (Own wr (w.heap.size + 1) 3 a m k (ints (dn (o4.reverse ++ (y + 1) :: oS.take i))) ∧ Own wr w5.heap.size 3 a' m' k' (ints (dn oS.reverse)) ∧ (∀ q, onBlk a q → ¬ onBlk a' q) ∧ QP w wr B n wt P wa wc (some ⟨pb, po, none⟩) pc) ∧ s12 = .int .i64 ((j : Int) - 1) ∧ s8 = .slice a m k)
            (fun _ s12 _ => (intOf s12 + 1).toNat)
          case atStart =>
            refine ⟨m', 0, _, _, _, by omega, by have := hm'.out; omega, Lib.hid ⟨?_, HH.out.2.2.1, ?_, HH.out.2.2.2.1⟩, ?_, rfl⟩
            · have := own5.out.fr0 HH.out.2.2.2.2
              have e3 : ints (dn (o4.reverse ++ (y + 1) :: oS.take 0)) = ints (dn o4.reverse) ++ [.int .i64 (y : Nat)] := by
                unfold ints dn
                simp
              rw [e3, ← hm'.out]
              exact this
            · intro q h1 h2
              have := own5.out.blk q h1
              have := HH.out.2.2.1.blk q h2
              omega
            · exact ret_v (by have := hm2.out; omega)
          case round =>
            obtain ⟨j, i, a8, m8, k8, hji, hm8, H3, rfl, rfl⟩ := hrel
            by_cases j0 : j = 0
            · subst j0
              have e0 : ((0 : Nat) : Int) - 1 = -1 := by omega
              rw [e0]
              go_wp2_with fail
              go_ret
              refine ⟨a8, m8, k8, rfl, ?_, H3.out.2.2.2.fr⟩
              have := H3.out.1.rd
              rwa [List.take_of_length_le (by have := hm2.out; omega)] at this
            · obtain ⟨j, rfl⟩ : ∃ q, j = q + 1 := ⟨j - 1, by omega⟩
              have e0 : ((j + 1 : Nat) : Int) - 1 = (j : Nat) := by omega
              rw [e0]
              obtain ⟨x, hx⟩ : ∃ x, oS[i]? = some x := ⟨oS[i]'(by have := hm2.out; omega), List.getElem?_eq_getElem _⟩
              obtain ⟨g, hg, _, hgl, hcells, _⟩ := H3.out.2.1.at (by omega)
              subst hg
              have dj := hcells j (.int .i64 ((x : Int) - 1)) (by
                unfold ints dn
                rw [List.getElem?_map, List.getElem?_map, List.getElem?_reverse (by have := hm2.out; omega), show oS.length - 1 - j = i by have := hm2.out; omega, hx]
                rfl)
              have HX := Lib.hid hx
              have hjm : (j : Int) < (m' : Int) := by omega
              have hwl : w.heap.size + 1 ≤ _ := H3.out.2.2.2.bx.lt
              clear hcells hx
              go_wp2_with (at_builtin; refine wpAppAt E3 H3.out.1 (by omega) (by omega) hwl (u := .int .i64 ((x : Int) - 1)) rfl rfl rfl ?_; intro a6 c6 w6 own6 fr6 at6; have hq6 := H3.out.2.2.2.step (fun _ e => (H3.out.1.blk _ e).1) fr6 HR.out; have oa6 := H3.out.2.1.fr fr6 (fun _ h1 h2 => H3.out.2.2.1 _ h2 h1); replace hq6 := Lib.hid hq6; replace own6 := Lib.hid own6; replace oa6 := Lib.hid oa6; clear fr6 dj)
              go_roundw
              case rel =>
                refine ⟨j, i + 1, a6, m8 + 1, c6, by omega, by omega, Lib.hid ⟨?_, oa6.out, ?_, hq6.out⟩, ?_, rfl⟩
                · have := own6.out
                  have e3 : ints (dn (o4.reverse ++ (y + 1) :: oS.take (i + 1))) = ints (dn (o4.reverse ++ (y + 1) :: oS.take i)) ++ [.int .i64 ((x : Int) - 1)] := by
                    rw [List.take_add_one, HX.out]
                    unfold ints dn
                    simp
                  rw [e3]
                  exact this
                · intro q h1 h2
                  rcases at6 q h1 with e | e
                  · exact H3.out.2.2.1 q e h2
                  · have := (H3.out.2.1.blk q h2).2; omega
                · first | rfl | exact ret_v (by omega)
              case measure => simp [intOf]
        · have yci : ¬ ((y : Int) = (z : Int)) := by omega
          obtain ⟨q, hq, hw'⟩ := way_up HH.out.2.1 (by omega)
          have hpl := par_le HP.out (y := y + 1) (by omega) (by omega)
          have hp0 := way_nz hw'
          have hlt : (y : Int) < (n : Int) := by omega
          have hm59 : m' + 1 ≤ 60 := by
            have h1 := HH.out.1
            have h2 := HL.out.2
            rw [h1, hq] at h2
            simp at h2
            omega
          obtain ⟨p, hpz⟩ : ∃ p, P (y + 1) = p + 1 := ⟨P (y + 1) - 1, by omega⟩
          rw [hpz] at hw' hpl
          have HWy := Lib.hid (And.intro hq hw')
          have b1 := HH.out.2.2.2.1.bx.cell (i := 1) rfl
          have d := HH.out.2.2.2.1.fr.cell (HD.out y (.int .i64 (p : Nat)) (by unfold ints; rw [List.getElem?_map, QL_get (by omega), hpz]; simp)) id
          have hlo : w.heap.size + 1 ≤ w5.heap.size := by have := hq5.out.bx.lt; omega
          clear hq hw' hm1 hpz hp0
          go_wp2_with (at_builtin; refine wpAppAt E3 HH.out.2.2.1 (by omega) (by omega) hsz (u := .int .i64 (y : Nat)) rfl rfl rfl ?_; intro a6 c6 w6 own6 fr6 at6; have hq6 := HH.out.2.2.2.1.step (fun _ e => Nat.le_trans hlo (HH.out.2.2.1.blk _ e).1) fr6 HR.out; have b5 := hq6.bx.cell (i := 1) rfl; have hnp : ¬ onBlk a' pb := (fun e => by have h1 := (HH.out.2.2.1.blk _ e).1; have h2 := HR.out.ps.lt (by omega) pb ((onBlk_some _ _ _ _).2 rfl); omega); have d5 := fr6.cell d hnp; have f6 : Fr F0 w5 w6 := own_fr0 HH.out.2.2.2.2 (fun _ e => (HH.out.2.2.1.blk _ e).1) fr6; replace hq6 := Lib.hid hq6; replace own6 := Lib.hid own6; replace f6 := Lib.hid f6; clear b1 d fr6)
          go_roundw
          case rel =>
            refine ⟨p, q, (y + 1) :: l2, a6, m' + 1, c6, by rw [hm2.out]; rfl, Lib.hid ⟨?_, HWy.out.2, ?_, hq6.out, f6.out⟩, by omega, rfl, rfl⟩
            · rw [HH.out.1, HWy.out.1]; simp
            · have := own6.out
              have e3 : ints (dn ((y + 1) :: l2).reverse) = ints (dn l2.reverse) ++ [.int .i64 (y : Nat)] := by
                unfold ints dn
                simp
              rw [e3]
              exact this
          case measure => simp [lenS]; omega
    · have zci : ¬ ((z : Int) = (c : Int)) := by omega
      obtain ⟨q, hq, hw'⟩ := way_up HH.out.2.1 (by omega)
      have hpl := par_le HP.out (y := z + 1) (by omega) (by omega)
      have hp0 := way_nz hw'
      have hlt : (z : Int) < (n : Int) := by omega
      have hm59 : m + 1 ≤ 60 := by
        have h1 := HH.out.1
        have h2 := HL.out.1
        rw [h1, hq] at h2
        simp at h2
        omega
      obtain ⟨p, hpz⟩ : ∃ p, P (z + 1) = p + 1 := ⟨P (z + 1) - 1, by omega⟩
      rw [hpz] at hw' hpl
      have HWy := Lib.hid (And.intro hq hw')
      have b1 := HH.out.2.2.2.bx.cell (i := 1) rfl
      have d := HH.out.2.2.2.fr.cell (HD.out z (.int .i64 (p : Nat)) (by unfold ints; rw [List.getElem?_map, QL_get (by omega), hpz]; simp)) id
      clear hq hw' hm hpz hp0
      go_wp2_with (at_builtin; refine wpAppAt E3 HH.out.2.2.1 (by omega) (by omega) hsz (u := .int .i64 (z : Nat)) rfl rfl rfl ?_; intro a5 c5 w5 own5 fr5 at5; have hq5 := HH.out.2.2.2.step (fun _ e => (HH.out.2.2.1.blk _ e).1) fr5 HR.out; have b5 := hq5.bx.cell (i := 1) rfl; have hnp : ¬ onBlk a pb := (fun e => by have h1 := (HH.out.2.2.1.blk _ e).1; have h2 := HR.out.ps.lt (by omega) pb ((onBlk_some _ _ _ _).2 rfl); omega); have d5 := fr5.cell d hnp; replace hq5 := Lib.hid hq5; replace own5 := Lib.hid own5; clear b1 d fr5)
      go_roundw
      case rel =>
        refine ⟨p, q, (z + 1) :: l2, a5, m + 1, c5, by rw [hm'.out]; rfl, Lib.hid ⟨?_, HWy.out.2, ?_, hq5.out⟩, by omega, rfl, rfl⟩
        · rw [HH.out.1, HWy.out.1]; simp
        · have := own5.out
          have e3 : ints (dn ((z + 1) :: l2).reverse) = ints (dn l2.reverse) ++ [.int .i64 (z : Nat)] := by
            unfold ints dn
            simp
          rw [e3]
          exact this
      case measure => simp [lenS]; omega
end
end Go.Proofs.Ytfeokafjehpgnaa
