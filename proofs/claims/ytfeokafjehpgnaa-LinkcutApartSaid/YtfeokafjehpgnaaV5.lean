/- The reference's Path, Sum, Least; ways through the tree; slices.Index, slices.Contains; a forest beside a reference that does not follow it. -/
import Derived.Test.YtfeokafjehpgnaaV1
namespace Go.Proofs.Ytfeokafjehpgnaa
open Go.RowKit
attribute [local go_sem ↓] Go.wp_at_zero Go.wp_at_succ
theorem sum_take {wt : Nat → Int} {l : List Nat} {k x : Nat} (hx : l[k]? = some x) : ((l.take (k + 1)).map wt).sum = ((l.take k).map wt).sum + wt x := by
  rw [List.take_add_one, hx, List.map_append, List.sum_append]
  simp
theorem fm_take {wt : Nat → Int} {l : List Nat} {k x : Nat} (hk : 0 < k) (hk2 : k < l.length) (hx : l[k]? = some x) : K.fm wt (l.take (k + 1)) = if wt x < wt (K.fm wt (l.take k)) then x else K.fm wt (l.take k) := by
  have hne : l.take k ≠ [] := by
    intro e
    have := congrArg List.length e
    rw [List.length_take, List.length_nil] at this
    omega
  rw [List.take_add_one, hx]
  show K.fm wt (l.take k ++ [x]) = _
  rw [K.fm_app wt hne (by simp)]
  show (if wt (K.fm wt (l.take k)) ≤ wt x then _ else x) = _
  by_cases h : wt x < wt (K.fm wt (l.take k))
  · rw [if_neg (by omega), if_pos h]
  · rw [if_pos (by omega), if_neg h]
/-- In Sum, Least of the reference. -/
structure QS (w W : World) (B n : Nat) (wt : Nat → Int) (P : Nat → Nat) (wa : Option Addr) (wc : Nat) (pa : Option Addr) (pc : Nat) (a : Option Addr) (m : Nat) (l : List Nat) : Prop where
  rs : RS W B n wt P wa wc pa pc
  rd : Rd W a m (ints (dn l))
  bx : Blk W w.heap.size 28 [.slice wa n wc, .slice pa n pc]
  fr : Fr F0 w W
theorem QS.drewN {w W : World} {B n : Nat} {wt : Nat → Int} {P : Nat → Nat} {wa : Option Addr} {wc : Nat} {pa : Option Addr} {pc : Nat} {a : Option Addr} {m : Nat} {l : List Nat} (h : QS w W B n wt P wa wc pa pc a m l) (q : Nat) : QS w (W.drewN q) B n wt P wa wc pa pc a m l :=
  ⟨h.rs.fr0 ((Fr.refl _ _).drewN q), h.rd.fr0 ((Fr.refl _ _).drewN q), h.bx, h.fr.drewN q⟩
theorem i64_id {x : Int} (h1 : -9223372036854775808 ≤ x) (h2 : x ≤ 9223372036854775807) : IntKind.i64.wrap x = x := by rw [IntKind.wrap_i64]; omega
theorem ret_v {x y : Int} (h : x = y) : Value.int .i64 x = .int .i64 y := by rw [h]
section
variable {w : World} {B n : Nat} {wt : Nat → Int} {P : Nat → Nat} {wa pa : Option Addr} {wc pc : Nat}
set_option maxRecDepth 100000 in
set_option maxHeartbeats 1000000 in
theorem refSum_any (h : RS w B n wt P wa wc pa pc) (hn : n ≤ 60) (hw : WOK n wt) {a : Option Addr} {m c : Nat} {l : List Nat} (hl : Rd w a m (ints (dn l))) (hm : m ≤ 200) (hv : ∀ z ∈ l, z ∈ vts n) :
    Calls Try.prog 18 #[rv n wa wc pa pc, .slice a m c] w fun e w' => e = .returned (.int .i64 (l.map wt).sum) ∧ Fr F0 w w' := by
  have hlen : l.length = m := by have := hl.len; unfold ints dn at this; simpa using this
  have F1 := (Fr.refl F0 w).alloc (.cells #[.slice wa n wc, .slice pa n pc] 28)
  have hQ : QS w (w.alloc (.cells #[.slice wa n wc, .slice pa n pc] 28)) B n wt P wa wc pa pc a m l := ⟨h.fr0 F1, hl.fr0 F1, Blk.new w 28 [.slice wa n wc, .slice pa n pc], F1⟩
  have HQ := Lib.hid hQ
  have HV := Lib.hid (And.intro hv (And.intro hw hlen))
  have hmx := hl.max
  clear h hl hv hw hQ F1 hlen
  go_enter Try.func18, Try.ntmps18
  go_wp2_with fail
  go_loopw [5, 6] (fun s5 i wr => ∃ (k : Nat) (S : Int), k ≤ m ∧ i = .int .i64 k ∧ s5 = .int .i64 S ∧ Hid (S = ((l.take k).map wt).sum) ∧ Hid (QS w wr B n wt P wa wc pa pc a m l)) (fun _ i _ => m - (intOf i).toNat)
  case atStart => exact ⟨0, 0, Nat.zero_le _, rfl, rfl, Lib.hid rfl, HQ⟩
  case round =>
    clear HQ
    obtain ⟨k, S, hk, rfl, rfl, HS, HQ⟩ := hrel
    by_cases hlt : k < m
    · obtain ⟨hv, hw, hlen⟩ := HV.out
      obtain ⟨x, hx⟩ : ∃ x, l[k]? = some x := ⟨l[k]'(by omega), List.getElem?_eq_getElem _⟩
      have hxv := mem_vts.1 (hv x (List.mem_of_getElem? hx))
      obtain ⟨x, rfl⟩ : ∃ y, x = y + 1 := ⟨x - 1, by omega⟩
      obtain ⟨ab, ao, rfl, hc⟩ := HQ.out.rd.cells (by omega)
      have dk := hc k (.int .i64 (x : Nat)) (by unfold ints dn; rw [List.getElem?_map, List.getElem?_map, hx]; simp)
      obtain ⟨wb, wo, rfl, hc2⟩ := HQ.out.rs.ws.cells (by omega)
      have dw := hc2 x (.int .i64 (wt (x + 1))) (by unfold ints; rw [List.getElem?_map, WL_get (by omega)]; rfl)
      have b0 := HQ.out.bx.cell (i := 0) rfl
      have hki : (k : Int) < (m : Int) := by omega
      have hxi : (x : Int) < (n : Int) := by omega
      have hb := K.sum_le wt 1048576 (l.take k) (fun z hz => by
        have := mem_vts.1 (hv z (List.mem_of_mem_take hz))
        exact hw.2 z this.1 this.2)
      rw [← HS.out, List.length_take] at hb
      have hwb := hw.2 (x + 1) hxv.1 hxv.2
      have HX := Lib.hid hx
      have hS1 : -1000000000 ≤ S ∧ S ≤ 1000000000 := by omega
      clear hc hc2 hv hw hlen hx hb
      generalize hT : wt (x + 1) = T at *
      have HT := Lib.hid hT
      clear hT
      have hwr := i64_id (x := S + T) (by omega) (by omega)
      go_wp2_with fail
      go_quiet (fail)
      go_wp2_with fail
      refine ⟨⟨k + 1, S + T, by omega, rfl, rfl, Lib.hid ?_, Lib.hid (HQ.out.drewN _)⟩, ?_⟩
      · rw [sum_take HX.out, ← HS.out, HT.out]
      · simp only [intOf]; omega
    · obtain rfl : k = m := by omega
      go_wp2_with fail
      go_ret
      exact ⟨ret_int (by rw [HS.out, List.take_of_length_le (by rw [HV.out.2.2]; exact Nat.le_refl _)]), HQ.out.fr⟩
set_option maxRecDepth 100000 in
set_option maxHeartbeats 1000000 in
theorem refLeast_any (h : RS w B n wt P wa wc pa pc) (hn : n ≤ 60) (hw : WOK n wt) {a : Option Addr} {m c : Nat} {l : List Nat} (hl : Rd w a m (ints (dn l))) (hm : m ≤ 200) (hm0 : 0 < m) (hv : ∀ z ∈ l, z ∈ vts n) :
    Calls Try.prog 19 #[rv n wa wc pa pc, .slice a m c] w fun e w' => e = .returned (.int .i64 ((K.fm wt l : Int) - 1)) ∧ Fr F0 w w' := by
  have hlen : l.length = m := by have := hl.len; unfold ints dn at this; simpa using this
  have F1 := (Fr.refl F0 w).alloc (.cells #[.slice wa n wc, .slice pa n pc] 28)
  have hQ : QS w (w.alloc (.cells #[.slice wa n wc, .slice pa n pc] 28)) B n wt P wa wc pa pc a m l := ⟨h.fr0 F1, hl.fr0 F1, Blk.new w 28 [.slice wa n wc, .slice pa n pc], F1⟩
  have HQ := Lib.hid hQ
  have HV := Lib.hid (And.intro hv (And.intro hw hlen))
  have hmx := hl.max
  obtain ⟨ab, ao, rfl, hc⟩ := hQ.rd.cells (by omega)
  have hl0 : l[0]? = some (K.fm wt (l.take 1)) := by
    cases l with
    | nil => simp at hlen; omega
    | cons x l => rfl
  have d0 := hc 0 (.int .i64 ((K.fm wt (l.take 1) : Int) - 1)) (by unfold ints dn; rw [List.getElem?_map, List.getElem?_map, hl0]; rfl)
  rw [Nat.add_zero] at d0
  have hm0i : (0 : Int) < (m : Int) := by omega
  clear h hl hv hw hQ F1 hlen hc hl0
  go_enter Try.func19, Try.ntmps19
  go_wp2_with fail
  go_loopw [5, 6] (fun s5 i wr => ∃ (k y : Nat), 0 < k ∧ k ≤ m ∧ i = .int .i64 k ∧ s5 = .int .i64 ((y : Int) - 1) ∧ Hid (y = K.fm wt (l.take k)) ∧ Hid (QS w wr B n wt P wa wc pa pc (some ⟨ab, ao, none⟩) m l)) (fun _ i _ => m - (intOf i).toNat)
  case atStart => exact ⟨1, _, Nat.zero_lt_one, hm0, rfl, rfl, Lib.hid rfl, HQ⟩
  case round =>
    clear HQ d0
    obtain ⟨k, y, hk0, hk, rfl, rfl, HY, HQ⟩ := hrel
    by_cases hlt : k < m
    · obtain ⟨hv, hw, hlen⟩ := HV.out
      obtain ⟨x, hx⟩ : ∃ x, l[k]? = some x := ⟨l[k]'(by omega), List.getElem?_eq_getElem _⟩
      have hxv := mem_vts.1 (hv x (List.mem_of_getElem? hx))
      have hyv := mem_vts.1 (hv y (List.mem_of_mem_take (i := k) (HY.out ▸ K.fm_mem (w := wt) (l := l.take k) (fun e => by have := congrArg List.length e; rw [List.length_take, List.length_nil] at this; omega))))
      obtain ⟨x, rfl⟩ : ∃ y, x = y + 1 := ⟨x - 1, by omega⟩
      obtain ⟨y, rfl⟩ : ∃ z, y = z + 1 := ⟨y - 1, by omega⟩
      have e0 : (((y + 1 : Nat) : Int)) - 1 = (y : Nat) := by omega
      rw [e0]
      obtain ⟨b', o', hbo, hc⟩ := HQ.out.rd.cells (by omega)
      injection hbo with hbo
      injection hbo with hb1 hb2
      subst hb1
      subst hb2
      have dk := hc k (.int .i64 (x : Nat)) (by unfold ints dn; rw [List.getElem?_map, List.getElem?_map, hx]; simp)
      obtain ⟨wb, wo, rfl, hc2⟩ := HQ.out.rs.ws.cells (by omega)
      have dw := hc2 x (.int .i64 (wt (x + 1))) (by unfold ints; rw [List.getElem?_map, WL_get (by omega)]; rfl)
      have dy := hc2 y (.int .i64 (wt (y + 1))) (by unfold ints; rw [List.getElem?_map, WL_get (by omega)]; rfl)
      have b0 := HQ.out.bx.cell (i := 0) rfl
      have hki : (k : Int) < (m : Int) := by omega
      have hxi : (x : Int) < (n : Int) := by omega
      have hyi : (y : Int) < (n : Int) := by omega
      have HX := Lib.hid (fm_take (wt := wt) hk0 (by omega) hx)
      rw [← HY.out] at HX
      clear hc hc2 hv hw hlen hx
      generalize hT : wt (x + 1) = T at *
      generalize hU : wt (y + 1) = U at *
      clear hT hU
      by_cases hTU : T < U
      · rw [if_pos hTU] at HX
        go_wp2_with fail
        go_quiet (fail)
        go_wp2_with fail
        refine ⟨⟨k + 1, x + 1, by omega, by omega, rfl, ret_v (by omega), Lib.hid HX.out.symm, Lib.hid (HQ.out.drewN _)⟩, ?_⟩
        simp only [intOf]; omega
      · rw [if_neg hTU] at HX
        go_wp2_with fail
        go_quiet (fail)
        go_wp2_with fail
        refine ⟨⟨k + 1, y + 1, by omega, by omega, rfl, by rw [e0], Lib.hid HX.out.symm, Lib.hid (HQ.out.drewN _)⟩, ?_⟩
        simp only [intOf]; omega
    · obtain rfl : k = m := by omega
      go_wp2_with fail
      go_ret
      exact ⟨ret_int (by rw [HY.out, List.take_of_length_le (by rw [HV.out.2.2]; exact Nat.le_refl _)]), HQ.out.fr⟩
/-- While Path of the reference runs: what stands fast. -/
structure QP (w W : World) (B n : Nat) (wt : Nat → Int) (P : Nat → Nat) (wa : Option Addr) (wc : Nat) (pa : Option Addr) (pc : Nat) : Prop where
  rs : RS W B n wt P wa wc pa pc
  bx : Blk W w.heap.size 28 [.slice wa n wc, .slice pa n pc]
  fr : Fr F0 w W
theorem QP.step {W W' : World} (h : QP w W B n wt P wa wc pa pc) {a : Option Addr} (hb : ∀ k, onBlk a k → w.heap.size + 1 ≤ k) (f : Fr (onBlk a) W W') (h0 : RS w B n wt P wa wc pa pc) : QP w W' B n wt P wa wc pa pc := by
  have FF : Fr F0 w W' := ⟨f.os.trans h.fr.os, f.tape.trans h.fr.tape, f.output.trans h.fr.output, Nat.le_trans h.fr.size f.size, fun i hi hn => (f.block i (Nat.lt_of_lt_of_le hi h.fr.size) (fun e => by have := hb _ e; omega)).trans (h.fr.block i hi hn)⟩
  exact ⟨h0.fr0 FF, h.bx.fr f (fun e => by have := hb _ e; omega), FF⟩
end
theorem way_nz {P : Nat → Nat} {x : Nat} {l : List Nat} (h : K.Way P x l) : x ≠ 0 := by
  cases h with
  | root h1 _ => exact h1
  | down h1 _ _ => exact h1
theorem way_up {P : Nat → Nat} {z c : Nat} {o3 l1 : List Nat} (h : K.Way P z (o3 ++ c :: l1)) (hz : z ≠ c) : ∃ q, l1 = q ++ [z] ∧ K.Way P (P z) (o3 ++ c :: q) := by
  obtain ⟨o, e⟩ := h.last
  rcases List.eq_nil_or_concat l1 with h1 | ⟨q, y, h1⟩
  · subst h1
    have := congrArg List.getLast? e
    simp at this
    exact absurd this.symm hz
  · rw [List.concat_eq_append] at h1
    subst h1
    have e2 : (o3 ++ c :: q) ++ [y] = o ++ [z] := by rw [← e]; simp
    have e3 := List.append_inj' e2 rfl
    have e4 : y = z := by injection e3.2
    subst e4
    refine ⟨q, rfl, ?_⟩
    rw [show o3 ++ c :: (q ++ [y]) = (o3 ++ c :: q) ++ [y] by simp] at h
    generalize hL : (o3 ++ c :: q) ++ [y] = L at h
    cases h with
    | root h1 h2 =>
      have := congrArg List.length hL
      simp at this
      omega
    | down h1 h2 h3 =>
      have := List.append_inj' hL rfl
      rw [this.1]
      exact h3
theorem way_at {P : Nat → Nat} {c : Nat} {o3 l1 : List Nat} (h : K.Way P c (o3 ++ c :: l1)) (hn : (o3 ++ c :: l1).Nodup) : l1 = [] := by
  obtain ⟨o, e⟩ := h.last
  rcases List.eq_nil_or_concat l1 with h1 | ⟨q, y, h1⟩
  · exact h1
  · rw [List.concat_eq_append] at h1
    subst h1
    have e2 : (o3 ++ c :: q) ++ [y] = o ++ [c] := by rw [← e]; simp
    have e3 := (List.append_inj' e2 rfl).2
    have e4 : y = c := by injection e3
    subst e4
    have hn2 := (List.nodup_append.1 hn).2.1
    rw [List.nodup_cons] at hn2
    exact absurd (by simp) hn2.1
theorem own_fr0 {w W W' : World} {a : Option Addr} (h : Fr F0 w W) (hb : ∀ k, onBlk a k → w.heap.size ≤ k) (f : Fr (onBlk a) W W') : Fr F0 w W' :=
  ⟨f.os.trans h.os, f.tape.trans h.tape, f.output.trans h.output, Nat.le_trans h.size f.size, fun i hi hn => (f.block i (Nat.lt_of_lt_of_le hi h.size) (fun e => by have := hb _ e; omega)).trans (h.block i hi hn)⟩
section
variable {w : World} {B n : Nat} {wt : Nat → Int} {P : Nat → Nat} {wa pa : Option Addr} {wc pc : Nat}
theorem refCommon_in (hp : K.Par P (vts n)) (h : RS w B n wt P wa wc pa pc) (hn : n ≤ 60) {v u : Nat} (hv : v < n) (hu : u < n) {lv lw : List Nat} (hlv : K.Way P (v + 1) lv) (hlw : K.Way P (u + 1) lw) {c : Nat} (hc : Cmn lv lw (c + 1)) :
    Calls Try.prog 16 #[rv n wa wc pa pc, .int .i64 (v : Nat), .int .i64 (u : Nat)] w fun e w' => e = .returned (.int .i64 (c : Nat)) ∧ Fr F0 w w' := by
  refine (refCommon_any hp h hn hv hu hlv hlw).mono ?_
  rintro e w' ⟨y, rfl, k1, k2⟩
  rcases k1 with ⟨_, k1⟩ | ⟨_, k1, _⟩
  · obtain ⟨o3, o4, oS, e1, e2, _⟩ := hc.ex
    refine absurd ?_ k1
    rw [e1, e2]
    cases o3 <;> rfl
  · rw [cmn_uniq k1 hc]
    exact ⟨ret_int (by omega), k2⟩
set_option maxRecDepth 100000 in
set_option maxHeartbeats 1000000 in
theorem refPath_any (hp : K.Par P (vts n)) (h : RS w B n wt P wa wc pa pc) (hn : n ≤ 60) {v u : Nat} (hv : v < n) (hu : u < n) {o3 o4 oS : List Nat} {c : Nat} (hlv : K.Way P (v + 1) (o3 ++ (c + 1) :: o4)) (hlw : K.Way P (u + 1) (o3 ++ (c + 1) :: oS)) (hd : ∀ z ∈ oS, z ∉ o4) :
    Calls Try.prog 17 #[rv n wa wc pa pc, .int .i64 (v : Nat), .int .i64 (u : Nat)] w fun e w' => ∃ a m k, e = .returned (.slice a m k) ∧ Rd w' a m (ints (dn (o4.reverse ++ (c + 1) :: oS))) ∧ Fr F0 w w' := by
  have A1 := way_all hp hlv (mem_succ hv)
  have A2 := way_all hp hlw (mem_succ hu)
  have L1 := hlv.len hp (mem_succ hv)
  have L2 := hlw.len hp (mem_succ hu)
  rw [vts_length] at L1 L2
  have hc1 := mem_vts.1 (A1.1 (c + 1) (by simp))
  have HR := Lib.hid h
  have HP := Lib.hid hp
  have HW := Lib.hid (And.intro hlv (And.intro hlw (And.intro A1.2 A2.2)))
  have HL := Lib.hid (And.intro L1 L2)
  have hB := Lib.hid (Blk.new w 28 [.slice wa n wc, .slice pa n pc])
  have b0 := hB.out.cell (i := 0) rfl
  have b1 := hB.out.cell (i := 1) rfl
  have HC := Lib.hid (refCommon_in hp (h.fr0 ((Fr.refl F0 w).alloc (.cells #[.slice wa n wc, .slice pa n pc] 28))) hn hv hu hlv hlw ⟨o3, o4, oS, rfl, rfl, hd⟩)
  obtain ⟨pb, po, hpa, hpc⟩ := h.ps.cells (by omega)
  subst hpa
  have HD := Lib.hid hpc
  clear h hp hlv hlw A1 A2 L1 L2 hd hpc
  go_enter Try.func17, Try.ntmps17
  go_wp2_with (go_at_call 16; refine HC.out.mono ?_; rintro e w1 ⟨rfl, F1⟩; have hx1 := hB.out.fr F1 id; have Q1 : Hid (QP w w1 B n wt P wa wc (some ⟨pb, po, none⟩) pc) := Lib.hid ⟨HR.out.fr0 (((Fr.refl F0 w).alloc (.cells #[.slice wa n wc, .slice (some ⟨pb, po, none⟩) n pc] 28)).trans F1 (fun _ _ h => h)), hx1, ((Fr.refl F0 w).alloc (.cells #[.slice wa n wc, .slice (some ⟨pb, po, none⟩) n pc] 28)).trans F1 (fun _ _ h => h)⟩; clear F1 b0 b1 hx1 HC)
  go_loopw [8, 9] (fun s8 s9 wr => ∃ (z : Nat) (l1 l2 : List Nat) (a : Option Addr) (m k : Nat), m = l2.length ∧ Hid (o4 = l1 ++ l2 ∧ K.Way P (z + 1) (o3 ++ (c + 1) :: l1) ∧ Own wr (w.heap.size + 1) 3 a m k (ints (dn l2.reverse)) ∧ QP w wr B n wt P wa wc (some ⟨pb, po, none⟩) pc) ∧ z < n ∧ s9 = .int .i64 (z : Nat) ∧ s8 = .slice a m k)
    (fun s8 _ _ => 61 - lenS s8)
  case atStart => exact ⟨v, o4, [], none, 0, 0, rfl, Lib.hid ⟨by simp, HW.out.1, Own.nil _ _ _, Q1.out⟩, hv, rfl, rfl⟩
  case round =>
    obtain ⟨z, l1, l2, a, m, k, hm, HH, hz, rfl, rfl⟩ := hrel
    have hm' := Lib.hid hm
    have hm60 : m + 1 ≤ 61 := by
      have h1 := HH.out.1
      have h2 := HL.out.1
      rw [h1] at h2
      simp at h2
      omega
    have hsz : w.heap.size + 1 ≤ wr.heap.size := by have := HH.out.2.2.2.bx.lt; omega
    by_cases zc : z = c
    · subst zc
      have e1 := way_at HH.out.2.1 (by have h2 := HW.out.2.2.1; rw [HH.out.1] at h2; rw [show o3 ++ (z + 1) :: (l1 ++ l2) = (o3 ++ (z + 1) :: l1) ++ l2 by simp] at h2; exact (List.nodup_append.1 h2).1)
      subst e1
      have e2 : o4 = l2 := by have := HH.out.1; rwa [List.nil_append] at this
      subst e2
      go_wp2_with (at_builtin; refine wpAppAt E3 HH.out.2.2.1 (by omega) (by omega) hsz (u := .int .i64 (z : Nat)) rfl rfl rfl ?_; intro a5 c5 w5 own5 fr5 at5; have hq5 := HH.out.2.2.2.step (fun _ e => (HH.out.2.2.1.blk _ e).1) fr5 HR.out; replace hq5 := Lib.hid hq5; replace own5 := Lib.hid own5; clear fr5)
      have F0' := Lib.hid (Fr.refl F0 w5)
      have hm61 : m ≤ 60 := by omega
      clear hm hsz hm60 HH
      go_loopw [10, 11] (fun s8 s9 wr => ∃ (z' : Nat) (l1 l2 : List Nat) (a : Option Addr) (m k : Nat), m = l2.length ∧ Hid (oS = l1 ++ l2 ∧ K.Way P (z' + 1) (o3 ++ (z + 1) :: l1) ∧ Own wr (w5.heap.size) 3 a m k (ints (dn l2.reverse)) ∧ QP w wr B n wt P wa wc (some ⟨pb, po, none⟩) pc ∧ Fr F0 w5 wr) ∧ z' < n ∧ s9 = .int .i64 (z' : Nat) ∧ s8 = .slice a m k)
        (fun s8 _ _ => 61 - lenS s8)
      case atStart => exact ⟨u, oS, [], none, 0, 0, rfl, Lib.hid ⟨by simp, HW.out.2.1, Own.nil _ _ _, hq5.out, Fr.refl _ _⟩, hu, rfl, rfl⟩
      case round =>
        obtain ⟨y, l1, l2, a', m', k', hm1, HH, hy, rfl, rfl⟩ := hrel
        have hm2 := Lib.hid hm1
        have hm60 : m' + 1 ≤ 61 := by
          have h1 := HH.out.1
          have h2 := HL.out.2
          rw [h1] at h2
          simp at h2
          omega
        have hsz : w5.heap.size ≤ wr.heap.size := HH.out.2.2.2.2.size
        by_cases yc : y = z
        · subst yc
          have e1 := way_at HH.out.2.1 (by have h2 := HW.out.2.2.2; rw [HH.out.1] at h2; rw [show o3 ++ (y + 1) :: (l1 ++ l2) = (o3 ++ (y + 1) :: l1) ++ l2 by simp] at h2; exact (List.nodup_append.1 h2).1)
          subst e1
          have e2 : oS = l2 := by have := HH.out.1; rwa [List.nil_append] at this
          subst e2
          have hmi : (m' : Int) ≤ 61 := by omega
          clear hm1
          go_wp2_with fail
          go_loopw [8, 12] (fun s8 s12 wr => ∃ (j i : Nat) (a : Option Addr) (m k : Nat), j + i = m' ∧ m ≤ 61 + i ∧ Hid (Own wr (w.heap.size + 1) 3 a m k (ints (dn (o4.reverse ++ (y + 1) :: oS.take i))) ∧ Own wr w5.heap.size 3 a' m' k' (ints (dn oS.reverse)) ∧ (∀ q, onBlk a q → ¬ onBlk a' q) ∧ QP w wr B n wt P wa wc (some ⟨pb, po, none⟩) pc) ∧ s12 = .int .i64 ((j : Int) - 1) ∧ s8 = .slice a m k)
            (fun _ s12 _ => (intOf s12 + 1).toNat)
          case atStart =>
            refine ⟨m', 0, _, _, _, by omega, by have := hm'.out; omega, Lib.hid ⟨?_, HH.out.2.2.1, ?_, HH.out.2.2.2.1⟩, ?_, rfl⟩
            · have := own5.out.fr0 HH.out.2.2.2.2
              have e3 : ints (dn (o4.reverse ++ (y + 1) :: oS.take 0)) = ints (dn o4.reverse) ++ [.int .i64 (y : Nat)] := by
                unfold ints dn
                simp
              rw [e3, ← hm'.out]
              exact this
            · intro q h1 h2
              have := own5.out.blk q h1
              have := HH.out.2.2.1.blk q h2
              omega
            · exact ret_v (by have := hm2.out; omega)
          case round =>
            obtain ⟨j, i, a8, m8, k8, hji, hm8, H3, rfl, rfl⟩ := hrel
            by_cases j0 : j = 0
            · subst j0
              have e0 : ((0 : Nat) : Int) - 1 = -1 := by omega
              rw [e0]
              go_wp2_with fail
              go_ret
              refine ⟨a8, m8, k8, rfl, ?_, H3.out.2.2.2.fr⟩
              have := H3.out.1.rd
              rwa [List.take_of_length_le (by have := hm2.out; omega)] at this
            · obtain ⟨j, rfl⟩ : ∃ q, j = q + 1 := ⟨j - 1, by omega⟩
              have e0 : ((j + 1 : Nat) : Int) - 1 = (j : Nat) := by omega
              rw [e0]
              obtain ⟨x, hx⟩ : ∃ x, oS[i]? = some x := ⟨oS[i]'(by have := hm2.out; omega), List.getElem?_eq_getElem _⟩
              obtain ⟨g, hg, _, hgl, hcells, _⟩ := H3.out.2.1.at (by omega)
              subst hg
              have dj := hcells j (.int .i64 ((x : Int) - 1)) (by
                unfold ints dn
                rw [List.getElem?_map, List.getElem?_map, List.getElem?_reverse (by have := hm2.out; omega), show oS.length - 1 - j = i by have := hm2.out; omega, hx]
                rfl)
              have HX := Lib.hid hx
              have hjm : (j : Int) < (m' : Int) := by omega
              have hwl : w.heap.size + 1 ≤ _ := H3.out.2.2.2.bx.lt
              clear hcells hx
              go_wp2_with (at_builtin; refine wpAppAt E3 H3.out.1 (by omega) (by omega) hwl (u := .int .i64 ((x : Int) - 1)) rfl rfl rfl ?_; intro a6 c6 w6 own6 fr6 at6; have hq6 := H3.out.2.2.2.step (fun _ e => (H3.out.1.blk _ e).1) fr6 HR.out; have oa6 := H3.out.2.1.fr fr6 (fun _ h1 h2 => H3.out.2.2.1 _ h2 h1); replace hq6 := Lib.hid hq6; replace own6 := Lib.hid own6; replace oa6 := Lib.hid oa6; clear fr6 dj)
              go_roundw
              case rel =>
                refine ⟨j, i + 1, a6, m8 + 1, c6, by omega, by omega, Lib.hid ⟨?_, oa6.out, ?_, hq6.out⟩, ?_, rfl⟩
                · have := own6.out
                  have e3 : ints (dn (o4.reverse ++ (y + 1) :: oS.take (i + 1))) = ints (dn (o4.reverse ++ (y + 1) :: oS.take i)) ++ [.int .i64 ((x : Int) - 1)] := by
                    rw [List.take_add_one, HX.out]
                    unfold ints dn
                    simp
                  rw [e3]
                  exact this
                · intro q h1 h2
                  rcases at6 q h1 with e | e
                  · exact H3.out.2.2.1 q e h2
                  · have := (H3.out.2.1.blk q h2).2; omega
                · first | rfl | exact ret_v (by omega)
              case measure => simp [intOf]
        · have yci : ¬ ((y : Int) = (z : Int)) := by omega
          obtain ⟨q, hq, hw'⟩ := way_up HH.out.2.1 (by omega)
          have hpl := par_le HP.out (y := y + 1) (by omega) (by omega)
          have hp0 := way_nz hw'
          have hlt : (y : Int) < (n : Int) := by omega
          have hm59 : m' + 1 ≤ 60 := by
            have h1 := HH.out.1
            have h2 := HL.out.2
            rw [h1, hq] at h2
            simp at h2
            omega
          obtain ⟨p, hpz⟩ : ∃ p, P (y + 1) = p + 1 := ⟨P (y + 1) - 1, by omega⟩
          rw [hpz] at hw' hpl
          have HWy := Lib.hid (And.intro hq hw')
          have b1 := HH.out.2.2.2.1.bx.cell (i := 1) rfl
          have d := HH.out.2.2.2.1.fr.cell (HD.out y (.int .i64 (p : Nat)) (by unfold ints; rw [List.getElem?_map, QL_get (by omega), hpz]; simp)) id
          have hlo : w.heap.size + 1 ≤ w5.heap.size := by have := hq5.out.bx.lt; omega
          clear hq hw' hm1 hpz hp0
          go_wp2_with (at_builtin; refine wpAppAt E3 HH.out.2.2.1 (by omega) (by omega) hsz (u := .int .i64 (y : Nat)) rfl rfl rfl ?_; intro a6 c6 w6 own6 fr6 at6; have hq6 := HH.out.2.2.2.1.step (fun _ e => Nat.le_trans hlo (HH.out.2.2.1.blk _ e).1) fr6 HR.out; have b5 := hq6.bx.cell (i := 1) rfl; have hnp : ¬ onBlk a' pb := (fun e => by have h1 := (HH.out.2.2.1.blk _ e).1; have h2 := HR.out.ps.lt (by omega) pb ((onBlk_some _ _ _ _).2 rfl); omega); have d5 := fr6.cell d hnp; have f6 : Fr F0 w5 w6 := own_fr0 HH.out.2.2.2.2 (fun _ e => (HH.out.2.2.1.blk _ e).1) fr6; replace hq6 := Lib.hid hq6; replace own6 := Lib.hid own6; replace f6 := Lib.hid f6; clear b1 d fr6)
          go_roundw
          case rel =>
            refine ⟨p, q, (y + 1) :: l2, a6, m' + 1, c6, by rw [hm2.out]; rfl, Lib.hid ⟨?_, HWy.out.2, ?_, hq6.out, f6.out⟩, by omega, rfl, rfl⟩
            · rw [HH.out.1, HWy.out.1]; simp
            · have := own6.out
              have e3 : ints (dn ((y + 1) :: l2).reverse) = ints (dn l2.reverse) ++ [.int .i64 (y : Nat)] := by
                unfold ints dn
                simp
              rw [e3]
              exact this
          case measure => simp [lenS]; omega
    · have zci : ¬ ((z : Int) = (c : Int)) := by omega
      obtain ⟨q, hq, hw'⟩ := way_up HH.out.2.1 (by omega)
      have hpl := par_le HP.out (y := z + 1) (by omega) (by omega)
      have hp0 := way_nz hw'
      have hlt : (z : Int) < (n : Int) := by omega
      have hm59 : m + 1 ≤ 60 := by
        have h1 := HH.out.1
        have h2 := HL.out.1
        rw [h1, hq] at h2
        simp at h2
        omega
      obtain ⟨p, hpz⟩ : ∃ p, P (z + 1) = p + 1 := ⟨P (z + 1) - 1, by omega⟩
      rw [hpz] at hw' hpl
      have HWy := Lib.hid (And.intro hq hw')
      have b1 := HH.out.2.2.2.bx.cell (i := 1) rfl
      have d := HH.out.2.2.2.fr.cell (HD.out z (.int .i64 (p : Nat)) (by unfold ints; rw [List.getElem?_map, QL_get (by omega), hpz]; simp)) id
      clear hq hw' hm hpz hp0
      go_wp2_with (at_builtin; refine wpAppAt E3 HH.out.2.2.1 (by omega) (by omega) hsz (u := .int .i64 (z : Nat)) rfl rfl rfl ?_; intro a5 c5 w5 own5 fr5 at5; have hq5 := HH.out.2.2.2.step (fun _ e => (HH.out.2.2.1.blk _ e).1) fr5 HR.out; have b5 := hq5.bx.cell (i := 1) rfl; have hnp : ¬ onBlk a pb := (fun e => by have h1 := (HH.out.2.2.1.blk _ e).1; have h2 := HR.out.ps.lt (by omega) pb ((onBlk_some _ _ _ _).2 rfl); omega); have d5 := fr5.cell d hnp; replace hq5 := Lib.hid hq5; replace own5 := Lib.hid own5; clear b1 d fr5)
      go_roundw
      case rel =>
        refine ⟨p, q, (z + 1) :: l2, a5, m + 1, c5, by rw [hm'.out]; rfl, Lib.hid ⟨?_, HWy.out.2, ?_, hq5.out⟩, by omega, rfl, rfl⟩
        · rw [HH.out.1, HWy.out.1]; simp
        · have := own5.out
          have e3 : ints (dn ((z + 1) :: l2).reverse) = ints (dn l2.reverse) ++ [.int .i64 (z : Nat)] := by
            unfold ints dn
            simp
          rw [e3]
          exact this
      case measure => simp [lenS]; omega
end
theorem index_any (w : World) {a : Option Addr} {m c : Nat} {xs : List Int} (hp : Rd w a m (ints xs)) (x : Int) :
    Calls Try.prog 49 #[.slice a m c, .int .i64 x] w fun e w' => ∃ j : Int, e = .returned (.int .i64 j) ∧ (0 ≤ j ↔ x ∈ xs) ∧ w = w' := by
  have hlen : xs.length = m := by have := hp.len; simpa using this
  have hmax := hp.max
  have Hp := Lib.hid hp
  have HLN := Lib.hid hlen
  clear hp hlen
  go_enter Try.func49, Try.ntmps49
  go_wp2_with fail
  go_loop [8] (fun i => ∃ k : Nat, k ≤ m ∧ i = .int .i64 k ∧ Hid (x ∉ xs.take k)) (fun i => m - (intOf i).toNat)
  case atStart => exact ⟨0, by omega, rfl, Lib.hid (by simp)⟩
  case round =>
    obtain ⟨k, hk, rfl, hno⟩ := hrel
    by_cases hlt : k < m
    · obtain ⟨y, hy⟩ : ∃ y, xs[k]? = some y := ⟨xs[k]'(by rw [HLN.out]; exact hlt), List.getElem?_eq_getElem _⟩
      obtain ⟨b, o, rfl, hc⟩ := Hp.out.cells (by omega)
      have d := hc k (.int .i64 y) (by unfold ints; rw [List.getElem?_map, hy]; rfl)
      have hki : (k : Int) < (m : Int) := by omega
      have HY := Lib.hid hy
      clear hc hy
      by_cases e : y = x
      · subst e
        go_wp2_with fail
        go_ret
        exact ⟨_, rfl, ⟨fun _ => List.mem_of_getElem? HY.out, fun _ => by omega⟩, rfl⟩
      · have e' : ¬ x = y := fun h => e h.symm
        have HN : Hid (x ∉ xs.take (k + 1)) := Lib.hid (by rw [List.take_add_one, HY.out]; simp [hno.out]; exact fun h => e h.symm)
        go_wp2_with fail
        go_round
        case rel => exact ⟨k + 1, by omega, by go_num, HN⟩
        case measure => simp [intOf]; omega
    · obtain rfl : k = m := by omega
      go_wp2_with fail
      go_ret
      exact ⟨_, rfl, ⟨fun h => by omega, fun h => absurd h (by have := hno.out; rwa [List.take_of_length_le (by rw [HLN.out]; exact Nat.le_refl _)] at this)⟩, rfl⟩
theorem contains_any (w : World) {a : Option Addr} {m c : Nat} {xs : List Int} (hp : Rd w a m (ints xs)) (x : Int) :
    Calls Try.prog 21 #[.slice a m c, .int .i64 x] w fun e w' => e = .returned (.bool (decide (x ∈ xs))) ∧ w = w' := by
  have Hp := Lib.hid hp
  clear hp
  go_enter Try.func21, Try.ntmps21
  go_wp2_with (go_at_call 49; refine (index_any _ Hp.out x).mono ?_; rintro e w1 ⟨j, rfl, hj, rfl⟩)
  go_ret
  refine ⟨ret_bool ?_, rfl⟩
  exact decide_eq_decide.2 (by rw [← hj])
/-- The vertices of the way through the tree from v to u, both counted. -/
def Pth (P : Nat → Nat) (v u : Nat) (lp : List Nat) : Prop := ∃ o3 o4 oS c, K.Way P v (o3 ++ c :: o4) ∧ K.Way P u (o3 ++ c :: oS) ∧ (∀ z ∈ oS, z ∉ o4) ∧ lp = o4.reverse ++ c :: oS
theorem way_cut {P : Nat → Nat} {x y : Nat} {l1 l2 : List Nat} (h : K.Way P x (l1 ++ y :: l2)) (hn : (l1 ++ y :: l2).Nodup) : K.Way P y (l1 ++ [y]) := by
  obtain ⟨a, b, e1, w1⟩ := way_pre h y (by simp)
  obtain ⟨o, e2⟩ := w1.last
  subst e2
  have hl : o.length = l1.length := by
    rcases Nat.lt_trichotomy o.length l1.length with h3 | h3 | h3
    · exfalso
      have k1 : (l1 ++ y :: l2)[l1.length]? = some y := by simp
      have k2 : (l1 ++ y :: l2)[o.length]? = some y := by rw [e1]; simp
      have := (List.getElem?_inj (by simp) hn).1 (k1.trans k2.symm)
      omega
    · exact h3
    · exfalso
      have k1 : (l1 ++ y :: l2)[l1.length]? = some y := by simp
      have k2 : (l1 ++ y :: l2)[o.length]? = some y := by rw [e1]; simp
      have := (List.getElem?_inj (by simp) hn).1 (k1.trans k2.symm)
      omega
  have e3 : l1 ++ y :: l2 = o ++ y :: b := by rw [e1]; simp
  rw [(List.append_inj e3 hl.symm).1]
  exact w1
theorem Pth.of {P : Nat → Nat} {v u c : Nat} {lv lw : List Nat} (h1 : K.Way P v lv) (h2 : K.Way P u lw) (hc : Cmn lv lw c) : ∃ lp, Pth P v u lp := by
  obtain ⟨o3, o4, oS, e1, e2, e3⟩ := hc.ex
  exact ⟨_, o3, o4, oS, c, e1 ▸ h1, e2 ▸ h2, e3, rfl⟩
theorem Pth.rev {P : Nat → Nat} {v u : Nat} {lp : List Nat} (h : Pth P v u lp) : Pth P u v lp.reverse := by
  obtain ⟨o3, o4, oS, c, h1, h2, h3, rfl⟩ := h
  exact ⟨o3, oS, o4, c, h2, h1, fun z k1 k2 => h3 z k2 k1, by simp⟩
theorem Pth.facts {P : Nat → Nat} {n v u : Nat} {lp : List Nat} (hp : K.Par P (vts n)) (hv : v ∈ vts n) (hu : u ∈ vts n) (h : Pth P v u lp) : (∀ z ∈ lp, z ∈ vts n) ∧ 0 < lp.length ∧ lp.length ≤ 2 * n ∧ lp.Nodup := by
  obtain ⟨o3, o4, oS, c, h1, h2, h3, rfl⟩ := h
  have A1 := way_all hp h1 hv
  have A2 := way_all hp h2 hu
  have L1 := h1.len hp hv
  have L2 := h2.len hp hu
  rw [vts_length] at L1 L2
  simp at L1 L2
  refine ⟨fun z hz => ?_, by simp; omega, by simp; omega, ?_⟩
  · rcases List.mem_append.1 hz with hz | hz
    · exact A1.1 z (by simp [List.mem_reverse.1 hz])
    · exact A2.1 z (List.mem_append.2 (.inr hz))
  · have n1 := List.nodup_cons.1 (List.nodup_append.1 A1.2).2.1
    have n2 := (List.nodup_append.1 A2.2).2.1
    rw [List.nodup_append]
    refine ⟨(List.reverse_perm _).nodup_iff.2 n1.2, n2, fun x hx y hy e => ?_⟩
    subst e
    rcases List.mem_cons.1 hy with e | e
    · subst e
      exact n1.1 (List.mem_reverse.1 hx)
    · exact h3 x e (List.mem_reverse.1 hx)
theorem Pth.split {P : Nat → Nat} {n v u k : Nat} {a b : List Nat} (hp : K.Par P (vts n)) (hv : v ∈ vts n) (hu : u ∈ vts n) (h : Pth P v u (a ++ k :: b)) : Pth P v k (a ++ [k]) ∧ Pth P k u (k :: b) := by
  obtain ⟨o3, o4, oS, c, h1, h2, h3, h4⟩ := h
  have A1 := way_all hp h1 hv
  have A2 := way_all hp h2 hu
  have base : k = c → a = o4.reverse → b = oS → Pth P v k (a ++ [k]) ∧ Pth P k u (k :: b) := by
    rintro rfl rfl rfl
    exact ⟨⟨o3, o4, [], k, h1, way_cut h1 A1.2, by simp, rfl⟩, ⟨o3, [], b, k, way_cut h1 A1.2, h2, by simp, by simp⟩⟩
  rcases List.append_eq_append_iff.1 h4 with ⟨t2, e1, e2⟩ | ⟨t2, e1, e2⟩
  · cases t2 with
    | nil =>
      rw [List.append_nil] at e1
      rw [List.nil_append] at e2
      injection e2 with e2 e3
      exact base e2 e1.symm e3
    | cons x t2 =>
      rw [List.cons_append] at e2
      injection e2 with e2 e3
      subst e2 e3
      have e4 : o4 = t2.reverse ++ k :: a.reverse := by
        have := congrArg List.reverse e1
        simpa using this
      subst e4
      have e5 : o3 ++ c :: (t2.reverse ++ k :: a.reverse) = (o3 ++ c :: t2.reverse) ++ k :: a.reverse := by simp
      rw [e5] at h1 A1
      have w1 := way_cut h1 A1.2
      refine ⟨⟨o3 ++ c :: t2.reverse, a.reverse, [], k, h1, w1, by simp, by simp⟩, ⟨o3, t2.reverse ++ [k], oS, c, by simpa using w1, h2, fun z k1 k2 => h3 z k1 ?_, by simp⟩⟩
      rcases List.mem_append.1 k2 with k2 | k2
      · exact List.mem_append.2 (.inl k2)
      · rw [List.mem_singleton] at k2
        rw [k2]; simp
  · cases t2 with
    | nil =>
      rw [List.append_nil] at e1
      rw [List.nil_append] at e2
      injection e2 with e2 e3
      exact base e2.symm e1 e3.symm
    | cons x t2 =>
      rw [List.cons_append] at e2
      injection e2 with e2 e3
      subst e2 e3 e1
      have e5 : o3 ++ c :: (t2 ++ k :: b) = (o3 ++ c :: t2) ++ k :: b := by simp
      rw [e5] at h2 A2
      have w1 := way_cut h2 A2.2
      refine ⟨⟨o3, o4, t2 ++ [k], c, h1, by simpa using w1, fun z k1 k2 => h3 z ?_ k2, by simp⟩, ⟨o3 ++ c :: t2, [], b, k, w1, h2, by simp, by simp⟩⟩
      rcases List.mem_append.1 k1 with k1 | k1
      · exact List.mem_append.2 (.inl k1)
      · rw [List.mem_singleton] at k1
        rw [k1]; simp
theorem sum_set (wt : Nat → Int) (x : Nat) (y : Int) : ∀ {lp : List Nat}, lp.Nodup → (lp.map (fun z => if z = x then y else wt z)).sum = (lp.map wt).sum + (if x ∈ lp then y - wt x else 0)
  | [], _ => by simp
  | z :: lp, h => by
    rw [List.nodup_cons] at h
    rw [List.map_cons, List.sum_cons, sum_set wt x y h.2, List.map_cons, List.sum_cons]
    by_cases e : z = x
    · subst e
      rw [if_pos rfl, if_neg h.1, if_pos (by simp)]
      omega
    · rw [if_neg e]
      by_cases h3 : x ∈ lp
      · rw [if_pos h3, if_pos (by simp [h3])]; omega
      · rw [if_neg h3, if_neg (by simp [h3]; exact fun h => e h.symm)]; omega
theorem mem_dn2 {lp : List Nat} (x : Nat) : decide ((x : Int) ∈ dn lp) = decide (x + 1 ∈ lp) := by
  refine decide_eq_decide.2 ?_
  unfold dn
  rw [List.mem_map]
  constructor
  · rintro ⟨z, hz, e⟩
    have : z = x + 1 := by omega
    rw [← this]; exact hz
  · intro hz
    exact ⟨x + 1, hz, by omega⟩
section
variable {w : World} {f b B n : Nat} {s : Int} {wt : Nat → Int} {P : Nat → Nat} {wa pa : Option Addr} {wc pc : Nat} {v u : Nat} {lp : List Nat}
theorem pth_parts (hp : K.Par P (vts n)) (hv : v < n) (hu : u < n) (h : Pth P (v + 1) (u + 1) lp) : ∃ lv r P1, K.Way P (v + 1) lv ∧ lv.head? = some r ∧ Rt P u r ∧ K.Chain P1 0 lv.reverse ∧ (∀ z ∈ vts n, z ∉ lv → P1 z = P z) ∧ K.Way P1 (u + 1) lp := by
  obtain ⟨o3, o4, oS, c, h1, h2, h3, rfl⟩ := h
  have A1 := way_all hp h1 (mem_succ hv)
  have A2 := way_all hp h2 (mem_succ hu)
  obtain ⟨r, hr⟩ : ∃ r, (o3 ++ c :: o4).head? = some r := by cases o3; exact ⟨_, rfl⟩; exact ⟨_, rfl⟩
  have hr2 : (o3 ++ c :: oS).head? = some r := by rw [← hr]; cases o3 <;> rfl
  obtain ⟨P1, k1, k2⟩ := chain_ex (o3 ++ c :: o4).reverse 0 P ((List.reverse_perm _).nodup_iff.2 A1.2)
  have k2' : ∀ z ∈ vts n, z ∉ o3 ++ c :: o4 → P1 z = P z := fun z _ hz => k2 z (fun e => hz (List.mem_reverse.1 e))
  exact ⟨_, r, P1, h1, hr, ⟨_, h2, hr2⟩, k1, k2', K.Way.between h1 h2 h3 A2.2 A2.1 k1 k2'⟩
theorem Sum_pth (h : LF w f b n s P wt) (hs1 : 0 ≤ s) (hs2 : s ≤ 2305843009213660000) (hv : v < n) (hu : u < n) (hp : Pth P (v + 1) (u + 1) lp) {S : Int} (hS : (lp.map wt).sum = S) :
    Calls Try.prog 13 #[.pointer (some ⟨f, 0, none⟩), .int .i64 (v : Nat), .int .i64 (u : Nat)] w fun e w' => e = .returned (.tuple #[.int .i64 S, .int .i64 0]) ∧ Kp w w' f b n s 26600 P wt := by
  obtain ⟨lv, r, P1, h1, h2, h3, h4, h5, h6⟩ := pth_parts h.par hv hu hp
  subst hS
  exact Sum_ok h hs1 hs2 hv hu h1 h2 h3 h4 h5 h6
theorem Least_pth (h : LF w f b n s P wt) (hs1 : 0 ≤ s) (hs2 : s ≤ 2305843009213660000) (hv : v < n) (hu : u < n) (hp : Pth P (v + 1) (u + 1) lp) {k : Nat} (hk : K.fm wt lp = k + 1) :
    Calls Try.prog 14 #[.pointer (some ⟨f, 0, none⟩), .int .i64 (v : Nat), .int .i64 (u : Nat)] w fun e w' => e = .returned (.tuple #[.int .i64 (k : Nat), .int .i64 0]) ∧ Kp w w' f b n s 26600 P wt := by
  obtain ⟨lv, r, P1, h1, h2, h3, h4, h5, h6⟩ := pth_parts h.par hv hu hp
  have := Least_ok h hs1 hs2 hv hu h1 h2 h3 h4 h5 h6
  rwa [hk, show ((k + 1 : Nat) : Int) - 1 = (k : Nat) by omega] at this
theorem refPath_pth (hp : K.Par P (vts n)) (h : RS w B n wt P wa wc pa pc) (hn : n ≤ 60) (hv : v < n) (hu : u < n) (hq : Pth P (v + 1) (u + 1) lp) :
    Calls Try.prog 17 #[rv n wa wc pa pc, .int .i64 (v : Nat), .int .i64 (u : Nat)] w fun e w' => ∃ a m k, e = .returned (.slice a m k) ∧ Rd w' a m (ints (dn lp)) ∧ Fr F0 w w' := by
  obtain ⟨o3, o4, oS, c, h1, h2, h3, rfl⟩ := hq
  have hc := mem_vts.1 ((way_all hp h1 (mem_succ hv)).1 c (by simp))
  obtain ⟨c, rfl⟩ : ∃ q, c = q + 1 := ⟨c - 1, by omega⟩
  exact refPath_any hp h hn hv hu h1 h2 h3
theorem refCommon_eq (hp : K.Par P (vts n)) (h : RS w B n wt P wa wc pa pc) (hn : n ≤ 60) (hv : v < n) (hu : u < n) {lv lw : List Nat} (hlv : K.Way P (v + 1) lv) (hlw : K.Way P (u + 1) lw) (he : lv.head? = lw.head?) :
    Calls Try.prog 16 #[rv n wa wc pa pc, .int .i64 (v : Nat), .int .i64 (u : Nat)] w fun e w' => ∃ c : Nat, e = .returned (.int .i64 (c : Nat)) ∧ (∃ lp, Pth P (v + 1) (u + 1) lp) ∧ Fr F0 w w' := by
  refine (refCommon_any hp h hn hv hu hlv hlw).mono ?_
  rintro e w' ⟨y, rfl, k1, k2⟩
  rcases k1 with ⟨_, k1⟩ | ⟨k0, k1, _⟩
  · exact absurd he k1
  · exact ⟨y - 1, ret_int (by omega), Pth.of hlv hlw k1, k2⟩
theorem refCommon_ne2 (hp : K.Par P (vts n)) (h : RS w B n wt P wa wc pa pc) (hn : n ≤ 60) (hv : v < n) (hu : u < n) {lv lw : List Nat} (hlv : K.Way P (v + 1) lv) (hlw : K.Way P (u + 1) lw) (hne : lv.head? ≠ lw.head?) :
    Calls Try.prog 16 #[rv n wa wc pa pc, .int .i64 (v : Nat), .int .i64 (u : Nat)] w fun e w' => e = .returned (.int .i64 (-1)) ∧ Fr F0 w w' := by
  refine (refCommon_any hp h hn hv hu hlv hlw).mono ?_
  rintro e w' ⟨y, rfl, k1, k2⟩
  rcases k1 with ⟨rfl, _⟩ | ⟨_, _, k1⟩
  · exact ⟨ret_int (by omega), k2⟩
  · exact absurd k1 hne
end
/-- In a law: the forest, and beside it a reference that need not follow it. -/
structure L2 (w W : World) (f b B n : Nat) (s : Int) (P' : Nat → Nat) (wt' : Nat → Int) (P : Nat → Nat) (wt : Nat → Int) (wa : Option Addr) (wc : Nat) (pa : Option Addr) (pc mb : Nat) : Prop where
  lf : LF W f b n s P' wt'
  rs : RS W B n wt P wa wc pa pc
  fr : Fr F0 w W
  fB : f < B
  bB : b < B
  wf : w.heap.size ≤ f
  wb : w.heap.size ≤ b
  mbk : Blk W mb 28 [.slice wa n wc, .slice pa n pc]
  nf : mb ≠ f
  nb : mb ≠ b
section
variable {w W W' : World} {f b B n mb : Nat} {s d : Int} {P P' P2 : Nat → Nat} {wt wt' wt2 : Nat → Int} {wa : Option Addr} {wc : Nat} {pa : Option Addr} {pc : Nat}
theorem L2.fr0 (h : L2 w W f b B n s P' wt' P wt wa wc pa pc mb) (F : Fr F0 W W') : L2 w W' f b B n s P' wt' P wt wa wc pa pc mb :=
  ⟨h.lf.fr0 F, h.rs.fr0 F, h.fr.trans F (fun _ _ h => h), h.fB, h.bB, h.wf, h.wb, h.mbk.fr F id, h.nf, h.nb⟩
theorem L2.kp (h : L2 w W f b B n s P' wt' P wt wa wc pa pc mb) (hk : Kp W W' f b n s d P2 wt2) : ∃ s', s ≤ s' ∧ s' ≤ s + d ∧ L2 w W' f b B n s' P2 wt2 P wt wa wc pa pc mb := by
  obtain ⟨s', h1, h2, h3, h4⟩ := hk
  have h5 := h.fB
  have h6 := h.bB
  have h7 := h.wf
  have h8 := h.wb
  exact ⟨s', h1, h2, h3, h.rs.fr h4 (fun k hk e => by rcases e with e | e <;> omega), h.fr.new0 h4 (fun k e => by rcases e with e | e <;> omega), h.fB, h.bB, h.wf, h.wb, h.mbk.fr h4 (fun e => by rcases e with e | e; exact h.nf e; exact h.nb e), h.nf, h.nb⟩
theorem FR.two (h : FR w W f b B n s P wt wa wc pa pc) : L2 w (W.alloc (.cells #[.slice wa n wc, .slice pa n pc] 28)) f b B n s P wt P wt wa wc pa pc W.heap.size := by
  have k := h.start
  exact ⟨k.fr.lf, k.fr.rs, k.fr.fr, h.fB, h.bB, h.wf, h.wb, k.mbk, k.nf, k.nb⟩
end
end Go.Proofs.Ytfeokafjehpgnaa
