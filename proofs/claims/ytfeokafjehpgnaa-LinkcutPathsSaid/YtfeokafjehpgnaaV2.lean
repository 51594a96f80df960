/- The reference's Path, Sum, Least. -/
import Derived.Test.YtfeokafjehpgnaaV1
namespace Go.Proofs.Ytfeokafjehpgnaa
open Go.RowKit
attribute [local go_sem ↓] Go.wp_at_zero Go.wp_at_succ
theorem sum_take {wt : Nat → Int} {l : List Nat} {k x : Nat} (hx : l[k]? = some x) : ((l.take (k + 1)).map wt).sum = ((l.take k).map wt).sum + wt x := by
  rw [List.take_add_one, hx, List.map_append, List.sum_append]
  simp
theorem fm_take {wt : Nat → Int} {l : List Nat} {k x : Nat} (hk : 0 < k) (hk2 : k < l.length) (hx : l[k]? = some x) : K.fm wt (l.take (k + 1)) = if wt x < wt (K.fm wt (l.take k)) then x else K.fm wt (l.take k) := by
  have hne : l.take k ≠ [] := by
    intro e
    have := congrArg List.length e
    rw [List.length_take, List.length_nil] at this
    omega
  rw [List.take_add_one, hx]
  show K.fm wt (l.take k ++ [x]) = _
  rw [K.fm_app wt hne (by simp)]
  show (if wt (K.fm wt (l.take k)) ≤ wt x then _ else x) = _
  by_cases h : wt x < wt (K.fm wt (l.take k))
  · rw [if_neg (by omega), if_pos h]
  · rw [if_pos (by omega), if_neg h]
/-- In Sum, Least of the reference. -/
structure QS (w W : World) (B n : Nat) (wt : Nat → Int) (P : Nat → Nat) (wa : Option Addr) (wc : Nat) (pa : Option Addr) (pc : Nat) (a : Option Addr) (m : Nat) (l : List Nat) : Prop where
  rs : RS W B n wt P wa wc pa pc
  rd : Rd W a m (ints (dn l))
  bx : Blk W w.heap.size 28 [.slice wa n wc, .slice pa n pc]
  fr : Fr F0 w W
theorem QS.drewN {w W : World} {B n : Nat} {wt : Nat → Int} {P : Nat → Nat} {wa : Option Addr} {wc : Nat} {pa : Option Addr} {pc : Nat} {a : Option Addr} {m : Nat} {l : List Nat} (h : QS w W B n wt P wa wc pa pc a m l) (q : Nat) : QS w (W.drewN q) B n wt P wa wc pa pc a m l :=
  ⟨h.rs.fr0 ((Fr.refl _ _).drewN q), h.rd.fr0 ((Fr.refl _ _).drewN q), h.bx, h.fr.drewN q⟩
theorem i64_id {x : Int} (h1 : -9223372036854775808 ≤ x) (h2 : x ≤ 9223372036854775807) : IntKind.i64.wrap x = x := by rw [IntKind.wrap_i64]; omega
theorem ret_v {x y : Int} (h : x = y) : Value.int .i64 x = .int .i64 y := by rw [h]
section
variable {w : World} {B n : Nat} {wt : Nat → Int} {P : Nat → Nat} {wa pa : Option Addr} {wc pc : Nat}
set_option maxRecDepth 100000 in
set_option maxHeartbeats 1000000 in
theorem refSum_any (h : RS w B n wt P wa wc pa pc) (hn : n ≤ 60) (hw : WOK n wt) {a : Option Addr} {m c : Nat} {l : List Nat} (hl : Rd w a m (ints (dn l))) (hm : m ≤ 200) (hv : ∀ z ∈ l, z ∈ vts n) :
    Calls Try.prog 18 #[rv n wa wc pa pc, .slice a m c] w fun e w' => e = .returned (.int .i64 (l.map wt).sum) ∧ Fr F0 w w' := by
  have hlen : l.length = m := by have := hl.len; unfold ints dn at this; simpa using this
  have F1 := (Fr.refl F0 w).alloc (.cells #[.slice wa n wc, .slice pa n pc] 28)
  have hQ : QS w (w.alloc (.cells #[.slice wa n wc, .slice pa n pc] 28)) B n wt P wa wc pa pc a m l := ⟨h.fr0 F1, hl.fr0 F1, Blk.new w 28 [.slice wa n wc, .slice pa n pc], F1⟩
  have HQ := Lib.hid hQ
  have HV := Lib.hid (And.intro hv (And.intro hw hlen))
  have hmx := hl.max
  clear h hl hv hw hQ F1 hlen
  go_enter Try.func18, Try.ntmps18
  go_wp2_with fail
  go_loopw [5, 6] (fun s5 i wr => ∃ (k : Nat) (S : Int), k ≤ m ∧ i = .int .i64 k ∧ s5 = .int .i64 S ∧ Hid (S = ((l.take k).map wt).sum) ∧ Hid (QS w wr B n wt P wa wc pa pc a m l)) (fun _ i _ => m - (intOf i).toNat)
  case atStart => exact ⟨0, 0, Nat.zero_le _, rfl, rfl, Lib.hid rfl, HQ⟩
  case round =>
    clear HQ
    obtain ⟨k, S, hk, rfl, rfl, HS, HQ⟩ := hrel
    by_cases hlt : k < m
    · obtain ⟨hv, hw, hlen⟩ := HV.out
      obtain ⟨x, hx⟩ : ∃ x, l[k]? = some x := ⟨l[k]'(by omega), List.getElem?_eq_getElem _⟩
      have hxv := mem_vts.1 (hv x (List.mem_of_getElem? hx))
      obtain ⟨x, rfl⟩ : ∃ y, x = y + 1 := ⟨x - 1, by omega⟩
      obtain ⟨ab, ao, rfl, hc⟩ := HQ.out.rd.cells (by omega)
      have dk := hc k (.int .i64 (x : Nat)) (by unfold ints dn; rw [List.getElem?_map, List.getElem?_map, hx]; simp)
      obtain ⟨wb, wo, rfl, hc2⟩ := HQ.out.rs.ws.cells (by omega)
      have dw := hc2 x (.int .i64 (wt (x + 1))) (by unfold ints; rw [List.getElem?_map, WL_get (by omega)]; rfl)
      have b0 := HQ.out.bx.cell (i := 0) rfl
      have hki : (k : Int) < (m : Int) := by omega
      have hxi : (x : Int) < (n : Int) := by omega
      have hb := K.sum_le wt 1048576 (l.take k) (fun z hz => by
        have := mem_vts.1 (hv z (List.mem_of_mem_take hz))
        exact hw.2 z this.1 this.2)
      rw [← HS.out, List.length_take] at hb
      have hwb := hw.2 (x + 1) hxv.1 hxv.2
      have HX := Lib.hid hx
      have hS1 : -1000000000 ≤ S ∧ S ≤ 1000000000 := by omega
      clear hc hc2 hv hw hlen hx hb
      generalize hT : wt (x + 1) = T at *
      have HT := Lib.hid hT
      clear hT
      have hwr := i64_id (x := S + T) (by omega) (by omega)
      go_wp2_with fail
      go_quiet (fail)
      go_wp2_with fail
      refine ⟨⟨k + 1, S + T, by omega, rfl, rfl, Lib.hid ?_, Lib.hid (HQ.out.drewN _)⟩, ?_⟩
      · rw [sum_take HX.out, ← HS.out, HT.out]
      · simp only [intOf]; omega
    · obtain rfl : k = m := by omega
      go_wp2_with fail
      go_ret
      exact ⟨ret_int (by rw [HS.out, List.take_of_length_le (by rw [HV.out.2.2]; exact Nat.le_refl _)]), HQ.out.fr⟩
set_option maxRecDepth 100000 in
set_option maxHeartbeats 1000000 in
theorem refLeast_any (h : RS w B n wt P wa wc pa pc) (hn : n ≤ 60) (hw : WOK n wt) {a : Option Addr} {m c : Nat} {l : List Nat} (hl : Rd w a m (ints (dn l))) (hm : m ≤ 200) (hm0 : 0 < m) (hv : ∀ z ∈ l, z ∈ vts n) :
    Calls Try.prog 19 #[rv n wa wc pa pc, .slice a m c] w fun e w' => e = .returned (.int .i64 ((K.fm wt l : Int) - 1)) ∧ Fr F0 w w' := by
  have hlen : l.length = m := by have := hl.len; unfold ints dn at this; simpa using this
  have F1 := (Fr.refl F0 w).alloc (.cells #[.slice wa n wc, .slice pa n pc] 28)
  have hQ : QS w (w.alloc (.cells #[.slice wa n wc, .slice pa n pc] 28)) B n wt P wa wc pa pc a m l := ⟨h.fr0 F1, hl.fr0 F1, Blk.new w 28 [.slice wa n wc, .slice pa n pc], F1⟩
  have HQ := Lib.hid hQ
  have HV := Lib.hid (And.intro hv (And.intro hw hlen))
  have hmx := hl.max
  obtain ⟨ab, ao, rfl, hc⟩ := hQ.rd.cells (by omega)
  have hl0 : l[0]? = some (K.fm wt (l.take 1)) := by
    cases l with
    | nil => simp at hlen; omega
    | cons x l => rfl
  have d0 := hc 0 (.int .i64 ((K.fm wt (l.take 1) : Int) - 1)) (by unfold ints dn; rw [List.getElem?_map, List.getElem?_map, hl0]; rfl)
  rw [Nat.add_zero] at d0
  have hm0i : (0 : Int) < (m : Int) := by omega
  clear h hl hv hw hQ F1 hlen hc hl0
  go_enter Try.func19, Try.ntmps19
  go_wp2_with fail
  go_loopw [5, 6] (fun s5 i wr => ∃ (k y : Nat), 0 < k ∧ k ≤ m ∧ i = .int .i64 k ∧ s5 = .int .i64 ((y : Int) - 1) ∧ Hid (y = K.fm wt (l.take k)) ∧ Hid (QS w wr B n wt P wa wc pa pc (some ⟨ab, ao, none⟩) m l)) (fun _ i _ => m - (intOf i).toNat)
  case atStart => exact ⟨1, _, Nat.zero_lt_one, hm0, rfl, rfl, Lib.hid rfl, HQ⟩
  case round =>
    clear HQ d0
    obtain ⟨k, y, hk0, hk, rfl, rfl, HY, HQ⟩ := hrel
    by_cases hlt : k < m
    · obtain ⟨hv, hw, hlen⟩ := HV.out
      obtain ⟨x, hx⟩ : ∃ x, l[k]? = some x := ⟨l[k]'(by omega), List.getElem?_eq_getElem _⟩
      have hxv := mem_vts.1 (hv x (List.mem_of_getElem? hx))
      have hyv := mem_vts.1 (hv y (List.mem_of_mem_take (i := k) (HY.out ▸ K.fm_mem (w := wt) (l := l.take k) (fun e => by have := congrArg List.length e; rw [List.length_take, List.length_nil] at this; omega))))
      obtain ⟨x, rfl⟩ : ∃ y, x = y + 1 := ⟨x - 1, by omega⟩
      obtain ⟨y, rfl⟩ : ∃ z, y = z + 1 := ⟨y - 1, by omega⟩
      have e0 : (((y + 1 : Nat) : Int)) - 1 = (y : Nat) := by omega
      rw [e0]
      obtain ⟨b', o', hbo, hc⟩ := HQ.out.rd.cells (by omega)
      injection hbo with hbo
      injection hbo with hb1 hb2
      subst hb1
      subst hb2
      have dk := hc k (.int .i64 (x : Nat)) (by unfold ints dn; rw [List.getElem?_map, List.getElem?_map, hx]; simp)
      obtain ⟨wb, wo, rfl, hc2⟩ := HQ.out.rs.ws.cells (by omega)
      have dw := hc2 x (.int .i64 (wt (x + 1))) (by unfold ints; rw [List.getElem?_map, WL_get (by omega)]; rfl)
      have dy := hc2 y (.int .i64 (wt (y + 1))) (by unfold ints; rw [List.getElem?_map, WL_get (by omega)]; rfl)
      have b0 := HQ.out.bx.cell (i := 0) rfl
      have hki : (k : Int) < (m : Int) := by omega
      have hxi : (x : Int) < (n : Int) := by omega
      have hyi : (y : Int) < (n : Int) := by omega
      have HX := Lib.hid (fm_take (wt := wt) hk0 (by omega) hx)
      rw [← HY.out] at HX
      clear hc hc2 hv hw hlen hx
      generalize hT : wt (x + 1) = T at *
      generalize hU : wt (y + 1) = U at *
      clear hT hU
      by_cases hTU : T < U
      · rw [if_pos hTU] at HX
        go_wp2_with fail
        go_quiet (fail)
        go_wp2_with fail
        refine ⟨⟨k + 1, x + 1, by omega, by omega, rfl, ret_v (by omega), Lib.hid HX.out.symm, Lib.hid (HQ.out.drewN _)⟩, ?_⟩
        simp only [intOf]; omega
      · rw [if_neg hTU] at HX
        go_wp2_with fail
        go_quiet (fail)
        go_wp2_with fail
        refine ⟨⟨k + 1, y + 1, by omega, by omega, rfl, by rw [e0], Lib.hid HX.out.symm, Lib.hid (HQ.out.drewN _)⟩, ?_⟩
        simp only [intOf]; omega
    · obtain rfl : k = m := by omega
      go_wp2_with fail
      go_ret
      exact ⟨ret_int (by rw [HY.out, List.take_of_length_le (by rw [HV.out.2.2]; exact Nat.le_refl _)]), HQ.out.fr⟩
/-- While Path of the reference runs: what stands fast. -/
structure QP (w W : World) (B n : Nat) (wt : Nat → Int) (P : Nat → Nat) (wa : Option Addr) (wc : Nat) (pa : Option Addr) (pc : Nat) : Prop where
  rs : RS W B n wt P wa wc pa pc
  bx : Blk W w.heap.size 28 [.slice wa n wc, .slice pa n pc]
  fr : Fr F0 w W
theorem QP.step {W W' : World} (h : QP w W B n wt P wa wc pa pc) {a : Option Addr} (hb : ∀ k, onBlk a k → w.heap.size + 1 ≤ k) (f : Fr (onBlk a) W W') (h0 : RS w B n wt P wa wc pa pc) : QP w W' B n wt P wa wc pa pc := by
  have FF : Fr F0 w W' := ⟨f.os.trans h.fr.os, f.tape.trans h.fr.tape, f.output.trans h.fr.output, Nat.le_trans h.fr.size f.size, fun i hi hn => (f.block i (Nat.lt_of_lt_of_le hi h.fr.size) (fun e => by have := hb _ e; omega)).trans (h.fr.block i hi hn)⟩
  exact ⟨h0.fr0 FF, h.bx.fr f (fun e => by have := hb _ e; omega), FF⟩
end
end Go.Proofs.Ytfeokafjehpgnaa
