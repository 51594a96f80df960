/- New. -/
import Derived.Test.YtfeokafjehpgnaaU8
import Derived.Laws.MakeOwn
namespace Go.Proofs.Ytfeokafjehpgnaa
open Go.RowKit
attribute [local go_sem ↓] Go.wp_at_zero Go.wp_at_succ
/-- No weight. -/
def badW (x : Int) : Bool := !decide (-1048576 ≤ x) || !decide (x ≤ 1048576)
theorem bad_any (w : World) (x : Int) : Calls Try.prog 55 #[.int .i64 x] w fun e w' => e = .returned (.bool (badW x)) ∧ w = w' := by
  go_enter Try.func55, Try.ntmps55
  go_wp2_with (go_at_call 46; refine (weighs_any _ x).mono ?_; rintro e w1 ⟨rfl, rfl⟩)
  go_ret
  exact ⟨rfl, rfl⟩
theorem New_arg (w : World) {a : Option Addr} {m c : Nat} {ws : List Int} (hp : Rd w a m (ints ws)) (hb : ws.any badW = true) :
    Calls Try.prog 36 #[.slice a m c] w fun e w' => e = .returned (.tuple #[.pointer none, .int .i64 1]) ∧ w = w' := by
  have Hp := Lib.hid hp
  have HB := Lib.hid hb
  clear hp hb
  go_enter Try.func36, Try.ntmps36
  go_wp2_with (go_at_call 54; refine (ContainsFunc_c0 badW a m c ws _ Hp.out (fun x => bad_any _ x)).mono ?_; rintro e w1 ⟨rfl, rfl⟩; rw [HB.out])
  go_ret2
  exact ⟨rfl, rfl⟩
theorem New_full (w : World) {a : Option Addr} {m c : Nat} {ws : List Int} (hp : Rd w a m (ints ws)) (hb : ws.any badW = false) (hm : 1000 < m) :
    Calls Try.prog 36 #[.slice a m c] w fun e w' => e = .returned (.tuple #[.pointer none, .int .i64 4]) ∧ w = w' := by
  have Hp := Lib.hid hp
  have HB := Lib.hid hb
  have hm' : (1000 : Int) < (m : Int) := by omega
  clear hp hb hm
  go_enter Try.func36, Try.ntmps36
  go_wp2_with (go_at_call 54; refine (ContainsFunc_c0 badW a m c ws _ Hp.out (fun x => bad_any _ x)).mono ?_; rintro e w1 ⟨rfl, rfl⟩; rw [HB.out])
  go_ret2
  exact ⟨rfl, rfl⟩
/-- A vertex alone. -/
def single (x : Nat) (t : Int) : K.Vx := ⟨0, 0, 0, false, t, t, 1, x, x⟩
/-- The first k vertices are there. -/
def VN (ws : List Int) (k : Nat) : K.Vs := fun x => if x = 0 then K.zeroV else if x ≤ k then single x (ws.getD (x - 1) 0) else K.zeroV
theorem VN_zero (ws : List Int) : VN ws 0 = fun _ => K.zeroV := by
  funext x
  unfold VN
  split
  · rfl
  · rw [if_neg (by omega)]
theorem VN_succ (ws : List Int) (k : Nat) : K.pullF (K.put (VN ws k) (k + 1) { VN ws k (k + 1) with weight := ws.getD k 0 }) (k + 1) = VN ws (k + 1) := by
  have e1 : VN ws k (k + 1) = K.zeroV := by unfold VN; rw [if_neg (by omega), if_neg (by omega)]
  have e0 : VN ws k 0 = K.zeroV := by unfold VN; rw [if_pos rfl]
  rw [e1]
  funext y
  unfold K.pullF
  by_cases e : y = k + 1
  · subst e
    rw [K.put_same, K.put_same]
    unfold K.first2 K.last2 K.first1 K.last1
    rw [K.put_same]
    simp only [K.zeroV, K.put_other (V := VN ws k) (show (0 : Nat) ≠ k + 1 by omega), e0]
    unfold VN single
    rw [if_neg (by omega), if_pos (Nat.le_refl _)]
    simp
  · rw [K.put_other e, K.put_other e]
    unfold VN
    split
    · rfl
    · by_cases h : y ≤ k
      · rw [if_pos h, if_pos (by omega)]
      · rw [if_neg h, if_neg (by omega)]
theorem VN_bx {ws : List Int} (hw : ∀ x ∈ ws, -1048576 ≤ x ∧ x ≤ 1048576) {n k : Nat} (hn : 1 ≤ n) (hk : k ≤ n) {x : Nat} (hx : x ≤ n) : BX n (VN ws k x) := by
  unfold VN
  have hz : BX n K.zeroV := ⟨Nat.zero_le _, Nat.zero_le _, Nat.zero_le _, Nat.zero_le _, Nat.zero_le _, Nat.zero_le _, by decide, by decide⟩
  split
  · exact hz
  · split
    · have hg : -1048576 ≤ ws.getD (x - 1) 0 ∧ ws.getD (x - 1) 0 ≤ 1048576 := by
        by_cases h : x - 1 < ws.length
        · have : ws.getD (x - 1) 0 ∈ ws := by rw [List.getD_eq_getElem?_getD, List.getElem?_eq_getElem h]; exact List.getElem_mem h
          exact hw _ this
        · rw [List.getD_eq_getElem?_getD, List.getElem?_eq_none (by omega)]; decide
      exact ⟨Nat.zero_le _, Nat.zero_le _, Nat.zero_le _, hx, hx, hn, by unfold single; simp only; omega, hg⟩
    · exact hz
/-- Weights of a list. -/
def wtN (ws : List Int) (n : Nat) : Nat → Int := fun x => if x = 0 then 0 else if x ≤ n then ws.getD (x - 1) 0 else 0
theorem VN_fo (ws : List Int) (n : Nat) : K.Fo (VN ws n) (fun _ => 0) (vts n) ((vts n).map fun x => (.node .nil x .nil, 0)) := by
  refine ⟨by unfold K.Zr VN; rw [if_pos rfl], ?_, fun e he => ?_⟩
  · have : ((vts n).map fun x => ((K.BT.node .nil x .nil, 0) : K.BT × Nat)).flatMap (fun e => e.1.ids) = vts n := by
      induction vts n with
      | nil => rfl
      | cons a l ih => simpa [K.BT.ids] using ih
    rw [this]
  · obtain ⟨x, hx, rfl⟩ := List.mem_map.1 he
    obtain ⟨x0, xn⟩ := mem_vts.1 hx
    have ev : VN ws n x = single x (ws.getD (x - 1) 0) := by unfold VN; rw [if_neg x0, if_pos xn]
    have eo : K.ord (VN ws n) false (.node .nil x .nil) = [x] := by
      simp only [K.ord]
      cases (VN ws n x).turned <;> rfl
    refine ⟨(fun e => by cases e), ⟨rfl, x0, by rw [ev]; rfl, by rw [ev]; rfl, by rw [ev]; rfl, ?_⟩, ?_⟩
    · rw [eo, ev]
      exact ⟨by simp [single, K.wt, ev], rfl, rfl, rfl⟩
    · rw [eo]; exact ⟨rfl, trivial⟩
theorem VN_wt (ws : List Int) (n : Nat) : K.wt (VN ws n) = wtN ws n := by
  funext x
  unfold K.wt VN wtN
  split
  · rfl
  · split <;> rfl
theorem par0 (n : Nat) : K.Par (fun _ => 0) (vts n) :=
  ⟨by unfold vts; exact List.nodup_range', fun h => (mem_vts.1 h).1 rfl, fun _ _ => .inl rfl, fun x hx => ⟨[x], .root (mem_vts.1 hx).1 rfl⟩⟩
theorem wok_N {ws : List Int} (hw : ∀ x ∈ ws, -1048576 ≤ x ∧ x ≤ 1048576) (n : Nat) : WOK n (wtN ws n) := by
  refine ⟨by unfold wtN; rw [if_pos rfl], fun x x0 hx => ?_⟩
  unfold wtN
  rw [if_neg x0, if_pos hx]
  by_cases h : x - 1 < ws.length
  · have : ws.getD (x - 1) 0 ∈ ws := by rw [List.getD_eq_getElem?_getD, List.getElem?_eq_getElem h]; exact List.getElem_mem h
    exact hw _ this
  · rw [List.getD_eq_getElem?_getD, List.getElem?_eq_none (by omega)]; decide
theorem EV66 : ElemZ Try.prog 70 66 (.agg #[.int .i64 0, .int .i64 0, .int .i64 0, .bool false, .int .i64 0, .int .i64 0, .int .i64 0, .int .i64 0, .int .i64 0]) 9 72 := ⟨by kernel_rfl, by kernel_rfl, by decide⟩
theorem run_mk66 (n : Nat) (hn : n ≤ 1000) (w : World) : ∃ arr, (∀ x j, x < n → j < 9 → arr[x * 9 + j]? = some (fld K.zeroV j)) ∧
    (Instr.makeSlice 70 (.int .i64 n) (.int .i64 n)).run Try.prog w = .ok (.slice (some ⟨w.heap.size, 0, none⟩) n n) (w.alloc (.cells arr 66)) := by
  obtain ⟨E1, E2, E3⟩ := EV66
  obtain ⟨i0, hi, hz0, hz1, hz2⟩ := info_parts E2
  refine ⟨madeCells (Value.agg #[.int .i64 0, .int .i64 0, .int .i64 0, .bool false, .int .i64 0, .int .i64 0, .int .i64 0, .int .i64 0, .int .i64 0]).cells (n * 9), fun x j hx hj => ?_, ?_⟩
  · have hlt : x * 9 + j < n * 9 := by omega
    unfold madeCells
    rw [Array.getElem?_map, Array.getElem?_range, if_pos hlt, Option.map_some]
    have e : (x * 9 + j) % 9 = j := by omega
    have e2 : (Value.agg #[.int .i64 0, .int .i64 0, .int .i64 0, .bool false, .int .i64 0, .int .i64 0, .int .i64 0, .int .i64 0, .int .i64 0]).cells.size = 9 := E3
    rw [e2, e]
    match j, hj with
    | 0, _ => rfl
    | 1, _ => rfl
    | 2, _ => rfl
    | 3, _ => rfl
    | 4, _ => rfl
    | 5, _ => rfl
    | 6, _ => rfl
    | 7, _ => rfl
    | 8, _ => rfl
  · have h := run_make (P := Try.prog) w 70 66 i0 _ E1 hi hz0 .i64 .i64 n n (by omega) (by omega) (by rw [hz2]; omega) (by omega)
    rw [h, hz1]
    simp
/-- In New: the forest under way. -/
structure NS (w W : World) (f b n : Nat) (ws : List Int) (a : Option Addr) (k : Nat) : Prop where
  fs : FS W f b n 0 (VN ws k)
  fr : Fr F0 w W
  rd : Rd W a n (ints ws)
  hf : w.heap.size ≤ f
  hb : w.heap.size ≤ b
theorem ns_start {w : World} {a : Option Addr} {n : Nat} {ws : List Int} {arr : Array Value} (hp : Rd w a n (ints ws)) (ha : ∀ x j, x < n + 1 → j < 9 → arr[x * 9 + j]? = some (fld K.zeroV j)) (hn : n ≤ 60) :
    NS w ((w.alloc (.cells arr 66)).alloc (.cells #[.slice (some ⟨w.heap.size, 0, none⟩) (n + 1) (n + 1), .int .i64 0] 72)) (w.heap.size + 1) w.heap.size n ws a 0 := by
  have F : Fr F0 w ((w.alloc (.cells arr 66)).alloc (.cells #[.slice (some ⟨w.heap.size, 0, none⟩) (n + 1) (n + 1), .int .i64 0] 72)) := ((Fr.refl _ _).alloc _).alloc _
  have hB : ((w.alloc (.cells arr 66)).alloc (.cells #[.slice (some ⟨w.heap.size, 0, none⟩) (n + 1) (n + 1), .int .i64 0] 72)).heap[w.heap.size]? = some (.cells arr 66 (0, 0)) :=
    (Below.heap_alloc _ _ _ (by simp)).trans (by show (w.heap.push _)[w.heap.size]? = _; simp)
  refine ⟨⟨?_, ⟨arr, 66, hB⟩, by omega, fun x j hx hj => ?_, hn⟩, F, hp.fr0 F, by omega, by omega⟩
  · have := Blk.new (w.alloc (.cells arr 66)) 72 [.slice (some ⟨w.heap.size, 0, none⟩) (n + 1) (n + 1), .int .i64 0]
    rw [size_alloc] at this
    exact this
  · rw [cell_of_row _ _ _ arr 66 (0, 0) hB, ha x j (by omega) hj, VN_zero]
theorem good_of {ws : List Int} (hb : ws.any badW = false) : ∀ x ∈ ws, -1048576 ≤ x ∧ x ≤ 1048576 := by
  intro x hx
  rw [List.any_eq_false] at hb
  have := hb x hx
  unfold badW at this
  simpa using this
set_option maxRecDepth 100000 in
set_option maxHeartbeats 1000000 in
theorem New_ok (w : World) {a : Option Addr} {n c : Nat} {ws : List Int} (hp : Rd w a n (ints ws)) (hb : ws.any badW = false) (hn : n ≤ 60) :
    Calls Try.prog 36 #[.slice a n c] w fun e w' => ∃ f b, e = .returned (.tuple #[.pointer (some ⟨f, 0, none⟩), .int .i64 0]) ∧ LF w' f b n 0 (fun _ => 0) (wtN ws n) ∧ Fr F0 w w' ∧ w.heap.size ≤ f ∧ w.heap.size ≤ b := by
  have Hp := Lib.hid hp
  have HB := Lib.hid hb
  have hlen : ws.length = n := by have := hp.len; simpa using this
  have hg := Lib.hid (good_of hb)
  have hn' : ¬ (1000 : Int) < (n : Int) := by omega
  have hmk : ∀ W : World, ∃ arr, (∀ x j, x < n + 1 → j < 9 → arr[x * 9 + j]? = some (fld K.zeroV j)) ∧
    (Instr.makeSlice 70 (.int .i64 ((n : Int) + 1)) (.int .i64 ((n : Int) + 1))).run Try.prog W = .ok (.slice (some ⟨W.heap.size, 0, none⟩) (n + 1) (n + 1)) (W.alloc (.cells arr 66)) := fun W => by
    have := run_mk66 (n + 1) (by omega) W
    rwa [show ((n + 1 : Nat) : Int) = (n : Int) + 1 by omega] at this
  obtain ⟨arr, harr, hrun⟩ := hmk w
  have HA := Lib.hid harr
  have HLN := Lib.hid hlen
  clear hp hb harr hmk hlen
  go_enter Try.func36, Try.ntmps36
  go_wp2_with (go_at_call 54; refine (ContainsFunc_c0 badW a n c ws _ Hp.out (fun x => bad_any _ x)).mono ?_; rintro e w1 ⟨rfl, rfl⟩; rw [HB.out])
  have h0 := ns_start Hp.out HA.out hn
  obtain ⟨W0, f, b, eW, ef, eb⟩ : ∃ W0 f b, ((w.alloc (.cells arr 66)).alloc (.cells #[.slice (some ⟨w.heap.size, 0, none⟩) (n + 1) (n + 1), .int .i64 0] 72)) = W0 ∧ w.heap.size + 1 = f ∧ w.heap.size = b := ⟨_, _, _, rfl, rfl, rfl⟩
  rw [eW, ef, eb] at h0 ⊢
  have HS := Lib.hid h0
  clear h0 hrun eW HA ef eb
  go_loopw [20] (fun i wr => ∃ k : Nat, k ≤ n ∧ i = .int .i64 k ∧ Hid (NS w wr f b n ws a k)) (fun i _ => n - (intOf i).toNat)
  case atStart => exact ⟨0, Nat.zero_le _, rfl, HS⟩
  case round =>
    obtain ⟨k, hk, rfl, HK⟩ := hrel
    clear HS
    by_cases hlt : k < n
    · obtain ⟨x, hx⟩ : ∃ x, ws.getD k 0 = x := ⟨_, rfl⟩
      have hx' : ws[k]? = some x := by
        have := HLN.out
        rw [← hx, List.getD_eq_getElem?_getD, List.getElem?_eq_getElem (by omega)]; rfl
      obtain ⟨ab, ao, rfl, hc⟩ := HK.out.rd.cells (by omega)
      have d := hc k (.int .i64 x) (by unfold ints; rw [List.getElem?_map, hx']; rfl)
      have y0 := HK.out.fs.fb.cell (i := 0) rfl
      have y4 := HK.out.fs.c4 (x := k + 1) (by omega)
      have z4 := HK.out.fs.free ((k + 1) * 9 + 4)
      have bk : (k : Int) + 1 < (n : Int) + 1 := by omega
      have hb1 : BX n (VN ws k (k + 1)) := VN_bx hg.out (by omega) hk (by omega)
      have hxb := hg.out x (List.mem_of_getElem? hx')
      have hbv : Hid (BV n (K.put (VN ws k) (k + 1) { VN ws k (k + 1) with weight := x })) := Lib.hid ((BV.of (fun z hz => VN_bx hg.out (by omega) hk hz)).put (k + 1) ⟨hb1.up, hb1.left, hb1.right, hb1.first, hb1.last, hb1.size, hb1.sum, hxb⟩)
      have HX := Lib.hid hx
      clear hc hx hx' hb1 hxb
      go_wp2_with (go_at_call 48; refine (pull_v _ (HK.out.fs.putN (x := k + 1) (by omega) (j := 4) (by omega) (.int .i64 x) (v := { VN ws k (k + 1) with weight := x }) (fld9 rfl rfl rfl rfl rfl rfl rfl rfl rfl)) hbv.out hlt).mono ?_; rintro e w2 ⟨rfl, S2, F2⟩; replace S2 := Lib.hid S2; replace F2 := Lib.hid F2)
      go_roundw
      case rel =>
        refine ⟨k + 1, by omega, by go_num, Lib.hid ?_⟩
        have S := S2.out
        rw [← HX.out, VN_succ] at S
        have hbb := HK.out.hb
        have hne : ab ≠ b := by
          intro e
          have h1 := (Hp.out.lt (by omega)) ab ((onBlk_some _ _ _ _).2 rfl)
          omega
        have FF : Fr (onB b) wr w2 := ((Fr.refl (onB b) wr).setB _ _).trans F2.out (fun _ _ h => h)
        refine ⟨S, ?_, HK.out.rd.fr FF (fun i hi e => hne (((onBlk_some _ _ _ _).1 hi).symm.trans e)), HK.out.hf, hbb⟩
        exact ⟨FF.os.trans HK.out.fr.os, FF.tape.trans HK.out.fr.tape, FF.output.trans HK.out.fr.output, Nat.le_trans HK.out.fr.size FF.size, fun i hi hn => (FF.block i (Nat.lt_of_lt_of_le hi HK.out.fr.size) (fun e => by unfold onB at e; omega)).trans (HK.out.fr.block i hi hn)⟩
      case measure => simp [intOf]; omega
    · obtain rfl : k = n := by omega
      have hlt' : decide ((k : Int) < (k : Int)) = false := by simp
      go_wp2_with fail
      go_ret2
      exact ⟨f, b, rfl, ⟨par0 _, wok_N hg.out _, hn, _, _, HK.out.fs, VN_fo _ _, VN_wt _ _⟩, HK.out.fr, HK.out.hf, HK.out.hb⟩
end Go.Proofs.Ytfeokafjehpgnaa
