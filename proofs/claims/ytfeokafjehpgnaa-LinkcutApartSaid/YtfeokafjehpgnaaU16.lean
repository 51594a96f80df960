/- The reference's New. -/
import Derived.Test.YtfeokafjehpgnaaU15
namespace Go.Proofs.Ytfeokafjehpgnaa
open Go.RowKit
attribute [local go_sem ↓] Go.wp_at_zero Go.wp_at_succ
theorem badW_not (x : Int) : (decide (-1048576 ≤ x) && decide (x ≤ 1048576)) = !badW x := by
  unfold badW
  cases decide (-1048576 ≤ x) <;> cases decide (x ≤ 1048576) <;> rfl
abbrev rv0 : Value := .agg #[.slice none 0 0, .slice none 0 0]
theorem all_take {f : Int → Bool} {ws : List Int} {k : Nat} {x : Int} (h : (ws.take k).any f = false) (hx : ws[k]? = some x) (hf : f x = false) : (ws.take (k + 1)).any f = false := by
  rw [List.take_add_one, hx, List.any_append, h]
  simp [hf]
set_option maxRecDepth 100000 in
set_option maxHeartbeats 1000000 in
theorem refNew_arg (w : World) {a : Option Addr} {m c : Nat} {ws : List Int} (hp : Rd w a m (ints ws)) (hb : ws.any badW = true) :
    Calls Try.prog 37 #[.slice a m c] w fun e w' => e = .returned (.tuple #[rv0, .int .i64 1]) ∧ Fr F0 w w' := by
  have hlen : ws.length = m := by have := hp.len; simpa using this
  have hmax := hp.max
  have bR := Blk.new w 28 [.slice none 0 0, .slice none 0 0]
  have r0 := bR.cell (i := 0) rfl
  have r1 := bR.cell (i := 1) rfl
  have y0 := bR.free 0
  have y1 := bR.free 1
  have Hp := Lib.hid hp
  have HB := Lib.hid hb
  have HLN := Lib.hid hlen
  clear hp hb bR hlen
  go_enter Try.func37, Try.ntmps37
  go_wp2_with fail
  go_loopw [4] (fun i wr => ∃ k : Nat, k ≤ m ∧ i = .int .i64 k ∧ wr = w.alloc (.cells #[.slice none 0 0, .slice none 0 0] 28) ∧ Hid ((ws.take k).any badW = false)) (fun i _ => m - (intOf i).toNat)
  case atStart => exact ⟨0, by omega, rfl, rfl, Lib.hid (by simp)⟩
  case round =>
    obtain ⟨k, hk, rfl, rfl, hno⟩ := hrel
    by_cases hlt : k < m
    · obtain ⟨x, hx⟩ : ∃ x, ws[k]? = some x := ⟨ws[k]'(by rw [HLN.out]; exact hlt), List.getElem?_eq_getElem _⟩
      obtain ⟨b, o, rfl, hc⟩ := Hp.out.cells (by omega)
      have d := ((Fr.refl F0 w).alloc (.cells #[.slice none 0 0, .slice none 0 0] 28)).cell (hc k (.int .i64 x) (by unfold ints; rw [List.getElem?_map, hx]; rfl)) id
      have hki : (k : Int) < (m : Int) := by omega
      have HX := Lib.hid hx
      clear hc hx
      cases hbx : badW x with
      | true =>
        have HBX : Hid ((decide (-1048576 ≤ x) && decide (x ≤ 1048576)) = false) := Lib.hid (by rw [badW_not, hbx]; rfl)
        clear hbx
        go_wp2_with (go_at_call 56; refine (refweight_any _ x).mono ?_; rintro e w1 ⟨rfl, rfl⟩; rw [HBX.out])
        exact bodyPost_ret (v := .tuple #[rv0, .int .i64 1]) (by simp [results, Try.results37, go_sem, r0, r1]) rfl ⟨rfl, (Fr.refl _ _).alloc _⟩
      | false =>
        have HBX : Hid ((decide (-1048576 ≤ x) && decide (x ≤ 1048576)) = true) := Lib.hid (by rw [badW_not, hbx]; rfl)
        have HN := Lib.hid (all_take hno.out HX.out hbx)
        clear hbx
        go_wp2_with (go_at_call 56; refine (refweight_any _ x).mono ?_; rintro e w1 ⟨rfl, rfl⟩; rw [HBX.out])
        go_roundw
        case rel => exact ⟨k + 1, by omega, by go_num, by first | trivial | rfl, HN⟩
        case measure => simp [intOf]; omega
    · exfalso
      obtain rfl : k = m := by omega
      have h1 := hno.out
      rw [List.take_of_length_le (by rw [HLN.out]; exact Nat.le_refl _), HB.out] at h1
      cases h1
set_option maxRecDepth 100000 in
set_option maxHeartbeats 1000000 in
theorem refNew_full (w : World) {a : Option Addr} {m c : Nat} {ws : List Int} (hp : Rd w a m (ints ws)) (hb : ws.any badW = false) (hm : 1000 < m) :
    Calls Try.prog 37 #[.slice a m c] w fun e w' => e = .returned (.tuple #[rv0, .int .i64 4]) ∧ Fr F0 w w' := by
  have hlen : ws.length = m := by have := hp.len; simpa using this
  have hmax := hp.max
  have bR := Blk.new w 28 [.slice none 0 0, .slice none 0 0]
  have r0 := bR.cell (i := 0) rfl
  have r1 := bR.cell (i := 1) rfl
  have y0 := bR.free 0
  have y1 := bR.free 1
  have Hp := Lib.hid hp
  have HB := Lib.hid hb
  have HLN := Lib.hid hlen
  have hm' : (1000 : Int) < (m : Int) := by omega
  clear hp hb bR hlen hm
  go_enter Try.func37, Try.ntmps37
  go_wp2_with fail
  go_loopw [4] (fun i wr => ∃ k : Nat, k ≤ m ∧ i = .int .i64 k ∧ wr = w.alloc (.cells #[.slice none 0 0, .slice none 0 0] 28)) (fun i _ => m - (intOf i).toNat)
  case atStart => exact ⟨0, by omega, rfl, rfl⟩
  case round =>
    obtain ⟨k, hk, rfl, rfl⟩ := hrel
    by_cases hlt : k < m
    · obtain ⟨x, hx⟩ : ∃ x, ws[k]? = some x := ⟨ws[k]'(by rw [HLN.out]; exact hlt), List.getElem?_eq_getElem _⟩
      obtain ⟨b, o, rfl, hc⟩ := Hp.out.cells (by omega)
      have d := ((Fr.refl F0 w).alloc (.cells #[.slice none 0 0, .slice none 0 0] 28)).cell (hc k (.int .i64 x) (by unfold ints; rw [List.getElem?_map, hx]; rfl)) id
      have hki : (k : Int) < (m : Int) := by omega
      have hbx : badW x = false := by
        have := HB.out
        rw [List.any_eq_false] at this
        simpa using this x (List.mem_of_getElem? hx)
      have HBX : Hid ((decide (-1048576 ≤ x) && decide (x ≤ 1048576)) = true) := Lib.hid (by rw [badW_not, hbx]; rfl)
      clear hc hx hbx
      go_wp2_with (go_at_call 56; refine (refweight_any _ x).mono ?_; rintro e w1 ⟨rfl, rfl⟩; rw [HBX.out])
      go_roundw
      case rel => exact ⟨k + 1, by omega, by go_num, by first | trivial | rfl⟩
      case measure => simp [intOf]; omega
    · obtain rfl : k = m := by omega
      clear hlt
      go_wp2_with fail
      exact bodyPost_ret (v := .tuple #[rv0, .int .i64 4]) (by simp [results, Try.results37, go_sem, r0, r1]) rfl ⟨rfl, (Fr.refl _ _).alloc _⟩
/-- In the reference's New: the parents under way. -/
structure N2 (w W : World) (bf : Nat) (a5 : Option Addr) (k c5 : Nat) (ws : List Int) (pa : Option Addr) (j pc : Nat) : Prop where
  bx : Blk W bf 28 [.slice a5 k c5, .slice pa j pc]
  ps : Own W (bf + 1) 3 pa j pc (ints (List.replicate j (-1)))
  ws : Own W (w.heap.size + 1) 3 a5 k c5 (ints ws)
  wb : ∀ i, onBlk a5 i → i < bf
  fr : Fr F0 w W
  br : Blk W w.heap.size 28 [.slice none 0 0, .slice none 0 0]
  hb : w.heap.size < bf
theorem n2_start {w w5 : World} {a5 : Option Addr} {k c5 : Nat} {ws : List Int} (bR : Blk (w.alloc (.cells #[.slice none 0 0, .slice none 0 0] 28)) w.heap.size 28 [.slice none 0 0, .slice none 0 0])
    (own5 : Own w5 (w.heap.size + 1) 3 a5 k c5 ([] ++ ints ws)) (fr5 : Fr (onBlk (some ⟨(w.alloc (.cells #[.slice none 0 0, .slice none 0 0] 28)).heap.size, 0, none⟩)) ((w.alloc (.cells #[.slice none 0 0, .slice none 0 0] 28)).alloc (.cells #[] 3)) w5) :
    N2 w (w5.alloc (.cells #[.slice a5 k c5, .slice none 0 0] 28)) w5.heap.size a5 k c5 ws none 0 0 := by
  have hsz := fr5.size
  rw [size_alloc, size_alloc] at hsz
  rw [size_alloc] at fr5
  refine ⟨Blk.new _ _ _, Own.nil _ _ _, own5.alloc _, fun i hi => (own5.blk i hi).2, ((((Fr.refl F0 w).alloc _).alloc _).new0 fr5 (fun i hi => by have := (onBlk_some _ _ _ _).1 hi; omega)).alloc _, ((bR.alloc _).fr fr5 (fun e => by have := (onBlk_some _ _ _ _).1 e; omega)).alloc _, by omega⟩
theorem N2.app {w W w7 : World} {bf : Nat} {a5 : Option Addr} {k c5 : Nat} {ws : List Int} {pa : Option Addr} {j pc : Nat} {a7 : Option Addr} {c7 : Nat} (h : N2 w W bf a5 k c5 ws pa j pc) (own7 : Own w7 (bf + 1) 3 a7 (j + 1) c7 (ints (List.replicate j (-1)) ++ [.int .i64 (-1)])) (fr7 : Fr (onBlk pa) W w7) :
    N2 w (w7.setCell ⟨bf, 1, none⟩ (.slice a7 (j + 1) c7)) bf a5 k c5 ws a7 (j + 1) c7 := by
  have hb := h.hb
  have nb : ∀ i, i ≤ bf → ¬ onBlk pa i := fun i hi e => by have := (h.ps.blk i e).1; omega
  have n5 : ∀ i, onBlk a5 i → ¬ onBlk pa i := fun i hi => nb i (by have := h.wb i hi; omega)
  refine ⟨(h.bx.fr fr7 (nb bf (Nat.le_refl _))).set 1 _, ?_, ((h.ws.fr fr7 n5).other (p := ⟨bf, 1, none⟩) (fun e => by have := h.wb _ e; dsimp only at this; omega) _), h.wb, (h.fr.new0 fr7 (fun i hi => by have := (h.ps.blk i hi).1; omega)).setCell (p := ⟨bf, 1, none⟩) (fun h => by dsimp only at h; omega) _, (h.br.fr fr7 (nb _ (by omega))).other (p := ⟨bf, 1, none⟩) (by show w.heap.size ≠ bf; omega) _, hb⟩
  have e : ints (List.replicate (j + 1) (-1)) = ints (List.replicate j (-1)) ++ [.int .i64 (-1)] := by
    unfold ints
    rw [List.replicate_succ']
    simp
  rw [e]
  exact own7.other (p := ⟨bf, 1, none⟩) (fun e => by have := (own7.blk _ e).1; dsimp only at this; omega) _
theorem QL0 (n : Nat) : QL n (fun _ => 0) = List.replicate n (-1) := by
  unfold QL
  apply List.ext_getElem
  · simp
  · intro i h1 h2
    simp
theorem WL0 {ws : List Int} {n : Nat} (h : ws.length = n) : WL n (wtN ws n) = ws := by
  subst h
  apply List.ext_getElem
  · simp [WL]
  · intro i h1 h2
    simp [WL, wtN, List.getD_eq_getElem?_getD, h2]
    omega
set_option maxRecDepth 100000 in
set_option maxHeartbeats 1000000 in
theorem refNew_ok (w : World) {a : Option Addr} {m c : Nat} {ws : List Int} (hp : Rd w a m (ints ws)) (hb : ws.any badW = false) (hm : m ≤ 60) :
    Calls Try.prog 37 #[.slice a m c] w fun e w' => ∃ wa wc pa pc, e = .returned (.tuple #[rv m wa wc pa pc, .int .i64 0]) ∧ RS w' w.heap.size m (wtN ws m) (fun _ => 0) wa wc pa pc ∧ Fr F0 w w' := by
  have hlen : ws.length = m := by have := hp.len; simpa using this
  have hmax := hp.max
  have bR := Blk.new w 28 [.slice none 0 0, .slice none 0 0]
  have r0 := bR.cell (i := 0) rfl
  have r1 := bR.cell (i := 1) rfl
  have y0 := bR.free 0
  have y1 := bR.free 1
  have Hp := Lib.hid hp
  have HB := Lib.hid hb
  have HLN := Lib.hid hlen
  have HR0 := Lib.hid bR
  have hm' : ¬ (1000 : Int) < (m : Int) := by omega
  clear hp hb bR hlen
  go_enter Try.func37, Try.ntmps37
  go_wp2_with fail
  go_loopw [4] (fun i wr => ∃ k : Nat, k ≤ m ∧ i = .int .i64 k ∧ wr = w.alloc (.cells #[.slice none 0 0, .slice none 0 0] 28)) (fun i _ => m - (intOf i).toNat)
  case atStart => exact ⟨0, by omega, rfl, rfl⟩
  case round =>
    obtain ⟨k, hk, rfl, rfl⟩ := hrel
    by_cases hlt : k < m
    · obtain ⟨x, hx⟩ : ∃ x, ws[k]? = some x := ⟨ws[k]'(by rw [HLN.out]; exact hlt), List.getElem?_eq_getElem _⟩
      obtain ⟨b, o, rfl, hc⟩ := Hp.out.cells (by omega)
      have d := ((Fr.refl F0 w).alloc (.cells #[.slice none 0 0, .slice none 0 0] 28)).cell (hc k (.int .i64 x) (by unfold ints; rw [List.getElem?_map, hx]; rfl)) id
      have hki : (k : Int) < (m : Int) := by omega
      have hbx : badW x = false := by
        have := HB.out
        rw [List.any_eq_false] at this
        simpa using this x (List.mem_of_getElem? hx)
      have HBX : Hid ((decide (-1048576 ≤ x) && decide (x ≤ 1048576)) = true) := Lib.hid (by rw [badW_not, hbx]; rfl)
      clear hc hx hbx
      go_wp2_with (go_at_call 56; refine (refweight_any _ x).mono ?_; rintro e w1 ⟨rfl, rfl⟩; rw [HBX.out])
      go_roundw
      case rel => exact ⟨k + 1, by omega, by go_num, by first | trivial | rfl⟩
      case measure => simp [intOf]; omega
    · obtain rfl : k = m := by omega
      clear hlt
      go_wp2_with (at_builtin; refine wpAppRd E3 (Own.lit (w := w.alloc (.cells #[.slice none 0 0, .slice none 0 0] 28)) (B := w.heap.size + 1) (T := 3) [] 0 rfl (by rw [size_alloc]; exact Nat.le_refl _) (by omega)) (Hp.out.fr0 (((Fr.refl _ _).alloc _).alloc _)) (oneCell_ints _) (by omega) (by omega) (by rw [size_alloc, size_alloc]; omega) k (by omega) (by rw [size_alloc]; rfl) rfl ?_; intro a5 c5 w5 own5 fr5 at5)
      have hS := n2_start HR0.out own5 fr5
      obtain ⟨W6, hW6⟩ : ∃ W6, w5.alloc (.cells #[.slice a5 k c5, .slice none 0 0] 28) = W6 := ⟨_, rfl⟩
      obtain ⟨bf, hbf⟩ : ∃ bf, w5.heap.size = bf := ⟨_, rfl⟩
      rw [hW6, hbf] at hS ⊢
      have HS := Lib.hid hS
      clear hS hW6 own5 fr5 at5 hbf r0 r1 y0 y1
      go_loopw [6] (fun i wr => ∃ j : Nat, j ≤ k ∧ i = .int .i64 j ∧ ∃ (pa : Option Addr) (pc : Nat), Hid (N2 w wr bf a5 k c5 ws pa j pc)) (fun i _ => k - (intOf i).toNat)
      case atStart => exact ⟨0, Nat.zero_le _, rfl, none, 0, HS⟩
      case round =>
        obtain ⟨j, hj, rfl, pa, pc, HN⟩ := hrel
        clear HS
        have b0 := HN.out.bx.cell (i := 0) rfl
        have b1 := HN.out.bx.cell (i := 1) rfl
        by_cases hlt : j < k
        · have hji : (j : Int) < (k : Int) := by omega
          have hlb := HN.out.bx.lt
          clear b0
          go_wp2_with (at_builtin; refine wpAppAt E3 HN.out.ps (by omega) (by omega) (by omega) (u := .int .i64 (-1)) rfl rfl rfl ?_; intro a7 c7 w7 own7 fr7 at7; have hx7 := HN.out.bx.fr fr7 (fun e => (by have := (HN.out.ps.blk _ e).1; omega)); have b7 := hx7.cell (i := 1) rfl; have z7 := hx7.free 1; replace own7 := Lib.hid own7; replace fr7 := Lib.hid fr7; clear hx7 b1)
          go_roundw
          case rel => exact ⟨j + 1, by omega, by go_num, a7, c7, Lib.hid (HN.out.app own7.out fr7.out)⟩
          case measure => simp [intOf]; omega
        · obtain rfl : j = k := by omega
          have r0 := HN.out.br.cell (i := 0) rfl
          have r1 := HN.out.br.cell (i := 1) rfl
          have y0 := HN.out.br.free 0
          have y1 := HN.out.br.free 1
          have br1 := HN.out.br.set 0 (.slice a5 j c5)
          have bE := br1.set 1 (.slice pa j pc)
          have q0 := Lib.hid (bE.cell (i := 0) rfl)
          have q1 := Lib.hid (bE.cell (i := 1) rfl)
          replace br1 := Lib.hid br1
          clear bE
          go_wp2_with fail
          have q0' := q0.out
          have q1' := q1.out
          refine bodyPost_ret (v := .tuple #[rv j a5 c5 pa pc, .int .i64 0]) (by simp [results, Try.results37, go_sem, q0', q1']) rfl ⟨_, _, _, _, rfl, ?_, ?_⟩
          · have hR : RS wr w.heap.size j (wtN ws j) (fun _ => 0) a5 c5 pa pc := ⟨by rw [WL0 HLN.out]; exact HN.out.ws.rd, by rw [QL0]; exact HN.out.ps.rd, fun i hi => by have := (HN.out.ws.blk i hi).1; omega, fun i hi => by have := (HN.out.ps.blk i hi).1; have := HN.out.hb; omega⟩
            exact (hR.skip HN.out.br (by simp) 0 _).skip br1.out (by simp) 1 _
          · exact (HN.out.fr.setCell (p := ⟨w.heap.size, 0, none⟩) (fun h => by dsimp only at h; omega) _).setCell (p := ⟨w.heap.size, 1, none⟩) (fun h => by dsimp only at h; omega) _
end Go.Proofs.Ytfeokafjehpgnaa
