/- The reference's LRU, FIFO, next. -/
import Derived.Test.YtnlgjpcnnnilpaaC2
namespace Go.Proofs.Ytnlgjpcnnnilpaa
open Go.RowKit
attribute [local go_sem ↓] Go.wp_at_zero Go.wp_at_succ

theorem fold_take {α : Type} {f : α → Int → α} {s : α} {l : List Int} {k : Nat} {x : Int} (h : l[k]? = some x) : (l.take (k + 1)).foldl f s = f ((l.take k).foldl f s) x := by
  rw [List.take_add_one, h]; simp
def lruF (m : Nat) (s : List Int × Nat) (b : Int) : List Int × Nat := ((touchL s.1 m b).1, if (touchL s.1 m b).2 then s.2 else s.2 + 1)
def lruN (l : List Int) (m : Nat) : Nat := (l.foldl (lruF m) ([], 0)).2
set_option maxHeartbeats 1000000 in
theorem refLRU_any (a : Option Addr) (n c m : Nat) (l : List Int) (w : World) (hr : Rd w a n (ints l)) (hm : 1 ≤ m) (hm2 : m ≤ 1000) (hn : n ≤ 65536) :
    Calls Try.prog 13 #[.slice a n c, .int .i64 m] w fun e w' => e = .returned (.int .i64 (lruN l m)) ∧ Fr F0 w w' := by
  have hll : l.length = n := by simpa using hr.len
  have Hr := Lib.hid hr
  have Hll := Lib.hid hll
  clear hr hll
  go_enter Try.func13, Try.ntmps13
  go_wp2_with fail
  go_loopw [5, 6, 7] (fun s5 s6 s7 wr => ∃ (k t n1 c1 : Nat) (a1 : Option Addr) (K : List Int), k ≤ n ∧ s7 = .int .i64 k ∧ s6 = .int .i64 t ∧ s5 = .slice a1 n1 c1 ∧ t ≤ k ∧ n1 ≤ m ∧ Hid ((l.take k).foldl (lruF m) ([], 0) = (K, t)) ∧ Hid (Own wr w.heap.size 3 a1 n1 c1 (ints K)) ∧ Fr F0 w wr) (fun _ _ s7 _ => n - (intOf s7).toNat)
  case atStart => exact ⟨0, 0, 0, 0, none, [], by omega, rfl, rfl, rfl, by omega, by omega, Lib.hid rfl, Lib.hid (Own.nil _ _ _), Fr.refl _ _⟩
  case round =>
    obtain ⟨k, t, n1, c1, a1, K, hk, rfl, rfl, rfl, ht, hn1, hK, hO, hF⟩ := hrel
    by_cases hlt : k < n
    · obtain ⟨b, o, x, hb, hx, d⟩ := (Hr.out.fr0 hF).ix hlt
      have hcall := refTouch_any a1 n1 c1 m K x wr hO.out.rd hO.out.cap hm hn1 (by omega)
      have hst := fold_take (f := lruF m) (s := ([], 0)) hx
      rw [hK.out] at hst
      have hlen : (touchL K m x).1.length ≤ m := touch_len x hm (by rw [hO.out.lens]; exact hn1)
      obtain ⟨K2, hit, hK2⟩ : ∃ K2 hit, touchL K m x = (K2, hit) := ⟨_, _, rfl⟩
      unfold TouchPost at hcall
      unfold lruF at hst
      rw [hK2] at hcall hlen hst
      have Hst := Lib.hid hst
      have Hlen := Lib.hid hlen
      subst hb
      clear hx hst hlen hK2
      cases hit with
      | true =>
        go_wp2_with fail
        refine hcall.mono ?_; rintro e w2 ⟨a2, n2, c2, rfl, O2, F2⟩
        have hn2 : n2 ≤ m := by rw [← O2.lens]; exact Hlen.out
        have O3 := Lib.hid (O2.mono hF.size)
        replace hF := hF.trans0 F2
        clear hcall O2 F2
        go_wp2_with fail
        go_roundw
        case rel => exact ⟨k + 1, t, n2, c2, a2, K2, by omega, by go_num, rfl, rfl, by omega, hn2, Hst, O3, hF⟩
        case measure => simp [intOf]; omega
      | false =>
        go_wp2_with fail
        refine hcall.mono ?_; rintro e w2 ⟨a2, n2, c2, rfl, O2, F2⟩
        have hn2 : n2 ≤ m := by rw [← O2.lens]; exact Hlen.out
        have O3 := Lib.hid (O2.mono hF.size)
        replace hF := hF.trans0 F2
        clear hcall O2 F2
        go_wp2_with fail
        go_roundw
        case rel => exact ⟨k + 1, t + 1, n2, c2, a2, K2, by omega, by go_num, by go_num, rfl, by omega, hn2, Hst, O3, hF⟩
        case measure => simp [intOf]; omega
    · obtain rfl : k = n := by omega
      have E : Hid (lruN l m = t) := Lib.hid (by
        have h := hK.out
        rw [List.take_of_length_le (by have := Hll.out; omega)] at h
        unfold lruN; rw [h])
      go_wp2_with fail
      go_ret
      exact ⟨ret_int (by rw [E.out]), hF⟩

def fifoF (m : Nat) (s : List Int × Nat) (b : Int) : List Int × Nat := if s.1.any (· == b) = true then s else ((if s.1.length = m then s.1.drop 1 else s.1) ++ [b], s.2 + 1)
def fifoN (l : List Int) (m : Nat) : Nat := (l.foldl (fifoF m) ([], 0)).2
theorem fifo_hit {m : Nat} {C : List Int} {t : Nat} {b : Int} (h : idxI C b ≠ -1) : fifoF m (C, t) b = (C, t) := by
  unfold fifoF
  rw [if_pos (show C.any (· == b) = true from ?_)]
  cases hc : C.any (· == b) with
  | true => rfl
  | false => exfalso; apply h; unfold idxI; rw [hc]; rfl
theorem idxI_miss {C : List Int} {b : Int} (h : C.any (· == b) = false) : idxI C b = -1 := by unfold idxI; rw [h]; rfl
theorem idxI_at {C : List Int} {b : Int} (h : C.any (· == b) = true) : ∃ j, j < C.length ∧ idxI C b = j ∧ C[j]? = some b ∧ j = C.findIdx (· == b) := by
  have hl := List.findIdx_lt_length_of_exists (List.any_eq_true.1 h)
  refine ⟨C.findIdx (· == b), hl, by unfold idxI; rw [if_pos h], ?_, rfl⟩
  have := List.findIdx_getElem (w := hl)
  rw [List.getElem?_eq_getElem hl]
  simpa using this
--X
theorem fifo_miss {m : Nat} {C : List Int} {t : Nat} {b : Int} (h : C.any (· == b) = false) : fifoF m (C, t) b = ((if C.length = m then C.drop 1 else C) ++ [b], t + 1) := by
  unfold fifoF
  rw [if_neg (by rw [h]; decide)]
/-- A list of at most n less one. -/
theorem fifo_len {C : List Int} {m n1 : Nat} (h : C.length = n1) (hn : n1 ≤ m) (hm : 1 ≤ m) : (if C.length = m then C.drop 1 else C).length + 1 ≤ m := by
  split
  · simp; omega
  · omega
set_option maxHeartbeats 4000000 in
theorem refFIFO_any (a : Option Addr) (n c m : Nat) (l : List Int) (w : World) (hr : Rd w a n (ints l)) (hm : 1 ≤ m) (hm2 : m ≤ 1000) (hn : n ≤ 65536) :
    Calls Try.prog 14 #[.slice a n c, .int .i64 m] w fun e w' => e = .returned (.int .i64 (fifoN l m)) ∧ Fr F0 w w' := by
  have hll : l.length = n := by simpa using hr.len
  have Hr := Lib.hid hr
  have Hll := Lib.hid hll
  clear hr hll
  go_enter Try.func14, Try.ntmps14
  go_wp2_with fail
  go_loopw [5, 6, 7] (fun s5 s6 s7 wr => ∃ (k t n1 c1 : Nat) (a1 : Option Addr) (K : List Int), k ≤ n ∧ s7 = .int .i64 k ∧ s6 = .int .i64 t ∧ s5 = .slice a1 n1 c1 ∧ t ≤ k ∧ n1 ≤ m ∧ n1 ≤ c1 ∧ Hid ((l.take k).foldl (fifoF m) ([], 0) = (K, t)) ∧ Hid (Rd wr a1 n1 (ints K)) ∧ Fr F0 w wr) (fun _ _ s7 _ => n - (intOf s7).toNat)
  case atStart => exact ⟨0, 0, 0, 0, none, [], by omega, rfl, rfl, rfl, by omega, by omega, by omega, Lib.hid rfl, Lib.hid (Rd.nil _ _), Fr.refl _ _⟩
  case round =>
    obtain ⟨k, t, n1, c1, a1, K, hk, rfl, rfl, rfl, ht, hn1, hnc, hK, hO, hF⟩ := hrel
    by_cases hlt : k < n
    · obtain ⟨b, o, x, hb, hx, d⟩ := (Hr.out.fr0 hF).ix hlt
      have hcall := Find_any a1 n1 c1 K x wr hO.out
      have hst := fold_take (f := fifoF m) (s := ([], 0)) hx
      rw [hK.out] at hst
      have hKl : Hid (K.length = n1) := Lib.hid (by simpa using hO.out.len)
      subst hb
      clear hx
      cases hany : K.any (· == x) with
      | true =>
        obtain ⟨j, hj, hidx, _, _⟩ := idxI_at hany
        rw [fifo_hit (by rw [hidx]; omega)] at hst
        rw [hidx] at hcall
        have Hst := Lib.hid hst
        clear hst hany hidx
        go_wp2_with (refine hcall.mono ?_; rintro e w2 ⟨rfl, rfl⟩)
        go_roundw
        case rel => exact ⟨k + 1, t, n1, c1, a1, K, by omega, by go_num, rfl, rfl, by omega, hn1, hnc, Hst, hO, hF⟩
        case measure => simp [intOf]; omega
      | false =>
        rw [fifo_miss hany] at hst
        rw [idxI_miss hany] at hcall
        by_cases h2 : n1 = m
        · rw [if_pos (by rw [hKl.out]; exact h2)] at hst
          subst h2
          have Hst := Lib.hid hst
          obtain ⟨q, hq1, hq2⟩ : ∃ q, q + 1 ≤ n1 ∧ n1 ≤ q + 1 := ⟨n1 - 1, by omega, by omega⟩
          have hC : Hid (Rd wr (cutA a1 c1 1) q (ints (K.drop 1))) := Lib.hid (by have h := hO.out.cut hnc (k := 1) (r := q) (by omega); simpa [ints] using h)
          have s1 : ∀ w, (Instr.sliceAt 22 (.slice a1 n1 c1) (some (.int .i64 1)) none none).run Try.prog w = .ok (.slice (cutA a1 c1 1) q (c1 - 1)) w := fun w => run_cutLo E3 w a1 (by omega) rfl
          clear hst hany
          go_wp2_with (refine hcall.mono ?_; rintro e w2 ⟨rfl, rfl⟩)
          have FA : Hid (Fr F0 wr ((wr.alloc (.cells (#[] : Array Value) 3))).drew) := Lib.hid ((Fr.refl _ _).alloc _).drew
          have FB : Hid (Fr F0 wr (((wr.alloc (.cells (#[] : Array Value) 3)).alloc (.cells #[.int .i64 x] 3))).drew) := Lib.hid (((Fr.refl _ _).alloc _).alloc _).drew
          have FC : Hid (Fr F0 wr (((wr.alloc (.cells #[.int .i64 x] 3)).alloc (.cells (#[] : Array Value) 3))).drew) := Lib.hid (((Fr.refl _ _).alloc _).alloc _).drew
          have hO0 : Own (wr.alloc (.cells (#[] : Array Value) 3)) wr.heap.size 3 (some ⟨wr.heap.size, 0, none⟩) 0 0 (ints []) := Own.lit [] 0 rfl (by omega) (by omega)
          have OA : Hid (Own ((wr.alloc (.cells (#[] : Array Value) 3))).drew wr.heap.size 3 (some ⟨wr.heap.size, 0, none⟩) 0 0 (ints [])) := Lib.hid (hO0.fr0 (Fr.refl _ _).drew)
          have OB : Hid (Own (((wr.alloc (.cells (#[] : Array Value) 3)).alloc (.cells #[.int .i64 x] 3))).drew wr.heap.size 3 (some ⟨wr.heap.size, 0, none⟩) 0 0 (ints [])) := Lib.hid (hO0.fr0 ((Fr.refl _ _).alloc _).drew)
          have OC : Hid (Own (((wr.alloc (.cells #[.int .i64 x] 3)).alloc (.cells (#[] : Array Value) 3))).drew wr.heap.size 3 (some ⟨wr.heap.size + 1, 0, none⟩) 0 0 (ints [])) := Lib.hid (by
            have h : Own ((wr.alloc (.cells #[.int .i64 x] 3)).alloc (.cells (#[] : Array Value) 3)) wr.heap.size 3 (some ⟨(wr.alloc (.cells #[.int .i64 x] 3)).heap.size, 0, none⟩) 0 0 (ints []) := Own.lit [] 0 rfl (by simp) (by omega)
            have h2 := h.fr0 (Fr.refl _ _).drew
            simpa using h2)
          clear hO0
          have n1x := World.new_ne wr _ d
          have RB : Hid (Rd (((wr.alloc (.cells (#[] : Array Value) 3)).alloc (.cells #[.int .i64 x] 3))).drew (some ⟨wr.heap.size + 1, 0, none⟩) 1 (ints [x])) := Lib.hid (by
            have h := (Own.rd (Own.lit (w := wr.alloc (.cells (#[] : Array Value) 3)) (B := wr.heap.size) (T := 3) (ints [x]) 1 rfl (by simp) (by omega))).fr0 (Fr.refl F0 _).drew
            simpa using h)
          have RC : Hid (Rd (((wr.alloc (.cells #[.int .i64 x] 3)).alloc (.cells (#[] : Array Value) 3))).drew (some ⟨wr.heap.size, 0, none⟩) 1 (ints [x])) := Lib.hid (by
            have h := (Own.rd (Own.lit (w := wr) (B := wr.heap.size) (T := 3) (ints [x]) 1 rfl (by simp) (by omega))).fr0 (((Fr.refl F0 _).alloc (.cells (#[] : Array Value) 3)).drew)
            simpa using h)
          go_region_held3 (fun w' => w'.cell? ⟨b, o + k, none⟩ = some (.int .i64 x)) (go_keep)
            (first | (refine stepAppRd E3 (by rfl) (by rfl) (by rfl) (by rfl) OA.out (hC.out.fr0 FA.out) (oneCell_ints (K.drop 1)) (by omega) (by omega) (by simp <;> omega) q (by omega) ?_; intro a6 c6 w6 own6 fr6 at6; have G6 : Fr F0 wr w6 := FA.out.trans fr6 (fun k hk hs => absurd (OA.out.blk _ hs).1 (by omega)); have y0 := G6.cell d id; have m1x := World.new_ne w6 _ y0; have O6 : Hid (Own (w6.alloc (.cells #[.int .i64 x] 3)) wr.heap.size 3 a6 q c6 (ints [] ++ ints (K.drop 1))) := Lib.hid (own6.alloc _); have R6 : Hid (Rd (w6.alloc (.cells #[.int .i64 x] 3)) (some ⟨w6.heap.size, 0, none⟩) 1 (ints [x])) := Lib.hid (Own.rd (Own.lit (w := w6) (B := w6.heap.size) (T := 3) (ints [x]) 1 rfl (by omega) (by omega))); have F6 : Hid (Fr F0 wr (w6.alloc (.cells #[.int .i64 x] 3))) := Lib.hid (G6.alloc _); replace own6 := Lib.hid own6; replace G6 := Lib.hid G6; replace fr6 := Lib.hid fr6; replace at6 := Lib.hid at6) | (refine stepAppRd E3 (by rfl) (by rfl) (by rfl) (by rfl) OB.out (hC.out.fr0 FB.out) (oneCell_ints (K.drop 1)) (by omega) (by omega) (by simp <;> omega) q (by omega) ?_; intro a6 c6 w6 own6 fr6 at6; have G6 : Fr F0 wr w6 := FB.out.trans fr6 (fun k hk hs => absurd (OB.out.blk _ hs).1 (by omega)); have y0 := G6.cell d id; have m1x := World.new_ne w6 _ y0; have O6 : Hid (Own w6 wr.heap.size 3 a6 q c6 (ints [] ++ ints (K.drop 1))) := Lib.hid own6; have R6 : Hid (Rd w6 (some ⟨wr.heap.size + 1, 0, none⟩) 1 (ints [x])) := Lib.hid (RB.out.fr fr6 (fun k hk hs => by have h1 := (onBlk_some _ _ _ _).1 hk; have h2 := (onBlk_some _ _ _ _).1 hs; omega)); have F6 : Hid (Fr F0 wr w6) := Lib.hid G6; replace own6 := Lib.hid own6; replace G6 := Lib.hid G6; replace fr6 := Lib.hid fr6; replace at6 := Lib.hid at6) | (refine stepAppRd E3 (by rfl) (by rfl) (by rfl) (by rfl) OC.out (hC.out.fr0 FC.out) (oneCell_ints (K.drop 1)) (by omega) (by omega) (by simp <;> omega) q (by omega) ?_; intro a6 c6 w6 own6 fr6 at6; have G6 : Fr F0 wr w6 := FC.out.trans fr6 (fun k hk hs => absurd (OC.out.blk _ hs).1 (by omega)); have y0 := G6.cell d id; have m1x := World.new_ne w6 _ y0; have O6 : Hid (Own w6 wr.heap.size 3 a6 q c6 (ints [] ++ ints (K.drop 1))) := Lib.hid own6; have R6 : Hid (Rd w6 (some ⟨wr.heap.size, 0, none⟩) 1 (ints [x])) := Lib.hid (RC.out.fr fr6 (fun k hk hs => by have h1 := (onBlk_some _ _ _ _).1 hk; have h2 := (onBlk_some _ _ _ _).1 hs; omega)); have F6 : Hid (Fr F0 wr w6) := Lib.hid G6; replace own6 := Lib.hid own6; replace G6 := Lib.hid G6; replace fr6 := Lib.hid fr6; replace at6 := Lib.hid at6) | (refine stepAppRd E3 (by rfl) (by rfl) (by rfl) (by rfl) O6.out R6.out (oneCell_ints [x]) (by omega) (by omega) (by have := G6.out.size; simp <;> omega) (q + 1) (by omega) ?_; intro a7 c7 w7 own7 fr7 at7; have G7 : Fr F0 wr w7 := F6.out.trans fr7 (fun k hk hs => absurd (O6.out.blk _ hs).1 (by omega)); have z0 := G7.cell d id; replace own7 := Lib.hid own7; replace G7 := Lib.hid G7; replace at7 := Lib.hid at7; replace fr7 := Lib.hid fr7))
          all_goals
            have hF2 := Lib.hid (hF.trans0 G7.out)
            have hc7 : Hid (q + 1 ≤ c7) := Lib.hid own7.out.cap
            have hR7 : Hid (Rd w7 a7 (q + 1) (ints (K.drop 1 ++ [x]))) := Lib.hid (by have h := own7.out.rd; simpa [ints] using h)
            go_wp2_with fail
            go_roundw
            case rel => exact ⟨k + 1, t + 1, q + 1, c7, a7, _, by omega, by go_num, by go_num, rfl, by omega, hq1, hc7.out, Hst, hR7, hF2.out⟩
            case measure => simp [intOf]; omega
        · rw [if_neg (by rw [hKl.out]; exact h2)] at hst
          have Hst := Lib.hid hst
          have hC := hO
          have d1 : ((n1 : Int) == (m : Int)) = false := by simp; omega
          have d2 : (n1 == m) = false := by simpa using h2
          have hn2 : n1 + 1 ≤ m := by omega
          clear hst hany h2
          go_wp2_with (refine hcall.mono ?_; rintro e w2 ⟨rfl, rfl⟩)
          have FA : Hid (Fr F0 wr ((wr.alloc (.cells (#[] : Array Value) 3))).drew) := Lib.hid ((Fr.refl _ _).alloc _).drew
          have FB : Hid (Fr F0 wr (((wr.alloc (.cells (#[] : Array Value) 3)).alloc (.cells #[.int .i64 x] 3))).drew) := Lib.hid (((Fr.refl _ _).alloc _).alloc _).drew
          have FC : Hid (Fr F0 wr (((wr.alloc (.cells #[.int .i64 x] 3)).alloc (.cells (#[] : Array Value) 3))).drew) := Lib.hid (((Fr.refl _ _).alloc _).alloc _).drew
          have hO0 : Own (wr.alloc (.cells (#[] : Array Value) 3)) wr.heap.size 3 (some ⟨wr.heap.size, 0, none⟩) 0 0 (ints []) := Own.lit [] 0 rfl (by omega) (by omega)
          have OA : Hid (Own ((wr.alloc (.cells (#[] : Array Value) 3))).drew wr.heap.size 3 (some ⟨wr.heap.size, 0, none⟩) 0 0 (ints [])) := Lib.hid (hO0.fr0 (Fr.refl _ _).drew)
          have OB : Hid (Own (((wr.alloc (.cells (#[] : Array Value) 3)).alloc (.cells #[.int .i64 x] 3))).drew wr.heap.size 3 (some ⟨wr.heap.size, 0, none⟩) 0 0 (ints [])) := Lib.hid (hO0.fr0 ((Fr.refl _ _).alloc _).drew)
          have OC : Hid (Own (((wr.alloc (.cells #[.int .i64 x] 3)).alloc (.cells (#[] : Array Value) 3))).drew wr.heap.size 3 (some ⟨wr.heap.size + 1, 0, none⟩) 0 0 (ints [])) := Lib.hid (by
            have h : Own ((wr.alloc (.cells #[.int .i64 x] 3)).alloc (.cells (#[] : Array Value) 3)) wr.heap.size 3 (some ⟨(wr.alloc (.cells #[.int .i64 x] 3)).heap.size, 0, none⟩) 0 0 (ints []) := Own.lit [] 0 rfl (by simp) (by omega)
            have h2 := h.fr0 (Fr.refl _ _).drew
            simpa using h2)
          clear hO0
          have n1x := World.new_ne wr _ d
          have RB : Hid (Rd (((wr.alloc (.cells (#[] : Array Value) 3)).alloc (.cells #[.int .i64 x] 3))).drew (some ⟨wr.heap.size + 1, 0, none⟩) 1 (ints [x])) := Lib.hid (by
            have h := (Own.rd (Own.lit (w := wr.alloc (.cells (#[] : Array Value) 3)) (B := wr.heap.size) (T := 3) (ints [x]) 1 rfl (by simp) (by omega))).fr0 (Fr.refl F0 _).drew
            simpa using h)
          have RC : Hid (Rd (((wr.alloc (.cells #[.int .i64 x] 3)).alloc (.cells (#[] : Array Value) 3))).drew (some ⟨wr.heap.size, 0, none⟩) 1 (ints [x])) := Lib.hid (by
            have h := (Own.rd (Own.lit (w := wr) (B := wr.heap.size) (T := 3) (ints [x]) 1 rfl (by simp) (by omega))).fr0 (((Fr.refl F0 _).alloc (.cells (#[] : Array Value) 3)).drew)
            simpa using h)
          go_region_held3 (fun w' => w'.cell? ⟨b, o + k, none⟩ = some (.int .i64 x)) (go_keep)
            (first | (refine stepAppRd E3 (by rfl) (by rfl) (by rfl) (by rfl) OA.out (hC.out.fr0 FA.out) (oneCell_ints K) (by omega) (by omega) (by simp <;> omega) n1 (by omega) ?_; intro a6 c6 w6 own6 fr6 at6; have G6 : Fr F0 wr w6 := FA.out.trans fr6 (fun k hk hs => absurd (OA.out.blk _ hs).1 (by omega)); have y0 := G6.cell d id; have m1x := World.new_ne w6 _ y0; have O6 : Hid (Own (w6.alloc (.cells #[.int .i64 x] 3)) wr.heap.size 3 a6 n1 c6 (ints [] ++ ints K)) := Lib.hid (own6.alloc _); have R6 : Hid (Rd (w6.alloc (.cells #[.int .i64 x] 3)) (some ⟨w6.heap.size, 0, none⟩) 1 (ints [x])) := Lib.hid (Own.rd (Own.lit (w := w6) (B := w6.heap.size) (T := 3) (ints [x]) 1 rfl (by omega) (by omega))); have F6 : Hid (Fr F0 wr (w6.alloc (.cells #[.int .i64 x] 3))) := Lib.hid (G6.alloc _); replace own6 := Lib.hid own6; replace G6 := Lib.hid G6; replace fr6 := Lib.hid fr6; replace at6 := Lib.hid at6) | (refine stepAppRd E3 (by rfl) (by rfl) (by rfl) (by rfl) OB.out (hC.out.fr0 FB.out) (oneCell_ints K) (by omega) (by omega) (by simp <;> omega) n1 (by omega) ?_; intro a6 c6 w6 own6 fr6 at6; have G6 : Fr F0 wr w6 := FB.out.trans fr6 (fun k hk hs => absurd (OB.out.blk _ hs).1 (by omega)); have y0 := G6.cell d id; have m1x := World.new_ne w6 _ y0; have O6 : Hid (Own w6 wr.heap.size 3 a6 n1 c6 (ints [] ++ ints K)) := Lib.hid own6; have R6 : Hid (Rd w6 (some ⟨wr.heap.size + 1, 0, none⟩) 1 (ints [x])) := Lib.hid (RB.out.fr fr6 (fun k hk hs => by have h1 := (onBlk_some _ _ _ _).1 hk; have h2 := (onBlk_some _ _ _ _).1 hs; omega)); have F6 : Hid (Fr F0 wr w6) := Lib.hid G6; replace own6 := Lib.hid own6; replace G6 := Lib.hid G6; replace fr6 := Lib.hid fr6; replace at6 := Lib.hid at6) | (refine stepAppRd E3 (by rfl) (by rfl) (by rfl) (by rfl) OC.out (hC.out.fr0 FC.out) (oneCell_ints K) (by omega) (by omega) (by simp <;> omega) n1 (by omega) ?_; intro a6 c6 w6 own6 fr6 at6; have G6 : Fr F0 wr w6 := FC.out.trans fr6 (fun k hk hs => absurd (OC.out.blk _ hs).1 (by omega)); have y0 := G6.cell d id; have m1x := World.new_ne w6 _ y0; have O6 : Hid (Own w6 wr.heap.size 3 a6 n1 c6 (ints [] ++ ints K)) := Lib.hid own6; have R6 : Hid (Rd w6 (some ⟨wr.heap.size, 0, none⟩) 1 (ints [x])) := Lib.hid (RC.out.fr fr6 (fun k hk hs => by have h1 := (onBlk_some _ _ _ _).1 hk; have h2 := (onBlk_some _ _ _ _).1 hs; omega)); have F6 : Hid (Fr F0 wr w6) := Lib.hid G6; replace own6 := Lib.hid own6; replace G6 := Lib.hid G6; replace fr6 := Lib.hid fr6; replace at6 := Lib.hid at6) | (refine stepAppRd E3 (by rfl) (by rfl) (by rfl) (by rfl) O6.out R6.out (oneCell_ints [x]) (by omega) (by omega) (by have := G6.out.size; simp <;> omega) (n1 + 1) (by omega) ?_; intro a7 c7 w7 own7 fr7 at7; have G7 : Fr F0 wr w7 := F6.out.trans fr7 (fun k hk hs => absurd (O6.out.blk _ hs).1 (by omega)); have z0 := G7.cell d id; replace own7 := Lib.hid own7; replace G7 := Lib.hid G7; replace at7 := Lib.hid at7; replace fr7 := Lib.hid fr7))
          all_goals
            have hF2 := Lib.hid (hF.trans0 G7.out)
            have hc7 : Hid (n1 + 1 ≤ c7) := Lib.hid own7.out.cap
            have hR7 : Hid (Rd w7 a7 (n1 + 1) (ints (K ++ [x]))) := Lib.hid (by have h := own7.out.rd; simpa [ints] using h)
            go_wp2_with fail
            go_roundw
            case rel => exact ⟨k + 1, t + 1, n1 + 1, c7, a7, _, by omega, by go_num, by go_num, rfl, by omega, hn2, hc7.out, Hst, hR7, hF2.out⟩
            case measure => simp [intOf]; omega
    · obtain rfl : k = n := by omega
      have E : Hid (fifoN l m = t) := Lib.hid (by
        have h := hK.out
        rw [List.take_of_length_le (by have := Hll.out; omega)] at h
        unfold fifoN; rw [h])
      go_wp2_with fail
      go_ret
      exact ⟨ret_int (by rw [E.out]), hF⟩
end Go.Proofs.Ytnlgjpcnnnilpaa
