/- The reference's next, Optimal. -/
import Derived.Test.YtnlgjpcnnnilpaaC3
namespace Go.Proofs.Ytnlgjpcnnnilpaa
open Go.RowKit
attribute [local go_sem ↓] Go.wp_at_zero Go.wp_at_succ

/-- The next reference of b from i on. -/
def nx (l : List Int) (i : Nat) (b : Int) : Nat := i + (l.drop i).findIdx (· == b)
theorem nx_hit {l : List Int} {i : Nat} {b : Int} (h : l[i]? = some b) : nx l i b = i := by
  have hl := (List.getElem?_eq_some_iff.1 h).1
  unfold nx
  rw [List.drop_eq_getElem_cons hl, (List.getElem?_eq_some_iff.1 h).2, List.findIdx_cons]
  simp
theorem nx_miss {l : List Int} {i : Nat} {b x : Int} (h : l[i]? = some x) (hx : x ≠ b) : nx l i b = nx l (i + 1) b := by
  have hl := (List.getElem?_eq_some_iff.1 h).1
  unfold nx
  rw [List.drop_eq_getElem_cons hl, (List.getElem?_eq_some_iff.1 h).2, List.findIdx_cons]
  have : (x == b) = false := by simpa using hx
  simp only [this, cond_false]
  omega
theorem nx_end (l : List Int) (b : Int) : nx l l.length b = l.length := by unfold nx; simp
theorem nx_le {l : List Int} {i : Nat} (b : Int) (h : i ≤ l.length) : i ≤ nx l i b ∧ nx l i b ≤ l.length := by
  unfold nx
  have := List.findIdx_le_length (p := fun x : Int => x == b) (xs := l.drop i)
  rw [List.length_drop] at this
  omega
set_option maxHeartbeats 1000000 in
theorem next_any (a : Option Addr) (n c i : Nat) (l : List Int) (b : Int) (w : World) (hr : Rd w a n (ints l)) (hi : i ≤ n) :
    Calls Try.prog 35 #[.slice a n c, .int .i64 i, .int .i64 b] w fun e w' => e = .returned (.int .i64 (nx l i b)) ∧ w = w' := by
  have hll : l.length = n := by simpa using hr.len
  have hmax := hr.max
  have Hll := Lib.hid hll
  clear hll
  obtain ⟨z, hz⟩ : ∃ z, z = nx l i b := ⟨_, rfl⟩
  rw [← hz]
  obtain ⟨i', hi'⟩ : ∃ i', i' = i := ⟨_, rfl⟩
  rw [← hi'] at hz ⊢
  have Hz := Lib.hid hz
  have hin : i' ≤ n := by omega
  clear hz hi' hi
  go_enter Try.func35, Try.ntmps35
  go_wp2_with fail
  go_loop [1] (fun s => ∃ k : Nat, k ≤ n ∧ s = .int .i64 k ∧ Hid (z = nx l k b)) (fun s => n - (intOf s).toNat)
  case atStart => exact ⟨i', hin, rfl, Hz⟩
  case round =>
    obtain ⟨k, hk, rfl, hT⟩ := hrel
    by_cases hlt : k < n
    · obtain ⟨g, o, x, hb, hx, d⟩ := hr.ix hlt
      subst hb
      have Hx := Lib.hid hx
      clear hx
      by_cases hxb : x = b
      · subst hxb
        have E : Hid (z = k) := Lib.hid (by rw [hT.out, nx_hit Hx.out])
        have d1 : (x != x) = false := by simp
        go_wp2_with fail
        go_ret
        exact ⟨ret_int (by rw [E.out]), rfl⟩
      · have hT2 : Hid (z = nx l (k + 1) b) := Lib.hid (by rw [hT.out, nx_miss Hx.out hxb])
        have d1 : (x != b) = true := by simpa using hxb
        have d2 : (x == b) = false := by simpa using hxb
        replace hxb := Lib.hid hxb
        go_wp2_with fail
        go_round
        case rel => exact ⟨k + 1, by omega, by go_num, hT2⟩
        case measure => simp [intOf]; omega
    · obtain rfl : k = n := by omega
      have E : Hid (z = k) := Lib.hid (by rw [hT.out]; have h := nx_end l b; rw [Hll.out] at h; exact h)
      go_wp2_with fail
      go_ret
      exact ⟨ret_int (by rw [E.out]), rfl⟩

/-- The first of the greatest among the first k. -/
def amax (V : List Nat) : Nat → Nat
  | 0 => 0
  | k + 1 => if V.getD (amax V k) 0 < V.getD k 0 then k else amax V k
theorem amax_lt (V : List Nat) : ∀ k, 0 < k → amax V k < k
  | 0, h => by omega
  | 1, _ => by simp [amax]
  | k + 2, _ => by
    have := amax_lt V (k + 1) (by omega)
    rw [amax]
    split <;> omega
theorem amax_max (V : List Nat) : ∀ k j, j < k → V.getD j 0 ≤ V.getD (amax V k) 0
  | 0, j, h => by omega
  | k + 1, j, h => by
    rw [amax]
    by_cases hj : j = k
    · subst hj
      split
      · exact Nat.le_refl _
      · omega
    · have := amax_max V k j (by omega)
      split
      · omega
      · exact this
def optS (l : List Int) (m : Nat) : Nat → List Int × Nat
  | 0 => ([], 0)
  | k + 1 =>
    if (optS l m k).1.any (· == l.getD k 0) = true then optS l m k
    else ((if (optS l m k).1.length = m then (optS l m k).1.eraseIdx (amax ((optS l m k).1.map (nx l k)) (optS l m k).1.length) else (optS l m k).1) ++ [l.getD k 0], (optS l m k).2 + 1)
def optN (l : List Int) (m : Nat) : Nat := (optS l m l.length).2
theorem optS_hit {l : List Int} {m k : Nat} {C : List Int} {t : Nat} {x : Int} (h : optS l m k = (C, t)) (hx : l[k]? = some x) (hC : C.any (· == x) = true) : optS l m (k + 1) = (C, t) := by
  have e : l.getD k 0 = x := by rw [List.getD_eq_getElem?_getD, hx]; rfl
  rw [optS, h, e, if_pos hC]
theorem optS_miss {l : List Int} {m k : Nat} {C : List Int} {t : Nat} {x : Int} (h : optS l m k = (C, t)) (hx : l[k]? = some x) (hC : C.any (· == x) = false) :
    optS l m (k + 1) = ((if C.length = m then C.eraseIdx (amax (C.map (nx l k)) C.length) else C) ++ [x], t + 1) := by
  have e : l.getD k 0 = x := by rw [List.getD_eq_getElem?_getD, hx]; rfl
  rw [optS, h, e, if_neg (by rw [hC]; decide)]
set_option maxHeartbeats 8000000 in
theorem refOptimal_any (a : Option Addr) (n c m : Nat) (l : List Int) (w : World) (hr : Rd w a n (ints l)) (hm : 1 ≤ m) (hm2 : m ≤ 1000) (hn : n ≤ 65536) :
    Calls Try.prog 15 #[.slice a n c, .int .i64 m] w fun e w' => e = .returned (.int .i64 (optN l m)) ∧ Fr F0 w w' := by
  have hll : l.length = n := by simpa using hr.len
  have Hr := Lib.hid hr
  have Hll := Lib.hid hll
  clear hr hll
  go_enter Try.func15, Try.ntmps15
  go_wp2_with fail
  go_loopw [5, 6, 7, 8, 9] (fun s5 s6 s7 _ _ wr => ∃ (k t n1 c1 : Nat) (a1 : Option Addr) (K : List Int), k ≤ n ∧ s7 = .int .i64 k ∧ s6 = .int .i64 t ∧ s5 = .slice a1 n1 c1 ∧ t ≤ k ∧ n1 ≤ m ∧ n1 ≤ c1 ∧ Hid (optS l m k = (K, t)) ∧ Hid (Rd wr a1 n1 (ints K)) ∧ Fr F0 w wr) (fun _ _ s7 _ _ _ => n - (intOf s7).toNat)
  case atStart => exact ⟨0, 0, 0, 0, none, [], by omega, rfl, rfl, rfl, by omega, by omega, by omega, Lib.hid rfl, Lib.hid (Rd.nil _ _), Fr.refl _ _⟩
  case round =>
    obtain ⟨k, t, n1, c1, a1, K, hk, rfl, rfl, rfl, ht, hn1, hnc, hK, hO, hF⟩ := hrel
    by_cases hlt : k < n
    · obtain ⟨b, o, x, hb, hx, d⟩ := (Hr.out.fr0 hF).ix hlt
      have hcall := Find_any a1 n1 c1 K x wr hO.out
      have hKl : Hid (K.length = n1) := Lib.hid (by simpa using hO.out.len)
      subst hb
      cases hany : K.any (· == x) with
      | true =>
        obtain ⟨j, hj, hidx, _, _⟩ := idxI_at hany
        have Hst := Lib.hid (optS_hit hK.out hx hany)
        rw [hidx] at hcall
        clear hx hany hidx
        go_wp2_with (refine hcall.mono ?_; rintro e w2 ⟨rfl, rfl⟩)
        go_roundw
        case rel => exact ⟨k + 1, t, n1, c1, a1, K, by omega, by go_num, rfl, rfl, by omega, hn1, hnc, Hst, hO, hF⟩
        case measure => simp [intOf]; omega
      | false =>
        have hst := optS_miss hK.out hx hany
        rw [idxI_miss hany] at hcall
        by_cases h2 : n1 = m
        · rw [if_pos (by rw [hKl.out]; exact h2)] at hst
          subst h2
          have Hst := Lib.hid hst
          obtain ⟨q, hq1, hq2⟩ : ∃ q, q + 1 ≤ n1 ∧ n1 ≤ q + 1 := ⟨n1 - 1, by omega, by omega⟩
          obtain ⟨V, hV⟩ : ∃ V, V = K.map (nx l k) := ⟨_, rfl⟩
          have HV := Lib.hid hV
          rw [← hV, hKl.out] at Hst
          clear hst hany hV hx
          go_wp2_with (refine hcall.mono ?_; rintro e w2 ⟨rfl, rfl⟩)
          obtain ⟨wo, hwo⟩ : ∃ wo : World, wo = wr := ⟨_, rfl⟩
          have hFi : Fr F0 wo wr := by rw [hwo]; exact Fr.refl _ _
          rw [← hwo] at hO hF d
          clear hwo hcall
          go_loopw [8, 9] (fun s8 s9 wr2 => ∃ (j z : Nat), 1 ≤ j ∧ j ≤ n1 ∧ s9 = .int .i64 j ∧ s8 = .int .i64 z ∧ z < n1 ∧ Hid (z = amax V j) ∧ Fr F0 wo wr2) (fun _ s9 _ => n1 - (intOf s9).toNat)
          case atStart => exact ⟨1, 0, by omega, hm, rfl, rfl, by omega, Lib.hid (by simp [amax]), hFi⟩
          case round =>
            obtain ⟨j, z, hj1, hj2, rfl, rfl, hz, hzm, hF2⟩ := hrel
            by_cases hlt2 : j < n1
            · obtain ⟨b1, o1, x1, hb1, hx1, d1⟩ := (hO.out.fr0 hF2).ix hlt2
              obtain ⟨b2, o2, x2, hb2, hx2, d2⟩ := (hO.out.fr0 hF2).ix hz
              rw [hb1] at hb2
              injection hb2 with hb2
              injection hb2 with e1 e2
              subst e1
              subst e2
              obtain ⟨p1, hp1⟩ : ∃ p1, p1 = nx l k x1 := ⟨_, rfl⟩
              obtain ⟨p2, hp2⟩ : ∃ p2, p2 = nx l k x2 := ⟨_, rfl⟩
              have v1 : V.getD j 0 = p1 := by rw [HV.out, hp1, List.getD_eq_getElem?_getD, List.getElem?_map, hx1]; rfl
              have v2 : V.getD (amax V j) 0 = p2 := by rw [← hzm.out, HV.out, hp2, List.getD_eq_getElem?_getD, List.getElem?_map, hx2]; rfl
              have c1' : Hid (∀ q, Calls Try.prog 35 #[.slice (some ⟨b, o, none⟩) n c, .int .i64 k, .int .i64 x1] (wr.drewN q) fun e w' => e = .returned (.int .i64 p1) ∧ ∃ m, w' = wr.drewN m) := Lib.hid (by
                intro q
                rw [hp1]
                exact (next_any _ n c k l x1 _ (((Hr.out.fr0 hF).fr0 hF2).fr0 ((Fr.refl _ _).drewN q)) hk).mono fun _ _ h => ⟨h.1, q, h.2.symm⟩)
              have c2' : Hid (∀ q, Calls Try.prog 35 #[.slice (some ⟨b, o, none⟩) n c, .int .i64 k, .int .i64 x2] (wr.drewN q) fun e w' => e = .returned (.int .i64 p2) ∧ ∃ m, w' = wr.drewN m) := Lib.hid (by
                intro q
                rw [hp2]
                exact (next_any _ n c k l x2 _ (((Hr.out.fr0 hF).fr0 hF2).fr0 ((Fr.refl _ _).drewN q)) hk).mono fun _ _ h => ⟨h.1, q, h.2.symm⟩)
              have i0 : (0 : Int) ≤ (j : Int) := by omega
              have i1 : (j : Int) < (n1 : Int) := by omega
              have i2 : (0 : Int) ≤ (z : Int) := by omega
              have i3 : (z : Int) < (n1 : Int) := by omega
              have hstep : amax V (j + 1) = if p2 < p1 then j else z := by rw [amax, v1, v2, hzm.out]
              subst hb1
              by_cases hlt3 : p2 < p1
              · rw [if_pos hlt3] at hstep
                have Hm := Lib.hid hstep
                have D1 : decide (p2 < p1) = true := by simpa using hlt3
                have D2 : decide ((p2 : Int) < (p1 : Int)) = true := by simpa using hlt3
                replace hlt3 := Lib.hid hlt3
                clear hstep v1 v2 hx1 hx2 hp1 hp2
                go_wp2_with fail
                go_quiet (first | (go_at_call 35; with_reducible exact c1'.out _) | (go_at_call 35; with_reducible exact c2'.out _))
                replace hF2 := hF2.drewN nq
                go_wp2_with fail
                go_roundw
                case rel => exact ⟨j + 1, j, by omega, by omega, by go_num, rfl, hlt2, Lib.hid Hm.out.symm, hF2⟩
                case measure => simp [intOf]; omega
              · rw [if_neg hlt3] at hstep
                have Hm := Lib.hid hstep
                have D1 : decide (p2 < p1) = false := by simpa using hlt3
                have D2 : decide ((p2 : Int) < (p1 : Int)) = false := by simpa using hlt3
                replace hlt3 := Lib.hid hlt3
                clear hstep v1 v2 hx1 hx2 hp1 hp2
                go_wp2_with fail
                go_quiet (first | (go_at_call 35; with_reducible exact c1'.out _) | (go_at_call 35; with_reducible exact c2'.out _))
                replace hF2 := hF2.drewN nq
                go_wp2_with fail
                go_roundw
                case rel => exact ⟨j + 1, z, by omega, by omega, by go_num, rfl, hz, Lib.hid Hm.out.symm, hF2⟩
                case measure => simp [intOf]; omega
            · obtain rfl : j = n1 := by omega
              have hzz := Lib.hid hzm.out
              rw [← hzm.out] at Hst
              have hwo' := hF.trans0 hF2
              go_wp2_with fail
              refine (Without_any a1 j c1 z K _ (hO.out.fr0 hF2) hnc hz (by omega)).mono ?_; rintro e w2 ⟨a2, c2, rfl, O2, G2⟩
              have d3 := G2.cell (hF2.cell d id) id
              have hq : Hid (j - 1 = q) := Lib.hid (by omega)
              have hF3 := Lib.hid (hwo'.trans0 G2)
              have hC : Hid (Rd w2 a2 q (ints (K.eraseIdx z))) := Lib.hid (by have h := O2.rd; rwa [hq.out] at h)
              rw [hq.out]
              clear O2 G2 hF2 hFi d hwo'
              go_wp2_with fail
              have FA : Hid (Fr F0 w2 ((w2.alloc (.cells (#[] : Array Value) 3))).drew) := Lib.hid ((Fr.refl _ _).alloc _).drew
              have FB : Hid (Fr F0 w2 (((w2.alloc (.cells (#[] : Array Value) 3)).alloc (.cells #[.int .i64 x] 3))).drew) := Lib.hid (((Fr.refl _ _).alloc _).alloc _).drew
              have FC : Hid (Fr F0 w2 (((w2.alloc (.cells #[.int .i64 x] 3)).alloc (.cells (#[] : Array Value) 3))).drew) := Lib.hid (((Fr.refl _ _).alloc _).alloc _).drew
              have hO0 : Own (w2.alloc (.cells (#[] : Array Value) 3)) w2.heap.size 3 (some ⟨w2.heap.size, 0, none⟩) 0 0 (ints []) := Own.lit [] 0 rfl (by omega) (by omega)
              have OA : Hid (Own ((w2.alloc (.cells (#[] : Array Value) 3))).drew w2.heap.size 3 (some ⟨w2.heap.size, 0, none⟩) 0 0 (ints [])) := Lib.hid (hO0.fr0 (Fr.refl _ _).drew)
              have OB : Hid (Own (((w2.alloc (.cells (#[] : Array Value) 3)).alloc (.cells #[.int .i64 x] 3))).drew w2.heap.size 3 (some ⟨w2.heap.size, 0, none⟩) 0 0 (ints [])) := Lib.hid (hO0.fr0 ((Fr.refl _ _).alloc _).drew)
              have OC : Hid (Own (((w2.alloc (.cells #[.int .i64 x] 3)).alloc (.cells (#[] : Array Value) 3))).drew w2.heap.size 3 (some ⟨w2.heap.size + 1, 0, none⟩) 0 0 (ints [])) := Lib.hid (by
                have h : Own ((w2.alloc (.cells #[.int .i64 x] 3)).alloc (.cells (#[] : Array Value) 3)) w2.heap.size 3 (some ⟨(w2.alloc (.cells #[.int .i64 x] 3)).heap.size, 0, none⟩) 0 0 (ints []) := Own.lit [] 0 rfl (by simp) (by omega)
                have h2 := h.fr0 (Fr.refl _ _).drew
                simpa using h2)
              clear hO0
              have n1x := World.new_ne w2 _ d3
              have RB : Hid (Rd (((w2.alloc (.cells (#[] : Array Value) 3)).alloc (.cells #[.int .i64 x] 3))).drew (some ⟨w2.heap.size + 1, 0, none⟩) 1 (ints [x])) := Lib.hid (by
                have h := (Own.rd (Own.lit (w := w2.alloc (.cells (#[] : Array Value) 3)) (B := w2.heap.size) (T := 3) (ints [x]) 1 rfl (by simp) (by omega))).fr0 (Fr.refl F0 _).drew
                simpa using h)
              have RC : Hid (Rd (((w2.alloc (.cells #[.int .i64 x] 3)).alloc (.cells (#[] : Array Value) 3))).drew (some ⟨w2.heap.size, 0, none⟩) 1 (ints [x])) := Lib.hid (by
                have h := (Own.rd (Own.lit (w := w2) (B := w2.heap.size) (T := 3) (ints [x]) 1 rfl (by simp) (by omega))).fr0 (((Fr.refl F0 _).alloc (.cells (#[] : Array Value) 3)).drew)
                simpa using h)
              go_region_held3 (fun w' => w'.cell? ⟨b, o + k, none⟩ = some (.int .i64 x)) (go_keep)
                (first | (refine stepAppRd E3 (by rfl) (by rfl) (by rfl) (by rfl) OA.out (hC.out.fr0 FA.out) (oneCell_ints (K.eraseIdx z)) (by omega) (by omega) (by simp <;> omega) q (by omega) ?_; intro a6 c6 w6 own6 fr6 at6; have G6 : Fr F0 w2 w6 := FA.out.trans fr6 (fun k hk hs => absurd (OA.out.blk _ hs).1 (by omega)); have y0 := G6.cell d3 id; have m1x := World.new_ne w6 _ y0; have O6 : Hid (Own (w6.alloc (.cells #[.int .i64 x] 3)) w2.heap.size 3 a6 q c6 (ints [] ++ ints (K.eraseIdx z))) := Lib.hid (own6.alloc _); have R6 : Hid (Rd (w6.alloc (.cells #[.int .i64 x] 3)) (some ⟨w6.heap.size, 0, none⟩) 1 (ints [x])) := Lib.hid (Own.rd (Own.lit (w := w6) (B := w6.heap.size) (T := 3) (ints [x]) 1 rfl (by omega) (by omega))); have F6 : Hid (Fr F0 w2 (w6.alloc (.cells #[.int .i64 x] 3))) := Lib.hid (G6.alloc _); replace own6 := Lib.hid own6; replace G6 := Lib.hid G6; replace fr6 := Lib.hid fr6; replace at6 := Lib.hid at6) | (refine stepAppRd E3 (by rfl) (by rfl) (by rfl) (by rfl) OB.out (hC.out.fr0 FB.out) (oneCell_ints (K.eraseIdx z)) (by omega) (by omega) (by simp <;> omega) q (by omega) ?_; intro a6 c6 w6 own6 fr6 at6; have G6 : Fr F0 w2 w6 := FB.out.trans fr6 (fun k hk hs => absurd (OB.out.blk _ hs).1 (by omega)); have y0 := G6.cell d3 id; have m1x := World.new_ne w6 _ y0; have O6 : Hid (Own w6 w2.heap.size 3 a6 q c6 (ints [] ++ ints (K.eraseIdx z))) := Lib.hid own6; have R6 : Hid (Rd w6 (some ⟨w2.heap.size + 1, 0, none⟩) 1 (ints [x])) := Lib.hid (RB.out.fr fr6 (fun k hk hs => by have h1 := (onBlk_some _ _ _ _).1 hk; have h2 := (onBlk_some _ _ _ _).1 hs; omega)); have F6 : Hid (Fr F0 w2 w6) := Lib.hid G6; replace own6 := Lib.hid own6; replace G6 := Lib.hid G6; replace fr6 := Lib.hid fr6; replace at6 := Lib.hid at6) | (refine stepAppRd E3 (by rfl) (by rfl) (by rfl) (by rfl) OC.out (hC.out.fr0 FC.out) (oneCell_ints (K.eraseIdx z)) (by omega) (by omega) (by simp <;> omega) q (by omega) ?_; intro a6 c6 w6 own6 fr6 at6; have G6 : Fr F0 w2 w6 := FC.out.trans fr6 (fun k hk hs => absurd (OC.out.blk _ hs).1 (by omega)); have y0 := G6.cell d3 id; have m1x := World.new_ne w6 _ y0; have O6 : Hid (Own w6 w2.heap.size 3 a6 q c6 (ints [] ++ ints (K.eraseIdx z))) := Lib.hid own6; have R6 : Hid (Rd w6 (some ⟨w2.heap.size, 0, none⟩) 1 (ints [x])) := Lib.hid (RC.out.fr fr6 (fun k hk hs => by have h1 := (onBlk_some _ _ _ _).1 hk; have h2 := (onBlk_some _ _ _ _).1 hs; omega)); have F6 : Hid (Fr F0 w2 w6) := Lib.hid G6; replace own6 := Lib.hid own6; replace G6 := Lib.hid G6; replace fr6 := Lib.hid fr6; replace at6 := Lib.hid at6) | (refine stepAppRd E3 (by rfl) (by rfl) (by rfl) (by rfl) O6.out R6.out (oneCell_ints [x]) (by omega) (by omega) (by have := G6.out.size; simp <;> omega) (q + 1) (by omega) ?_; intro a7 c7 w7 own7 fr7 at7; have G7 : Fr F0 w2 w7 := F6.out.trans fr7 (fun k hk hs => absurd (O6.out.blk _ hs).1 (by omega)); have z0 := G7.cell d3 id; replace own7 := Lib.hid own7; replace G7 := Lib.hid G7; replace at7 := Lib.hid at7; replace fr7 := Lib.hid fr7))
              all_goals
                have hF4 := Lib.hid (hF3.out.trans0 G7.out)
                have hc7 : Hid (q + 1 ≤ c7) := Lib.hid own7.out.cap
                have hR7 : Hid (Rd w7 a7 (q + 1) (ints (K.eraseIdx z ++ [x]))) := Lib.hid (by have h := own7.out.rd; simpa [ints] using h)
                go_wp2_with fail
                go_roundw
                case rel => exact ⟨k + 1, t + 1, q + 1, c7, a7, _, by omega, by go_num, by go_num, rfl, by omega, hq1, hc7.out, Hst, hR7, hF4.out⟩
                case measure => simp [intOf]; omega
        · rw [if_neg (by rw [hKl.out]; exact h2)] at hst
          have Hst := Lib.hid hst
          have hC := hO
          have d1 : ((n1 : Int) == (m : Int)) = false := by simp; omega
          have d2 : (n1 == m) = false := by simpa using h2
          have hn2 : n1 + 1 ≤ m := by omega
          clear hst hany h2 hx
          go_wp2_with (refine hcall.mono ?_; rintro e w2 ⟨rfl, rfl⟩)
          have FA : Hid (Fr F0 wr ((wr.alloc (.cells (#[] : Array Value) 3))).drew) := Lib.hid ((Fr.refl _ _).alloc _).drew
          have FB : Hid (Fr F0 wr (((wr.alloc (.cells (#[] : Array Value) 3)).alloc (.cells #[.int .i64 x] 3))).drew) := Lib.hid (((Fr.refl _ _).alloc _).alloc _).drew
          have FC : Hid (Fr F0 wr (((wr.alloc (.cells #[.int .i64 x] 3)).alloc (.cells (#[] : Array Value) 3))).drew) := Lib.hid (((Fr.refl _ _).alloc _).alloc _).drew
          have hO0 : Own (wr.alloc (.cells (#[] : Array Value) 3)) wr.heap.size 3 (some ⟨wr.heap.size, 0, none⟩) 0 0 (ints []) := Own.lit [] 0 rfl (by omega) (by omega)
          have OA : Hid (Own ((wr.alloc (.cells (#[] : Array Value) 3))).drew wr.heap.size 3 (some ⟨wr.heap.size, 0, none⟩) 0 0 (ints [])) := Lib.hid (hO0.fr0 (Fr.refl _ _).drew)
          have OB : Hid (Own (((wr.alloc (.cells (#[] : Array Value) 3)).alloc (.cells #[.int .i64 x] 3))).drew wr.heap.size 3 (some ⟨wr.heap.size, 0, none⟩) 0 0 (ints [])) := Lib.hid (hO0.fr0 ((Fr.refl _ _).alloc _).drew)
          have OC : Hid (Own (((wr.alloc (.cells #[.int .i64 x] 3)).alloc (.cells (#[] : Array Value) 3))).drew wr.heap.size 3 (some ⟨wr.heap.size + 1, 0, none⟩) 0 0 (ints [])) := Lib.hid (by
            have h : Own ((wr.alloc (.cells #[.int .i64 x] 3)).alloc (.cells (#[] : Array Value) 3)) wr.heap.size 3 (some ⟨(wr.alloc (.cells #[.int .i64 x] 3)).heap.size, 0, none⟩) 0 0 (ints []) := Own.lit [] 0 rfl (by simp) (by omega)
            have h2 := h.fr0 (Fr.refl _ _).drew
            simpa using h2)
          clear hO0
          have n1x := World.new_ne wr _ d
          have RB : Hid (Rd (((wr.alloc (.cells (#[] : Array Value) 3)).alloc (.cells #[.int .i64 x] 3))).drew (some ⟨wr.heap.size + 1, 0, none⟩) 1 (ints [x])) := Lib.hid (by
            have h := (Own.rd (Own.lit (w := wr.alloc (.cells (#[] : Array Value) 3)) (B := wr.heap.size) (T := 3) (ints [x]) 1 rfl (by simp) (by omega))).fr0 (Fr.refl F0 _).drew
            simpa using h)
          have RC : Hid (Rd (((wr.alloc (.cells #[.int .i64 x] 3)).alloc (.cells (#[] : Array Value) 3))).drew (some ⟨wr.heap.size, 0, none⟩) 1 (ints [x])) := Lib.hid (by
            have h := (Own.rd (Own.lit (w := wr) (B := wr.heap.size) (T := 3) (ints [x]) 1 rfl (by simp) (by omega))).fr0 (((Fr.refl F0 _).alloc (.cells (#[] : Array Value) 3)).drew)
            simpa using h)
          go_region_held3 (fun w' => w'.cell? ⟨b, o + k, none⟩ = some (.int .i64 x)) (go_keep)
            (first | (refine stepAppRd E3 (by rfl) (by rfl) (by rfl) (by rfl) OA.out (hC.out.fr0 FA.out) (oneCell_ints K) (by omega) (by omega) (by simp <;> omega) n1 (by omega) ?_; intro a6 c6 w6 own6 fr6 at6; have G6 : Fr F0 wr w6 := FA.out.trans fr6 (fun k hk hs => absurd (OA.out.blk _ hs).1 (by omega)); have y0 := G6.cell d id; have m1x := World.new_ne w6 _ y0; have O6 : Hid (Own (w6.alloc (.cells #[.int .i64 x] 3)) wr.heap.size 3 a6 n1 c6 (ints [] ++ ints K)) := Lib.hid (own6.alloc _); have R6 : Hid (Rd (w6.alloc (.cells #[.int .i64 x] 3)) (some ⟨w6.heap.size, 0, none⟩) 1 (ints [x])) := Lib.hid (Own.rd (Own.lit (w := w6) (B := w6.heap.size) (T := 3) (ints [x]) 1 rfl (by omega) (by omega))); have F6 : Hid (Fr F0 wr (w6.alloc (.cells #[.int .i64 x] 3))) := Lib.hid (G6.alloc _); replace own6 := Lib.hid own6; replace G6 := Lib.hid G6; replace fr6 := Lib.hid fr6; replace at6 := Lib.hid at6) | (refine stepAppRd E3 (by rfl) (by rfl) (by rfl) (by rfl) OB.out (hC.out.fr0 FB.out) (oneCell_ints K) (by omega) (by omega) (by simp <;> omega) n1 (by omega) ?_; intro a6 c6 w6 own6 fr6 at6; have G6 : Fr F0 wr w6 := FB.out.trans fr6 (fun k hk hs => absurd (OB.out.blk _ hs).1 (by omega)); have y0 := G6.cell d id; have m1x := World.new_ne w6 _ y0; have O6 : Hid (Own w6 wr.heap.size 3 a6 n1 c6 (ints [] ++ ints K)) := Lib.hid own6; have R6 : Hid (Rd w6 (some ⟨wr.heap.size + 1, 0, none⟩) 1 (ints [x])) := Lib.hid (RB.out.fr fr6 (fun k hk hs => by have h1 := (onBlk_some _ _ _ _).1 hk; have h2 := (onBlk_some _ _ _ _).1 hs; omega)); have F6 : Hid (Fr F0 wr w6) := Lib.hid G6; replace own6 := Lib.hid own6; replace G6 := Lib.hid G6; replace fr6 := Lib.hid fr6; replace at6 := Lib.hid at6) | (refine stepAppRd E3 (by rfl) (by rfl) (by rfl) (by rfl) OC.out (hC.out.fr0 FC.out) (oneCell_ints K) (by omega) (by omega) (by simp <;> omega) n1 (by omega) ?_; intro a6 c6 w6 own6 fr6 at6; have G6 : Fr F0 wr w6 := FC.out.trans fr6 (fun k hk hs => absurd (OC.out.blk _ hs).1 (by omega)); have y0 := G6.cell d id; have m1x := World.new_ne w6 _ y0; have O6 : Hid (Own w6 wr.heap.size 3 a6 n1 c6 (ints [] ++ ints K)) := Lib.hid own6; have R6 : Hid (Rd w6 (some ⟨wr.heap.size, 0, none⟩) 1 (ints [x])) := Lib.hid (RC.out.fr fr6 (fun k hk hs => by have h1 := (onBlk_some _ _ _ _).1 hk; have h2 := (onBlk_some _ _ _ _).1 hs; omega)); have F6 : Hid (Fr F0 wr w6) := Lib.hid G6; replace own6 := Lib.hid own6; replace G6 := Lib.hid G6; replace fr6 := Lib.hid fr6; replace at6 := Lib.hid at6) | (refine stepAppRd E3 (by rfl) (by rfl) (by rfl) (by rfl) O6.out R6.out (oneCell_ints [x]) (by omega) (by omega) (by have := G6.out.size; simp <;> omega) (n1 + 1) (by omega) ?_; intro a7 c7 w7 own7 fr7 at7; have G7 : Fr F0 wr w7 := F6.out.trans fr7 (fun k hk hs => absurd (O6.out.blk _ hs).1 (by omega)); have z0 := G7.cell d id; replace own7 := Lib.hid own7; replace G7 := Lib.hid G7; replace at7 := Lib.hid at7; replace fr7 := Lib.hid fr7))
          all_goals
            have hF2 := Lib.hid (hF.trans0 G7.out)
            have hc7 : Hid (n1 + 1 ≤ c7) := Lib.hid own7.out.cap
            have hR7 : Hid (Rd w7 a7 (n1 + 1) (ints (K ++ [x]))) := Lib.hid (by have h := own7.out.rd; simpa [ints] using h)
            go_wp2_with fail
            go_roundw
            case rel => exact ⟨k + 1, t + 1, n1 + 1, c7, a7, _, by omega, by go_num, by go_num, rfl, by omega, hn2, hc7.out, Hst, hR7, hF2.out⟩
            case measure => simp [intOf]; omega
    · obtain rfl : k = n := by omega
      have E : Hid (optN l m = t) := Lib.hid (by unfold optN; rw [Hll.out, hK.out])
      go_wp2_with fail
      go_ret
      exact ⟨ret_int (by rw [E.out]), hF⟩
end Go.Proofs.Ytnlgjpcnnnilpaa
