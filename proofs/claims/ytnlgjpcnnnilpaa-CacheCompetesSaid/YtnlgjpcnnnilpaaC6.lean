/- Optimal. -/
import Derived.Test.YtnlgjpcnnnilpaaC5
import Derived.Test.YtnlgjpcnnnilpaaM1
namespace Go.Proofs.Ytnlgjpcnnnilpaa
open Go.RowKit
attribute [local go_sem ↓] Go.wp_at_zero Go.wp_at_succ

theorem size_alloc (w : World) (o : Obj) : (w.alloc o).heap.size = w.heap.size + 1 := by simp
theorem under50 : Try.prog.underlying 50 = some (.map 3 3) := by kernel_rfl
/-- 'make([]T, 0, n)'. -/
theorem run_mk0 {P : Program} {t T : TypeId} {z : Value} {bytes : Nat} (E : Elem1 P t T z bytes) (hz : z.cells = #[z]) (n : Nat) (hlen : bytes * n ≤ 281474976710656) (hmax : n ≤ 9223372036854775807) (w : World) :
    (Instr.makeSlice t (.int .i64 0) (.int .i64 n)).run P w = .ok (.slice (some ⟨w.heap.size, 0, none⟩) 0 n) (w.alloc (.cells (Array.replicate n z) T)) := by
  obtain ⟨E1, E2, E3⟩ := E
  obtain ⟨i0, hi, hz0, hz1, hz2⟩ := info_parts E2
  have hb : (i0.bytes : Int) * (n : Int) ≤ 281474976710656 := by
    have h : ((bytes * n : Nat) : Int) ≤ 281474976710656 := by omega
    rw [hz2]
    rwa [Int.natCast_mul] at h
  have h := run_make (P := P) w t T i0 z E1 hi hz0 .i64 .i64 0 n (by omega) (by omega) hb (by omega)
  rw [h, hz1, hz]
  have e : madeCells #[z] ((n : Int).toNat * 1) = Array.replicate n z := by
    simp [madeCells]
    apply Array.ext <;> simp [Nat.mod_one]
  rw [e]; simp
theorem Own.made0 {w : World} {B : Nat} {T : TypeId} {z : Value} (n : Nat) (hB : B ≤ w.heap.size) (hmax : n ≤ 9223372036854775807) :
    Own (w.alloc (.cells (Array.replicate n z) T)) B T (some ⟨w.heap.size, 0, none⟩) 0 n [] := by
  exact ⟨rfl, .inr ⟨w.heap.size, n, Array.replicate n z, rfl, hB, heap_alloc_new _ _, by omega, hmax, by rw [Array.size_replicate, Nat.mul_one], by simp⟩⟩
/-- What 'last' holds. -/
def gL (l : List Int) (j : Nat) : Int → Option Value := fun b => if nx l j b < l.length then some (.int .i64 (nx l j b)) else none
theorem gL_end (l : List Int) : gL l l.length = fun _ => none := by
  funext b; unfold gL; rw [nx_end, if_neg (by omega)]
theorem gL_step {l : List Int} {q : Nat} {x : Int} (h : l[q]? = some x) : setV (gL l (q + 1)) x (some (.int .i64 q)) = gL l q := by
  funext b
  have hq := (List.getElem?_eq_some_iff.1 h).1
  by_cases e : b = x
  · subst e; rw [setV_same]; unfold gL; rw [nx_hit h, if_pos hq]
  · rw [setV_other e]; unfold gL; rw [nx_miss h (fun e' => e e'.symm)]
/-- The next references, from index j on. -/
def isN (l : List Int) (j : Nat) (N : List Int) : Prop := N.length = l.length ∧ ∀ q, j ≤ q → q < l.length → N[q]? = some (nx l (q + 1) (l.getD q 0) : Int)
theorem isN_step {l : List Int} {q : Nat} {x : Int} {N : List Int} (h : l[q]? = some x) (hN : isN l (q + 1) N) : isN l q (N.set q (nx l (q + 1) x)) := by
  have hq := (List.getElem?_eq_some_iff.1 h).1
  have e : l.getD q 0 = x := by rw [List.getD_eq_getElem?_getD, h]; rfl
  refine ⟨by simpa using hN.1, fun p h1 h2 => ?_⟩
  by_cases hp : p = q
  · subst hp; rw [List.getElem?_set_self (by rw [hN.1]; exact hq), e]
  · rw [List.getElem?_set_ne (fun h => hp h.symm)]; exact hN.2 p (by omega) h2
/-- The uses, as the program keeps them. -/
abbrev usI (l : List Int) (k : Nat) (B : List Int) : List Int := B.map fun c => (nx l k c : Int)
theorem usI_hit {l : List Int} {k : Nat} {x : Int} {B : List Int} (hx : l[k]? = some x) (hn : B.Nodup) {j : Nat} (hj : B[j]? = some x) : (usI l k B).set j (nx l (k + 1) x : Int) = usI l (k + 1) B := by
  have h := congrArg (List.map fun n : Nat => (n : Int)) (uses_step hx hn hj)
  simpa [List.map_set, List.map_map, Function.comp_def] using h
theorem usI_keep {l : List Int} {k : Nat} {x : Int} {B : List Int} (hx : l[k]? = some x) (hB : B.any (· == x) = false) : usI l (k + 1) B = usI l k B := by
  have h := congrArg (List.map fun n : Nat => (n : Int)) (map_keep hx hB)
  simpa [List.map_map, Function.comp_def] using h
theorem usI_room {l : List Int} {k n1 : Nat} {x : Int} {B : List Int} (hx : l[k]? = some x) (hB : B.any (· == x) = false) (hl : B.length = n1) : (usI l k B ++ [0]).set n1 (nx l (k + 1) x : Int) = usI l (k + 1) (B ++ [x]) := by
  unfold usI
  rw [List.map_append]
  have := usI_keep hx hB
  unfold usI at this
  rw [this]
  rw [List.set_append_right _ _ (by simp [hl])]
  simp [hl]
theorem usI_full {l : List Int} {k j : Nat} {x : Int} {B : List Int} (hx : l[k]? = some x) (hB : B.any (· == x) = false) : (usI l k B).set j (nx l (k + 1) x : Int) = usI l (k + 1) (B.set j x) := by
  unfold usI
  rw [List.map_set]
  have := usI_keep hx hB
  unfold usI at this
  rw [this]
theorem usI_get {l : List Int} {k : Nat} {B : List Int} {V : List Nat} (hV : V = B.map (nx l k)) {j : Nat} {y : Int} (h : (usI l k B)[j]? = some y) : y = (V.getD j 0 : Nat) := by
  rw [hV, List.getD_eq_getElem?_getD, List.getElem?_map]
  unfold usI at h
  rw [List.getElem?_map] at h
  obtain ⟨c, hc, rfl⟩ := Option.map_eq_some_iff.1 h
  rw [hc]; rfl
theorem Optimal_bad (a : Option Addr) (n c : Nat) (l : List Int) (m : Int) (w : World) (hr : Rd w a n (ints l)) (hz : ¬ chk l m = 0) :
    Calls Try.prog 11 #[.slice a n c, .int .i64 m] w fun e w' => e = .returned (.tuple #[.int .i64 0, .int .i64 (chk l m)]) ∧ w = w' := by
  have hck := check_any a n c l m w hr
  obtain ⟨z, hzz⟩ : ∃ z, z = chk l m := ⟨_, rfl⟩
  rw [← hzz] at hck ⊢
  have e0 : (z != 0) = true := by rw [hzz]; simpa using hz
  clear hz hzz
  go_enter Try.func11, Try.ntmps11
  go_wp2_with (refine hck.mono ?_; rintro e w' ⟨rfl, rfl⟩)
  go_ret2
  exact ⟨rfl, rfl⟩
set_option maxRecDepth 100000 in
set_option maxHeartbeats 8000000 in
theorem Optimal_any (a : Option Addr) (n c m : Nat) (l : List Int) (w : World) (hr : Rd w a n (ints l)) (hz : chk l m = 0) :
    Calls Try.prog 11 #[.slice a n c, .int .i64 m] w fun e w' => e = .returned (.tuple #[.int .i64 (optN l m), .int .i64 0]) ∧ Fr F0 w w' := by
  have hck := check_any a n c l m w hr
  rw [hz] at hck
  obtain ⟨hlb, hm, hm2, hn⟩ := chk_ok hz
  have hll : l.length = n := by simpa using hr.len
  have hmm := @run_makeMap Try.prog
  have hm0 : 1 ≤ m := by omega
  have hm1 : m ≤ 1000 := by omega
  have hn0 : n ≤ 65536 := by omega
  have hmk := run_mk E3 rfl n (by omega) (by omega) w
  have O1 : Hid (Own ((w.alloc (.cells (Array.replicate n (.int .i64 0)) 3)).alloc (.map #[] 0)) w.heap.size 3 (some ⟨w.heap.size, 0, none⟩) n n (ints (List.replicate n 0))) := Lib.hid (by
    have h := (Own.made (w := w) (B := w.heap.size) (T := 3) (z := .int .i64 0) n (by omega) (by omega)).alloc (.map #[] 0)
    simpa [ints] using h)
  have M1 : Hid (MapV ((w.alloc (.cells (Array.replicate n (.int .i64 0)) 3)).alloc (.map #[] 0)) 3 (w.heap.size + 1) 0 (gL l n)) := Lib.hid (by
    have h := MapV.made (w.alloc (.cells (Array.replicate n (.int .i64 0)) 3)) 3
    rw [size_alloc] at h
    have e := gL_end l
    rw [hll] at e
    rw [e]; exact h)
  have F1 : Fr F0 w ((w.alloc (.cells (Array.replicate n (.int .i64 0)) 3)).alloc (.map #[] 0)) := ((Fr.refl _ _).alloc _).alloc _
  have HN1 : Hid (isN l n (List.replicate n 0)) := Lib.hid ⟨by simp [hll], fun q h1 h2 => by omega⟩
  have Hr := Lib.hid hr
  have Hll := Lib.hid hll
  have Hlb := Lib.hid hlb
  obtain ⟨bn, hbn⟩ : ∃ bn, bn = w.heap.size := ⟨_, rfl⟩
  obtain ⟨bm, hbm⟩ : ∃ bm, bm = w.heap.size + 1 := ⟨_, rfl⟩
  have hbnm : bn < bm := by omega
  rw [← hbn] at O1
  rw [← hbm] at M1
  have Hbn := Lib.hid hbn
  clear hz hlb hm hm2 hn hll hr
  go_enter Try.func11, Try.ntmps11
  go_wp2_with (refine hck.mono ?_; rintro e w' ⟨rfl, rfl⟩)
  rw [← hbm, ← hbn]
  clear hbm hbn hck hmk
  go_loopw [9, 10, 11] (fun s9 _ _ wr => ∃ (j cnt : Nat) (z : Int) (N : List Int), j ≤ n ∧ s9 = .int .i64 z ∧ z + 1 ≤ (j : Int) ∧ (j : Int) ≤ z + 1 ∧ cnt + j ≤ n ∧ Hid (isN l j N) ∧ Hid (Own wr bn 3 (some ⟨bn, 0, none⟩) n n (ints N)) ∧ Hid (MapV wr 3 bm cnt (gL l j)) ∧ Fr F0 w wr) (fun s9 _ _ _ => (intOf s9 + 1).toNat)
  case atStart => exact ⟨n, 0, (n : Int) - 1, _, by omega, rfl, by omega, by omega, by omega, HN1, O1, M1, F1⟩
  case round =>
    clear F1 M1 O1 HN1
    obtain ⟨j, cnt, z, N, hj, rfl, hz1, hz2, hcnt, hN, hO, hM, hF⟩ := hrel
    by_cases hj0 : 0 < j
    · obtain ⟨q, rfl⟩ : ∃ q, j = q + 1 := ⟨j - 1, by omega⟩
      obtain rfl : z = (q : Int) := by omega
      obtain ⟨b, o, x, hb, hx, d⟩ := (Hr.out.fr0 hF).ix (i := q) (by omega)
      have hxb := Hlb.out x (List.mem_of_getElem? hx)
      have hwx : wfI x := wfI_of (by omega) (by omega)
      obtain ⟨⟨y0, hy0, hyn⟩, hfz⟩ := own_facts hO.out (v := q) (by omega)
      have hbl : b < w.heap.size := (Hr.out.lt (by omega)) b (by rw [hb]; exact (onBlk_some _ _ _ _).2 rfl)
      have Fs : Fr (onB bn) wr (wr.setCell ⟨bn, q, none⟩ (.int .i64 n)) := (Fr.refl _ _).setB q _
      have hl1 := (hM.out.fr Fs (fun h => by have e : bm = bn := h; omega)).look_ok under50 plainI hwx
      have d2 := Fs.cell d (fun h => by have e : b = bn := h; have := Hbn.out; omega)
      have O2 := Lib.hid (hO.out.set (i := q) (.int .i64 n))
      have M2 := Lib.hid (hM.out.fr Fs (fun h => by have e : bm = bn := h; omega))
      have F2 : Fr F0 w (wr.setCell ⟨bn, q, none⟩ (.int .i64 n)) := hF.trans Fs (fun k hk h => by have e : k = bn := h; have := Hbn.out; omega)
      have hnx := nx_le (l := l) (i := q + 1) x (by rw [Hll.out]; omega)
      rw [Hll.out] at hnx
      have Hwx := Lib.hid hwx
      have Hx := Lib.hid hx
      have i0 : (0 : Int) ≤ (q : Int) := by omega
      have i1 : (q : Int) < (n : Int) := by omega
      have hwq := Lib.hid (wfI_of (k := (q : Int)) (by omega) (by omega))
      have hN2 := Lib.hid (isN_step hx hN.out)
      have hg2 := Lib.hid (gL_step hx)
      obtain ⟨v, hv⟩ : ∃ v, v = nx l (q + 1) x := ⟨_, rfl⟩
      rw [← hv] at hnx hN2
      subst hb
      by_cases hvn : v < n
      · have hg : gL l (q + 1) x = some (.int .i64 v) := by unfold gL; rw [Hll.out, ← hv, if_pos hvn]
        rw [hg] at hl1
        simp only [Option.getD_some, Option.isSome_some] at hl1
        have Hg := Lib.hid hg
        have O3 := Lib.hid (O2.out.set (i := q) (.int .i64 v))
        have Fs2 : Fr (onB bn) (wr.setCell ⟨bn, q, none⟩ (.int .i64 n)) ((wr.setCell ⟨bn, q, none⟩ (.int .i64 n)).setCell ⟨bn, q, none⟩ (.int .i64 v)) := (Fr.refl _ _).setB q _
        have d3 := Fs2.cell d2 (fun h => by have e : b = bn := h; have := Hbn.out; omega)
        have M3 := Lib.hid (M2.out.fr Fs2 (fun h => by have e : bm = bn := h; omega))
        have F3 := Lib.hid (F2.trans Fs2 (fun k hk h => by have e : k = bn := h; have := Hbn.out; omega))
        clear hwx hx hxb hyn hv hg hM O2 M2 F2 Fs Fs2
        go_wp2_with (refine wpMapStore M3.out under50 (by omega) Hwx.out ⟨_, plainElem_int (by kernel_rfl) hwq.out⟩ rfl rfl rfl ?_; intro w2 hM2 hF2; rw [Hg.out, if_pos Option.isSome_some, hg2.out] at hM2)
        have hF4 := F3.out.trans hF2 (fun k hk h => by have e : k = bm := h; have := Hbn.out; omega)
        have O4 := Lib.hid (O3.out.fr hF2 (fun k hk h => by have e : k = bm := h; have := (onBlk_some _ _ _ _).1 hk; omega))
        have M4 := Lib.hid hM2
        clear hF2 hM2 hl1 d2 d3
        exact ⟨⟨q, cnt, (q : Int) - 1, _, by omega, rfl, by omega, by omega, by omega, hN2, Lib.hid (by have h := O4.out; simpa [ints, List.map_set] using h), M4, hF4⟩, by simp [intOf]⟩
      · have hg : gL l (q + 1) x = none := by unfold gL; rw [Hll.out, ← hv, if_neg hvn]
        have hvn2 : v = n := by omega
        rw [hg] at hl1
        simp only [Option.getD_none, Option.isSome_none] at hl1
        have Hg := Lib.hid hg
        replace hN2 : Hid (isN l q (N.set q (n : Int))) := Lib.hid (by rw [← hvn2]; exact hN2.out)
        clear hwx hx hxb hyn hv hg hM Fs hvn hvn2 hnx
        go_wp2_with (refine wpMapStore M2.out under50 (by omega) Hwx.out ⟨_, plainElem_int (by kernel_rfl) hwq.out⟩ rfl rfl rfl ?_; intro w2 hM2 hF2; rw [Hg.out, if_neg (by decide), hg2.out] at hM2)
        have hF4 := F2.trans hF2 (fun k hk h => by have e : k = bm := h; have := Hbn.out; omega)
        have O4 := Lib.hid (O2.out.fr hF2 (fun k hk h => by have e : k = bm := h; have := (onBlk_some _ _ _ _).1 hk; omega))
        have M4 := Lib.hid hM2
        clear hF2 hM2 hl1 d2
        exact ⟨⟨q, cnt + 1, (q : Int) - 1, _, by omega, rfl, by omega, by omega, by omega, hN2, Lib.hid (by have h := O4.out; simpa [ints, List.map_set] using h), M4, hF4⟩, by simp [intOf]⟩
    · have hj : j = 0 := by omega
      subst hj
      clear hM
      have k1 : ∀ w, (Instr.makeSlice 22 (.int .i64 0) (.int .i64 m)).run Try.prog w = .ok (.slice (some ⟨w.heap.size, 0, none⟩) 0 m) (w.alloc (.cells (Array.replicate m (.int .i64 0)) 3)) := run_mk0 E3 rfl m (by omega) (by omega)
      have hRN : Hid (Rd wr (some ⟨bn, 0, none⟩) n (ints N)) := Lib.hid hO.out.rd
      obtain ⟨wo, hwo⟩ : ∃ wo : World, wo = wr := ⟨_, rfl⟩
      rw [← hwo] at hF hRN
      simp only [← hwo]
      have hB2 : Hid (bn < wo.heap.size) := Lib.hid (by rw [hwo]; exact (hO.out.blk bn ((onBlk_some _ _ _ _).2 rfl)).2)
      have hwB : Hid (w.heap.size ≤ wo.heap.size) := Lib.hid hF.size
      clear hwo hO
      have FF : Fr F0 wo ((wo.alloc (.cells (Array.replicate m (.int .i64 0)) 3)).alloc (.cells (Array.replicate m (.int .i64 0)) 3)).drew := (((Fr.refl _ _).alloc _).alloc _).drew
      have OA : Hid (Own ((wo.alloc (.cells (Array.replicate m (.int .i64 0)) 3)).alloc (.cells (Array.replicate m (.int .i64 0)) 3)).drew wo.heap.size 3 (some ⟨wo.heap.size, 0, none⟩) 0 m (ints [])) := Lib.hid (((Own.made0 (z := .int .i64 0) m (by omega) (by omega)).alloc _).fr0 (Fr.refl _ _).drew)
      have OB : Hid (Own ((wo.alloc (.cells (Array.replicate m (.int .i64 0)) 3)).alloc (.cells (Array.replicate m (.int .i64 0)) 3)).drew wo.heap.size 3 (some ⟨wo.heap.size + 1, 0, none⟩) 0 m (ints [])) := Lib.hid (by
        have h := (Own.made0 (w := wo.alloc (.cells (Array.replicate m (.int .i64 0)) 3)) (B := wo.heap.size) (T := 3) (z := .int .i64 0) m (by simp) (by omega)).fr0 (Fr.refl _ _).drew
        rwa [size_alloc] at h)
      have F5 := Lib.hid (hF.trans0 FF)
      have sz5 := FF.size
      have RN5 := Lib.hid (hRN.out.fr0 FF)
      have apAB : Hid (Apart (some ⟨wo.heap.size, 0, none⟩) (some ⟨wo.heap.size + 1, 0, none⟩)) := Lib.hid (fun k h1 h2 => by have := (onBlk_some _ _ _ _).1 h1; have := (onBlk_some _ _ _ _).1 h2; omega)
      have apBA := Lib.hid apAB.out.symm
      replace hN := Lib.hid hN.out
      clear FF hF hRN
      go_wp2_with fail
      go_region_held3 (fun _ => True) (trivial) (fail)
      all_goals
        go_wp2_with fail
        go_loopw [12, 13, 14, 15, 16, 17, 18, 19, 68] (fun s12 s13 s14 _ _ _ _ _ s68 wr => ∃ (k t n1 c1 c2 : Nat) (ab au : Option Addr) (B : List Int), k ≤ n ∧ s68 = .int .i64 k ∧ s14 = .int .i64 t ∧ s12 = .slice ab n1 c1 ∧ s13 = .slice au n1 c2 ∧ t ≤ k ∧ n1 ≤ m ∧ Hid (pS l m k = (B, t)) ∧ Hid (Own wr wo.heap.size 3 ab n1 c1 (ints B)) ∧ Hid (Own wr wo.heap.size 3 au n1 c2 (ints (usI l k B))) ∧ Hid (Apart ab au) ∧ Hid (Rd wr (some ⟨bn, 0, none⟩) n (ints N)) ∧ wo.heap.size ≤ wr.heap.size ∧ Fr F0 w wr) (fun _ _ _ _ _ _ _ _ s68 _ => n - (intOf s68).toNat)
        case atStart => exact ⟨0, 0, 0, m, m, _, _, [], by omega, rfl, rfl, rfl, rfl, by omega, by omega, Lib.hid rfl, by first | exact OA | exact OB, by first | exact OB | exact OA, by first | exact apAB | exact apBA, RN5, sz5, F5.out⟩
        case round =>
          clear F5 RN5 sz5
          obtain ⟨k, t, n1, c1, c2, ab, au, B, hk, rfl, rfl, rfl, rfl, ht, hn1, hS, hOb, hOu, hap, hRN, hsz, hF⟩ := hrel
          by_cases hlt : k < n
          · obtain ⟨b, o, x, hb, hx, d⟩ := (Hr.out.fr0 hF).ix hlt
            have hcall := Index_any ab n1 c1 B x wr hOb.out.rd
            have hBl : Hid (B.length = n1) := Lib.hid (by simpa using hOb.out.len)
            obtain ⟨v, hv⟩ : ∃ v, v = nx l (k + 1) x := ⟨_, rfl⟩
            obtain ⟨b9, o9, hb9, hc9⟩ := hRN.out.cells (by omega)
            injection hb9 with hb9
            injection hb9 with e8 e9
            subst e8
            subst e9
            have dN := hc9 k (.int .i64 v) (by
              have h := hN.out.2 k (by omega) (by rw [Hll.out]; exact hlt)
              rw [List.getElem?_map, h, List.getD_eq_getElem?_getD, hx, hv]
              rfl)
            rw [Nat.zero_add] at dN
            have hvn : v ≤ n := by have := (nx_le (l := l) (i := k + 1) x (by rw [Hll.out]; omega)).2; rw [Hll.out] at this; omega
            have hnd : Hid B.Nodup := Lib.hid (by have h := pS_nodup l m k; rw [hS.out] at h; exact h)
            have i0 : (0 : Int) ≤ (k : Int) := by omega
            have i1 : (k : Int) < (n : Int) := by omega
            have Hv := Lib.hid hv
            have Hx := Lib.hid hx
            subst hb
            clear hc9 hv hx
            cases hany : B.any (· == x) with
            | true =>
              obtain ⟨j, hj, hidx, hjx, hjf⟩ := idxI_at hany
              clear hjf
              rw [hidx] at hcall
              rw [hBl.out] at hj
              have hS2 := Lib.hid (pS_hit hS.out Hx.out hany)
              obtain ⟨g, hg, hgb, hgl, hgc, hgf⟩ := hOu.out.at (by omega)
              subst hg
              obtain ⟨⟨y0, hy0, _⟩, hfz⟩ := own_facts hOu.out (v := j) hj
              have hU2 : Hid (Own (wr.setCell ⟨g, j, none⟩ (.int .i64 v)) wo.heap.size 3 (some ⟨g, 0, none⟩) n1 c2 (ints (usI l (k + 1) B))) := Lib.hid (by
                have h := hOu.out.set (i := j) (.int .i64 v)
                rw [← usI_hit Hx.out hnd.out hjx, ← Hv.out]
                simpa [ints, List.map_set] using h)
              have Fg : Fr (onB g) wr (wr.setCell ⟨g, j, none⟩ (.int .i64 v)) := (Fr.refl _ _).setB j _
              have hgn := Lib.hid hgb
              have hB3 := Lib.hid (hOb.out.fr Fg (fun k hk h => by have e : k = g := h; exact hap.out k hk (by rw [e]; exact (onBlk_some _ _ _ _).2 rfl)))
              have hN3 := Lib.hid (hRN.out.fr Fg (fun k hk h => by have e : k = g := h; have := (onBlk_some _ _ _ _).1 hk; have := hB2.out; omega))
              have hF3 := Lib.hid (hF.trans Fg (fun k hk h => by have e : k = g := h; have := hwB.out; omega))
              have j0 : (0 : Int) ≤ (j : Int) := by omega
              have j1 : (j : Int) < (n1 : Int) := by omega
              clear hany hidx hjx hgc hgf hgb Fg
              go_wp2_with (refine hcall.mono ?_; rintro e w2 ⟨rfl, rfl⟩)
              exact ⟨⟨k + 1, t, n1, c1, c2, ab, _, B, by omega, by go_num, rfl, rfl, rfl, by omega, hn1, hS2, hB3, hU2, hap, hN3, by simpa using hsz, hF3.out⟩, by simp [intOf]; omega⟩
            | false =>
              rw [idxI_miss hany] at hcall
              by_cases h2 : n1 < m
              · have hS2 := Lib.hid (pS_room hS.out Hx.out hany (by rw [hBl.out]; exact h2))
                have hU2 := Lib.hid (usI_room Hx.out hany hBl.out)
                have hn2 : n1 + 1 ≤ m := by omega
                have hbB := Lib.hid hOb.out.blk
                have hbU := Lib.hid hOu.out.blk
                have j0 : (0 : Int) ≤ (n1 : Int) := by omega
                have j1 : (n1 : Int) < (n1 : Int) + 1 := by omega
                have hnB : Hid (¬ onBlk ab bn) := Lib.hid (fun h => by have := (hOb.out.blk _ h).1; have := hB2.out; omega)
                have hnU : Hid (¬ onBlk au bn) := Lib.hid (fun h => by have := (hOu.out.blk _ h).1; have := hB2.out; omega)
                clear hany
                go_wp2_with (first | (refine hcall.mono ?_; rintro e w2 ⟨rfl, rfl⟩) | (at_builtin; refine wpAppAt E3 hOb.out (by omega) (by omega) hsz rfl rfl rfl ?_; intro a1 c3 w1 own1 fr1 at1; have dN1 := fr1.cell dN hnB.out; have hU1 := Lib.hid (hOu.out.fr fr1 (fun k hk h => hap.out k h hk)); have ap1 := Lib.hid (Apart.app hap.out at1 (fun k hk => (hbU.out k hk).2)); have hN1 := Lib.hid (hRN.out.fr fr1 (fun k hk h => by rw [(onBlk_some _ _ _ _).1 hk] at h; exact hnB.out h)); have hF1 := Lib.hid (hF.trans fr1 (fun k hk h => absurd (hbB.out k h).1 (by have := hwB.out; omega))); have hsz1 := Nat.le_trans hsz fr1.size; have O1' := Lib.hid own1; have hb1 := Lib.hid own1.blk; clear own1 fr1 at1) | (at_builtin; refine wpAppAt E3 hU1.out (by omega) (by omega) hsz1 rfl rfl rfl ?_; intro a2 c4 w2 own2 fr2 at2; have dN2 := fr2.cell dN1 hnU.out; have ap2 := Lib.hid (Apart.app ap1.out.symm at2 (fun k hk => (hb1.out k hk).2)).symm; have hB2' := Lib.hid (O1'.out.fr fr2 ap1.out); have hN2 := Lib.hid (hN1.out.fr fr2 (fun k hk h => by rw [(onBlk_some _ _ _ _).1 hk] at h; exact hnU.out h)); have hF2 := Lib.hid (hF1.out.trans fr2 (fun k hk h => absurd (hbU.out k h).1 (by have := hwB.out; omega))); have hsz2 := Nat.le_trans hsz1 fr2.size; have own2' : Own w2 wo.heap.size 3 a2 (n1 + 1) c4 (ints (usI l k B ++ [0])) := (by simpa [ints] using own2); obtain ⟨g2, hg2, hgb2, _⟩ := own2'.at (by omega); subst hg2; obtain ⟨⟨y2, hy2, _⟩, hfz2⟩ := own_facts own2' (v := n1) (by omega); have O2' := Lib.hid own2'; clear own2 own2' fr2 at2))
                have hU3 : Hid (Own (w2.setCell ⟨g2, n1, none⟩ (.int .i64 v)) wo.heap.size 3 (some ⟨g2, 0, none⟩) (n1 + 1) c4 (ints (usI l (k + 1) (B ++ [x])))) := Lib.hid (by
                  have h := O2'.out.set (i := n1) (.int .i64 v)
                  have e : ints ((usI l k B ++ [0]).set n1 (v : Int)) = (ints (usI l k B ++ [0])).set n1 (.int .i64 v) := List.map_set
                  rw [← hU2.out, ← Hv.out, e]
                  exact h)
                have Fg : Fr (onB g2) w2 (w2.setCell ⟨g2, n1, none⟩ (.int .i64 v)) := (Fr.refl _ _).setB n1 _
                have hB3 := Lib.hid (hB2'.out.fr Fg (fun k hk h => by have e : k = g2 := h; exact ap2.out k hk (by rw [e]; exact (onBlk_some _ _ _ _).2 rfl)))
                have hN3 := Lib.hid (hN2.out.fr Fg (fun k hk h => by have e : k = g2 := h; have := (onBlk_some _ _ _ _).1 hk; have := hB2.out; omega))
                have hF3 := Lib.hid (hF2.out.trans Fg (fun k hk h => by have e : k = g2 := h; have := hwB.out; omega))
                exact ⟨⟨k + 1, t + 1, n1 + 1, c3, c4, a1, _, B ++ [x], by omega, by go_num, by go_num, rfl, rfl, by omega, hn2, hS2, Lib.hid (by have h := hB3.out; simpa [ints] using h), hU3, ap2, hN3, by simpa using hsz2, hF3.out⟩, by simp [intOf]; omega⟩
              · have hS2 := pS_full hS.out Hx.out hany (by rw [hBl.out]; exact h2)
                rw [hBl.out] at hS2
                have hfl := fun j => usI_full (j := j) Hx.out hany
                have hn0' : 0 < n1 := by omega
                obtain ⟨V, hV⟩ : ∃ V, V = B.map (nx l k) := ⟨_, rfl⟩
                rw [← hV] at hS2
                have HV := Lib.hid hV
                have HS2 := Lib.hid hS2
                have Hfl := Lib.hid hfl
                obtain ⟨gb, hgb, hgb1, _, _, _⟩ := hOb.out.at hn0'
                obtain ⟨gu, hgu, hgu1, _, _, _⟩ := hOu.out.at hn0'
                subst hgb
                subst hgu
                have hgg : gb ≠ gu := fun e => hap.out gb ((onBlk_some _ _ _ _).2 rfl) (by rw [e]; exact (onBlk_some _ _ _ _).2 rfl)
                clear hany hS2 hV hfl
                go_wp2_with (refine hcall.mono ?_; rintro e w2 ⟨rfl, rfl⟩)
                obtain ⟨wi, hwi⟩ : ∃ wi : World, wi = wr := ⟨_, rfl⟩
                rw [← hwi] at hOb hOu hRN hsz hF d dN
                clear hcall
                rw [← hwi]
                clear hwi
                go_loop [17, 18, 19, 78] (fun s17 _ _ s78 => ∃ (j z : Nat), j ≤ n1 ∧ s78 = .int .i64 j ∧ s17 = .int .i64 z ∧ z < n1 ∧ Hid (z = amax V j)) (fun _ _ _ s78 => n1 - (intOf s78).toNat)
                case atStart => exact ⟨0, 0, by omega, rfl, rfl, hn0', Lib.hid rfl⟩
                case round =>
                  obtain ⟨j, z2, hj, rfl, rfl, hz, hzm⟩ := hrel
                  by_cases hlt2 : j < n1
                  · obtain ⟨⟨y1, hy1, he1⟩, _⟩ := own_facts hOu.out (v := j) hlt2
                    obtain ⟨⟨y2, hy2, he2⟩, _⟩ := own_facts hOu.out (v := z2) hz
                    have e1 := usI_get HV.out he1
                    have e2 := usI_get HV.out he2
                    have hstep : amax V (j + 1) = if y2 < y1 then j else z2 := by
                      rw [amax, ← hzm.out]
                      by_cases h : y2 < y1
                      · rw [if_pos h, if_pos (by omega)]
                      · rw [if_neg h, if_neg (by omega)]
                    have i4 : (0 : Int) ≤ (j : Int) := by omega
                    have i5 : (j : Int) < (n1 : Int) := by omega
                    have i6 : (0 : Int) ≤ (z2 : Int) := by omega
                    have i7 : (z2 : Int) < (n1 : Int) := by omega
                    clear he1 he2 e1 e2
                    by_cases h3 : y2 < y1
                    · rw [if_pos h3] at hstep
                      have Hst := Lib.hid hstep
                      clear hstep
                      go_wp2_with fail
                      go_round
                      case rel => exact ⟨j + 1, j, by omega, by go_num, rfl, hlt2, Lib.hid Hst.out.symm⟩
                      case measure => simp [intOf]; omega
                    · rw [if_neg h3] at hstep
                      have Hst := Lib.hid hstep
                      clear hstep
                      go_wp2_with fail
                      go_round
                      case rel => exact ⟨j + 1, z2, by omega, by go_num, rfl, hz, Lib.hid Hst.out.symm⟩
                      case measure => simp [intOf]; omega
                  · obtain rfl : j = n1 := by omega
                    rw [← hzm.out] at HS2
                    obtain ⟨⟨y3, hy3, _⟩, hfz3⟩ := own_facts hOb.out (v := z2) hz
                    obtain ⟨⟨y4, hy4, _⟩, hfz4⟩ := own_facts hOu.out (v := z2) hz
                    have Fa : Fr (onB gb) wi (wi.setCell ⟨gb, z2, none⟩ (.int .i64 x)) := (Fr.refl _ _).setB z2 _
                    have dN2 := Fa.cell dN (fun h => by have e : bn = gb := h; have := hB2.out; omega)
                    have hy5 := Fa.cell hy4 (fun h => by have e : gu = gb := h; exact hgg e.symm)
                    have hB3 : Hid (Own (wi.setCell ⟨gb, z2, none⟩ (.int .i64 x)) wo.heap.size 3 (some ⟨gb, 0, none⟩) j c1 (ints (B.set z2 x))) := Lib.hid (by
                      have h := hOb.out.set (i := z2) (.int .i64 x)
                      have e : ints (B.set z2 x) = (ints B).set z2 (.int .i64 x) := List.map_set
                      rw [e]; exact h)
                    have hU3 := Lib.hid (hOu.out.fr Fa (fun k hk h => by have e : k = gb := h; have := (onBlk_some _ _ _ _).1 hk; exact hgg (e.symm.trans this)))
                    have hN3 := Lib.hid (hRN.out.fr Fa (fun k hk h => by have e : k = gb := h; have := (onBlk_some _ _ _ _).1 hk; have := hB2.out; omega))
                    have hF3 := Lib.hid (hF.trans Fa (fun k hk h => by have e : k = gb := h; have := hwB.out; omega))
                    have hfz5 : (wi.setCell ⟨gb, z2, none⟩ (.int .i64 x)).frozen? ⟨gu, z2, none⟩ = false := (own_facts hU3.out (v := z2) hz).2
                    have Fb : Fr (onB gu) (wi.setCell ⟨gb, z2, none⟩ (.int .i64 x)) ((wi.setCell ⟨gb, z2, none⟩ (.int .i64 x)).setCell ⟨gu, z2, none⟩ (.int .i64 v)) := (Fr.refl _ _).setB z2 _
                    have hU4 : Hid (Own ((wi.setCell ⟨gb, z2, none⟩ (.int .i64 x)).setCell ⟨gu, z2, none⟩ (.int .i64 v)) wo.heap.size 3 (some ⟨gu, 0, none⟩) j c2 (ints (usI l (k + 1) (B.set z2 x)))) := Lib.hid (by
                      have h := hU3.out.set (i := z2) (.int .i64 v)
                      have e : ints ((usI l k B).set z2 (v : Int)) = (ints (usI l k B)).set z2 (.int .i64 v) := List.map_set
                      rw [← Hfl.out z2, ← Hv.out, e]; exact h)
                    have hB4 := Lib.hid (hB3.out.fr Fb (fun k hk h => by have e : k = gu := h; have := (onBlk_some _ _ _ _).1 hk; exact hgg (this.symm.trans e)))
                    have hN4 := Lib.hid (hN3.out.fr Fb (fun k hk h => by have e : k = gu := h; have := (onBlk_some _ _ _ _).1 hk; have := hB2.out; omega))
                    have hF4 := Lib.hid (hF3.out.trans Fb (fun k hk h => by have e : k = gu := h; have := hwB.out; omega))
                    have hsz4 : Hid (wo.heap.size ≤ ((wi.setCell ⟨gb, z2, none⟩ (.int .i64 x)).setCell ⟨gu, z2, none⟩ (.int .i64 v)).heap.size) := Lib.hid (by simpa using hsz)
                    have i6 : (0 : Int) ≤ (z2 : Int) := by omega
                    have i7 : (z2 : Int) < (j : Int) := by omega
                    clear Fa Fb
                    go_wp2_with fail
                    exact ⟨⟨k + 1, t + 1, j, c1, c2, _, _, _, by omega, by go_num, by go_num, rfl, rfl, by omega, hn1, HS2, hB4, hU4, hap, hN4, hsz4.out, hF4.out⟩, by simp [intOf]; omega⟩
          · obtain rfl : k = n := by omega
            have E : Hid (optN l m = t) := Lib.hid (by rw [← opt_same l m hm0, Hll.out, hS.out])
            go_wp2_with fail
            go_ret2
            exact ⟨by rw [E.out]; rfl, hF⟩
end Go.Proofs.Ytnlgjpcnnnilpaa
