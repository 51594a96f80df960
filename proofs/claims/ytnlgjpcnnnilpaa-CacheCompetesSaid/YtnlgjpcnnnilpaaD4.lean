/- Distances, Curve. -/
import Derived.Test.YtnlgjpcnnnilpaaD3
namespace Go.Proofs.Ytnlgjpcnnnilpaa
open Go.RowKit
attribute [local go_sem ↓] Go.wp_at_zero Go.wp_at_succ
def DPost (l : List Int) (n : Nat) (w : World) (e : Ending) (w' : World) : Prop := ∃ a' c', e = .returned (.tuple #[.slice a' n c', .int .i64 0]) ∧ Own w' w.heap.size 3 a' n c' (ints (distL l)) ∧ Fr F0 w w'
theorem Distances_bad (a : Option Addr) (n c : Nat) (l : List Int) (w : World) (hr : Rd w a n (ints l)) (hz : ¬ chk l 1 = 0) :
    Calls Try.prog 22 #[.slice a n c] w fun e w' => e = .returned (.tuple #[.slice none 0 0, .int .i64 (chk l 1)]) ∧ w = w' := by
  have hck := check_any a n c l 1 w hr
  obtain ⟨z, hzz⟩ : ∃ z, z = chk l 1 := ⟨_, rfl⟩
  rw [← hzz] at hck ⊢
  have e0 : (z != 0) = true := by rw [hzz]; simpa using hz
  clear hz hzz
  go_enter Try.func22, Try.ntmps22
  go_wp2_with (refine hck.mono ?_; rintro e w' ⟨rfl, rfl⟩)
  go_ret2
  exact ⟨rfl, rfl⟩
theorem Distances_any (a : Option Addr) (n c : Nat) (l : List Int) (w : World) (hr : Rd w a n (ints l)) (hz : chk l 1 = 0) (hn : n ≤ 200) :
    Calls Try.prog 22 #[.slice a n c] w (DPost l n w) := by
  have hck := check_any a n c l 1 w hr
  rw [hz] at hck
  have Hlb := Lib.hid (chk_ok hz).1
  clear hz
  go_enter Try.func22, Try.ntmps22
  go_wp2_with (refine hck.mono ?_; rintro e w' ⟨rfl, rfl⟩)
  refine (distances_any a n c l _ hr Hlb.out hn).mono ?_; rintro e w1 ⟨a', c', rfl, O1, F1⟩
  go_wp2_with fail
  go_ret2
  exact ⟨a', c', rfl, O1, F1⟩
theorem Curve_bad (a : Option Addr) (n c : Nat) (l : List Int) (m : Int) (w : World) (hr : Rd w a n (ints l)) (hz : ¬ chk l m = 0) :
    Calls Try.prog 23 #[.slice a n c, .int .i64 m] w fun e w' => e = .returned (.tuple #[.slice none 0 0, .int .i64 (chk l m)]) ∧ w = w' := by
  have hck := check_any a n c l m w hr
  obtain ⟨z, hzz⟩ : ∃ z, z = chk l m := ⟨_, rfl⟩
  rw [← hzz] at hck ⊢
  have e0 : (z != 0) = true := by rw [hzz]; simpa using hz
  clear hz hzz
  go_enter Try.func23, Try.ntmps23
  go_wp2_with (refine hck.mono ?_; rintro e w' ⟨rfl, rfl⟩)
  go_ret2
  exact ⟨rfl, rfl⟩
theorem idxI_ge (l : List Int) (b : Int) : -1 ≤ idxI l b := by unfold idxI; split <;> omega
theorem dist_fold_nonneg : ∀ (l : List Int) (C D : List Int), (∀ d ∈ D, 0 ≤ d) → ∀ d ∈ (l.foldl distF (C, D)).2, 0 ≤ d
  | [], _, _, h => h
  | b :: l, C, D, h => by
    rw [List.foldl_cons]
    refine dist_fold_nonneg l _ _ ?_
    intro d hd
    rcases List.mem_append.1 hd with hd | hd
    · exact h d hd
    · have := idxI_ge C b
      simp at hd
      omega
theorem distL_nonneg (l : List Int) : ∀ d ∈ distL l, 0 ≤ d := dist_fold_nonneg l [] [] (by simp)
theorem dist_fold_len : ∀ (l : List Int) (C D : List Int), (l.foldl distF (C, D)).2.length = D.length + l.length
  | [], _, _ => rfl
  | b :: l, C, D => by
    rw [List.foldl_cons, show distF (C, D) b = ((distF (C, D) b).1, D ++ [idxI C b + 1]) from rfl, dist_fold_len l]
    simp; omega
theorem distL_len (l : List Int) : (distL l).length = l.length := by unfold distL; rw [dist_fold_len]; simp
def curveL (D : List Int) (m : Nat) : List Int := (List.range m).map fun j => (curveAt D (j + 1) : Int)
theorem curveL_succ (D : List Int) (k : Nat) : curveL D (k + 1) = curveL D k ++ [(curveAt D (k + 1) : Int)] := by unfold curveL; rw [List.range_succ]; simp
theorem curveL_len (D : List Int) (k : Nat) : (curveL D k).length = k := by simp [curveL]
theorem curveAt_le (D : List Int) (k : Nat) : curveAt D k ≤ D.length := List.countP_le_length
theorem hitsAt_le (D : List Int) (k : Nat) : hitsAt D k ≤ D.length := List.countP_le_length
/-- The counts of distances up to now. -/
structure HOk (H D : List Int) (m : Nat) : Prop where
  len : H.length = m + 1
  at' : ∀ j, 1 ≤ j → j ≤ m → H.getD j 0 = (hitsAt D j : Int)
theorem hits_snoc (D : List Int) (d : Int) (j : Nat) : hitsAt (D ++ [d]) j = hitsAt D j + if d = (j : Int) then 1 else 0 := by
  unfold hitsAt; rw [List.countP_append, List.countP_cons]; simp
theorem HOk.out {H D : List Int} {m : Nat} {d : Int} (h : HOk H D m) (hd : d ≤ 0 ∨ (m : Int) < d) : HOk H (D ++ [d]) m :=
  ⟨h.len, fun j h1 h2 => by rw [h.at' j h1 h2, hits_snoc, if_neg (by omega)]; simp⟩
theorem HOk.hit {H D : List Int} {m j : Nat} (h : HOk H D m) (h1 : 1 ≤ j) (h2 : j ≤ m) : HOk (H.set j ((hitsAt D j : Int) + 1)) (D ++ [(j : Int)]) m :=
  ⟨by simpa using h.len, fun i i1 i2 => by
    rw [hits_snoc, List.getD_eq_getElem?_getD]
    by_cases e : i = j
    · subst e; rw [List.getElem?_set_self (by have := h.len; omega), if_pos rfl]; simp
    · rw [List.getElem?_set_ne (fun x => e x.symm), if_neg (by omega), ← List.getD_eq_getElem?_getD, h.at' i i1 i2]; simp⟩
theorem take_snoc' {D : List Int} {k : Nat} {x : Int} (h : D[k]? = some x) : D.take (k + 1) = D.take k ++ [x] := by rw [List.take_add_one, h]; rfl
set_option maxHeartbeats 4000000 in
theorem Curve_any (a : Option Addr) (n c m : Nat) (l : List Int) (w : World) (hr : Rd w a n (ints l)) (hz : chk l m = 0) (hn : n ≤ 200) :
    Calls Try.prog 23 #[.slice a n c, .int .i64 m] w (fun e w' => ∃ a' c', e = .returned (.tuple #[.slice a' m c', .int .i64 0]) ∧ Own w' w.heap.size 3 a' m c' (ints (curveL (distL l) m)) ∧ Fr F0 w w') := by
  obtain ⟨D, hD⟩ : ∃ D, D = distL l := ⟨_, rfl⟩
  rw [← hD]
  have HD := Lib.hid hD
  clear hD
  have hck := check_any a n c l m w hr
  rw [hz] at hck
  obtain ⟨hlb, hm, hm2, _⟩ := chk_ok hz
  have hll : l.length = n := by simpa using hr.len
  have hm0 : 1 ≤ m := by omega
  have hm1 : m ≤ 1000 := by omega
  have hmk := run_mk E3 rfl (m + 1) (by omega) (by omega) w
  have hmk2 := run_mk E3 rfl m (by omega) (by omega)
  have e1 : ((m + 1 : Nat) : Int) = (m : Int) + 1 := by omega
  rw [e1] at hmk
  have Hlb := Lib.hid hlb
  have Hll := Lib.hid hll
  have Hmk2 := Lib.hid hmk2
  obtain ⟨bH, hbH⟩ : ∃ b, b = w.heap.size := ⟨_, rfl⟩
  have O1 : Hid (Own (w.alloc (.cells (Array.replicate (m + 1) (.int .i64 0)) 3)) bH 3 (some ⟨bH, 0, none⟩) (m + 1) (m + 1) (ints (List.replicate (m + 1) 0))) := Lib.hid (by
    have h := (Own.made (w := w) (B := bH) (T := 3) (z := .int .i64 0) (m + 1) (by omega) (by omega))
    rw [← hbH] at h
    simpa [ints] using h)
  have F1 : Fr F0 w (w.alloc (.cells (Array.replicate (m + 1) (.int .i64 0)) 3)) := (Fr.refl _ _).alloc _
  have HbH := Lib.hid hbH
  have Hr := Lib.hid hr
  clear hz hlb hm hm2 hll e1 hmk2 hbH hr
  go_enter Try.func23, Try.ntmps23
  go_wp2_with (refine hck.mono ?_; rintro e w' ⟨rfl, rfl⟩)
  clear hck hmk
  refine (distances_any a n c l _ (Hr.out.fr0 F1) Hlb.out hn).mono ?_; rintro e w1 ⟨aD, cD, rfl, OD, F2⟩
  rw [← HD.out] at OD
  have hD := HD.out
  have Hnn : Hid (∀ d ∈ D, 0 ≤ d) := Lib.hid (by rw [hD]; exact distL_nonneg l)
  have HDl : Hid (D.length = n) := Lib.hid (by rw [hD, distL_len]; exact Hll.out)
  clear hD
  replace O1 := Lib.hid (O1.out.fr0 F2)
  have hdo : Hid (Apart aD (some ⟨bH, 0, none⟩)) := Lib.hid (fun q h1 h2 => by
    have h3 := (OD.blk q h1).1
    have := (onBlk_some _ _ _ _).1 h2
    have := HbH.out
    rw [size_alloc] at h3
    omega)
  replace OD := Lib.hid OD
  have F3 := Lib.hid (F1.trans0 F2)
  clear F1 F2
  rw [← HbH.out]
  go_wp2_with fail
  go_loopw [9, 25] (fun _ s25 wr => ∃ (k : Nat) (H : List Int), k ≤ n ∧ s25 = .int .i64 k ∧ Hid (HOk H (D.take k) m) ∧ Hid (Own wr bH 3 (some ⟨bH, 0, none⟩) (m + 1) (m + 1) (ints H)) ∧ Hid (Rd wr aD n (ints D)) ∧ Hid (Fr F0 w wr)) (fun _ s25 _ => n - (intOf s25).toNat)
  case atStart => exact ⟨0, _, by omega, rfl, Lib.hid ⟨by simp, fun j _ h => by rw [List.getD_eq_getElem?_getD, List.getElem?_replicate, if_pos (by omega)]; rfl⟩, O1, Lib.hid OD.out.rd, F3⟩
  case round =>
    clear O1 F3 OD
    obtain ⟨k, H, hk, rfl, hH, hO, hR, hF⟩ := hrel
    by_cases hlt : k < n
    · obtain ⟨b, o, x, hb, hx, d⟩ := hR.out.ix hlt
      have hx0 := Hnn.out x (List.mem_of_getElem? hx)
      have i0 : (0 : Int) ≤ (k : Int) := by omega
      have i1 : (k : Int) < (n : Int) := by omega
      have hts := take_snoc' hx
      have Hts := Lib.hid hts
      clear hx hts
      subst hb
      by_cases hin : 0 < x ∧ x ≤ (m : Int)
      · obtain ⟨j, rfl⟩ := Int.eq_ofNat_of_zero_le hx0
        have hj1 : 1 ≤ j := by omega
        have hj2 : j ≤ m := by omega
        have hg := hH.out.at' j hj1 hj2
        have hle := hitsAt_le (D.take k) j
        have hle2 : (D.take k).length ≤ k := List.length_take_le _ _
        obtain ⟨⟨y, hy, hyn⟩, hfz⟩ := own_facts hO.out (v := j) (by omega)
        have ey : y = (hitsAt (D.take k) j : Int) := by rw [← hg, List.getD_eq_getElem?_getD, hyn]; rfl
        have y0 : 0 ≤ y := by omega
        have y1 : y ≤ 200 := by omega
        have d1 : decide ((0 : Int) < (j : Int)) = true := by simp; omega
        have d2 : decide ((j : Int) ≤ (m : Int)) = true := by simp; omega
        have O2 : Hid (Own (wr.setCell ⟨bH, j, none⟩ (.int .i64 (y + 1))) bH 3 (some ⟨bH, 0, none⟩) (m + 1) (m + 1) (ints (H.set j (y + 1)))) := Lib.hid (by
          have h := hO.out.set (i := j) (.int .i64 (y + 1)); simpa [ints, List.map_set] using h)
        have Fs : Fr (onB bH) wr (wr.setCell ⟨bH, j, none⟩ (.int .i64 (y + 1))) := (Fr.refl _ _).setB j _
        have R2 := Lib.hid (hR.out.fr Fs (fun q h1 h2 => hdo.out q h1 (by have e : q = bH := h2; exact (onBlk_some _ _ _ _).2 e)))
        have F2 := Lib.hid (hF.out.trans Fs (fun q h1 h2 => by have e : q = bH := h2; have := HbH.out; omega))
        have H2 : Hid (HOk (H.set j (y + 1)) (D.take (k + 1)) m) := Lib.hid (by rw [Hts.out, ey]; exact hH.out.hit hj1 hj2)
        clear hH hO hR hF hg hle hle2 hyn ey Fs
        go_wp2_with fail
        go_roundw
        case rel => exact ⟨k + 1, _, by omega, by go_num, H2, O2, R2, F2⟩
        case measure => simp [intOf]; omega
      · have H2 : Hid (HOk H (D.take (k + 1)) m) := Lib.hid (by rw [Hts.out]; exact hH.out.out (by omega))
        by_cases hx1 : 0 < x
        · have d1 : decide ((0 : Int) < x) = true := by simpa using hx1
          have d2 : decide (x ≤ (m : Int)) = false := by simp; omega
          clear hin
          go_wp2_with fail
          go_roundw
          case rel => exact ⟨k + 1, _, by omega, by go_num, H2, hO, hR, hF⟩
          case measure => simp [intOf]; omega
        · have d1 : decide ((0 : Int) < x) = false := by simpa using hx1
          clear hin
          go_wp2_with fail
          go_roundw
          case rel => exact ⟨k + 1, _, by omega, by go_num, H2, hO, hR, hF⟩
          case measure => simp [intOf]; omega
    · have : k = n := by omega
      subst this
      rw [List.take_of_length_le (by have := HDl.out; omega)] at hH
      have hHn : Hid (bH < wr.heap.size) := Lib.hid (hO.out.blk bH ((onBlk_some _ _ _ _).2 rfl)).2
      have hRH := Lib.hid hO.out.rd
      obtain ⟨wo, hwo⟩ : ∃ wo : World, wo = wr := ⟨_, rfl⟩
      rw [← hwo] at hF hRH hHn
      have k2 := Hmk2.out wo
      have O3 : Hid (Own (wo.alloc (.cells (Array.replicate m (.int .i64 0)) 3)) wo.heap.size 3 (some ⟨wo.heap.size, 0, none⟩) m m (ints (List.replicate m 0))) := Lib.hid (by
        have h := (Own.made (w := wo) (B := wo.heap.size) (T := 3) (z := .int .i64 0) m (by omega) (by omega))
        simpa [ints] using h)
      have FA : Fr F0 wo (wo.alloc (.cells (Array.replicate m (.int .i64 0)) 3)) := (Fr.refl _ _).alloc _
      have F4 := Lib.hid (hF.out.trans0 FA)
      have hRH2 := Lib.hid (hRH.out.fr0 FA)
      have hwoB : Hid (w.heap.size ≤ wo.heap.size) := Lib.hid hF.out.size
      have c0 := curve_0 Hnn.out
      rw [HDl.out] at c0
      have C0 := Lib.hid c0
      rw [← hwo]
      clear hwo hO hR hF c0 FA
      go_wp2_with fail
      go_loopw [11, 12, 48] (fun s11 _ s48 wr => ∃ (j z : Nat), j ≤ m ∧ s48 = .int .i64 j ∧ s11 = .int .i64 z ∧ z ≤ 200 ∧ Hid (curveAt D j = z) ∧ Hid (Own wr wo.heap.size 3 (some ⟨wo.heap.size, 0, none⟩) m m (ints (curveL D j ++ List.replicate (m - j) 0))) ∧ Hid (Rd wr (some ⟨bH, 0, none⟩) (m + 1) (ints H)) ∧ Hid (Fr F0 w wr)) (fun _ _ s48 _ => m - (intOf s48).toNat)
      case atStart => exact ⟨0, k, by omega, rfl, rfl, by omega, C0, by simpa [curveL] using O3, hRH2, F4⟩
      case round =>
        clear F4 O3 hRH2 hRH
        obtain ⟨j, z, hj, rfl, rfl, hz, hC, hO, hR, hF⟩ := hrel
        by_cases hlt2 : j < m
        · have hcs := curve_step D j
          rw [hC.out] at hcs
          have hat := hH.out.at' (j + 1) (by omega) (by omega)
          obtain ⟨b9, o9, y, hb9, hy, dy⟩ := hR.out.ix (i := j + 1) (by omega)
          obtain ⟨rfl, rfl⟩ : bH = b9 ∧ 0 = o9 := by simpa using hb9
          have ey : y = (hitsAt D (j + 1) : Int) := by rw [← hat, List.getD_eq_getElem?_getD, hy]; rfl
          rw [Nat.zero_add] at dy
          obtain ⟨z2, hz2⟩ : ∃ z2, z2 = curveAt D (j + 1) := ⟨_, rfl⟩
          have ez : Hid ((z : Int) - y = (z2 : Int)) := Lib.hid (by omega)
          have hz3 : z2 ≤ 200 := by omega
          have y0 : 0 ≤ y := by omega
          have y1 : y ≤ 200 := by omega
          obtain ⟨⟨y9, hy9, _⟩, hfz⟩ := own_facts hO.out (v := j) hlt2
          have O2 : Hid (Own (wr.setCell ⟨wo.heap.size, j, none⟩ (.int .i64 z2)) wo.heap.size 3 (some ⟨wo.heap.size, 0, none⟩) m m (ints (curveL D (j + 1) ++ List.replicate (m - (j + 1)) 0))) := Lib.hid (by
            have h := hO.out.set (i := j) (.int .i64 z2)
            rw [show (ints (curveL D j ++ List.replicate (m - j) 0)).set j (.int .i64 z2) = ints ((curveL D j ++ List.replicate (m - j) 0).set j z2) by simp only [ints, List.map_set], pad_set _ (curveL_len D j) hlt2] at h
            rw [curveL_succ, ← hz2]
            exact h)
          have Fs : Fr (onB wo.heap.size) wr (wr.setCell ⟨wo.heap.size, j, none⟩ (.int .i64 z2)) := (Fr.refl _ _).setB j _
          have R2 := Lib.hid (hR.out.fr Fs (fun q h1 h2 => by have e : q = wo.heap.size := h2; have := (onBlk_some _ _ _ _).1 h1; have := hHn.out; omega))
          have F2 := Lib.hid (hF.out.trans Fs (fun q h1 h2 => by have e : q = wo.heap.size := h2; have := hwoB.out; omega))
          have i0 : (0 : Int) ≤ (j : Int) := by omega
          have i1 : (j : Int) < (m : Int) := by omega
          replace hz2 := Lib.hid hz2
          clear hcs hat hC hO hR hF ey hy Fs hb9
          go_wp2_with fail
          rw [ez.out]
          exact ⟨⟨j + 1, z2, by omega, by go_num, rfl, hz3, Lib.hid hz2.out.symm, O2, R2, F2⟩, by simp [intOf]; omega⟩
        · have : j = m := by omega
          subst this
          go_wp2_with fail
          go_ret2
          exact ⟨_, _, rfl, by have h := hO.out.mono hwoB.out; simpa using h, hF.out⟩
end Go.Proofs.Ytnlgjpcnnnilpaa
