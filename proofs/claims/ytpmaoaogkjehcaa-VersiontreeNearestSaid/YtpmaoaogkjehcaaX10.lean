/- The reference's Nearest. -/
import Derived.Test.YtpmaoaogkjehcaaX8
namespace Go.Proofs.Ytpmaoaogkjehcaa
open Go.RowKit
attribute [local go_sem ↓] Go.wp_at_zero Go.wp_at_succ

set_option maxHeartbeats 2000000 in
theorem refNearest_any (a : Option Addr) (n c : Nat) (P : List Int) (w : World) (hr : Rd w a n (ints P)) (hv : validB P = true) (la : Option Addr) (ln lc : Nat) (l : List Int) (hl : Rd w la ln (ints l)) (v : Int) :
    Calls Try.prog 31 #[VA a n c, .slice la ln lc, .int .i64 v] w (NearPost (nearE P l v) w) := by
  have hpl : P.length = n := by simpa using hr.len
  have hll : l.length = ln := by simpa using hl.len
  have hm := hl.max
  have hF : Fr F0 w (boxW w a n c) := (Fr.refl _ _).alloc _
  have hone : One (boxW w a n c) w.heap.size 24 (.slice a n c) := One.new 24 _
  have hn1 := (valid_len hv).2.1
  replace hv := Lib.hid hv
  by_cases h0 : 1000 < ln
  · have E : Hid (nearE P l v = (0, 4)) := Lib.hid (by unfold nearE; rw [if_pos (by omega)])
    replace hF := Lib.hid hF
    clear hll hpl hone hn1
    go_enter Try.func31, Try.ntmps31
    go_wp2_with fail
    go_ret2
    exact ⟨ret2 (val_int (congrArg Prod.fst E.out).symm) (val_int (congrArg Prod.snd E.out).symm), hF.out⟩
  · have hz : decide ((1000 : Int) < (ln : Int)) = false := by simp; omega
    have hH0 := Lib.hid h0
    have Hll := Lib.hid hll
    have Hpl := Lib.hid hpl
    have Hn1 := Lib.hid hn1
    clear h0 hll hpl hn1
    have hcv := hone.cell
    by_cases hvin : isB n v = true
    · have hvr : 0 ≤ v ∧ v < n := by simpa [isB] using hvin
      obtain ⟨hv0, hv1⟩ := hvr
      replace hvin := Lib.hid hvin
      go_enter Try.func31, Try.ntmps31
      go_wp2_with fail
      refine (Is_any a n c v _).mono ?_; rintro e w1 ⟨rfl, F1⟩
      rw [hvin.out]
      replace hone := hone.fr F1 id
      replace hF := hF.trans0 F1
      clear F1 hcv
      go_wp2_with fail
      go_loopw [8] (fun i wr => ∃ k : Nat, k ≤ ln ∧ i = .int .i64 k ∧ Hid (∀ x ∈ l.take k, 0 ≤ x ∧ x < n) ∧ One wr w.heap.size 24 (.slice a n c) ∧ Fr F0 w wr) (fun i _ => ln - (intOf i).toNat)
      case atStart => exact ⟨0, by omega, rfl, Lib.hid (by simp), hone, hF⟩
      case round =>
        obtain ⟨k, hk, rfl, hok, hone, hF⟩ := hrel
        have hcv := hone.cell
        by_cases hlt : k < ln
        · obtain ⟨g, o, z, hab, hz1, hcell⟩ := (hl.fr0 hF).ix hlt
          have hk0 : (0 : Int) ≤ (k : Int) := by omega
          have hk1 : (k : Int) < (ln : Int) := by omega
          have Hz1 := Lib.hid hz1
          subst hab
          clear hz1
          by_cases hzin : isB n z = true
          · have hok2 : Hid (∀ x ∈ l.take (k + 1), 0 ≤ x ∧ x < n) := Lib.hid (by
              intro x hx
              rw [List.take_add_one, Hz1.out] at hx
              simp only [Option.toList_some, List.mem_append, List.mem_singleton] at hx
              rcases hx with hx | rfl
              · exact hok.out x hx
              · simpa [isB] using hzin)
            replace hzin := Lib.hid hzin
            have hFh := Lib.hid hF
            have honeh := Lib.hid hone
            clear hF hone
            go_wp2_with fail
            go_region_held3 (fun w' => w'.cell? ⟨w.heap.size, 0, none⟩ = some (.slice a n c) ∧ w'.cell? ⟨g, o + k, none⟩ = some (.int .i64 z)) (go_keep)
              ((go_at_call 18; refine (Is_any a n c z _).mono ?_; rintro e w9 ⟨rfl, F9⟩; rw [hzin.out]; have y1 := F9.cell (show wr.drew.cell? _ = _ from hcv) id; have y2 := F9.cell (show wr.drew.cell? _ = _ from hcell) id))
            have G9 : Fr F0 wr w9 := (Fr.refl F0 wr).drew.trans0 F9
            have hF := hFh.out.trans0 G9
            have hone := honeh.out.fr G9 id
            clear F9 y2
            go_wp2_with fail
            go_roundw
            case rel => exact ⟨k + 1, by omega, by go_num, hok2, hone, hF⟩
            case measure => simp [intOf]; omega
          · have hzin' : isB n z = false := by simpa using hzin
            have E : Hid (nearE P l v = (0, 24)) := Lib.hid (by
              unfold nearE
              have hnin : ¬ (0 ≤ z ∧ z < n) := by simpa [isB] using hzin
              rw [if_neg (by have := hH0.out; have := Hll.out; omega), if_neg]
              rw [checkI_out (v := z) (by simp [List.mem_of_getElem? Hz1.out]) (by rw [Hpl.out]; exact hnin)]; omega)
            replace hzin' := Lib.hid hzin'
            have hFh := Lib.hid hF
            clear hF hone hzin
            go_wp2_with fail
            go_region_held3 (fun w' => w'.cell? ⟨w.heap.size, 0, none⟩ = some (.slice a n c) ∧ w'.cell? ⟨g, o + k, none⟩ = some (.int .i64 z)) (go_keep)
              ((go_at_call 18; refine (Is_any a n c z _).mono ?_; rintro e w9 ⟨rfl, F9⟩; rw [hzin'.out]; have y1 := F9.cell (show wr.drew.cell? _ = _ from hcv) id; have y2 := F9.cell (show wr.drew.cell? _ = _ from hcell) id))
            have G9 : Fr F0 wr w9 := (Fr.refl F0 wr).drew.trans0 F9
            have hF := Lib.hid (hFh.out.trans0 G9)
            clear F9 y1 y2 G9
            go_wp2_with fail
            go_ret2
            exact ⟨ret2 (val_int (congrArg Prod.fst E.out).symm) (val_int (congrArg Prod.snd E.out).symm), hF.out⟩
        · obtain rfl : k = ln := by omega
          have et : l.take k = l := List.take_of_length_le (by have := Hll.out; omega)
          rw [et] at hok
          have E : Hid (nearE P l v = nearL l (chain P v)) := Lib.hid (by
            unfold nearE
            rw [if_neg (by have := hH0.out; have := Hll.out; omega), if_pos]
            apply checkI_in
            intro x hx
            simp only [List.mem_append, List.mem_singleton] at hx
            rcases hx with hx | rfl
            · rw [Hpl.out]; exact hok.out x hx
            · rw [Hpl.out]; exact ⟨hv0, hv1⟩)
          have hr2 := hr.fr0 hF
          have hl2 := hl.fr0 hF
          replace hF := Lib.hid hF
          clear et hone
          go_wp2_with fail
          go_loop [9] (fun i => ∃ y : Int, -1 ≤ y ∧ y < n ∧ i = .int .i64 y ∧ Hid (nearL l (chain P v) = nearL l (chain P y))) (fun i => (intOf i + 1).toNat)
          case atStart => exact ⟨v, by omega, by omega, rfl, Lib.hid rfl⟩
          case round =>
            obtain ⟨y, hy0, hy1, rfl, hI⟩ := hrel
            by_cases h0 : 0 ≤ y
            · obtain ⟨q, rfl⟩ := Int.eq_ofNat_of_zero_le h0
              have hq : q < n := by omega
              have e4 := chain_pos hv.out (x := q) (by have := Hpl.out; omega)
              have e5 := valid_par hv.out (x := q) (by have := Hpl.out; omega)
              obtain ⟨g, o, p, hab, hp, hcp⟩ := hr2.ix hq
              have ep : P.getD q 0 = p := by simp [hp]
              rw [ep] at e4 e5
              obtain ⟨e5, e6, _⟩ := e5
              replace e4 := Lib.hid e4
              subst hab
              clear hp ep
              go_wp2_with fail
              go_loop [10] (fun i => ∃ j : Nat, j ≤ k ∧ i = .int .i64 j ∧ Hid ((q : Int) ∉ l.take j)) (fun i => k - (intOf i).toNat)
              case atStart => exact ⟨0, by omega, rfl, Lib.hid (by simp)⟩
              case round =>
                obtain ⟨j, hj, rfl, hno⟩ := hrel
                by_cases hlt : j < k
                · obtain ⟨g2, o2, z, hab, hz1, hcell⟩ := hl2.ix hlt
                  have Hz1 := Lib.hid hz1
                  subst hab
                  clear hz1
                  by_cases hzq : z = q
                  · have hb : (z == (q : Int)) = true := by simpa using hzq
                    have E2 : Hid (nearL l (chain P v) = ((q : Int), 0)) := Lib.hid (by
                      rw [hI.out, e4.out]
                      have : (q : Int) ∈ l := by rw [← hzq]; exact List.mem_of_getElem? Hz1.out
                      simp [nearL, this])
                    replace hzq := Lib.hid hzq
                    go_wp2_with fail
                    go_ret2
                    exact ⟨ret2 (val_int (by rw [E.out, E2.out])) (val_int (by rw [E.out, E2.out])), hF.out⟩
                  · have hb : (z == (q : Int)) = false := by simpa using hzq
                    have hno2 : Hid ((q : Int) ∉ l.take (j + 1)) := Lib.hid (by
                      rw [List.take_add_one, Hz1.out]
                      simp only [Option.toList_some, List.mem_append, List.mem_singleton]
                      rintro (h | h)
                      · exact hno.out h
                      · exact hzq h.symm)
                    clear hzq
                    go_wp2_with fail
                    go_round
                    case rel => exact ⟨j + 1, by omega, by go_num, hno2⟩
                    case measure => simp [intOf]; omega
                · have hI2 : Hid (nearL l (chain P v) = nearL l (chain P p)) := Lib.hid (by
                    have hn : (q : Int) ∉ l := by
                      have := hno.out
                      rwa [List.take_of_length_le (by have := Hll.out; omega)] at this
                    rw [hI.out, e4.out]; simp [nearL, hn])
                  go_wp2_with fail
                  go_round
                  case rel => exact ⟨p, by omega, by omega, rfl, hI2⟩
                  case measure => simp [intOf]; omega
            · have E2 : Hid (nearL l (chain P v) = (0, 12)) := Lib.hid (by rw [hI.out, chain_neg P (by omega)]; rfl)
              go_wp2_with fail
              go_ret2
              exact ⟨ret2 (val_int (by rw [E.out, E2.out])) (val_int (by rw [E.out, E2.out])), hF.out⟩
    · have hvin' : isB n v = false := by simpa using hvin
      have E : Hid (nearE P l v = (0, 24)) := Lib.hid (by
        unfold nearE
        have hnin : ¬ (0 ≤ v ∧ v < n) := by simpa [isB] using hvin
        rw [if_neg (by have := hH0.out; have := Hll.out; omega), if_neg]
        rw [checkI_out (v := v) (by simp) (by rw [Hpl.out]; exact hnin)]; omega)
      replace hvin' := Lib.hid hvin'
      clear hvin
      go_enter Try.func31, Try.ntmps31
      go_wp2_with fail
      refine (Is_any a n c v _).mono ?_; rintro e w1 ⟨rfl, F1⟩
      rw [hvin'.out]
      replace hF := Lib.hid (hF.trans0 F1)
      clear F1 hcv hone
      go_wp2_with fail
      go_ret2
      exact ⟨ret2 (val_int (congrArg Prod.fst E.out).symm) (val_int (congrArg Prod.snd E.out).symm), hF.out⟩

end Go.Proofs.Ytpmaoaogkjehcaa
