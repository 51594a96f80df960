/- VersiontreeEuler: the walk. -/
import Derived.Test.YtpmaoaogkjehcaaX9
import Derived.Test.YtpmaoaogkjehcaaX5
import Derived.Test.YtpmaoaogkjehcaaAgg1
import Derived.Test.YtpmaoaogkjehcaaEulP
import Derived.Test.YtpmaoaogkjehcaaSlIndex
namespace Go.Proofs.Ytpmaoaogkjehcaa
open Go.RowKit
attribute [local go_sem ↓] Go.wp_at_zero Go.wp_at_succ

theorem Contains_no (a : Option Addr) (m c : Nat) (ps : List Int) (x : Int) (w : World) (hp : Rd w a m (ints ps)) (hx : x ∉ ps) :
    Calls Try.prog 32 #[.slice a m c, .int .i64 x] w fun e w' => e = .returned (.bool false) ∧ w = w' := by
  have E : Hid (idxI ps x = -1) := Lib.hid (by
    unfold idxI
    rw [if_neg]
    simp only [List.any_eq_true, not_exists]
    rintro y ⟨hy, he⟩
    have : y = x := by simpa using he
    exact hx (this ▸ hy))
  clear hx
  go_enter Try.func32, Try.ntmps32
  go_wp2_with fail
  refine (Index_any a m c ps x w hp).mono ?_; rintro e w' ⟨rfl, rfl⟩
  rw [E.out]
  go_wp2_with fail
  go_ret
  exact ⟨rfl, rfl⟩

def tabF (f : Nat → Int) (n : Nat) : List Int := (List.range n).map f
theorem tabF_len (f : Nat → Int) (n : Nat) : (tabF f n).length = n := by simp [tabF]
theorem tabF_get (f : Nat → Int) {n i : Nat} (h : i < n) : (tabF f n)[i]? = some (f i) := by simp [tabF, h]
theorem tabF_set (f : Nat → Int) (n v : Nat) (y : Int) : (tabF f n).set v y = tabF (fun i => if i = v then y else f i) n := by
  apply List.ext_getElem?
  intro i
  rw [List.getElem?_set]
  by_cases hi : i < n
  · rw [tabF_get _ hi, tabF_get _ hi]
    by_cases h : v = i
    · subst h; simp [tabF_len, hi]
    · rw [if_neg h, if_neg (fun e => h e.symm)]
  · have e1 : (tabF f n)[i]? = none := List.getElem?_eq_none (by rw [tabF_len]; omega)
    have e2 : (tabF (fun i => if i = v then y else f i) n)[i]? = none := List.getElem?_eq_none (by rw [tabF_len]; omega)
    rw [e1, e2]
    split
    · rename_i h
      rw [if_neg (by rw [tabF_len]; omega)]
    · rfl
theorem tabF_congr {f g : Nat → Int} {n : Nat} (h : ∀ i, i < n → f i = g i) : tabF f n = tabF g n := by
  unfold tabF
  apply List.map_congr_left
  intro i hi; exact h i (by simpa using hi)
theorem tabF_zero (n : Nat) : ints (tabF (fun _ => 0) n) = List.replicate n (.int .i64 0) := by
  apply List.ext_getElem?
  intro i
  by_cases hi : i < n
  · simp [tabF, hi]
  · simp [tabF, hi]

def onG (g1 g2 : Nat) : Nat → Prop := fun k => k = g1 ∨ k = g2
theorem neg_one (n : Nat) : tabF (fun i => if i < n then (-1 : Int) else 0) n = tabF (fun v => fstO [] v) n := by
  apply tabF_congr
  intro i hi
  simp [fstO, hi]
theorem Own.ix {w : World} {B T g n c : Nat} {f : Nat → Int} (h : Own w B T (some ⟨g, 0, none⟩) n c (ints (tabF f n))) {v : Nat} (hv : v < n) : w.cell? ⟨g, v, none⟩ = some (.int .i64 (f v)) ∧ w.frozen? ⟨g, v, none⟩ = false := by
  obtain ⟨⟨y, h1, h2⟩, h3⟩ := own_facts h hv
  rw [tabF_get f hv] at h2
  injection h2 with h2
  rw [h2]; exact ⟨h1, h3⟩
theorem Own.put {w : World} {B T g n c : Nat} {f f' : Nat → Int} (h : Own w B T (some ⟨g, 0, none⟩) n c (ints (tabF f n))) (v : Nat) (y : Int) (hf : ∀ i, i < n → (if i = v then y else f i) = f' i) : Own (w.setCell ⟨g, v, none⟩ (.int .i64 y)) B T (some ⟨g, 0, none⟩) n c (ints (tabF f' n)) := by
  have h1 := h.set (i := v) (.int .i64 y)
  have e : (ints (tabF f n)).set v (.int .i64 y) = ints (tabF f' n) := by
    rw [← List.map_set, tabF_set, tabF_congr hf]
  rwa [e] at h1
theorem Eul_skip (la : Option Addr) (ln lc : Nat) (a b : Int) (w : World) (hln : ln ≤ 9223372036854775807) (h : 60 < ln) :
    Calls Try.prog 7 #[.slice la ln lc, .int .i64 a, .int .i64 b] w fun e w' => e = .returned (.bool true) ∧ Fr F0 w w' := by
  have d1 : decide ((60 : Int) < (ln : Int)) = true := by simp; omega
  replace h := Lib.hid h
  set_option maxRecDepth 100000 in
  go_enter Try.func7, Try.ntmps7
  go_wp2_with fail
  refine (awake_any _).mono ?_; rintro e w1 ⟨rfl, F1⟩
  go_wp2_with fail
  go_ret
  exact ⟨rfl, F1⟩

set_option maxRecDepth 100000 in
set_option maxHeartbeats 8000000 in
theorem Eul_go (la : Option Addr) (ln lc : Nat) (l : List Int) (a b : Int) (w : World) (hl : Rd w la ln (ints l)) (h1 : ln ≤ 60) (P : List Int) (hP : growP l = P) :
    Calls Try.prog 7 #[.slice la ln lc, .int .i64 a, .int .i64 b] w fun e w' => e = .returned (.bool true) ∧ Fr F0 w w' := by
  have d1 : decide ((60 : Int) < (ln : Int)) = false := by simp; omega
  have h1h := Lib.hid h1
  have hv := Lib.hid (show validB P = true by rw [← hP]; exact growP_valid l)
  have HP := Lib.hid hP
  have hlen := (valid_len hv.out).2.1
  obtain ⟨n, hn⟩ : ∃ n, n = P.length := ⟨_, rfl⟩
  rw [← hn] at hlen
  have Hn := Lib.hid hn
  clear h1 hP hn
  go_enter Try.func7, Try.ntmps7
  go_wp2_with fail
  refine (awake_any _).mono ?_; rintro e w1 ⟨rfl, F1⟩
  go_wp2_with fail
  refine (grown_any la ln lc l _ (hl.fr0 F1) h1h.out).mono ?_; rintro e w2 ⟨x, sa, sc, va, vn, c', rfl, HX, Rv, hc', hap, F2⟩
  rw [HP.out] at HX
  have F := F1.trans0 F2
  clear F1 F2 hap Rv
  go_wp2_with fail
  have HXa := HX.fr0 ((Fr.refl F0 w2).alloc (.cells #[.slice va vn c'] 24))
  have Fa := F.trans0 ((Fr.refl F0 w2).alloc (.cells #[.slice va vn c'] 24))
  replace HX := HXa
  replace F := Fa
  clear HXa Fa
  refine (Tree_any _ _ x sa sc P HX (by rw [← Hn.out]; exact hlen)).mono ?_; rintro e w3 ⟨ta, tc, rfl, tO, F3⟩
  rw [← Hn.out] at tO ⊢
  replace HX := HX.fr0 F3
  replace F := F.trans0 F3
  clear F3
  go_wp2_with fail
  refine (Euler_any ta n tc P _ tO.rd tO.cap).mono ?_; rintro e w4 ⟨ea, em, ec, rfl, eO, F3⟩
  rw [if_pos hv.out] at eO
  rw [if_pos hv.out]
  replace HX := HX.fr0 F3
  replace F := F.trans0 F3
  clear F3 tO
  have hem : em = n * 2 := by
    have h1 := eO.lens
    have h2 := tour_len hv.out
    rw [← Hn.out] at h2
    simp at h1; omega
  have bq : ((em : Int) != 2 * (n : Int)) = false := by simp; omega
  have hem2 : em ≤ 2000 := by omega
  have Hem := Lib.hid hem
  clear hem
  go_wp2_with fail
  refine (Len_any _ _ x sa sc P HX).mono ?_; rintro e w' ⟨rfl, rfl⟩
  rw [← Hn.out]
  obtain ⟨T, hT⟩ : ∃ T, T = tour P 0 := ⟨_, rfl⟩
  rw [← hT] at eO
  have HT := Lib.hid hT
  clear hT
  go_wp2_with fail
  have hlen1 := Lib.hid hlen
  have M1 : Own (w4.alloc (.cells (Array.replicate n (.int .i64 0)) 3)) w4.heap.size 3 (some ⟨w4.heap.size, 0, none⟩) n n (List.replicate n (.int .i64 0)) := Own.made n (by omega) (by omega)
  have M2 : Own ((w4.alloc (.cells (Array.replicate n (.int .i64 0)) 3)).alloc (.cells (Array.replicate n (.int .i64 0)) 3)) w4.heap.size 3 (some ⟨w4.heap.size + 1, 0, none⟩) n n (List.replicate n (.int .i64 0)) := by
    have h := Own.made (w := w4.alloc (.cells (Array.replicate n (.int .i64 0)) 3)) (B := w4.heap.size) (T := 3) (z := .int .i64 0) n (by simp) (by omega)
    simpa using h
  have FM : Fr F0 w4 ((w4.alloc (.cells (Array.replicate n (.int .i64 0)) 3)).alloc (.cells (Array.replicate n (.int .i64 0)) 3)).drew := (((Fr.refl _ _).alloc _).alloc _).drew
  have K1 : Own ((w4.alloc (.cells (Array.replicate n (.int .i64 0)) 3)).alloc (.cells (Array.replicate n (.int .i64 0)) 3)).drew w4.heap.size 3 (some ⟨w4.heap.size, 0, none⟩) n n (ints (tabF (fun _ => 0) n)) := by rw [tabF_zero]; exact M1.fr0 (((Fr.refl _ _).alloc _).drew)
  have K2 : Own ((w4.alloc (.cells (Array.replicate n (.int .i64 0)) 3)).alloc (.cells (Array.replicate n (.int .i64 0)) 3)).drew w4.heap.size 3 (some ⟨w4.heap.size + 1, 0, none⟩) n n (ints (tabF (fun _ => 0) n)) := by rw [tabF_zero]; exact M2.fr0 (Fr.refl _ _).drew
  have r1 := run_mk E3 rfl n (by omega) (by omega) w4.drew
  have r2 := run_mk E3 rfl n (by omega) (by omega) ((w4.alloc (.cells (Array.replicate n (.int .i64 0)) 3)).drew)
  simp only [heap_drew, World.size_alloc] at r1 r2
  have hK1 := Lib.hid K1
  have hK2 := Lib.hid K2
  have hFM := Lib.hid FM
  clear M1 M2 FM K1 K2
  have hxl := HX.one.lt
  have hsl := HX.own.blk
  have heb := eO.rd
  have hebl : ∀ k, onBlk ea k → k < w4.heap.size := fun k hk => (eO.blk k hk).2
  have hwl := F.size
  have hxl' := Lib.hid hxl
  have hsl' := Lib.hid hsl
  have hebl' := Lib.hid hebl
  have heR := Lib.hid heb
  have hFh := Lib.hid F
  have hXh := Lib.hid HX
  clear hxl hsl heb hebl eO F HX
  go_region
  · go_wp2_with fail
    clear r1 r2
    obtain ⟨g1, hg1⟩ : ∃ g1, g1 = w4.heap.size := ⟨_, rfl⟩
    obtain ⟨g2, hg2⟩ : ∃ g2, g2 = w4.heap.size + 1 := ⟨_, rfl⟩
    have h12 : g1 ≠ g2 := by omega
    have h21 : g2 ≠ g1 := by omega
    have hw1 : Hid (w.heap.size ≤ g1) := Lib.hid (by omega)
    have hw2 : Hid (w.heap.size ≤ g2) := Lib.hid (by omega)
    have hx1 : Hid (x ≠ g1 ∧ x ≠ g2) := Lib.hid (by have := hxl'.out; omega)
    have hs1 : Hid (∀ k, onBlk sa k → k ≠ g1 ∧ k ≠ g2) := Lib.hid (fun k hk => by have := (hsl'.out k hk).2; omega)
    have he1 : Hid (∀ k, onBlk ea k → k ≠ g1 ∧ k ≠ g2) := Lib.hid (fun k hk => by have := hebl'.out k hk; omega)
    obtain ⟨B4, hB4⟩ : ∃ B4, B4 = w4.heap.size := ⟨_, rfl⟩
    have O1 : Own ((w4.alloc (.cells (Array.replicate n (.int .i64 0)) 3)).alloc (.cells (Array.replicate n (.int .i64 0)) 3)).drew B4 3 (some ⟨g1, 0, none⟩) n n (ints (tabF (fun _ => 0) n)) := by rw [hg1, hB4]; exact hK1.out
    have O2 : Own ((w4.alloc (.cells (Array.replicate n (.int .i64 0)) 3)).alloc (.cells (Array.replicate n (.int .i64 0)) 3)).drew B4 3 (some ⟨g2, 0, none⟩) n n (ints (tabF (fun _ => 0) n)) := by rw [hg2, hB4]; exact hK2.out
    have FW := hFh.out.trans0 hFM.out
    have HXW := Lib.hid (hXh.out.fr0 hFM.out)
    have eR := Lib.hid (heR.out.fr0 hFM.out)
    simp only [← hg2]
    simp only [← hg1]
    clear hK1 hK2 hFM hXh heR hFh
    generalize ((w4.alloc (.cells (Array.replicate n (.int .i64 0)) 3)).alloc (.cells (Array.replicate n (.int .i64 0)) 3)).drew = W at *
    replace FW := Lib.hid FW
    replace O2 := Lib.hid O2
    clear hg1 hg2 hwl hB4
    have hn9 : n ≤ 1000 := hlen1.out
    have O10 : Own W B4 3 (some ⟨g1, 0, none⟩) n n (ints (tabF (fun i => if i < 0 then -1 else 0) n)) := by simpa using O1
    clear O1
    go_loopw [15, 55] (fun _ i wr => ∃ k : Nat, k ≤ n ∧ i = .int .i64 k ∧ Own wr B4 3 (some ⟨g1, 0, none⟩) n n (ints (tabF (fun i => if i < k then -1 else 0) n)) ∧ Fr (onB g1) W wr) (fun _ i _ => n - (intOf i).toNat)
    case atStart => exact ⟨0, by omega, rfl, O10, Fr.refl _ _⟩
    case round =>
      obtain ⟨k, hk, rfl, hO, hF⟩ := hrel
      by_cases hlt : k < n
      · have hc := (hO.ix hlt).1
        have hf := (hO.ix hlt).2
        have hO2 := Lib.hid (hO.put (f' := fun i => if i < k + 1 then -1 else 0) k (-1) (fun i hi => by
          by_cases h : i = k
          · subst h; simp
          · rw [if_neg h]
            by_cases h2 : i < k
            · rw [if_pos h2, if_pos (by omega)]
            · rw [if_neg h2, if_neg (by omega)]))
        have hF2 := Lib.hid (hF.setB k (.int .i64 (-1)))
        clear hO hF
        go_wp2_with fail
        go_roundw
        case rel => exact ⟨k + 1, by omega, by go_num, hO2.out, hF2.out⟩
        case measure => simp [intOf]; omega
      · obtain rfl : k = n := by omega
        rw [neg_one] at hO
        have Q1 : Own wr B4 3 (some ⟨g1, 0, none⟩) k k (ints (tabF (fstO (T.take 0)) k)) := hO
        have Q2 : Own wr B4 3 (some ⟨g2, 0, none⟩) k k (ints (tabF (lstO (T.take 0)) k)) := by
          have e : tabF (lstO (T.take 0)) k = tabF (fun _ => 0) k := tabF_congr (fun i hi => by simp [lstO])
          rw [e]
          exact O2.out.fr hF (fun j hj hs => by have h1 := (onBlk_some _ _ _ _).1 hj; have h2 : j = g1 := hs; omega)
        have hFG : Fr (onG g1 g2) W wr := hF.mono (fun j _ hs => .inl hs)
        have hFh := Lib.hid hFG
        clear hO hF hFG O2
        go_wp2_with fail
        have hFG := hFh.out
        have hem2 : em ≤ 2000 := by have := Hem.out; omega
        go_loopw [16, 17, 64] (fun _ _ i wr => ∃ q : Nat, q ≤ em ∧ i = .int .i64 q ∧ Own wr B4 3 (some ⟨g1, 0, none⟩) k k (ints (tabF (fstO (T.take q)) k)) ∧ Own wr B4 3 (some ⟨g2, 0, none⟩) k k (ints (tabF (lstO (T.take q)) k)) ∧ Fr (onG g1 g2) W wr) (fun _ _ i _ => em - (intOf i).toNat)
        case atStart => exact ⟨0, by omega, rfl, Q1, Q2, hFG⟩
        case round =>
          obtain ⟨q, hq, rfl, hO1, hO2, hF⟩ := hrel
          by_cases hlt : q < em
          · obtain ⟨g, o, z, hab, hz, hcell⟩ := (eR.out.fr hF (fun j hj hs => by have h1 := he1.out j hj; rcases hs with h2 | h2 <;> omega)).ix (i := q) hlt
            obtain ⟨v, hTv, rfl⟩ : ∃ v, T[q]? = some v ∧ z = (v : Int) := by
              rw [List.getElem?_map] at hz
              cases hT : T[q]? with
              | none => rw [hT] at hz; cases hz
              | some v => rw [hT] at hz; exact ⟨v, rfl, by injection hz with hz; exact hz.symm⟩
            have hvn : v < k := by
              have h0 := tour_mem hv.out P.length 0 (by omega) (by have := (valid_len hv.out).1; omega) v (by rw [← HT.out]; exact List.mem_of_getElem? hTv)
              rw [← Hn.out] at h0; exact h0
            have hql : (T.take q).length = q := by
              have := (List.getElem?_eq_some_iff.1 hTv).1
              rw [List.length_take]; omega
            have hts : T.take (q + 1) = T.take q ++ [v] := by rw [List.take_add_one, hTv]; rfl
            have c1 := (hO1.ix hvn).1
            have f1 := (hO1.ix hvn).2
            have n1 : ¬ onBlk (some ⟨g2, 0, none⟩) g1 := fun h => h12 ((onBlk_some _ _ _ _).1 h)
            have n2 : ¬ onBlk (some ⟨g1, 0, none⟩) g2 := fun h => h21 ((onBlk_some _ _ _ _).1 h)
            subst hab
            by_cases hneg : fstO (T.take q) v < 0
            · have p1 := hO1.put (f' := fstO (T.take (q + 1))) v (q : Int) (fun i hi => by
                rw [hts, fstO_snoc, hql]
                by_cases h : i = v
                · subst h; rw [if_pos rfl, if_pos ⟨hneg, rfl⟩]
                · rw [if_neg h, if_neg (fun hh => h hh.2)])
              have p2 := hO2.other (p := ⟨g1, v, none⟩) n1 (.int .i64 (q : Int))
              have c2 := (p2.ix hvn).1
              have f2 := (p2.ix hvn).2
              have p3 := Lib.hid (p2.put (f' := lstO (T.take (q + 1))) v (q : Int) (fun i hi => by rw [hts, lstO_snoc, hql]))
              have p4 := Lib.hid (p1.other (p := ⟨g2, v, none⟩) n2 (.int .i64 (q : Int)))
              have p5 := Lib.hid ((hF.setCell (p := ⟨g1, v, none⟩) (fun _ => .inl rfl) (.int .i64 (q : Int))).setCell (p := ⟨g2, v, none⟩) (fun _ => .inr rfl) (.int .i64 (q : Int)))
              have hd : decide (fstO (T.take q) v < 0) = true := by simpa using hneg
              replace hts := Lib.hid hts
              replace hTv := Lib.hid hTv
              replace hql := Lib.hid hql
              replace n1 := Lib.hid n1
              replace n2 := Lib.hid n2
              clear p1 p2 hO1 hO2 hF hz
              go_wp2_with fail
              go_roundw
              case rel => exact ⟨q + 1, by omega, by go_num, p4.out, p3.out, p5.out⟩
              case measure => simp [intOf]; omega
            · have p1 : Own wr B4 3 (some ⟨g1, 0, none⟩) k k (ints (tabF (fstO (T.take (q + 1))) k)) := by
                have e : tabF (fstO (T.take (q + 1))) k = tabF (fstO (T.take q)) k := tabF_congr (fun i hi => by
                  rw [hts, fstO_snoc, if_neg]
                  rintro ⟨h1, rfl⟩; exact hneg h1)
                rw [e]; exact hO1
              have c2 := (hO2.ix hvn).1
              have f2 := (hO2.ix hvn).2
              have p3 := Lib.hid (hO2.put (f' := lstO (T.take (q + 1))) v (q : Int) (fun i hi => by rw [hts, lstO_snoc, hql]))
              have p4 := Lib.hid (p1.other (p := ⟨g2, v, none⟩) n2 (.int .i64 (q : Int)))
              have p5 := Lib.hid (hF.setCell (p := ⟨g2, v, none⟩) (fun _ => .inr rfl) (.int .i64 (q : Int)))
              have hd : decide (fstO (T.take q) v < 0) = false := by simpa using hneg
              replace hts := Lib.hid hts
              replace hTv := Lib.hid hTv
              replace hql := Lib.hid hql
              replace n1 := Lib.hid n1
              replace n2 := Lib.hid n2
              clear p1 hO1 hO2 hF hz hneg
              go_wp2_with fail
              go_roundw
              case rel => exact ⟨q + 1, by omega, by go_num, p4.out, p3.out, p5.out⟩
              case measure => simp [intOf]; omega
          · have hqe : q = em := by omega
            have hTl : T.length = em := by rw [HT.out, tour_len hv.out, ← Hn.out, Hem.out]
            have et : T.take q = T := List.take_of_length_le (by omega)
            rw [et] at hO1 hO2
            have HX := HXW.out.fr hF (by rintro (h | h); exact hx1.out.1 h; exact hx1.out.2 h) (fun j hj hs => by have h1 := hs1.out j hj; rcases hs with h | h; exact h1.1 h; exact h1.2 h)
            have FF := Lib.hid (FW.out.trans hF (fun j hj hs => by rcases hs with h | h; · have := hw1.out; omega
                                                                   · have := hw2.out; omega))
            have hno : (-1 : Int) ∉ tabF (fstO T) k := by
              intro h
              obtain ⟨i, hi, he⟩ := List.mem_map.1 h
              have := (enc_first hv.out (a := i) (by rw [← Hn.out]; simpa using hi)).1
              rw [← HT.out] at this; omega
            have R1 := hO1.rd
            clear hF hqe et
            go_wp2_with fail
            refine (Contains_no _ _ _ _ _ _ R1 hno).mono ?_; rintro e w' ⟨rfl, rfl⟩
            clear R1 hno
            by_cases hin : 0 ≤ a ∧ 0 ≤ b ∧ a < k ∧ b < k
            · obtain ⟨ha0, hb0, ha1, hb1⟩ := hin
              obtain ⟨i, rfl⟩ := Int.eq_ofNat_of_zero_le ha0
              obtain ⟨j, rfl⟩ := Int.eq_ofNat_of_zero_le hb0
              have hi : i < k := by omega
              have hj : j < k := by omega
              have hiP : Hid (i < P.length) := Lib.hid (by rw [← Hn.out]; exact hi)
              have hjP : Hid (j < P.length) := Lib.hid (by rw [← Hn.out]; exact hj)
              have c1 := (hO1.ix hi).1
              have c2 := (hO1.ix hj).1
              have c3 := (hO2.ix hi).1
              have c4 := (hO2.ix hj).1
              have hlt2 := enc_first hv.out hiP.out
              have henc := enc hv.out hiP.out hjP.out
              rw [← HT.out] at hlt2 henc
              have dlt : decide (fstO T i < lstO T i) = true := by simpa using hlt2.2
              replace hO1 := Lib.hid hO1
              replace hO2 := Lib.hid hO2
              clear hlt2 hTl
              by_cases hq : i ∈ chN P j
              · have EA : Hid (ancE P i j = (true, 0)) := Lib.hid (by unfold ancE; rw [if_pos ⟨⟨by omega, by have := hiP.out; omega⟩, ⟨by omega, by have := hjP.out; omega⟩⟩]; simp [hq])
                obtain ⟨e1, e2⟩ := henc.1 hq
                have de1 : decide (fstO T i ≤ fstO T j) = true := by simpa using e1
                have de2 : decide (lstO T j ≤ lstO T i) = true := by simpa using e2
                clear henc hq e1 e2
                go_wp2_with fail
                refine (Ancestor_any _ _ x sa sc P HX hv.out i j).mono ?_; rintro e w9 ⟨rfl, F9⟩
                rw [EA.out]
                replace FF := Lib.hid (FF.out.trans0 F9)
                replace c1 := F9.cell c1 id
                replace c2 := F9.cell c2 id
                replace c3 := F9.cell c3 id
                replace c4 := F9.cell c4 id
                clear F9 HX
                go_wp2_with fail
                go_quiet (fail)
                go_wp2_with fail
                go_ret
                exact ⟨rfl, FF.out.drewN _⟩
              · have EA : Hid (ancE P i j = (false, 0)) := Lib.hid (by unfold ancE; rw [if_pos ⟨⟨by omega, by have := hiP.out; omega⟩, ⟨by omega, by have := hjP.out; omega⟩⟩]; simp [hq])
                by_cases e1 : fstO T i ≤ fstO T j
                · have e2 : ¬ lstO T j ≤ lstO T i := fun h => hq (henc.2 ⟨e1, h⟩)
                  have de1 : decide (fstO T i ≤ fstO T j) = true := by simpa using e1
                  have de2 : decide (lstO T j ≤ lstO T i) = false := by simpa using e2
                  clear henc hq e1 e2
                  go_wp2_with fail
                  refine (Ancestor_any _ _ x sa sc P HX hv.out i j).mono ?_; rintro e w9 ⟨rfl, F9⟩
                  rw [EA.out]
                  replace FF := Lib.hid (FF.out.trans0 F9)
                  replace c1 := F9.cell c1 id
                  replace c2 := F9.cell c2 id
                  replace c3 := F9.cell c3 id
                  replace c4 := F9.cell c4 id
                  clear F9 HX
                  go_wp2_with fail
                  go_quiet (fail)
                  go_wp2_with fail
                  go_ret
                  exact ⟨rfl, FF.out.drewN _⟩
                · have de1 : decide (fstO T i ≤ fstO T j) = false := by simpa using e1
                  clear henc hq e1
                  go_wp2_with fail
                  refine (Ancestor_any _ _ x sa sc P HX hv.out i j).mono ?_; rintro e w9 ⟨rfl, F9⟩
                  rw [EA.out]
                  replace FF := Lib.hid (FF.out.trans0 F9)
                  replace c1 := F9.cell c1 id
                  replace c2 := F9.cell c2 id
                  replace c3 := F9.cell c3 id
                  replace c4 := F9.cell c4 id
                  clear F9 HX
                  go_wp2_with fail
                  go_quiet (fail)
                  go_wp2_with fail
                  go_ret
                  exact ⟨rfl, FF.out.drewN _⟩
            · clear HX hO1 hO2 hTl
              go_wp2_with fail
              all_goals first | (exfalso; omega) | (go_ret; exact ⟨rfl, FF.out⟩)
  · go_wp2_with fail
    clear r1 r2
    obtain ⟨g1, hg1⟩ : ∃ g1, g1 = w4.heap.size + 1 := ⟨_, rfl⟩
    obtain ⟨g2, hg2⟩ : ∃ g2, g2 = w4.heap.size := ⟨_, rfl⟩
    have h12 : g1 ≠ g2 := by omega
    have h21 : g2 ≠ g1 := by omega
    have hw1 : Hid (w.heap.size ≤ g1) := Lib.hid (by omega)
    have hw2 : Hid (w.heap.size ≤ g2) := Lib.hid (by omega)
    have hx1 : Hid (x ≠ g1 ∧ x ≠ g2) := Lib.hid (by have := hxl'.out; omega)
    have hs1 : Hid (∀ k, onBlk sa k → k ≠ g1 ∧ k ≠ g2) := Lib.hid (fun k hk => by have := (hsl'.out k hk).2; omega)
    have he1 : Hid (∀ k, onBlk ea k → k ≠ g1 ∧ k ≠ g2) := Lib.hid (fun k hk => by have := hebl'.out k hk; omega)
    obtain ⟨B4, hB4⟩ : ∃ B4, B4 = w4.heap.size := ⟨_, rfl⟩
    have O1 : Own ((w4.alloc (.cells (Array.replicate n (.int .i64 0)) 3)).alloc (.cells (Array.replicate n (.int .i64 0)) 3)).drew B4 3 (some ⟨g1, 0, none⟩) n n (ints (tabF (fun _ => 0) n)) := by rw [hg1, hB4]; exact hK2.out
    have O2 : Own ((w4.alloc (.cells (Array.replicate n (.int .i64 0)) 3)).alloc (.cells (Array.replicate n (.int .i64 0)) 3)).drew B4 3 (some ⟨g2, 0, none⟩) n n (ints (tabF (fun _ => 0) n)) := by rw [hg2, hB4]; exact hK1.out
    have FW := hFh.out.trans0 hFM.out
    have HXW := Lib.hid (hXh.out.fr0 hFM.out)
    have eR := Lib.hid (heR.out.fr0 hFM.out)
    simp only [← hg1]
    simp only [← hg2]
    clear hK1 hK2 hFM hXh heR hFh
    generalize ((w4.alloc (.cells (Array.replicate n (.int .i64 0)) 3)).alloc (.cells (Array.replicate n (.int .i64 0)) 3)).drew = W at *
    replace FW := Lib.hid FW
    replace O2 := Lib.hid O2
    clear hg1 hg2 hwl hB4
    have hn9 : n ≤ 1000 := hlen1.out
    have O10 : Own W B4 3 (some ⟨g1, 0, none⟩) n n (ints (tabF (fun i => if i < 0 then -1 else 0) n)) := by simpa using O1
    clear O1
    go_loopw [15, 55] (fun _ i wr => ∃ k : Nat, k ≤ n ∧ i = .int .i64 k ∧ Own wr B4 3 (some ⟨g1, 0, none⟩) n n (ints (tabF (fun i => if i < k then -1 else 0) n)) ∧ Fr (onB g1) W wr) (fun _ i _ => n - (intOf i).toNat)
    case atStart => exact ⟨0, by omega, rfl, O10, Fr.refl _ _⟩
    case round =>
      obtain ⟨k, hk, rfl, hO, hF⟩ := hrel
      by_cases hlt : k < n
      · have hc := (hO.ix hlt).1
        have hf := (hO.ix hlt).2
        have hO2 := Lib.hid (hO.put (f' := fun i => if i < k + 1 then -1 else 0) k (-1) (fun i hi => by
          by_cases h : i = k
          · subst h; simp
          · rw [if_neg h]
            by_cases h2 : i < k
            · rw [if_pos h2, if_pos (by omega)]
            · rw [if_neg h2, if_neg (by omega)]))
        have hF2 := Lib.hid (hF.setB k (.int .i64 (-1)))
        clear hO hF
        go_wp2_with fail
        go_roundw
        case rel => exact ⟨k + 1, by omega, by go_num, hO2.out, hF2.out⟩
        case measure => simp [intOf]; omega
      · obtain rfl : k = n := by omega
        rw [neg_one] at hO
        have Q1 : Own wr B4 3 (some ⟨g1, 0, none⟩) k k (ints (tabF (fstO (T.take 0)) k)) := hO
        have Q2 : Own wr B4 3 (some ⟨g2, 0, none⟩) k k (ints (tabF (lstO (T.take 0)) k)) := by
          have e : tabF (lstO (T.take 0)) k = tabF (fun _ => 0) k := tabF_congr (fun i hi => by simp [lstO])
          rw [e]
          exact O2.out.fr hF (fun j hj hs => by have h1 := (onBlk_some _ _ _ _).1 hj; have h2 : j = g1 := hs; omega)
        have hFG : Fr (onG g1 g2) W wr := hF.mono (fun j _ hs => .inl hs)
        have hFh := Lib.hid hFG
        clear hO hF hFG O2
        go_wp2_with fail
        have hFG := hFh.out
        have hem2 : em ≤ 2000 := by have := Hem.out; omega
        go_loopw [16, 17, 64] (fun _ _ i wr => ∃ q : Nat, q ≤ em ∧ i = .int .i64 q ∧ Own wr B4 3 (some ⟨g1, 0, none⟩) k k (ints (tabF (fstO (T.take q)) k)) ∧ Own wr B4 3 (some ⟨g2, 0, none⟩) k k (ints (tabF (lstO (T.take q)) k)) ∧ Fr (onG g1 g2) W wr) (fun _ _ i _ => em - (intOf i).toNat)
        case atStart => exact ⟨0, by omega, rfl, Q1, Q2, hFG⟩
        case round =>
          obtain ⟨q, hq, rfl, hO1, hO2, hF⟩ := hrel
          by_cases hlt : q < em
          · obtain ⟨g, o, z, hab, hz, hcell⟩ := (eR.out.fr hF (fun j hj hs => by have h1 := he1.out j hj; rcases hs with h2 | h2 <;> omega)).ix (i := q) hlt
            obtain ⟨v, hTv, rfl⟩ : ∃ v, T[q]? = some v ∧ z = (v : Int) := by
              rw [List.getElem?_map] at hz
              cases hT : T[q]? with
              | none => rw [hT] at hz; cases hz
              | some v => rw [hT] at hz; exact ⟨v, rfl, by injection hz with hz; exact hz.symm⟩
            have hvn : v < k := by
              have h0 := tour_mem hv.out P.length 0 (by omega) (by have := (valid_len hv.out).1; omega) v (by rw [← HT.out]; exact List.mem_of_getElem? hTv)
              rw [← Hn.out] at h0; exact h0
            have hql : (T.take q).length = q := by
              have := (List.getElem?_eq_some_iff.1 hTv).1
              rw [List.length_take]; omega
            have hts : T.take (q + 1) = T.take q ++ [v] := by rw [List.take_add_one, hTv]; rfl
            have c1 := (hO1.ix hvn).1
            have f1 := (hO1.ix hvn).2
            have n1 : ¬ onBlk (some ⟨g2, 0, none⟩) g1 := fun h => h12 ((onBlk_some _ _ _ _).1 h)
            have n2 : ¬ onBlk (some ⟨g1, 0, none⟩) g2 := fun h => h21 ((onBlk_some _ _ _ _).1 h)
            subst hab
            by_cases hneg : fstO (T.take q) v < 0
            · have p1 := hO1.put (f' := fstO (T.take (q + 1))) v (q : Int) (fun i hi => by
                rw [hts, fstO_snoc, hql]
                by_cases h : i = v
                · subst h; rw [if_pos rfl, if_pos ⟨hneg, rfl⟩]
                · rw [if_neg h, if_neg (fun hh => h hh.2)])
              have p2 := hO2.other (p := ⟨g1, v, none⟩) n1 (.int .i64 (q : Int))
              have c2 := (p2.ix hvn).1
              have f2 := (p2.ix hvn).2
              have p3 := Lib.hid (p2.put (f' := lstO (T.take (q + 1))) v (q : Int) (fun i hi => by rw [hts, lstO_snoc, hql]))
              have p4 := Lib.hid (p1.other (p := ⟨g2, v, none⟩) n2 (.int .i64 (q : Int)))
              have p5 := Lib.hid ((hF.setCell (p := ⟨g1, v, none⟩) (fun _ => .inl rfl) (.int .i64 (q : Int))).setCell (p := ⟨g2, v, none⟩) (fun _ => .inr rfl) (.int .i64 (q : Int)))
              have hd : decide (fstO (T.take q) v < 0) = true := by simpa using hneg
              replace hts := Lib.hid hts
              replace hTv := Lib.hid hTv
              replace hql := Lib.hid hql
              replace n1 := Lib.hid n1
              replace n2 := Lib.hid n2
              clear p1 p2 hO1 hO2 hF hz
              go_wp2_with fail
              go_roundw
              case rel => exact ⟨q + 1, by omega, by go_num, p4.out, p3.out, p5.out⟩
              case measure => simp [intOf]; omega
            · have p1 : Own wr B4 3 (some ⟨g1, 0, none⟩) k k (ints (tabF (fstO (T.take (q + 1))) k)) := by
                have e : tabF (fstO (T.take (q + 1))) k = tabF (fstO (T.take q)) k := tabF_congr (fun i hi => by
                  rw [hts, fstO_snoc, if_neg]
                  rintro ⟨h1, rfl⟩; exact hneg h1)
                rw [e]; exact hO1
              have c2 := (hO2.ix hvn).1
              have f2 := (hO2.ix hvn).2
              have p3 := Lib.hid (hO2.put (f' := lstO (T.take (q + 1))) v (q : Int) (fun i hi => by rw [hts, lstO_snoc, hql]))
              have p4 := Lib.hid (p1.other (p := ⟨g2, v, none⟩) n2 (.int .i64 (q : Int)))
              have p5 := Lib.hid (hF.setCell (p := ⟨g2, v, none⟩) (fun _ => .inr rfl) (.int .i64 (q : Int)))
              have hd : decide (fstO (T.take q) v < 0) = false := by simpa using hneg
              replace hts := Lib.hid hts
              replace hTv := Lib.hid hTv
              replace hql := Lib.hid hql
              replace n1 := Lib.hid n1
              replace n2 := Lib.hid n2
              clear p1 hO1 hO2 hF hz hneg
              go_wp2_with fail
              go_roundw
              case rel => exact ⟨q + 1, by omega, by go_num, p4.out, p3.out, p5.out⟩
              case measure => simp [intOf]; omega
          · have hqe : q = em := by omega
            have hTl : T.length = em := by rw [HT.out, tour_len hv.out, ← Hn.out, Hem.out]
            have et : T.take q = T := List.take_of_length_le (by omega)
            rw [et] at hO1 hO2
            have HX := HXW.out.fr hF (by rintro (h | h); exact hx1.out.1 h; exact hx1.out.2 h) (fun j hj hs => by have h1 := hs1.out j hj; rcases hs with h | h; exact h1.1 h; exact h1.2 h)
            have FF := Lib.hid (FW.out.trans hF (fun j hj hs => by rcases hs with h | h; · have := hw1.out; omega
                                                                   · have := hw2.out; omega))
            have hno : (-1 : Int) ∉ tabF (fstO T) k := by
              intro h
              obtain ⟨i, hi, he⟩ := List.mem_map.1 h
              have := (enc_first hv.out (a := i) (by rw [← Hn.out]; simpa using hi)).1
              rw [← HT.out] at this; omega
            have R1 := hO1.rd
            clear hF hqe et
            go_wp2_with fail
            refine (Contains_no _ _ _ _ _ _ R1 hno).mono ?_; rintro e w' ⟨rfl, rfl⟩
            clear R1 hno
            by_cases hin : 0 ≤ a ∧ 0 ≤ b ∧ a < k ∧ b < k
            · obtain ⟨ha0, hb0, ha1, hb1⟩ := hin
              obtain ⟨i, rfl⟩ := Int.eq_ofNat_of_zero_le ha0
              obtain ⟨j, rfl⟩ := Int.eq_ofNat_of_zero_le hb0
              have hi : i < k := by omega
              have hj : j < k := by omega
              have hiP : Hid (i < P.length) := Lib.hid (by rw [← Hn.out]; exact hi)
              have hjP : Hid (j < P.length) := Lib.hid (by rw [← Hn.out]; exact hj)
              have c1 := (hO1.ix hi).1
              have c2 := (hO1.ix hj).1
              have c3 := (hO2.ix hi).1
              have c4 := (hO2.ix hj).1
              have hlt2 := enc_first hv.out hiP.out
              have henc := enc hv.out hiP.out hjP.out
              rw [← HT.out] at hlt2 henc
              have dlt : decide (fstO T i < lstO T i) = true := by simpa using hlt2.2
              replace hO1 := Lib.hid hO1
              replace hO2 := Lib.hid hO2
              clear hlt2 hTl
              by_cases hq : i ∈ chN P j
              · have EA : Hid (ancE P i j = (true, 0)) := Lib.hid (by unfold ancE; rw [if_pos ⟨⟨by omega, by have := hiP.out; omega⟩, ⟨by omega, by have := hjP.out; omega⟩⟩]; simp [hq])
                obtain ⟨e1, e2⟩ := henc.1 hq
                have de1 : decide (fstO T i ≤ fstO T j) = true := by simpa using e1
                have de2 : decide (lstO T j ≤ lstO T i) = true := by simpa using e2
                clear henc hq e1 e2
                go_wp2_with fail
                refine (Ancestor_any _ _ x sa sc P HX hv.out i j).mono ?_; rintro e w9 ⟨rfl, F9⟩
                rw [EA.out]
                replace FF := Lib.hid (FF.out.trans0 F9)
                replace c1 := F9.cell c1 id
                replace c2 := F9.cell c2 id
                replace c3 := F9.cell c3 id
                replace c4 := F9.cell c4 id
                clear F9 HX
                go_wp2_with fail
                go_quiet (fail)
                go_wp2_with fail
                go_ret
                exact ⟨rfl, FF.out.drewN _⟩
              · have EA : Hid (ancE P i j = (false, 0)) := Lib.hid (by unfold ancE; rw [if_pos ⟨⟨by omega, by have := hiP.out; omega⟩, ⟨by omega, by have := hjP.out; omega⟩⟩]; simp [hq])
                by_cases e1 : fstO T i ≤ fstO T j
                · have e2 : ¬ lstO T j ≤ lstO T i := fun h => hq (henc.2 ⟨e1, h⟩)
                  have de1 : decide (fstO T i ≤ fstO T j) = true := by simpa using e1
                  have de2 : decide (lstO T j ≤ lstO T i) = false := by simpa using e2
                  clear henc hq e1 e2
                  go_wp2_with fail
                  refine (Ancestor_any _ _ x sa sc P HX hv.out i j).mono ?_; rintro e w9 ⟨rfl, F9⟩
                  rw [EA.out]
                  replace FF := Lib.hid (FF.out.trans0 F9)
                  replace c1 := F9.cell c1 id
                  replace c2 := F9.cell c2 id
                  replace c3 := F9.cell c3 id
                  replace c4 := F9.cell c4 id
                  clear F9 HX
                  go_wp2_with fail
                  go_quiet (fail)
                  go_wp2_with fail
                  go_ret
                  exact ⟨rfl, FF.out.drewN _⟩
                · have de1 : decide (fstO T i ≤ fstO T j) = false := by simpa using e1
                  clear henc hq e1
                  go_wp2_with fail
                  refine (Ancestor_any _ _ x sa sc P HX hv.out i j).mono ?_; rintro e w9 ⟨rfl, F9⟩
                  rw [EA.out]
                  replace FF := Lib.hid (FF.out.trans0 F9)
                  replace c1 := F9.cell c1 id
                  replace c2 := F9.cell c2 id
                  replace c3 := F9.cell c3 id
                  replace c4 := F9.cell c4 id
                  clear F9 HX
                  go_wp2_with fail
                  go_quiet (fail)
                  go_wp2_with fail
                  go_ret
                  exact ⟨rfl, FF.out.drewN _⟩
            · clear HX hO1 hO2 hTl
              go_wp2_with fail
              all_goals first | (exfalso; omega) | (go_ret; exact ⟨rfl, FF.out⟩)

theorem LEul_any (la : Option Addr) (ln lc : Nat) (l : List Int) (a b : Int) (w : World) (hl : ArgSl w la ln lc l) :
    Calls Try.prog 7 #[.slice la ln lc, .int .i64 a, .int .i64 b] w fun e w' => e = .returned (.bool true) ∧ Fr F0 w w' := by
  by_cases h1 : 60 < ln
  · exact Eul_skip la ln lc a b w hl.rd.max h1
  · exact Eul_go la ln lc l a b w hl.rd (by omega) _ rfl

end Go.Proofs.Ytpmaoaogkjehcaa
