/- Halves: inputs of which nothing is said; the removed half. -/
import Derived.Test.YtdphademoeofkaaS34
import Derived.Test.YtdphademoeofkaaS10
import Derived.Test.YtdphademoeofkaaS23
import Derived.Test.YtdphademoeofkaaSlClone
import Derived.Test.YtdphademoeofkaaComSort
import Derived.Test.YtdphademoeofkaaSlEqual
namespace Go.Proofs.Ytdphademoeofkaa
open Go.RowKit
attribute [local go_sem ↓] Go.wp_at_zero Go.wp_at_succ
set_option maxRecDepth 100000 in
set_option maxHeartbeats 4000000 in
theorem Halves_bad (k0 : Int) (a : Option Addr) (n c : Nat) (xs : List Int) (w : World) (A : Rd w a n (ints xs)) (h : k0 < 0 ∨ 20 < k0 ∨ n = 0 ∨ 60 < n ∨ xs.any notKey = true) :
    Calls Try.prog 5 #[.int .i64 k0, .slice a n c] w fun e w' => e = .returned (.bool true) ∧ Fr F0 w w' := by
  by_cases h1 : k0 < 0
  · clear h A
    go_enter Try.func5, Try.ntmps5
    go_wp2_with fail
    refine (awake_any w).mono ?_
    rintro e w1 ⟨rfl, F1⟩
    go_wp2_with fail
    go_ret
    exact ⟨rfl, F1⟩
  by_cases h2 : 20 < k0
  · clear h A
    go_enter Try.func5, Try.ntmps5
    go_wp2_with fail
    refine (awake_any w).mono ?_
    rintro e w1 ⟨rfl, F1⟩
    go_wp2_with fail
    go_ret
    exact ⟨rfl, F1⟩
  by_cases h3 : n = 0
  · subst h3
    clear h A
    go_enter Try.func5, Try.ntmps5
    go_wp2_with fail
    refine (awake_any w).mono ?_
    rintro e w1 ⟨rfl, F1⟩
    go_wp2_with fail
    go_ret
    exact ⟨rfl, F1⟩
  have h3' : ((n : Int) == 0) = false := by simpa using h3
  by_cases h4 : 60 < n
  · clear h A h3
    go_enter Try.func5, Try.ntmps5
    go_wp2_with fail
    refine (awake_any w).mono ?_
    rintro e w1 ⟨rfl, F1⟩
    go_wp2_with fail
    go_ret
    exact ⟨rfl, F1⟩
  · have hany : xs.any notKey = true := by
      rcases h with h | h | h | h | h
      · exact absurd h h1
      · exact absurd h h2
      · exact absurd h h3
      · exact absurd h h4
      · exact h
    have HC := Lib.hid (fun (w' : World) (F : Fr F0 w w') => ContainsFunc_c0 notKey a n c xs w' (A.fr0 F) (fun x => notKey23 x w'))
    rw [hany] at HC
    clear h A h3 hany
    go_enter Try.func5, Try.ntmps5
    go_wp2_with fail
    refine (awake_any w).mono ?_
    rintro e w1 ⟨rfl, F1⟩
    have HF1 := Lib.hid F1
    clear F1
    go_wp2_with fail
    refine (HC.out w1 HF1.out).mono ?_
    rintro e w2 ⟨rfl, rfl⟩
    go_wp2_with fail
    go_ret
    exact ⟨rfl, HF1.out⟩
theorem shl_one {rate P : Nat} (hr : rate ≤ 20) (hP : P = 2 ^ rate) : wrap64 ((2 : Int) ^ rate) = (P : Int) := by
  have h1 : 2 ^ rate ≤ 2 ^ 20 := Nat.pow_le_pow_right (by decide) hr
  have h2 : ((2 : Int) ^ rate) = ((2 ^ rate : Nat) : Int) := by simp
  rw [h2, ← hP]
  rw [← hP] at h1
  unfold wrap64
  omega
/-- While the half is removed. -/
def Hf1 (w1 : World) (rate hb : Nat) (xs : List Int) (j : Nat) (s12 s13 : Value) (wr : World) : Prop :=
  ∃ out most ao co, s12 = .slice ao j co ∧ s13 = .int .i64 most ∧ out.length = j ∧ Rem w1 rate hb xs out most (onBlk ao) wr ∧ Own wr w1.heap.size 3 ao j co (ints out)
set_option maxRecDepth 100000 in
set_option maxHeartbeats 4000000 in
theorem Halves_in (rate : Nat) (a : Option Addr) (n c : Nat) (xs : List Int) (w : World) (A : Rd w a n (ints xs)) (hr : rate ≤ 20) (hn0 : 0 < n) (hn : n ≤ 60) (hany : xs.any notKey = false) :
    Calls Try.prog 5 #[.int .i64 rate, .slice a n c] w fun e w' => e = .returned (.bool true) ∧ Fr F0 w w' := by
  have hxl : xs.length = n := by simpa using A.len
  have HK := Lib.hid (all_keys hany)
  have HC := Lib.hid (fun (w' : World) (F : Fr F0 w w') => ContainsFunc_c0 notKey a n c xs w' (A.fr0 F) (fun x => notKey23 x w'))
  rw [hany] at HC
  have HA := Lib.hid A
  have Hxl := Lib.hid hxl
  have h1 : ¬ (rate : Int) < 0 := by omega
  have h2 : ¬ (20 : Int) < (rate : Int) := by omega
  have h3' : ((n : Int) == 0) = false := by simpa using (by omega : n ≠ 0)
  have h4 : ¬ 60 < n := by omega
  clear hany A hxl
  go_enter Try.func5, Try.ntmps5
  go_wp2_with fail
  refine (awake_any w).mono ?_
  rintro e w1 ⟨rfl, F1⟩
  have HF1 := Lib.hid F1
  clear F1
  go_wp2_with fail
  refine (HC.out w1 HF1.out).mono ?_
  rintro e w2 ⟨rfl, rfl⟩
  go_wp2_with fail
  refine (New_ok w1 hr).mono ?_
  rintro e w2 ⟨hb, rfl, hHp, hF, hob⟩
  have H0 := Lib.hid (Fil.new hHp hF hob)
  clear hHp hF hob HC h3'
  go_wp2_with fail
  go_loopw [53] (fun s53 wr => ∃ j : Nat, j ≤ n ∧ s53 = .int .i64 j ∧ Hid (Fil w1 rate hb (xs.take j) wr)) (fun s53 _ => n - (intOf s53).toNat)
  case atStart => exact ⟨0, by omega, rfl, H0⟩
  case round =>
    obtain ⟨j, hj, rfl, HM⟩ := hrel
    by_cases hlt : j < n
    · have hFw : Fr F0 w wr := by
        obtain ⟨_, _, _, _, _, _, _, _, _, _, h7⟩ := HM.out
        exact HF1.out.trans0 h7
      obtain ⟨b, o, k, rfl, hk, ck⟩ := (HA.out.fr0 hFw).ix hlt
      have hkk := HK.out k (List.mem_of_getElem? hk)
      have hlj : (xs.take j).length = j := by have := Hxl.out; simp; omega
      have HI := Lib.hid (HM.out.insert hkk.1 hkk.2 (by omega))
      rw [hlj] at HI
      have e1 : xs.take j ++ [k] = xs.take (j + 1) := by rw [List.take_add_one, hk]; rfl
      rw [e1] at HI
      clear hFw hk hkk hlj e1
      go_wp2_with fail
      refine HI.out.mono ?_
      rintro e w3 ⟨rfl, h3⟩
      have H3 := Lib.hid h3
      clear h3
      go_wp2_with fail
      go_roundw
      case rel => exact ⟨j + 1, by omega, by go_num, H3⟩
      case measure => simp [intOf]; omega
    · obtain rfl : n = j := by omega
      have HR : Hid (Rem w1 rate hb xs [] (-1048576) (fun _ => False) wr) := Lib.hid (by
        have := HM.out
        rw [List.take_of_length_le (by rw [Hxl.out]; exact Nat.le_refl _)] at this
        exact this.rem HK.out)
      have hq : Int.tdiv (n : Int) 2 = ((n / 2 : Nat) : Int) := by rw [Int.tdiv_eq_ediv_of_nonneg (by omega)]; omega
      obtain ⟨m, hm⟩ : ∃ m, m = n - n / 2 := ⟨_, rfl⟩
      have hsub : (n : Int) - ((n / 2 : Nat) : Int) = (m : Int) := by omega
      obtain ⟨d, hd⟩ : ∃ d, d = n / 2 := ⟨_, rfl⟩
      rw [← hd] at hq hsub
      have Hmd := Lib.hid (And.intro hm hd)
      have hmn : m ≤ n := by omega
      clear HM hm hd
      go_wp2_with fail
      have H1 : Hid (Hf1 w1 rate hb xs 0 (.slice none 0 0) (.int .i64 (-1048576)) wr) := Lib.hid ⟨[], -1048576, none, 0, rfl, rfl, rfl, HR.out.up (Fr.refl _ _) (fun _ h => h.elim) (fun q hq => absurd hq (onBlk_none _)), Own.nil _ _ _⟩
      have HRF : Hid (Fr F0 w1 wr) := Lib.hid (by obtain ⟨_, _, _, _, _, _, _, _, _, h⟩ := HR.out; exact h)
      clear HR
      go_loopw [78, 12, 13] (fun s78 s12 s13 wr => ∃ j : Nat, j ≤ m ∧ s78 = .int .i64 j ∧ Hid (Hf1 w1 rate hb xs j s12 s13 wr)) (fun s78 _ _ _ => m - (intOf s78).toNat)
      case atStart => exact ⟨0, by omega, rfl, H1⟩
      case round =>
        obtain ⟨j, hj, rfl, HM⟩ := hrel
        by_cases hlt : j < m
        · obtain ⟨out, most, ao, co, rfl, rfl, hoj, hR, hO⟩ := HM.out
          have HD := Lib.hid (hR.delete (by rw [hoj, Hxl.out]; omega) (fun q hq => (hO.blk q hq).2))
          have HO := Lib.hid hO
          have HRm := Lib.hid hR
          have Hoj := Lib.hid hoj
          clear hR hO hoj
          go_wp2_with fail
          refine HD.out.mono ?_
          rintro e w3 ⟨id, key, rfl, hid, hR3, hF3⟩
          rw [Hxl.out] at hid
          have hFw : Fr F0 w w3 := by
            obtain ⟨_, _, _, _, _, _, _, _, _, h7⟩ := hR3
            exact HF1.out.trans0 h7
          obtain ⟨b, o, k, rfl, hk, ck⟩ := (HA.out.fr0 hFw).ix hid
          have Hbl : Hid (b < w.heap.size) := Lib.hid (HA.out.lt (by omega) b ((onBlk_some _ _ _ _).2 rfl))
          have hgk : xs.getD id 0 = k := by rw [List.getD_eq_getElem?_getD, hk]; rfl
          rw [hgk] at hR3
          have HR3 := Lib.hid hR3
          have HO3 : Hid (Own w3 w1.heap.size 3 ao j co (ints out)) := Lib.hid (HO.out.fr hF3 (fun q hq e => e hq))
          have hs3 : w1.heap.size ≤ w3.heap.size := by
            obtain ⟨_, _, _, _, _, _, _, _, _, h7⟩ := hR3
            exact h7.size
          have hidn : ¬ (n : Int) ≤ (id : Int) := by omega
          clear hR3 hF3 hFw hk hgk
          go_wp2_with ((at_builtin; refine wpAppAt E3 HO3.out (by omega) (by omega) (by omega) (u := .int .i64 k) rfl rfl (by first | rfl | (simp; done) | (simp; rfl)) ?_; intro a6 c6 w6 own6 fr6 at6; have ck6 := fr6.cell ck (fun e => by have h1 := (HO3.out.blk b e).1; have h2 := HF1.out.size; have h3 := Hbl.out; omega); have O6 := Lib.hid own6; have F6 := Lib.hid fr6; have A6 := Lib.hid at6; clear own6 fr6 at6))
          go_roundw
          case rel => exact ⟨j + 1, by omega, by go_num, Lib.hid ⟨out ++ [k], max most k, a6, c6, rfl, rfl, by rw [List.length_append, Hoj.out]; rfl, HR3.out.up F6.out (fun q hq => (HO3.out.blk q hq).1) A6.out, by simpa [ints] using O6.out⟩⟩
          case measure => simp [intOf]; omega
        · obtain rfl : m = j := by omega
          obtain ⟨out, most, ao, co, rfl, rfl, hoj, hR, hO⟩ := HM.out
          have HO := Lib.hid hO
          have HRm := Lib.hid hR
          have Hoj := Lib.hid hoj
          clear hR hO hoj
          obtain ⟨P, hP⟩ : ∃ P, P = 2 ^ rate := ⟨_, rfl⟩
          have hsh : wrap64 ((2 : Int) ^ rate) = (P : Int) := shl_one hr hP
          have HP := Lib.hid (And.intro hr hP)
          clear hr hP
          by_cases hbig : P > n
          · go_wp2_with fail
            have hFw : Fr F0 w wr := by
              obtain ⟨_, _, _, _, _, _, _, _, _, h7⟩ := HRm.out
              exact HF1.out.trans0 h7
            have HFw := Lib.hid hFw
            obtain ⟨b, o, rfl, _⟩ := HA.out.cells (by omega)
            clear hFw
            refine (Clone_any b o n c xs wr (HA.out.fr0 HFw.out) (by omega) (by omega)).mono ?_
            rintro e w3 ⟨aS, cs, rfl, hOs, hFs⟩
            have HOs := Lib.hid hOs
            have HFs := Lib.hid hFs
            clear hOs hFs
            go_wp2_with fail
            refine (Sort_any wr.heap.size n cs aS xs w3 HOs.out (by omega)).mono ?_
            rintro e w4 ⟨rfl, ys, hp, hs, hOy, hFy⟩
            have HOy := Lib.hid hOy
            have HY := Lib.hid (And.intro hp hs)
            have HFy : Hid (Fr F0 wr w4) := Lib.hid (HFs.out.trans hFy (fun q hq e => by have := (HOs.out.blk q e).1; omega))
            have hcap := hOy.cap
            have hmc : m ≤ cs := by omega
            have hmc0 : ¬ cs = 0 := by omega
            obtain ⟨gS, rfl, _, _, _, _⟩ := hOy.at (by omega)
            clear hp hs hOy hFy
            go_wp2_with fail
            refine (Equal_any ao (some ⟨gS, 0, none⟩) m m co cs out (ys.take m) w4 (HO.out.rd.fr0 HFy.out) (by
              have := HOy.out.take (k := m) (by omega)
              rw [← List.map_take] at this
              exact this.rd)).mono ?_
            rintro e w5 ⟨rfl, q, rfl⟩
            have hdt : decide (out = ys.take m) = true := by
              obtain ⟨_, _, _, _, _, hv, _, hsr, _⟩ := HRm.out
              have h1 := (hsr (by rw [Hxl.out, ← HP.out.2]; exact hbig)).take hv.p HY.out.1 HY.out.2
              rw [Hoj.out] at h1
              exact decide_eq_true h1.symm
            go_wp2_with fail
            go_ret
            exact ⟨rfl, (HFw.out.trans0 HFy.out).drewN q⟩
          · have hFw : Fr F0 w wr := by
              obtain ⟨_, _, _, _, _, _, _, _, _, h7⟩ := HRm.out
              exact HF1.out.trans0 h7
            have HFw := Lib.hid hFw
            clear hFw
            by_cases hr2 : rate < 2
            · go_wp2_with fail
              go_ret
              exact ⟨rfl, HFw.out⟩
            · have hfin : Hid (n / 4 ≤ (xs.countP fun k => decide (k ≤ most)) ∧ n / 4 ≤ (xs.countP fun k => decide (most ≤ k))) := Lib.hid (by
                obtain ⟨_, _, _, _, hH, hv, hol, _, _, _⟩ := HRm.out
                have h1 := hv.low
                have h2 := hv.high (by have := hH.ilen.2.2.1; omega)
                have h3 := hv.count
                rw [Hoj.out] at h1 h3
                rw [Hxl.out] at h2 h3
                have h4 : n / 2 ^ rate ≤ n / 2 ^ 2 := Nat.div_le_div_left (Nat.pow_le_pow_right (by decide) (by omega)) (by decide)
                have h5 := Hmd.out
                omega)
              have hr2' : ¬ (rate : Int) < 2 := by omega
              clear hr2
              go_wp2_with fail
              go_loopw [129, 18, 19] (fun s129 s18 s19 wr' => ∃ j : Nat, j ≤ n ∧ s129 = .int .i64 j ∧ Hid (s18 = .int .i64 ((xs.take j).countP fun k => decide (k ≤ most) : Nat) ∧ s19 = .int .i64 ((xs.take j).countP fun k => decide (most ≤ k) : Nat) ∧ wr' = wr)) (fun s129 _ _ _ => n - (intOf s129).toNat)
              case atStart => exact ⟨0, by omega, rfl, Lib.hid ⟨rfl, rfl, rfl⟩⟩
              case round =>
                obtain ⟨j, hj, rfl, HQ⟩ := hrel
                by_cases hlt : j < n
                · obtain ⟨rfl, rfl, rfl⟩ := HQ.out
                  obtain ⟨b, o, k, rfl, hk, ck⟩ := (HA.out.fr0 HFw.out).ix hlt
                  have e1 : xs.take (j + 1) = xs.take j ++ [k] := by rw [List.take_add_one, hk]; rfl
                  have HE1 : Hid (((xs.take (j + 1)).countP fun k => decide (k ≤ most)) = ((xs.take j).countP fun k => decide (k ≤ most)) + (if k ≤ most then 1 else 0)) := Lib.hid (by
                    rw [e1, List.countP_append]
                    by_cases g : k ≤ most <;> simp [g])
                  have HE2 : Hid (((xs.take (j + 1)).countP fun k => decide (most ≤ k)) = ((xs.take j).countP fun k => decide (most ≤ k)) + (if most ≤ k then 1 else 0)) := Lib.hid (by
                    rw [e1, List.countP_append]
                    by_cases g : most ≤ k <;> simp [g])
                  have hc1 : ((xs.take j).countP fun k => decide (k ≤ most)) ≤ 60 := by
                    have := List.countP_le_length (p := fun k => decide (k ≤ most)) (l := xs.take j)
                    rw [List.length_take] at this
                    omega
                  have hc2 : ((xs.take j).countP fun k => decide (most ≤ k)) ≤ 60 := by
                    have := List.countP_le_length (p := fun k => decide (most ≤ k)) (l := xs.take j)
                    rw [List.length_take] at this
                    omega
                  generalize ((xs.take j).countP fun k => decide (k ≤ most)) = c1 at *
                  generalize ((xs.take j).countP fun k => decide (most ≤ k)) = c2 at *
                  clear hk e1 HQ
                  by_cases g1 : k ≤ most
                  · by_cases g2 : most ≤ k
                    · have E1 := Lib.hid (HE1.out.trans (by rw [if_pos g1]))
                      have E2 := Lib.hid (HE2.out.trans (by rw [if_pos g2]))
                      clear HE1 HE2
                      go_wp2_with fail
                      go_round
                      case rel => exact ⟨j + 1, by omega, by go_num, Lib.hid ⟨by rw [E1.out]; rfl, by rw [E2.out]; rfl, trivial⟩⟩
                      case measure => simp [intOf]; omega
                    · have E1 := Lib.hid (HE1.out.trans (by rw [if_pos g1]))
                      have E2 := Lib.hid (HE2.out.trans (by rw [if_neg g2]))
                      clear HE1 HE2
                      go_wp2_with fail
                      go_round
                      case rel => exact ⟨j + 1, by omega, by go_num, Lib.hid ⟨by rw [E1.out]; rfl, by rw [E2.out]; rfl, trivial⟩⟩
                      case measure => simp [intOf]; omega
                  · have g2 : most ≤ k := by omega
                    have E1 := Lib.hid (HE1.out.trans (by rw [if_neg g1]))
                    have E2 := Lib.hid (HE2.out.trans (by rw [if_pos g2]))
                    clear HE1 HE2
                    go_wp2_with fail
                    go_round
                    case rel => exact ⟨j + 1, by omega, by go_num, Lib.hid ⟨by rw [E1.out]; rfl, by rw [E2.out]; rfl, trivial⟩⟩
                    case measure => simp [intOf]; omega
                · obtain rfl : n = j := by omega
                  obtain ⟨h18, h19, rfl⟩ := HQ.out
                  rw [List.take_of_length_le (by rw [Hxl.out]; exact Nat.le_refl _)] at h18 h19
                  obtain ⟨c1, hc1⟩ : ∃ c1, c1 = xs.countP fun k => decide (k ≤ most) := ⟨_, rfl⟩
                  obtain ⟨c2, hc2⟩ : ∃ c2, c2 = xs.countP fun k => decide (most ≤ k) := ⟨_, rfl⟩
                  rw [← hc1] at h18
                  rw [← hc2] at h19
                  have hf := hfin.out
                  rw [← hc1, ← hc2] at hf
                  have hq4 : Int.tdiv (n : Int) 4 = ((n / 4 : Nat) : Int) := by rw [Int.tdiv_eq_ediv_of_nonneg (by omega)]; omega
                  obtain ⟨q4, hq4e⟩ : ∃ q4, q4 = n / 4 := ⟨_, rfl⟩
                  have hq15 : q4 ≤ 15 := by omega
                  rw [← hq4e] at hq4 hf
                  have hf1 := hf.1
                  have hf2 := hf.2
                  subst h18 h19
                  clear HQ hc1 hc2 hf hq4e hfin
                  go_wp2_with fail
                  go_ret
                  exact ⟨rfl, HFw.out⟩
theorem Halves_law (k0 : Int) (a : Option Addr) (n c : Nat) (xs : List Int) (w : World) (A : ArgSl w a n c xs) :
    Calls Try.prog 5 #[.int .i64 k0, .slice a n c] w fun e w' => e = .returned (.bool true) ∧ Fr F0 w w' := by
  by_cases h : k0 < 0 ∨ 20 < k0 ∨ n = 0 ∨ 60 < n ∨ xs.any notKey = true
  · exact Halves_bad k0 a n c xs w A.rd h
  · obtain ⟨r, rfl⟩ : ∃ r : Nat, k0 = r := ⟨k0.toNat, by omega⟩
    refine Halves_in r a n c xs w A.rd (by omega) (by omega) (by omega) ?_
    cases e : xs.any notKey with
    | false => rfl
    | true => exact absurd (.inr (.inr (.inr (.inr e)))) h
end Go.Proofs.Ytdphademoeofkaa
