/- CacheCompetes: the walk. -/
import Derived.Test.YtnlgjpcnnnilpaaD4
import Derived.Test.YtnlgjpcnnnilpaaR8
import Derived.Test.YtnlgjpcnnnilpaaQ1
import Derived.Test.YtnlgjpcnnnilpaaQ2
import Derived.Test.YtnlgjpcnnnilpaaComSort
import Derived.Test.YtnlgjpcnnnilpaaComCompact
import Derived.Test.YtnlgjpcnnnilpaaSlCloneA
import Derived.Test.YtnlgjpcnnnilpaaSlContains1
namespace Go.Proofs.Ytnlgjpcnnnilpaa
open Go.RowKit
attribute [local go_sem ↓] Go.wp_at_zero Go.wp_at_succ
theorem comp1_any (b : Int) (w : World) : Calls Try.prog 27 #[.int .i64 b] w fun e w' => e = .returned (.bool (noB b)) ∧ w = w' := by
  cases h : decide (b < 0) with
  | true =>
    have E : Hid (noB b = true) := Lib.hid (by unfold noB; rw [h]; rfl)
    go_enter Try.func27, Try.ntmps27
    go_wp2_with fail
    go_ret
    exact ⟨ret_bool E.out.symm, rfl⟩
  | false =>
    have E : Hid (noB b = decide (1048576 < b)) := Lib.hid (by unfold noB; rw [h]; rfl)
    go_enter Try.func27, Try.ntmps27
    go_wp2_with fail
    go_ret
    exact ⟨ret_bool E.out.symm, rfl⟩
set_option maxRecDepth 100000 in
set_option maxHeartbeats 8000000 in
theorem Competes_main {a : Option Addr} {n c k h : Nat} {l : List Int} {w : World} (hr : Rd w a n (ints l)) (hn : n ≤ 120) (hk : k ≤ 30) (hh : 1 ≤ h) (hhk : h ≤ k) (hl : l.any noB = false) :
    Calls Try.prog 6 #[.slice a n c, .int .i64 k, .int .i64 h] w fun e w' => e = .returned (.bool true) ∧ Fr F0 w w' := by
  have hll : l.length = n := by simpa using hr.len
  have hck : ∀ m : Nat, 1 ≤ m → m ≤ 1000 → chk l m = 0 := fun m h1 h2 => by
    unfold chk
    rw [hl, if_neg (by decide), if_neg (by omega), if_neg (by omega)]
  have ck := Lib.hid (hck k (by omega) (by omega))
  have ch := Lib.hid (hck h (by omega) (by omega))
  have c1 : Hid (chk l 1 = 0) := Lib.hid (hck 1 (by omega) (by omega))
  have hcf := ContainsFunc_c1 noB a n c l w hr (fun x => comp1_any x w)
  rw [hl] at hcf
  have hDlen := distL_len l
  rw [hll] at hDlen
  have all := competes_all l hh hhk
  have HU := Lib.hid all.2.2.2.2.2.1
  obtain ⟨g1, g2, g3, g4, g5, _, g7, g8⟩ := all
  have hb2 := lru_hits l (m := h) hh
  rw [hll] at g7 hb2
  have L1 := Lib.hid (fun (W : World) (f : Fr F0 w W) => LRU_any a n c k l W (hr.fr0 f) ck.out)
  have L2 := Lib.hid (fun (W : World) (f : Fr F0 w W) => LRU_any a n c h l W (hr.fr0 f) ch.out)
  have O1 := Lib.hid (fun (W : World) (f : Fr F0 w W) => Optimal_any a n c k l W (hr.fr0 f) ck.out)
  have O2 := Lib.hid (fun (W : World) (f : Fr F0 w W) => Optimal_any a n c h l W (hr.fr0 f) ch.out)
  have Q1 := Lib.hid (fun (W : World) (f : Fr F0 w W) => FIFO_any a n c k l W (hr.fr0 f) ck.out)
  have D1 := Lib.hid (fun (W : World) (f : Fr F0 w W) => Distances_any a n c l W (hr.fr0 f) c1.out (by omega))
  have K1 := Lib.hid (fun (W : World) (f : Fr F0 w W) => Clone_all (a := a) (n := n) (c := c) (xs := l) (hr.fr0 f) (by omega))
  unfold hitsN at g7 hb2
  generalize lruN l k = A at *
  generalize lruN l h = B at *
  generalize optN l k = O at *
  generalize optN l h = P at *
  generalize fifoN l k = Q at *
  unfold DPost at D1
  obtain ⟨D, hD⟩ : ∃ D, D = distL l := ⟨_, rfl⟩
  rw [← hD] at D1 g7 hDlen
  have hA : A ≤ 120 := by omega
  have hP : P ≤ 120 := by omega
  obtain ⟨d, hd⟩ : ∃ d, d = k - h + 1 := ⟨_, rfl⟩
  rw [← hd] at g8
  have e1 : IntKind.i64.wrap ((k : Int) - (h : Int)) = (k : Int) - (h : Int) := IntWalk.i64_in _ (by omega)
  have e2 : IntKind.i64.wrap ((k : Int) - (h : Int) + 1) = (d : Int) := by rw [IntWalk.i64_in _ (by omega)]; omega
  have hdA : d * A ≤ 3600 := Nat.le_trans (Nat.mul_le_mul (show d ≤ 30 by omega) hA) (by omega)
  have hkP : k * P ≤ 3600 := Nat.le_trans (Nat.mul_le_mul hk hP) (by omega)
  obtain ⟨X, hX⟩ : ∃ X, X = d * A := ⟨_, rfl⟩
  obtain ⟨Y, hY⟩ : ∃ X, X = k * P := ⟨_, rfl⟩
  rw [← hX] at g8 hdA
  rw [← hY] at g8 hkP
  have e3 : IntKind.i64.wrap ((d : Int) * (A : Int)) = (X : Int) := by rw [← Int.natCast_mul, ← hX, IntWalk.i64_in _ (by omega)]
  have e4 : IntKind.i64.wrap ((k : Int) * (P : Int)) = (Y : Int) := by rw [← Int.natCast_mul, ← hY, IntWalk.i64_in _ (by omega)]
  have g8' : (X : Int) ≤ (Y : Int) := by omega
  have CF := Lib.hid (fun (W : World) (f : Fr F0 w W) => by
    have h := ContainsFunc_c1 noB a n c l W (hr.fr0 f) (fun x => comp1_any x W)
    rw [hl] at h
    exact h)
  have d1 : decide ((120 : Int) < (n : Int)) = false := by simp; omega
  have d2 : decide ((k : Int) < 1) = false := by simp; omega
  have d3 : decide ((30 : Int) < (k : Int)) = false := by simp; omega
  have d4 : decide ((h : Int) < 1) = false := by simp; omega
  have d5 : decide ((k : Int) < (h : Int)) = false := by simp; omega
  have d5' : decide (k < h) = false := by simp; omega
  have E := Lib.hid (And.intro e1 (And.intro e2 (And.intro e3 (And.intro e4 (And.intro g7 (And.intro g8 (And.intro g8' (And.intro hD hll))))))))
  have HL := Lib.hid (And.intro hn (And.intro hDlen (And.intro g1 (And.intro g2 (And.intro g3 (And.intro g4 g5))))))
  clear e1 e2 e3 e4 g7 g8 g8' hD hll hdA hkP hX hY hd hck hcf hb2 hr hDlen g1 g2 g3 g4 g5 ck ch c1 hl
  go_enter Try.func6, Try.ntmps6
  go_wp2_with fail
  refine (awake_any _).mono ?_
  rintro e w1 ⟨rfl, F⟩
  have FW := Lib.hid F
  clear F
  go_wp2_with fail
  refine (CF.out _ FW.out).mono ?_; rintro e w2 ⟨rfl, rfl⟩
  clear d1 d2 d3 d4 d5 d5' CF
  go_wp2_with fail
  refine (L1.out _ FW.out).mono ?_; rintro e w2 ⟨rfl, F⟩
  replace FW := Lib.hid (FW.out.trans0 F)
  clear F L1
  go_wp2_with fail
  refine (L2.out _ FW.out).mono ?_; rintro e w3 ⟨rfl, F⟩
  replace FW := Lib.hid (FW.out.trans0 F)
  clear F L2
  go_wp2_with fail
  refine (O1.out _ FW.out).mono ?_; rintro e w4 ⟨rfl, F⟩
  replace FW := Lib.hid (FW.out.trans0 F)
  clear F O1
  go_wp2_with fail
  refine (O2.out _ FW.out).mono ?_; rintro e w5 ⟨rfl, F⟩
  replace FW := Lib.hid (FW.out.trans0 F)
  clear F O2
  go_wp2_with fail
  refine (Q1.out _ FW.out).mono ?_; rintro e w6 ⟨rfl, F⟩
  replace FW := Lib.hid (FW.out.trans0 F)
  clear F Q1
  go_wp2_with fail
  refine (D1.out _ FW.out).mono ?_; rintro e w7 ⟨aD, cD, rfl, OD, F⟩
  replace FW := Lib.hid (FW.out.trans0 F)
  have RD := Lib.hid OD.rd
  have BD := Lib.hid (fun j hj => (OD.blk j hj).2)
  clear F D1 OD
  go_wp2_with fail
  refine (K1.out _ FW.out).mono ?_; rintro e w8 ⟨aK, cK, rfl, OK, F⟩
  have BK := Lib.hid (fun j hj => Nat.le_trans FW.out.size (OK.blk j hj).1)
  have ap : ∀ j, onBlk aD j → ¬ onBlk aK j := fun j h1 h2 => by have := BD.out j h1; have := (OK.blk j h2).1; omega
  have Ap := Lib.hid ap
  replace FW := Lib.hid (FW.out.trans0 F)
  replace RD := Lib.hid (RD.out.fr0 F)
  have hso := Lib.hid (Sort_any w7.heap.size n cK aK l w8 OK (by omega))
  clear F K1 OK ap BD
  go_wp2_with fail
  refine hso.out.mono ?_; rintro e w9 ⟨rfl, ys, hp, hw, O9, F⟩
  replace FW := Lib.hid (FW.out.trans F (fun j hj hs => by have := BK.out j hs; omega))
  replace RD := Lib.hid (RD.out.fr F Ap.out)
  obtain ⟨u1, u2⟩ := compact_distinct hw
  have hT := HU.out _ u1 (fun x hx => hp.mem_iff.1 (u2 x hx))
  have hco := Compact_any O9 (by omega)
  obtain ⟨T, hTT⟩ : ∃ T, T = (Lib.compact ys).length := ⟨_, rfl⟩
  rw [← hTT] at hT hco
  have Hco := Lib.hid hco
  have HT := Lib.hid hT
  clear F O9 hso u1 u2 hp hw hco hT hTT HU
  go_wp2_with fail
  refine Hco.out.mono ?_; rintro e w10 ⟨a', c', rfl, F⟩
  replace FW := Lib.hid (FW.out.trans F (fun j hj hs => by have := BK.out j hs; omega))
  replace RD := Lib.hid (RD.out.fr F Ap.out)
  clear F Hco Ap BK
  go_wp2_with fail
  go_loop [21, 123] (fun s21 s123 => ∃ i t : Nat, i ≤ n ∧ t ≤ i ∧ s123 = .int .i64 i ∧ s21 = .int .i64 t ∧ Hid (t = (D.take i).countP (hitB k))) (fun _ s => n - (intOf s).toNat)
  case atStart => exact ⟨0, 0, by omega, by omega, rfl, rfl, Lib.hid rfl⟩
  case round =>
    obtain ⟨i, t, hi, hti, rfl, rfl, ht⟩ := hrel
    by_cases hlt : i < n
    · obtain ⟨b, o, x, rfl, hx, dx⟩ := RD.out.ix hlt
      have i0 : (0 : Int) ≤ (i : Int) := by omega
      have i1 : (i : Int) < (n : Int) := by omega
      have htk : (D.take (i + 1)).countP (hitB k) = t + if hitB k x = true then 1 else 0 := by
        rw [List.take_add_one, hx, List.countP_append, ← ht.out]
        simp [List.countP_cons]
      have w1 : IntKind.i64.wrap ((t : Int) + 1) = (t : Int) + 1 := IntWalk.i64_in _ (by omega)
      by_cases hx1 : 1 ≤ x
      · by_cases hx2 : x ≤ (k : Int)
        · have e : Hid (t + 1 = (D.take (i + 1)).countP (hitB k)) := Lib.hid (by rw [htk, if_pos (by unfold hitB; simp; omega)])
          clear hx htk
          go_wp2_with fail
          go_round
          case rel => exact ⟨i + 1, t + 1, by omega, by omega, by go_num, by go_num, e⟩
          case measure => simp [intOf]; omega
        · have e : Hid (t = (D.take (i + 1)).countP (hitB k)) := Lib.hid (by rw [htk, if_neg (by unfold hitB; simp; omega)]; rfl)
          have hx3 : decide (x ≤ (k : Int)) = false := by simp; omega
          clear hx htk
          go_wp2_with fail
          go_round
          case rel => exact ⟨i + 1, t, by omega, by omega, by go_num, rfl, e⟩
          case measure => simp [intOf]; omega
      · have e : Hid (t = (D.take (i + 1)).countP (hitB k)) := Lib.hid (by rw [htk, if_neg (by unfold hitB; simp; omega)]; rfl)
        have hx3 : decide (1 ≤ x) = false := by simp; omega
        clear hx htk
        go_wp2_with fail
        go_round
        case rel => exact ⟨i + 1, t, by omega, by omega, by go_num, rfl, e⟩
        case measure => simp [intOf]; omega
    · obtain rfl : i = n := by omega
      obtain ⟨e1, e2, e3, e4, g7, g8, g8', hD, hll⟩ := E.out
      have hall : D.take i = D := List.take_of_length_le (by rw [HL.out.2.1]; exact Nat.le_refl _)
      have htot : A + t = i := by rw [ht.out, hall]; exact g7
      obtain ⟨_, _, g1, g2, g3, g4, g5⟩ := HL.out
      have gT := HT.out
      have e5 : IntKind.i64.wrap ((A : Int) + (t : Int)) = (i : Int) := by rw [IntWalk.i64_in _ (by omega)]; omega
      have FWo := Lib.hid FW.out
      clear hall hD g7 ht htot hll
      go_wp2_with fail
      go_ret
      exact ⟨rfl, FWo.out⟩
set_option maxRecDepth 100000 in
theorem Competes_skip {a : Option Addr} {n c : Nat} {k h : Int} {l : List Int} {w : World} (hr : Rd w a n (ints l)) (hc : 120 < n ∨ k < 1 ∨ 30 < k ∨ h < 1 ∨ k < h ∨ l.any noB = true) :
    Calls Try.prog 6 #[.slice a n c, .int .i64 k, .int .i64 h] w fun e w' => e = .returned (.bool true) ∧ Fr F0 w w' := by
  have CF := Lib.hid (fun (W : World) (f : Fr F0 w W) => ContainsFunc_c1 noB a n c l W (hr.fr0 f) (fun x => comp1_any x W))
  generalize l.any noB = L at *
  clear hr
  cases d0 : decide ((120 : Int) < (n : Int)) with
  | true =>
    clear hc
    go_enter Try.func6, Try.ntmps6
    go_wp2_with fail
    refine (awake_any _).mono ?_
    rintro e w1 ⟨rfl, F⟩
    have FW := Lib.hid F
    clear F
    go_wp2_with fail
    go_ret
    exact ⟨rfl, FW.out⟩
  | false =>
    cases d1 : decide (k < 1) with
    | true =>
      clear hc
      go_enter Try.func6, Try.ntmps6
      go_wp2_with fail
      refine (awake_any _).mono ?_
      rintro e w1 ⟨rfl, F⟩
      have FW := Lib.hid F
      clear F
      go_wp2_with fail
      go_ret
      exact ⟨rfl, FW.out⟩
    | false =>
      cases d2 : decide (30 < k) with
      | true =>
        clear hc
        go_enter Try.func6, Try.ntmps6
        go_wp2_with fail
        refine (awake_any _).mono ?_
        rintro e w1 ⟨rfl, F⟩
        have FW := Lib.hid F
        clear F
        go_wp2_with fail
        go_ret
        exact ⟨rfl, FW.out⟩
      | false =>
        cases d3 : decide (h < 1) with
        | true =>
          clear hc
          go_enter Try.func6, Try.ntmps6
          go_wp2_with fail
          refine (awake_any _).mono ?_
          rintro e w1 ⟨rfl, F⟩
          have FW := Lib.hid F
          clear F
          go_wp2_with fail
          go_ret
          exact ⟨rfl, FW.out⟩
        | false =>
          cases d4 : decide (k < h) with
          | true =>
            clear hc
            go_enter Try.func6, Try.ntmps6
            go_wp2_with fail
            refine (awake_any _).mono ?_
            rintro e w1 ⟨rfl, F⟩
            have FW := Lib.hid F
            clear F
            go_wp2_with fail
            go_ret
            exact ⟨rfl, FW.out⟩
          | false =>
            have hL : L = true := by
              simp at d0 d1 d2 d3 d4
              rcases hc with h | h | h | h | h | h
              · omega
              · omega
              · omega
              · omega
              · omega
              · exact h
            subst hL
            clear hc
            go_enter Try.func6, Try.ntmps6
            go_wp2_with fail
            refine (awake_any _).mono ?_
            rintro e w1 ⟨rfl, F⟩
            have FW := Lib.hid F
            clear F
            go_wp2_with fail
            refine (CF.out _ FW.out).mono ?_; rintro e w2 ⟨rfl, rfl⟩
            go_wp2_with fail
            go_ret
            exact ⟨rfl, FW.out⟩
theorem Competes_law (a : Option Addr) (n c : Nat) (l : List Int) (k h : Int) (w : World) (hs : ArgSl w a n c l) :
    Calls Try.prog 6 #[.slice a n c, .int .i64 k, .int .i64 h] w fun e w' => e = .returned (.bool true) ∧ Fr F0 w w' := by
  by_cases hc : 120 < n ∨ k < 1 ∨ 30 < k ∨ h < 1 ∨ k < h ∨ l.any noB = true
  · exact Competes_skip hs.rd hc
  · obtain ⟨k', rfl⟩ := Int.eq_ofNat_of_zero_le (show 0 ≤ k by omega)
    obtain ⟨h', rfl⟩ := Int.eq_ofNat_of_zero_le (show 0 ≤ h by omega)
    refine Competes_main hs.rd (by omega) (by omega) (by omega) (by omega) ?_
    cases hL : l.any noB with
    | false => rfl
    | true => exact absurd (.inr (.inr (.inr (.inr (.inr hL))))) hc
end Go.Proofs.Ytnlgjpcnnnilpaa
