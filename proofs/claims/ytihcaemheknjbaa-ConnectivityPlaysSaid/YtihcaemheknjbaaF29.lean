/- The reference's Bridges. -/
import Derived.Test.YtihcaemheknjbaaF28
import Derived.Test.YtihcaemheknjbaaF21
namespace Go.Proofs.Ytihcaemheknjbaa
open Go.RowKit
attribute [local go_sem ↓] Go.wp_at_zero Go.wp_at_succ
def brE (n : Int) (l : List Pr) : Nat := if ¬ (1 ≤ n ∧ n ≤ 1000) then 2 else if l.any (fun e => !inP n e) then 2 else if 1000 < l.length then 4 else 0
def brL (n : Int) (l : List Pr) : List Nat := if brE n l = 0 then refB n.toNat (l.map natE) else []
def BrR (w : World) (n : Int) (l : List Pr) (e : Ending) (w' : World) : Prop :=
  ∃ a c, e = .returned (.tuple #[.slice a (brL n l).length c, .int .i64 (brE n l : Int)]) ∧ Rd w' a (brL n l).length (nv (brL n l)) ∧ Fr F0 w w'
theorem BrR.no {w w' : World} {n : Int} {l : List Pr} {k : Nat} (h : brE n l = k) (hk : k ≠ 0) (F : Fr F0 w w') : BrR w n l (.returned (.tuple #[.slice none 0 0, .int .i64 (k : Int)])) w' := by
  have h2 : brL n l = [] := by unfold brL; rw [if_neg (by omega)]
  unfold BrR
  rw [h2, h]
  exact ⟨none, 0, rfl, ⟨rfl, by decide, fun h => absurd h (by simp)⟩, F⟩
theorem inV (n : Int) (e : Pr) : inP n e = ((decide (0 ≤ e.1) && decide (e.1 < n)) && (decide (0 ≤ e.2) && decide (e.2 < n))) := by
  rw [Bool.eq_iff_iff, inP_iff]; simp only [Bool.and_eq_true, decide_eq_true_iff]; omega
theorem filter_take {n : Nat} {X : List Ed} (i : Nat) : (List.range (i + 1)).filter (isB n X) = (List.range i).filter (isB n X) ++ (if isB n X i then [i] else []) := by
  rw [List.range_succ, List.filter_append, List.filter_cons, List.filter_nil]
set_option maxRecDepth 100000 in
set_option maxHeartbeats 16000000 in
theorem refBridges_any {w : World} {n : Int} {a : Option Addr} {m c : Nat} {l : List Pr} (h : ArgP w a m c l) (hm : m ≤ 3000) :
    Calls Try.prog 35 #[.int .i64 n, .slice a m c] w (BrR w n l) := by
  have hmx := h.max
  have hcap := h.cap
  have hml := h.len
  have HA := Lib.hid h
  have HM := Lib.hid hml
  have HV := Lib.hid (Vertices_any n w)
  clear h hml
  by_cases hn : 1 ≤ n ∧ n ≤ 1000
  · have HN := Lib.hid hn
    have eV : (decide (1 ≤ n) && decide (n ≤ 1000)) = true := by simp; omega
    rw [eV] at HV
    clear eV
    go_enter Try.func35, Try.ntmps35
    go_wp2_with fail
    refine HV.out.mono ?_
    rintro e w1 ⟨rfl, rfl⟩
    clear HV
    go_wp2_with fail
    go_loopw [6] (fun s6 wr => ∃ (i : Nat), i ≤ m ∧ s6 = .int .i64 i ∧ Hid ((l.take i).any (fun e => !inP n e) = false) ∧ Hid (Fr F0 w wr)) (fun s6 _ => m - (intOf s6).toNat)
    case atStart => exact ⟨0, Nat.zero_le _, rfl, Lib.hid rfl, Lib.hid (Fr.refl _ _)⟩
    case round =>
      obtain ⟨i, hi, rfl, hno, H⟩ := hrel
      by_cases hlt : i < m
      · obtain ⟨⟨x, y⟩, hx⟩ : ∃ x, l[i]? = some x := ⟨_, List.getElem?_eq_getElem (by rw [HM.out]; exact hlt)⟩
        obtain ⟨b, o, hb, c1, c2⟩ := (HA.out.fr0 H.out).cells i _ hx
        subst hb
        dsimp only at c1 c2
        have Hx := Lib.hid hx
        have hlt' : (i : Int) < (m : Int) := by omega
        have I1 := Lib.hid (fun W : World => In_any n x W)
        have I2 := Lib.hid (fun W : World => In_any n y W)
        clear hx
        cases hx1 : (decide (0 ≤ x) && decide (x < n)) with
        | false =>
          rw [hx1] at I1
          have hE : Hid (brE n l = 2) := Lib.hid (by
            unfold brE
            rw [if_neg (by have := HN.out; omega), if_pos]
            exact List.any_eq_true.2 ⟨_, List.mem_of_getElem? Hx.out, by rw [inV]; simp only [hx1]; rfl⟩)
          clear hx1
          go_wp2_with fail
          refine (I1.out _).mono ?_
          rintro e w1 ⟨rfl, rfl⟩
          go_wp2_with fail
          go_ret2
          exact BrR.no hE.out (by decide) H.out
        | true =>
          rw [hx1] at I1
          cases hy1 : (decide (0 ≤ y) && decide (y < n)) with
          | false =>
            rw [hy1] at I2
            have hE : Hid (brE n l = 2) := Lib.hid (by
              unfold brE
              rw [if_neg (by have := HN.out; omega), if_pos]
              exact List.any_eq_true.2 ⟨_, List.mem_of_getElem? Hx.out, by rw [inV]; simp only [hx1, hy1]; rfl⟩)
            clear hx1 hy1
            go_wp2_with fail
            refine (I1.out _).mono ?_
            rintro e w1 ⟨rfl, rfl⟩
            go_wp2_with fail
            refine (I2.out _).mono ?_
            rintro e w1 ⟨rfl, rfl⟩
            go_wp2_with fail
            go_ret2
            exact BrR.no hE.out (by decide) H.out
          | true =>
            rw [hy1] at I2
            have hno2 : Hid ((l.take (i + 1)).any (fun e => !inP n e) = false) := Lib.hid (by
              rw [take_snoc Hx.out, List.any_append, hno.out]
              show (false || ([(x, y)].any _)) = false
              simp only [List.any_cons, List.any_nil, Bool.or_false, Bool.false_or]
              rw [inV]; simp only [hx1, hy1]; rfl)
            clear hx1 hy1
            go_wp2_with fail
            refine (I1.out _).mono ?_
            rintro e w1 ⟨rfl, rfl⟩
            go_wp2_with fail
            refine (I2.out _).mono ?_
            rintro e w1 ⟨rfl, rfl⟩
            go_wp2_with fail
            go_roundw
            case rel => exact ⟨i + 1, by omega, by go_num, hno2, H⟩
            case measure => simp [intOf]; omega
      · obtain rfl : m = i := by omega
        have hall : ∀ e ∈ l, inP n e = true := by
          have h := hno.out
          rw [List.take_of_length_le (by rw [HM.out]; exact Nat.le_refl _), List.any_eq_false] at h
          intro e he
          have := h e he
          simpa using this
        have hany : l.any (fun e => !inP n e) = false := by
          have h := hno.out
          rwa [List.take_of_length_le (by rw [HM.out]; exact Nat.le_refl _)] at h
        by_cases hbig : 1000 < m
        · have hE : Hid (brE n l = 4) := Lib.hid (by
            unfold brE
            rw [if_neg (by have := HN.out; omega), hany, if_neg (by decide), if_pos (by rw [HM.out]; exact hbig)])
          clear hall hany
          go_wp2_with fail
          go_ret2
          exact BrR.no hE.out (by decide) H.out
        · obtain ⟨wq, hwq⟩ : ∃ q, q = wr := ⟨_, rfl⟩
          subst hwq
          have hE : Hid (brE n l = 0) := Lib.hid (by
            unfold brE
            rw [if_neg (by have := HN.out; omega), hany, if_neg (by decide), if_neg (by rw [HM.out]; exact hbig)])
          obtain ⟨N, rfl⟩ := Int.eq_ofNat_of_zero_le (show 0 ≤ n by omega)
          have hN : N ≤ 1000 := by have := HN.out; omega
          obtain ⟨X, hXd⟩ : ∃ X, X = l.map natE := ⟨_, rfl⟩
          have hX : ∀ e ∈ X, e.1 < N ∧ e.2 < N := fun e he => by
            rw [hXd] at he
            obtain ⟨p, hp, rfl⟩ := List.mem_map.1 he
            have := inP_iff.1 (hall p hp)
            unfold natE
            dsimp only
            omega
          have hR0 : RdZ wq 2 a m (eds X) := by rw [hXd]; exact (HA.out.fr0 H.out).rdz hall
          have hXl : X.length = m := by rw [hXd, List.length_map, HM.out]
          have hEL : brL (N : Int) l = refB N X := by unfold brL; rw [if_pos hE.out, hXd]; rfl
          have HR := Lib.hid hR0
          have HXb := Lib.hid hX
          have HXl := Lib.hid hXl
          have HEL := Lib.hid hEL
          clear hall hany hX hR0 hXl hEL hXd hno HN hn hlt
          go_wp2_with fail
          go_loopw [7, 8] (fun s7 s8 wz => ∃ (j k : Nat) (aO : Option Addr) (cO : Nat), j ≤ m ∧ k ≤ j ∧ s8 = .int .i64 j ∧ s7 = .slice aO k cO ∧ Hid (k = ((List.range j).filter (isB N X)).length) ∧ Hid (Own wz wq.heap.size 3 aO k cO (nv ((List.range j).filter (isB N X))) ∧ Fr F0 wq wz)) (fun _ s8 _ => m - (intOf s8).toNat)
          case atStart => exact ⟨0, 0, none, 0, Nat.zero_le _, Nat.le_refl _, rfl, rfl, Lib.hid rfl, Lib.hid ⟨Own.nil _ _ _, Fr.refl _ _⟩⟩
          case round =>
            obtain ⟨j, k, aO, cO, hj, hk, rfl, rfl, HK, HO⟩ := hrel
            by_cases hlt : j < m
            · obtain ⟨⟨e1, e2⟩, he⟩ : ∃ e, X[j]? = some e := ⟨_, List.getElem?_eq_getElem (by rw [HXl.out]; exact hlt)⟩
              have hen := HXb.out _ (List.mem_of_getElem? he)
              dsimp only at hen
              have hlt' : (j : Int) < (m : Int) := by omega
              have He := Lib.hid he
              clear he
              go_wp2_with fail
              have h2a : ∀ W : World, (Instr.sliceAt 60 (.slice a m c) none (some (.int .i64 (j : Int))) none).run Try.prog W = .ok (.slice (cutZ 2 a c 0) j c) W := fun W => run_cutHiZ2 E62 W a (by omega) rfl
              have h2b : ∀ W : World, (Instr.sliceAt 60 (.slice a m c) (some (.int .i64 ((j : Int) + 1))) none none).run Try.prog W = .ok (.slice (cutZ 2 a c (j + 1)) (m - (j + 1)) (c - (j + 1))) W := fun W => run_cutLoZ E62 W a (k := j + 1) (by omega) (by omega)
              have hww : IntKind.i64.wrap ((j : Int) + 1) = (j : Int) + 1 := wI (by omega) (by omega)
              obtain ⟨w1, hw1⟩ : ∃ W, W = wr.drew := ⟨_, rfl⟩
              have A0 : Hid (Fr F0 wr w1) := Lib.hid (by rw [hw1]; exact Fr.drew (Fr.refl F0 _))
              refine wp_region_last 10 (fun _ : World => True) (by kernel_rfl) ?_
              rw [← hw1]
              have hHeld : (fun _ : World => True) w1 := trivial
              clear hw1
              refine anyP_takeF 1 (v := ?_) rfl (by kernel_rfl) (fun _ _ _ h => h) (Or.inl ⟨by rfl, ?_⟩) (.inr hHeld) ?_
              rotate_left 1
              · (intro w0 hSw; (try dsimp only at hSw); go_simp; (try (with_reducible rfl)))
              (try simp only [Act.put, List.setIfInBounds_toArray, List.set_cons_zero, List.set_cons_succ])
              refine anyP_takeF 2 (v := ?_) rfl (by kernel_rfl) (fun _ _ _ h => h) (Or.inl ⟨by rfl, ?_⟩) (.inr hHeld) ?_
              rotate_left 1
              · (intro w0 hSw; (try dsimp only at hSw); go_simp; (try (with_reducible rfl)))
              (try simp only [Act.put, List.setIfInBounds_toArray, List.set_cons_zero, List.set_cons_succ])
              refine anyP_takeF 3 (v := ?_) rfl (by kernel_rfl) (fun _ _ _ h => h) (Or.inl ⟨by rfl, ?_⟩) (.inr hHeld) ?_
              rotate_left 1
              · (intro w0 hSw; (try dsimp only at hSw); go_simp; (try (with_reducible rfl)))
              (try simp only [Act.put, List.setIfInBounds_toArray, List.set_cons_zero, List.set_cons_succ])
              refine anyP_takeF 5 (v := ?_) rfl (by kernel_rfl) (fun _ _ _ h => h) (Or.inl ⟨by rfl, ?_⟩) (.inr hHeld) ?_
              rotate_left 1
              · (intro w0 hSw; (try dsimp only at hSw); go_simp; (try (with_reducible rfl)))
              (try simp only [Act.put, List.setIfInBounds_toArray, List.set_cons_zero, List.set_cons_succ])
              refine anyP_takeF 6 (v := ?_) rfl (by kernel_rfl) (fun _ _ _ h => h) (Or.inl ⟨by rfl, ?_⟩) (.inr hHeld) ?_
              rotate_left 1
              · (intro w0 hSw; (try dsimp only at hSw); go_simp; (try (with_reducible rfl)))
              (try simp only [Act.put, List.setIfInBounds_toArray, List.set_cons_zero, List.set_cons_succ])
              refine anyP_takeF 7 (v := ?_) rfl (by kernel_rfl) (fun _ _ _ h => h) (Or.inl ⟨by rfl, ?_⟩) (.inr hHeld) ?_
              rotate_left 1
              · (intro w0 hSw; (try dsimp only at hSw); go_simp; (try (with_reducible rfl)))
              (try simp only [Act.put, List.setIfInBounds_toArray, List.set_cons_zero, List.set_cons_succ])
              refine anyP_takeF 8 (v := ?_) rfl (by kernel_rfl) (fun _ _ _ h => h) (Or.inl ⟨by rfl, ?_⟩) (.inr hHeld) ?_
              rotate_left 1
              · (intro w0 hSw; (try dsimp only at hSw); go_simp; (try (with_reducible rfl)))
              (try simp only [Act.put, List.setIfInBounds_toArray, List.set_cons_zero, List.set_cons_succ])
              clear hww h2a h2b
              refine anyP_one 0 (by kernel_rfl) rfl (fun KK hKK => ?_)
              replace hKK := Lib.hid hKK
              go_simp
              refine hKK.out _ _ (.inr trivial) ?_
              clear hKK KK
              (try simp only [Act.put, List.setIfInBounds_toArray, List.set_cons_zero, List.set_cons_succ])
              have FA := (Fr.refl F0 w1).alloc (.cells #[] 62)
              have A1 := Lib.hid (A0.out.trans0 FA)
              have O1 := Lib.hid (OwnZ.lit (w := w1) (B := wr.heap.size) (T := 62) (s := 2) [] 0 rfl A0.out.size (by omega))
              change Hid (OwnZ (w1.alloc (.cells #[] 62)) wr.heap.size 62 2 _ 0 0 []) at O1
              obtain ⟨w2, hw2⟩ : ∃ W, W = w1.alloc (.cells #[] 62) := ⟨_, rfl⟩
              rw [← hw2] at A1 O1 ⊢
              clear hw2 FA
              refine anyP_one 4 (by kernel_rfl) rfl (fun KK hKK => ?_)
              replace hKK := Lib.hid hKK
              have R1 := ((HR.out.fr0 HO.out.2).fr0 A1.out).cutHi hcap (k := j) (by omega)
              rw [eds_take] at R1
              refine stepAppZ E62 (by decide) (by rfl) (by rfl) (by rfl) (by rfl) O1.out R1 (eds_one _) (by omega) (by omega) A1.out.size j (by omega) ?_
              intro a3 c3 w3 own' fr' at'
              rw [List.nil_append] at own'
              have A2 := Lib.hid (A1.out.trans fr' (fun k hk hs => by have := (OwnZ.blk O1.out k hs).1; omega))
              refine hKK.out _ _ (.inr trivial) ?_
              clear hKK KK R1
              (try simp only [Act.put, List.setIfInBounds_toArray, List.set_cons_zero, List.set_cons_succ])
              have O2 := Lib.hid own'
              clear own' fr' at'
              refine anyP_one 9 (by kernel_rfl) rfl (fun KK hKK => ?_)
              replace hKK := Lib.hid hKK
              have R2 := ((HR.out.fr0 HO.out.2).fr0 A2.out).cut hcap (k := j + 1) (r := m - (j + 1)) (by omega)
              rw [eds_drop] at R2
              refine stepAppZ E62 (by decide) (by rfl) (by rfl) (by rfl) (by rfl) O2.out R2 (eds_one _) (by omega) (by omega) A2.out.size (m - 1) (by omega) ?_
              intro a4 c4 w4 own' fr' at'
              have A3 := Lib.hid (A2.out.trans fr' (fun k hk hs => by have := (OwnZ.blk O2.out k hs).1; omega))
              refine hKK.out _ _ (.inr trivial) ?_
              clear hKK KK R2
              (try simp only [Act.put, List.setIfInBounds_toArray, List.set_cons_zero, List.set_cons_succ])
              rw [← eds_app] at own'
              have O3 := Lib.hid own'
              clear own' fr' at' hHeld
              have hHeld : (fun _ : World => True) w4 := trivial
              refine anyP_one 10 (by kernel_rfl) rfl (fun K hK => ?_)
              replace hK := Lib.hid hK
              go_simp
              refine hK.out _ _ (.inr trivial) ?_
              clear hK K
              (try simp only [Act.put, List.setIfInBounds_toArray, List.set_cons_zero, List.set_cons_succ])
              refine anyP_done (by kernel_rfl) ?_ _
              refine NoPanic.normal ?_
              have HJ := Lib.hid (Joined_any (n := N) (c := c4) O3.out.rd (by omega) hN (without_lt HXb.out j))
              go_wp2_with fail
              refine HJ.out.mono ?_
              rintro e w5 ⟨a5, c5, rfl, O5, F5⟩
              rw [foldP_len] at O5 ⊢
              have HO5 := Lib.hid O5
              have A4 := Lib.hid (A3.out.trans0 F5)
              clear O5 F5 HJ A0 A1 A2 A3 O1 O2 O3
              obtain ⟨b, o, rfl, hc⟩ := ((HR.out.fr0 HO.out.2).fr0 A4.out).cells (by omega)
              obtain ⟨q1, q2⟩ := eds_get He.out
              have x1 := hc _ _ q1
              have x2 := hc _ _ q2
              rw [← Nat.add_assoc] at x2
              dsimp only at x1 x2
              obtain ⟨b3, o3, pa, rfl, hpa, ca⟩ := HO5.out.rd.nvix hen.1
              obtain ⟨b4, o4, pb, hab, hpb, cb⟩ := HO5.out.rd.nvix hen.2
              obtain ⟨rfl, rfl⟩ : b3 = b4 ∧ o3 = o4 := by injection hab with hab; injection hab with h1 h2; exact ⟨h1, h2⟩
              have hI : isB N X j = decide (pa ≠ pb) := by unfold isB; rw [He.out]; dsimp only; rw [gd hpa, gd hpb]
              have hft := filter_take (n := N) (X := X) j
              have hen' : (e1 : Int) < (N : Int) ∧ (e2 : Int) < (N : Int) := by omega
              obtain ⟨hen1, hen2⟩ := hen'
              have HO6 := Lib.hid (HO.out.1.fr0 A4.out)
              have F6 := Lib.hid (HO.out.2.trans0 A4.out)
              clear hc q1 q2 hab hpa hpb
              by_cases hpq : pa = pb
              · have nqe : ((pa : Int) != (pb : Int)) = false := by simp; omega
                rw [hI, decide_eq_false (by omega), if_neg (by decide), List.append_nil] at hft
                have Hft := Lib.hid hft
                clear hft hI hpq
                go_wp2_with fail
                go_quiet (fail)
                go_wp2_with fail
                go_roundw
                case rel => exact ⟨j + 1, k, aO, cO, by omega, by omega, by go_num, rfl, Lib.hid (by rw [Hft.out]; exact HK.out), Lib.hid ⟨by rw [Hft.out]; exact HO6.out.fr0 ((Fr.refl F0 _).drewN nq), F6.out.drewN nq⟩⟩
                case measure => simp [intOf]; omega
              · have nqe : ((pa : Int) != (pb : Int)) = true := by simp; omega
                rw [hI, decide_eq_true (by omega), if_pos rfl] at hft
                have Hft := Lib.hid hft
                clear hft hI hpq
                go_wp2_with fail
                go_quiet (fail)
                have HO7 := Lib.hid (HO6.out.fr0 ((Fr.refl F0 _).drewN nq))
                have F7 := Lib.hid (F6.out.drewN nq)
                obtain ⟨w6, hw6⟩ : ∃ W, W = w5.drewN nq := ⟨_, rfl⟩
                rw [← hw6] at HO7 F7 ⊢
                clear hw6
                go_wp2_with (at_builtin; refine wpAppAt E3 HO7.out (by omega) (by omega) F7.out.size (u := .int .i64 (j : Int)) rfl rfl rfl ?_; intro aX cX wX ownX frX atX; have HOX := Lib.hid ownX; have HFX := Lib.hid (F7.out.trans frX (fun k hk hs => by have := (HO.out.1.blk k hs).1; omega)); clear ownX frX atX)
                go_roundw
                case rel => exact ⟨j + 1, k + 1, aX, cX, by omega, by omega, by go_num, rfl, Lib.hid (by rw [Hft.out, List.length_append, ← HK.out]; rfl), Lib.hid ⟨by rw [Hft.out, nv_app]; exact HOX.out, HFX.out⟩⟩
                case measure => simp [intOf]; omega
            · obtain rfl : m = j := by omega
              go_wp2_with fail
              go_ret2
              have e1 : (List.range m).filter (isB N X) = refB N X := by unfold refB; rw [HXl.out]
              have hk := HK.out
              have hO := HO.out
              rw [e1] at hk hO
              unfold BrR
              rw [HEL.out, hE.out, ← hk]
              exact ⟨_, _, rfl, hO.1.rd, H.out.trans0 hO.2⟩
  · have hE : Hid (brE n l = 2) := Lib.hid (by unfold brE; rw [if_pos hn])
    have eV : (decide (1 ≤ n) && decide (n ≤ 1000)) = false := by
      cases g : (decide (1 ≤ n) && decide (n ≤ 1000)) with
      | false => rfl
      | true => simp at g; exact absurd g hn
    rw [eV] at HV
    clear eV hn
    go_enter Try.func35, Try.ntmps35
    go_wp2_with fail
    refine HV.out.mono ?_
    rintro e w1 ⟨rfl, rfl⟩
    go_wp2_with fail
    go_ret2
    exact BrR.no hE.out (by decide) (Fr.refl _ _)
end Go.Proofs.Ytihcaemheknjbaa
