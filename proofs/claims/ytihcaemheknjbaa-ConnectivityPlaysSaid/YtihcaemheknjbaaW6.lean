/- The law Plays: the walk. -/
import Derived.Test.YtihcaemheknjbaaF37
import Derived.Test.YtihcaemheknjbaaF38
import Derived.Test.YtihcaemheknjbaaU1
import Derived.Test.YtihcaemheknjbaaU2
import Derived.Test.YtihcaemheknjbaaComU8
import Derived.Test.YtihcaemheknjbaaF30s
import Derived.Deep.DeepCutAuto
import Derived.Deep.CutBlock
import Derived.BigQuiet
namespace Go.Proofs.Ytihcaemheknjbaa
open Go.RowKit
attribute [local go_sem ↓] Go.wp_at_zero Go.wp_at_succ
theorem E55z : ElemZ Try.prog 55 26 (.slice none 0 0) 1 24 := ⟨by kernel_rfl, by kernel_rfl, rfl⟩
set_option maxRecDepth 100000 in
set_option maxHeartbeats 100000000 in
theorem law6_go {w : World} {nn : Nat} (hn : 1 ≤ nn ∧ nn ≤ 40) {aK aV aU : Option Addr} {mK cK mV cV mU cU : Nat} {Ks Vs Us : List Int} (hK : ArgU8 w aK mK cK Ks) (hV : ArgSl w aV mV cV Vs) (hU : ArgSl w aU mU cU Us) (h1 : mK ≤ 60) (h2 : mV ≤ 60) (h3 : mU ≤ 60) :
    Calls Try.prog 6 #[.int .i64 (nn : Int), .slice aK mK cK, .slice aV mV cV, .slice aU mU cU] w fun e w' => e = .returned (.bool true) ∧ Fr F0 w w' := by
  have HA := Lib.hid (And.intro hK (And.intro hV hU))
  have HW := Lib.hid awake_any
  have HL := Lib.hid (fun w => large_any (nn : Int) 0 w)
  rw [show lg (nn : Int) 0 = false by unfold lg; simp; omega] at HL
  have HM := Lib.hid (fun w => made_ok nn w hn.1 (by omega))
  have HSi := Lib.hid (fun w => Singles_any nn w (by omega))
  obtain ⟨m, hm⟩ : ∃ m, m = min mK (min mV mU) := ⟨_, rfl⟩
  clear hK hV hU
  go_enter Try.func6, Try.ntmps6
  go_wp2_with fail
  refine (HW.out w).mono ?_; rintro e w1 ⟨rfl, F1⟩; have HF1 := Lib.hid F1; clear F1
  go_wp2_with fail
  refine (HL.out w1).mono ?_; rintro e w2 ⟨rfl, rfl⟩
  go_wp2_with fail
  refine (HM.out w1).mono ?_; rintro e w2 ⟨f, rfl, hFh, F2⟩
  have HFh := Lib.hid (Fh.low (Nat.le_refl _) hFh)
  have HF2 := Lib.hid F2
  clear hFh F2
  go_wp2_with fail
  refine (HSi.out w2).mono ?_
  unfold SlR
  rw [List.length_range]
  rintro e w3 ⟨aS, cS, rfl, oS, F3⟩
  have HS := Lib.hid (And.intro oS F3)
  clear oS F3
  go_upto_region 9 with fail
  have F4 := (Fr.refl F0 w3).alloc (.cells #[.slice aS nn cS] 26)
  have O4 := Own.lit (w := w3) (B := w1.heap.size) (T := 26) [.slice aS nn cS] 1 rfl (Nat.le_trans HF2.out.size HS.out.2.size) (by omega)
  change Own (w3.alloc (.cells #[.slice aS nn cS] 26)) _ _ _ _ _ _ at O4
  obtain ⟨gP0, hg⟩ : ∃ b, b = w3.heap.size := ⟨_, rfl⟩
  obtain ⟨w4, hw4⟩ : ∃ W, W = w3.alloc (.cells #[.slice aS nn cS] 26) := ⟨_, rfl⟩
  rw [← hw4] at F4 O4 ⊢
  rw [← hg] at O4 ⊢
  have hP0 : PS w1 w4 f nn [] (List.range nn) [List.range nn] gP0 1 (fun _ => (aS, cS)) (fun k => w1.heap.size ≤ k ∧ k < w2.heap.size) := by
    have hF3 := HS.out.2
    refine ⟨(HFh.out.fr0 hF3).fr0 F4, by simpa using O4, ?_, ?_, fun k hk => ⟨hk.1, ?_⟩, (HF2.out.trans0 hF3).trans0 F4⟩
    · intro j q hq
      have hj : j = 0 := by have := (List.getElem?_eq_some_iff.1 hq).1; simp at this; omega
      subst hj
      injection hq with hq
      subst hq
      refine ⟨HS.out.1.rd.fr F4 (fun _ _ h => h), fun k hk => ?_⟩
      have := HS.out.1.blk k hk
      have := F4.size
      exact ⟨by omega, by omega, by omega⟩
    · have := hF3.size; omega
    · have := hF3.size; have := F4.size; omega
  have HP0 := Lib.hid hP0
  have HArg : Hid (∀ w', Fr F0 w1 w' → ArgU8 w' aK mK cK Ks ∧ ArgSl w' aV mV cV Vs ∧ ArgSl w' aU mU cU Us) := Lib.hid (fun w' F => by
    have G := HF1.out.trans0 F
    obtain ⟨q1, q2, q3⟩ := HA.out
    exact ⟨⟨q1.rd.fr G (fun _ _ h => h), q1.cap, q1.wf⟩, ⟨q2.rd.fr G (fun _ _ h => h), q2.cap, q2.wf⟩, ⟨q3.rd.fr G (fun _ _ h => h), q3.cap, q3.wf⟩⟩)
  clear hw4 hg F4 O4 hP0 HS HFh HF2 HA
  go_cut [64, 65] (fun s64 s65 wx => s64 = .int .i64 (m : Int) ∧ s65 = .int .i64 0 ∧ wx = w4)
  case first =>
    go_wp2_with fail
    all_goals
      go_meet
      exact ⟨congrArg (Value.int .i64) (by omega), rfl, rfl⟩
  case rest =>
    obtain ⟨rfl, rfl, rfl⟩ := hcut
    have hmm : m ≤ mK ∧ m ≤ mV ∧ m ≤ mU := by omega
    clear hm
    go_wp2_with fail
    go_loopw [11, 65] (fun s11 s65 wr => ∃ (i k : Nat) (ps : List (List Nat)) (p : List Nat) (gP cP : Nat) (rows : Nat → Option Addr × Nat) (N : Nat → Prop), i ≤ m ∧ s65 = .int .i64 i ∧ s11 = .slice (some ⟨gP, 0, none⟩) (k + 1) cP ∧ k ≤ i ∧ Hid (k = ps.length ∧ PS w1 wr f nn ps p (ps ++ [p]) gP cP rows N)) (fun _ s65 _ => m - (intOf s65).toNat)
    case atStart => exact ⟨0, 0, [], List.range nn, gP0, 1, _, _, Nat.zero_le _, rfl, rfl, Nat.le_refl _, Lib.hid ⟨rfl, HP0.out⟩⟩
    case round =>
      obtain ⟨i, k, ps, p, gP, cP, rows, N, hi, rfl, rfl, hki, H⟩ := hrel
      by_cases hlt : i < m
      · have hlt' : (i : Int) < (m : Int) := by omega
        have hAr := HArg.out wr H.out.2.fr
        obtain ⟨x, hx⟩ : ∃ x, Ks[i]? = some x := ⟨_, List.getElem?_eq_getElem (by have := hAr.1.rd.len; simp at this; omega)⟩
        obtain ⟨v, hv⟩ : ∃ x, Vs[i]? = some x := ⟨_, List.getElem?_eq_getElem (by have := hAr.2.1.rd.len; simp at this; omega)⟩
        obtain ⟨u, hu⟩ : ∃ x, Us[i]? = some x := ⟨_, List.getElem?_eq_getElem (by have := hAr.2.2.rd.len; simp at this; omega)⟩
        obtain ⟨bK, oK, rfl, cK'⟩ := hAr.1.rd.cells (by omega)
        obtain ⟨bV, oV, rfl, cV'⟩ := hAr.2.1.rd.cells (by omega)
        obtain ⟨bU, oU, rfl, cU'⟩ := hAr.2.2.rd.cells (by omega)
        have dK := cK' i _ (by rw [List.getElem?_map, hx]; rfl)
        have dV := cV' i _ (by rw [List.getElem?_map, hv]; rfl)
        have dU := cU' i _ (by rw [List.getElem?_map, hu]; rfl)
        have hxr := hAr.1.wf x (List.mem_of_getElem? hx)
        obtain ⟨aL, cL, dL, rL⟩ := H.out.2.last
        rw [← H.out.1] at dL
        have RL := Lib.hid rL
        have hsub : IntKind.i64.wrap ((k : Int) + 1 - 1) = (k : Int) := by rw [wI (by omega) (by omega)]; omega
        clear hAr cK' cV' cU' hx hv hu rL
        go_wp2_with fail
        go_quiet (fail)
        go_upto_block 2 with fail
        generalize hwz : wr.drewN nq = wz
        have HZ : Hid (k = ps.length ∧ PS w1 wz f nn ps p (ps ++ [p]) gP cP rows N) := Lib.hid ⟨H.out.1, by rw [← hwz]; exact H.out.2.fr0 ((Fr.refl F0 _).drewN nq)⟩
        have RZ : Hid (Rd wz aL nn (nv p) ∧ ∀ k, onBlk aL k → k < wz.heap.size ∧ ¬ N k ∧ k ≠ gP) := Lib.hid ⟨by rw [← hwz]; exact RL.out.1.fr ((Fr.refl F0 _).drewN nq) (fun _ _ h => h), by rw [← hwz]; exact RL.out.2⟩
        have hpl := HZ.out.2.fh.len
        obtain ⟨r, hr⟩ : ∃ r, r = x % 4 := ⟨_, rfl⟩
        rw [← hr]
        have hr4 : r = 0 ∨ r = 1 ∨ r = 2 ∨ r = 3 := by omega
        clear hwz dK dV dU dL RL H hr hxr
        go_cut [11] (fun s11 wx => ∃ (k' : Nat) (ps' : List (List Nat)) (p' : List Nat) (gP' cP' : Nat) (rows' : Nat → Option Addr × Nat) (N' : Nat → Prop), s11 = .slice (some ⟨gP', 0, none⟩) (k' + 1) cP' ∧ k' ≤ i + 1 ∧ Hid (k' = ps'.length ∧ PS w1 wx f nn ps' p' (ps' ++ [p']) gP' cP' rows' N'))
        case first =>
          rcases hr4 with rfl | rfl | rfl | rfl
          · as_aux_lemma =>
            by_cases hr : 0 ≤ v ∧ v < (nn : Int) ∧ 0 ≤ u ∧ u < (nn : Int)
            · obtain ⟨va, rfl⟩ := Int.eq_ofNat_of_zero_le hr.1
              obtain ⟨ua, rfl⟩ := Int.eq_ofNat_of_zero_le hr.2.2.1
              have hva : va < nn := by omega
              have hua : ua < nn := by omega
              have HUn := Lib.hid (Union_h HZ.out.2.fh (by omega) (by have := HZ.out.1; omega) hva hua)
              obtain ⟨pv, hpv⟩ : ∃ z, z = p.getD va 0 := ⟨_, rfl⟩
              obtain ⟨pu, hpu⟩ : ∃ z, z = p.getD ua 0 := ⟨_, rfl⟩
              unfold UnP at HUn
              rw [← hpv, ← hpu] at HUn
              have gv : p[va]? = some pv := by rw [hpv, List.getD_eq_getElem?_getD, List.getElem?_eq_getElem (by omega)]; rfl
              have gu : p[ua]? = some pu := by rw [hpu, List.getD_eq_getElem?_getD, List.getElem?_eq_getElem (by omega)]; rfl
              have HIn : Hid (∀ z : Nat, z < nn → ∀ W, Calls Try.prog 27 #[.int .i64 (nn : Int), .int .i64 (z : Int)] W fun e w' => e = .returned (.bool true) ∧ W = w') := Lib.hid (fun z hz W => by
                have := In_any (nn : Int) (z : Int) W
                rw [show (decide (0 ≤ (z : Int)) && decide ((z : Int) < (nn : Int))) = true by simp; omega] at this
                exact this)
              have Gv := Lib.hid (And.intro gv gu)
              clear hr hpv hpu gv gu
              go_wp2_with fail
              refine HUn.out.mono ?_
              rintro e wy ⟨rfl, hF, hFr⟩
              have HY : Hid (PS w1 wy f nn (ps ++ [p]) (joinP p va ua) (ps ++ [p]) gP cP rows (ext N wz wy)) := Lib.hid (HZ.out.2.union hF hFr)
              have RY : Hid (Rd wy aL nn (nv p) ∧ ∀ k, onBlk aL k → k < wy.heap.size ∧ ¬ ext N wz wy k ∧ k ≠ gP) := Lib.hid ⟨RZ.out.1.fr hFr (fun k hk => (RZ.out.2 k hk).2.1), fun k hk => by
                obtain ⟨q1, q2, q3⟩ := RZ.out.2 k hk
                exact ⟨Nat.lt_of_lt_of_le q1 hFr.size, fun hh => hh.elim q2 (fun hh => by omega), q3⟩⟩
              clear hF hFr HUn
              go_wp2_with fail
              refine (HIn.out va hva _).mono ?_
              rintro e w' ⟨rfl, rfl⟩
              go_wp2_with fail
              refine (HIn.out ua hua _).mono ?_
              rintro e w' ⟨rfl, rfl⟩
              obtain ⟨bL, oL, rfl, cc⟩ := RY.out.1.cells (by omega)
              have dv := cc va _ (nv_get Gv.out.1)
              have du := cc ua _ (nv_get Gv.out.2)
              clear cc
              have HrU : Hid (∀ W, Fr F0 wy W → Calls Try.prog 28 #[.slice (some ⟨bL, oL, none⟩) nn cL, .int .i64 va, .int .i64 ua] W (SlR W (joinP p va ua))) := Lib.hid (fun W F => refUnion_any (RY.out.1.fr F (fun _ _ h => h)) (by omega) hva hua)
              have hjl : (joinP p va ua).length = nn := by rw [joinP_len]; exact hpl
              by_cases hpp : pv = pu
              all_goals
                first
                  | (have q1 : (!(pv == pu)) = false := by simp [hpp]
                     have q2 : ((pv : Int) != (pu : Int)) = false := by simp [hpp])
                  | (have q1 : (!(pv == pu)) = true := by simp [hpp]
                     have q2 : ((pv : Int) != (pu : Int)) = true := by simp; omega)
                try rw [q1]
                go_wp2_with fail
                go_quiet (fail)
                go_wp2_with fail
                have HY2 := Lib.hid (HY.out.fr0 ((Fr.refl F0 wy).drewN nq))
                have HrU2 := Lib.hid (HrU.out (wy.drewN nq) ((Fr.refl F0 wy).drewN nq))
                generalize wy.drewN nq = wy2 at HY2 HrU2 ⊢
                unfold SlR at HrU2
                rw [hjl] at HrU2
                refine HrU2.out.mono ?_
                rintro e wv ⟨aJ, cJ, rfl, oJ, FJ⟩
                have HV : Hid (PS w1 wv f nn (ps ++ [p]) (joinP p va ua) (ps ++ [p]) gP cP rows (ext N wz wy)) := Lib.hid (HY2.out.fr0 FJ)
                have HJ : Hid (Rd wv aJ nn (nv (joinP p va ua)) ∧ ∀ k, onBlk aJ k → k < wv.heap.size ∧ ¬ ext N wz wy k ∧ k ≠ gP) := Lib.hid ⟨oJ.rd, fun k hk => by
                  obtain ⟨z1, z2⟩ := oJ.blk k hk
                  have l1 := HY2.out.lt
                  exact ⟨z2, fun hN => by have := (HY2.out.nl k hN).2; omega, by omega⟩⟩
                have hkl : (ps ++ [p]).length = k + 1 := by rw [List.length_append, ← HZ.out.1]; rfl
                have HO := Lib.hid HV.out.op
                rw [hkl] at HO
                clear oJ FJ HrU2 HY2 dv du
                go_wp2_with (at_builtin; refine wpAppAt E26g HO.out (by omega) (by omega) HV.out.fr.size (u := .slice aJ nn cJ) rfl rfl rfl ?_; intro a9 c9 w9 own9 fr9 at9; obtain ⟨g9, rows9, rfl, hP9⟩ := HV.out.app (q := joinP p va ua) HJ.out.1 HJ.out.2 (by rw [hkl]; exact own9) fr9 at9; have HP9 := Lib.hid hP9; clear own9 fr9 at9 hP9)
                go_meet
                exact ⟨k + 1, _, _, g9, c9, rows9, _, rfl, by omega, Lib.hid ⟨by rw [List.length_append, ← HZ.out.1]; rfl, HP9.out⟩⟩
            · have HUn := Lib.hid (Union_bad HZ.out.2.fh (v := v) (u := u) (by omega))
              by_cases hv2 : 0 ≤ v ∧ v < (nn : Int)
              · have HI1 : Hid (∀ W, Calls Try.prog 27 #[.int .i64 (nn : Int), .int .i64 v] W fun e w' => e = .returned (.bool true) ∧ W = w') := Lib.hid (fun W => by
                  have := In_any (nn : Int) v W
                  rw [show (decide (0 ≤ v) && decide (v < (nn : Int))) = true by simp; omega] at this
                  exact this)
                have HI2 : Hid (∀ W, Calls Try.prog 27 #[.int .i64 (nn : Int), .int .i64 u] W fun e w' => e = .returned (.bool false) ∧ W = w') := Lib.hid (fun W => by
                  have := In_any (nn : Int) u W
                  rw [show (decide (0 ≤ u) && decide (u < (nn : Int))) = false by simp; omega] at this
                  exact this)
                go_wp2_with fail
                refine HUn.out.mono ?_
                rintro e w' ⟨rfl, rfl⟩
                go_wp2_with fail
                refine (HI1.out _).mono ?_
                rintro e w' ⟨rfl, rfl⟩
                go_wp2_with fail
                refine (HI2.out _).mono ?_
                rintro e w' ⟨rfl, rfl⟩
                go_wp2_with fail
                go_meet
                exact ⟨k, ps, p, gP, cP, rows, N, rfl, by omega, HZ⟩
              · have HI1 : Hid (∀ W, Calls Try.prog 27 #[.int .i64 (nn : Int), .int .i64 v] W fun e w' => e = .returned (.bool false) ∧ W = w') := Lib.hid (fun W => by
                  have := In_any (nn : Int) v W
                  rw [show (decide (0 ≤ v) && decide (v < (nn : Int))) = false by simp; omega] at this
                  exact this)
                go_wp2_with fail
                refine HUn.out.mono ?_
                rintro e w' ⟨rfl, rfl⟩
                go_wp2_with fail
                refine (HI1.out _).mono ?_
                rintro e w' ⟨rfl, rfl⟩
                go_wp2_with fail
                go_meet
                exact ⟨k, ps, p, gP, cP, rows, N, rfl, by omega, HZ⟩
          · as_aux_lemma =>
            by_cases hr : 0 ≤ v ∧ v < (nn : Int) ∧ 0 ≤ u ∧ u < (nn : Int)
            · obtain ⟨va, rfl⟩ := Int.eq_ofNat_of_zero_le hr.1
              obtain ⟨ua, rfl⟩ := Int.eq_ofNat_of_zero_le hr.2.2.1
              have hva : va < nn := by omega
              have hua : ua < nn := by omega
              have HUn := Lib.hid (Union_h HZ.out.2.fh (by omega) (by have := HZ.out.1; omega) hva hua)
              obtain ⟨pv, hpv⟩ : ∃ z, z = p.getD va 0 := ⟨_, rfl⟩
              obtain ⟨pu, hpu⟩ : ∃ z, z = p.getD ua 0 := ⟨_, rfl⟩
              unfold UnP at HUn
              rw [← hpv, ← hpu] at HUn
              have gv : p[va]? = some pv := by rw [hpv, List.getD_eq_getElem?_getD, List.getElem?_eq_getElem (by omega)]; rfl
              have gu : p[ua]? = some pu := by rw [hpu, List.getD_eq_getElem?_getD, List.getElem?_eq_getElem (by omega)]; rfl
              have HIn : Hid (∀ z : Nat, z < nn → ∀ W, Calls Try.prog 27 #[.int .i64 (nn : Int), .int .i64 (z : Int)] W fun e w' => e = .returned (.bool true) ∧ W = w') := Lib.hid (fun z hz W => by
                have := In_any (nn : Int) (z : Int) W
                rw [show (decide (0 ≤ (z : Int)) && decide ((z : Int) < (nn : Int))) = true by simp; omega] at this
                exact this)
              have Gv := Lib.hid (And.intro gv gu)
              clear hr hpv hpu gv gu
              go_wp2_with fail
              refine HUn.out.mono ?_
              rintro e wy ⟨rfl, hF, hFr⟩
              have HY : Hid (PS w1 wy f nn (ps ++ [p]) (joinP p va ua) (ps ++ [p]) gP cP rows (ext N wz wy)) := Lib.hid (HZ.out.2.union hF hFr)
              have RY : Hid (Rd wy aL nn (nv p) ∧ ∀ k, onBlk aL k → k < wy.heap.size ∧ ¬ ext N wz wy k ∧ k ≠ gP) := Lib.hid ⟨RZ.out.1.fr hFr (fun k hk => (RZ.out.2 k hk).2.1), fun k hk => by
                obtain ⟨q1, q2, q3⟩ := RZ.out.2 k hk
                exact ⟨Nat.lt_of_lt_of_le q1 hFr.size, fun hh => hh.elim q2 (fun hh => by omega), q3⟩⟩
              clear hF hFr HUn
              go_wp2_with fail
              refine (HIn.out va hva _).mono ?_
              rintro e w' ⟨rfl, rfl⟩
              go_wp2_with fail
              refine (HIn.out ua hua _).mono ?_
              rintro e w' ⟨rfl, rfl⟩
              obtain ⟨bL, oL, rfl, cc⟩ := RY.out.1.cells (by omega)
              have dv := cc va _ (nv_get Gv.out.1)
              have du := cc ua _ (nv_get Gv.out.2)
              clear cc
              have HrU : Hid (∀ W, Fr F0 wy W → Calls Try.prog 28 #[.slice (some ⟨bL, oL, none⟩) nn cL, .int .i64 va, .int .i64 ua] W (SlR W (joinP p va ua))) := Lib.hid (fun W F => refUnion_any (RY.out.1.fr F (fun _ _ h => h)) (by omega) hva hua)
              have hjl : (joinP p va ua).length = nn := by rw [joinP_len]; exact hpl
              by_cases hpp : pv = pu
              all_goals
                first
                  | (have q1 : (!(pv == pu)) = false := by simp [hpp]
                     have q2 : ((pv : Int) != (pu : Int)) = false := by simp [hpp])
                  | (have q1 : (!(pv == pu)) = true := by simp [hpp]
                     have q2 : ((pv : Int) != (pu : Int)) = true := by simp; omega)
                try rw [q1]
                go_wp2_with fail
                go_quiet (fail)
                go_wp2_with fail
                have HY2 := Lib.hid (HY.out.fr0 ((Fr.refl F0 wy).drewN nq))
                have HrU2 := Lib.hid (HrU.out (wy.drewN nq) ((Fr.refl F0 wy).drewN nq))
                generalize wy.drewN nq = wy2 at HY2 HrU2 ⊢
                unfold SlR at HrU2
                rw [hjl] at HrU2
                refine HrU2.out.mono ?_
                rintro e wv ⟨aJ, cJ, rfl, oJ, FJ⟩
                have HV : Hid (PS w1 wv f nn (ps ++ [p]) (joinP p va ua) (ps ++ [p]) gP cP rows (ext N wz wy)) := Lib.hid (HY2.out.fr0 FJ)
                have HJ : Hid (Rd wv aJ nn (nv (joinP p va ua)) ∧ ∀ k, onBlk aJ k → k < wv.heap.size ∧ ¬ ext N wz wy k ∧ k ≠ gP) := Lib.hid ⟨oJ.rd, fun k hk => by
                  obtain ⟨z1, z2⟩ := oJ.blk k hk
                  have l1 := HY2.out.lt
                  exact ⟨z2, fun hN => by have := (HY2.out.nl k hN).2; omega, by omega⟩⟩
                have hkl : (ps ++ [p]).length = k + 1 := by rw [List.length_append, ← HZ.out.1]; rfl
                have HO := Lib.hid HV.out.op
                rw [hkl] at HO
                clear oJ FJ HrU2 HY2 dv du
                go_wp2_with (at_builtin; refine wpAppAt E26g HO.out (by omega) (by omega) HV.out.fr.size (u := .slice aJ nn cJ) rfl rfl rfl ?_; intro a9 c9 w9 own9 fr9 at9; obtain ⟨g9, rows9, rfl, hP9⟩ := HV.out.app (q := joinP p va ua) HJ.out.1 HJ.out.2 (by rw [hkl]; exact own9) fr9 at9; have HP9 := Lib.hid hP9; clear own9 fr9 at9 hP9)
                go_meet
                exact ⟨k + 1, _, _, g9, c9, rows9, _, rfl, by omega, Lib.hid ⟨by rw [List.length_append, ← HZ.out.1]; rfl, HP9.out⟩⟩
            · have HUn := Lib.hid (Union_bad HZ.out.2.fh (v := v) (u := u) (by omega))
              by_cases hv2 : 0 ≤ v ∧ v < (nn : Int)
              · have HI1 : Hid (∀ W, Calls Try.prog 27 #[.int .i64 (nn : Int), .int .i64 v] W fun e w' => e = .returned (.bool true) ∧ W = w') := Lib.hid (fun W => by
                  have := In_any (nn : Int) v W
                  rw [show (decide (0 ≤ v) && decide (v < (nn : Int))) = true by simp; omega] at this
                  exact this)
                have HI2 : Hid (∀ W, Calls Try.prog 27 #[.int .i64 (nn : Int), .int .i64 u] W fun e w' => e = .returned (.bool false) ∧ W = w') := Lib.hid (fun W => by
                  have := In_any (nn : Int) u W
                  rw [show (decide (0 ≤ u) && decide (u < (nn : Int))) = false by simp; omega] at this
                  exact this)
                go_wp2_with fail
                refine HUn.out.mono ?_
                rintro e w' ⟨rfl, rfl⟩
                go_wp2_with fail
                refine (HI1.out _).mono ?_
                rintro e w' ⟨rfl, rfl⟩
                go_wp2_with fail
                refine (HI2.out _).mono ?_
                rintro e w' ⟨rfl, rfl⟩
                go_wp2_with fail
                go_meet
                exact ⟨k, ps, p, gP, cP, rows, N, rfl, by omega, HZ⟩
              · have HI1 : Hid (∀ W, Calls Try.prog 27 #[.int .i64 (nn : Int), .int .i64 v] W fun e w' => e = .returned (.bool false) ∧ W = w') := Lib.hid (fun W => by
                  have := In_any (nn : Int) v W
                  rw [show (decide (0 ≤ v) && decide (v < (nn : Int))) = false by simp; omega] at this
                  exact this)
                go_wp2_with fail
                refine HUn.out.mono ?_
                rintro e w' ⟨rfl, rfl⟩
                go_wp2_with fail
                refine (HI1.out _).mono ?_
                rintro e w' ⟨rfl, rfl⟩
                go_wp2_with fail
                go_meet
                exact ⟨k, ps, p, gP, cP, rows, N, rfl, by omega, HZ⟩
          · as_aux_lemma =>
            by_cases hk0 : k = 0
            · subst hk0
              have hps : ps = [] := List.length_eq_zero_iff.1 HZ.out.1.symm
              subst hps
              have HUn := Lib.hid (Undo_start HZ.out.2.fh)
              go_wp2_with fail
              refine HUn.out.mono ?_
              rintro e w' ⟨rfl, rfl⟩
              go_wp2_with fail
              go_meet
              exact ⟨0, [], p, gP, cP, rows, N, rfl, by omega, HZ⟩
            · obtain ⟨k1, rfl⟩ : ∃ k1, k = k1 + 1 := ⟨k - 1, by omega⟩
              obtain ⟨ps0, q0, rfl⟩ : ∃ ps0 q0, ps = ps0 ++ [q0] := by
                have hne : ps ≠ [] := fun h => by have := HZ.out.1; rw [h] at this; simp at this
                exact ⟨_, _, (List.dropLast_concat_getLast hne).symm⟩
              have hl0 : k1 = ps0.length := by have := HZ.out.1; rw [List.length_append, List.length_singleton] at this; omega
              have HUn := Lib.hid (Undo_h HZ.out.2.fh (by omega) (by omega))
              have hne1 : ¬ ((k1 : Int) + 1 + 1 = 1) := by omega
              have hsub2 : IntKind.i64.wrap ((k1 : Int) + 1 + 1 - 1) = (k1 : Int) + 1 := by rw [wI (by omega) (by omega)]; omega
              have hcap : k1 + 1 + 1 ≤ cP := by
                have := OwnZ.cap (T := 26) (s := 1) HZ.out.2.op
                rw [List.length_append, List.length_append] at this; simp at this; omega
              have hcut2 : ∀ W : World, (Instr.sliceAt 55 (.slice (some ⟨gP, 0, none⟩) (k1 + 1 + 1) cP) none (some (.int .i64 ((k1 : Int) + 1))) none).run Try.prog W = .ok (.slice (some ⟨gP, 0, none⟩) (k1 + 1) cP) W := fun W => run_cutHiZ (E := E55z) W gP (by omega) (by omega)
              have HL0 := Lib.hid hl0
              clear hl0
              go_wp2_with fail
              refine HUn.out.mono ?_
              rintro e wy ⟨rfl, hF, hFr⟩
              have HY : Hid (PS w1 wy f nn ps0 q0 (ps0 ++ [q0]) gP cP rows N) := Lib.hid ((HZ.out.2.undo hF hFr).pop)
              clear hF hFr HUn
              go_wp2_with fail
              go_meet
              exact ⟨k1, ps0, q0, gP, cP, rows, N, rfl, by omega, Lib.hid ⟨HL0.out, HY.out⟩⟩
          · as_aux_lemma =>
            have HFn := Lib.hid (Find_h v HZ.out.2.fh (by omega))
            by_cases hv2 : 0 ≤ v ∧ v < (nn : Int)
            · obtain ⟨va, rfl⟩ := Int.eq_ofNat_of_zero_le hv2.1
              have hva : va < nn := by omega
              rw [fndS_in hva] at HFn
              obtain ⟨pv, hpv⟩ : ∃ z, z = p.getD va 0 := ⟨_, rfl⟩
              rw [← hpv] at HFn
              have gv : p[va]? = some pv := by rw [hpv, List.getD_eq_getElem?_getD, List.getElem?_eq_getElem (by omega)]; rfl
              have HI1 : Hid (∀ W, Calls Try.prog 27 #[.int .i64 (nn : Int), .int .i64 (va : Int)] W fun e w' => e = .returned (.bool true) ∧ W = w') := Lib.hid (fun W => by
                have := In_any (nn : Int) (va : Int) W
                rw [show (decide (0 ≤ (va : Int)) && decide ((va : Int) < (nn : Int))) = true by simp; omega] at this
                exact this)
              have Gv := Lib.hid gv
              clear hpv gv hv2
              go_wp2_with fail
              refine HFn.out.mono ?_
              rintro e wy ⟨rfl, FY⟩
              have HY : Hid (k = ps.length ∧ PS w1 wy f nn ps p (ps ++ [p]) gP cP rows N) := Lib.hid ⟨HZ.out.1, HZ.out.2.fr0 FY⟩
              obtain ⟨bL, oL, rfl, cc⟩ := (RZ.out.1.fr FY (fun _ _ h => h)).cells (by omega)
              have dv := cc va _ (nv_get Gv.out)
              clear cc FY HFn
              go_wp2_with fail
              refine (HI1.out _).mono ?_
              rintro e w' ⟨rfl, rfl⟩
              go_wp2_with fail
              refine (HI1.out _).mono ?_
              rintro e w' ⟨rfl, rfl⟩
              go_wp2_with fail
              go_meet
              exact ⟨k, ps, p, gP, cP, rows, N, rfl, by omega, HY⟩
            · have hf2 : fndS nn p v = (0, 2) := by unfold fndS; rw [if_pos (by omega)]
              rw [hf2] at HFn
              have HI1 : Hid (∀ W, Calls Try.prog 27 #[.int .i64 (nn : Int), .int .i64 v] W fun e w' => e = .returned (.bool false) ∧ W = w') := Lib.hid (fun W => by
                have := In_any (nn : Int) v W
                rw [show (decide (0 ≤ v) && decide (v < (nn : Int))) = false by simp; omega] at this
                exact this)
              clear hf2
              go_wp2_with fail
              refine HFn.out.mono ?_
              rintro e wy ⟨rfl, FY⟩
              have HY : Hid (k = ps.length ∧ PS w1 wy f nn ps p (ps ++ [p]) gP cP rows N) := Lib.hid ⟨HZ.out.1, HZ.out.2.fr0 FY⟩
              clear FY HFn
              go_wp2_with fail
              refine (HI1.out _).mono ?_
              rintro e w' ⟨rfl, rfl⟩
              go_wp2_with fail
              refine (HI1.out _).mono ?_
              rintro e w' ⟨rfl, rfl⟩
              go_wp2_with fail
              go_meet
              exact ⟨k, ps, p, gP, cP, rows, N, rfl, by omega, HY⟩
        case rest =>
          as_aux_lemma =>
            obtain ⟨k', ps', p', gP', cP', rows', N', rfl, hk', HC⟩ := hcut
            obtain ⟨aM, cM, dM, rM, bM⟩ := HC.out.2.last
            rw [← HC.out.1] at dM
            have hsub' : IntKind.i64.wrap ((k' : Int) + 1 - 1) = (k' : Int) := by rw [wI (by omega) (by omega)]; omega
            have hsub2 : IntKind.i64.wrap (k' : Int) = (k' : Int) := wI (by omega) (by omega)
            have hlt3 : (k' : Int) < (k' : Int) + 1 := by omega
            obtain ⟨w5, hw5⟩ : ∃ wz, wz = wc.drew := ⟨_, rfl⟩
            have F5 : Fr F0 wc w5 := by rw [hw5]; exact (Fr.refl F0 _).drew
            have HC5 := Lib.hid (HC.out.2.fr0 F5)
            have HCt := Lib.hid (Count_h HC5.out.fh)
            have HRc := Lib.hid (refCount_any (c := cM) (rM.fr F5 (fun _ _ h => h)) (show nn ≤ 1000 by omega))
            have HDp := Lib.hid (Depth_h HC5.out.fh)
            rw [← HC.out.1] at HDp
            have dM5 := F5.cell dM id
            obtain ⟨cn, hcn⟩ : ∃ z, z = cntP p' := ⟨_, rfl⟩
            rw [← hcn] at HCt HRc
            clear F5 rM bM hcn
            go_upto_region 35 with fail
            refine wp_region_held_drew (S := (fun w' : World => w'.cell? ⟨gP', k', none⟩ = some (.slice aM nn cM))) (by kernel_rfl) (dM) (fun hHeld => ?_)
            change wpAnyH _ _ _ _ _ _ _ _ wc.drew
            rw [← hw5]
            clear hw5
            have hHeld : (fun w' : World => w'.cell? ⟨gP', k', none⟩ = some (.slice aM nn cM)) w5 := dM5
            refine wpAnyH_take (i := 0) (v := ?_) (by simp only [List.getElem?_toArray, List.getElem?_cons_succ, List.getElem?_cons_zero] <;> rfl) (by kernel_rfl) (by kernel_rfl) (by kernel_rfl) (by exact fun _ _ _ h => h) (Or.inl ⟨by rfl, ?_⟩) (by assumption) ?_
            rotate_left
            · intro w hSw
              try dsimp only at hSw
              go_simp <;> with_reducible rfl
            (try simp only [Act.put, List.setIfInBounds_toArray, List.set_cons_zero, List.set_cons_succ])
            refine wpAnyH_take (i := 2) (v := ?_) (by simp only [List.getElem?_toArray, List.getElem?_cons_succ, List.getElem?_cons_zero] <;> rfl) (by kernel_rfl) (by kernel_rfl) (by kernel_rfl) (by exact fun _ _ _ h => h) (Or.inl ⟨by rfl, ?_⟩) (by assumption) ?_
            rotate_left
            · intro w hSw
              try dsimp only at hSw
              go_simp <;> with_reducible rfl
            (try simp only [Act.put, List.setIfInBounds_toArray, List.set_cons_zero, List.set_cons_succ])
            refine wpAnyH_take (i := 3) (v := ?_) (by simp only [List.getElem?_toArray, List.getElem?_cons_succ, List.getElem?_cons_zero] <;> rfl) (by kernel_rfl) (by kernel_rfl) (by kernel_rfl) (by exact fun _ _ _ h => h) (Or.inl ⟨by rfl, ?_⟩) (by assumption) ?_
            rotate_left
            · intro w hSw
              try dsimp only at hSw
              go_simp <;> with_reducible rfl
            (try simp only [Act.put, List.setIfInBounds_toArray, List.set_cons_zero, List.set_cons_succ])
            refine wpAnyH_take (i := 4) (v := ?_) (by simp only [List.getElem?_toArray, List.getElem?_cons_succ, List.getElem?_cons_zero] <;> rfl) (by kernel_rfl) (by kernel_rfl) (by kernel_rfl) (by exact fun _ _ _ h => h) (Or.inl ⟨by rfl, ?_⟩) (by assumption) ?_
            rotate_left
            · intro w hSw
              try dsimp only at hSw
              go_simp <;> with_reducible rfl
            (try simp only [Act.put, List.setIfInBounds_toArray, List.set_cons_zero, List.set_cons_succ])
            refine wpAnyH_take (i := 5) (v := ?_) (by simp only [List.getElem?_toArray, List.getElem?_cons_succ, List.getElem?_cons_zero] <;> rfl) (by kernel_rfl) (by kernel_rfl) (by kernel_rfl) (by exact fun _ _ _ h => h) (Or.inl ⟨by rfl, ?_⟩) (by assumption) ?_
            rotate_left
            · intro w hSw
              try dsimp only at hSw
              go_simp <;> with_reducible rfl
            (try simp only [Act.put, List.setIfInBounds_toArray, List.set_cons_zero, List.set_cons_succ])
            refine wpAnyH_take (i := 6) (v := ?_) (by simp only [List.getElem?_toArray, List.getElem?_cons_succ, List.getElem?_cons_zero] <;> rfl) (by kernel_rfl) (by kernel_rfl) (by kernel_rfl) (by exact fun _ _ _ h => h) (Or.inl ⟨by rfl, ?_⟩) (by assumption) ?_
            rotate_left
            · intro w hSw
              try dsimp only at hSw
              go_simp <;> with_reducible rfl
            (try simp only [Act.put, List.setIfInBounds_toArray, List.set_cons_zero, List.set_cons_succ])
            refine wpAnyH_take (i := 7) (v := ?_) (by simp only [List.getElem?_toArray, List.getElem?_cons_succ, List.getElem?_cons_zero] <;> rfl) (by kernel_rfl) (by kernel_rfl) (by kernel_rfl) (by exact fun _ _ _ h => h) (Or.inl ⟨by rfl, ?_⟩) (by assumption) ?_
            rotate_left
            · intro w hSw
              try dsimp only at hSw
              go_simp <;> with_reducible rfl
            (try simp only [Act.put, List.setIfInBounds_toArray, List.set_cons_zero, List.set_cons_succ])
            refine wpAnyH_ready (rs := [1]) (by kernel_rfl) (by simp) ?_
            refine AllReadyH.cons (by simp only [List.getElem?_toArray, List.getElem?_cons_succ, List.getElem?_cons_zero] <;> rfl) (fun KK hKK => ?_) AllReadyH.nil
            go_simp
            refine HCt.out.mono ?_
            rintro e w' ⟨rfl, rfl⟩
            refine hKK.out _ _ (dM5) (fun hHeld => ?_)
            clear hKK KK
            (try simp only [Act.put, List.setIfInBounds_toArray, List.set_cons_zero, List.set_cons_succ])
            refine wpAnyH_ready (rs := [8]) (by kernel_rfl) (by simp) ?_
            refine AllReadyH.cons (by simp only [List.getElem?_toArray, List.getElem?_cons_succ, List.getElem?_cons_zero] <;> rfl) (fun KK hKK => ?_) AllReadyH.nil
            go_simp
            refine HRc.out.mono ?_
            rintro e w' ⟨rfl, rfl⟩
            refine hKK.out _ _ (dM5) (fun hHeld => ?_)
            clear hKK KK
            (try simp only [Act.put, List.setIfInBounds_toArray, List.set_cons_zero, List.set_cons_succ])
            refine wpAnyH_take (i := 9) (v := ?_) (by simp only [List.getElem?_toArray, List.getElem?_cons_succ, List.getElem?_cons_zero] <;> rfl) (by kernel_rfl) (by kernel_rfl) (by kernel_rfl) (by exact fun _ _ _ h => h) (Or.inl ⟨by rfl, ?_⟩) (by assumption) ?_
            rotate_left
            · intro w hSw
              try dsimp only at hSw
              go_simp <;> with_reducible rfl
            (try simp only [Act.put, List.setIfInBounds_toArray, List.set_cons_zero, List.set_cons_succ])
            refine wpAnyH_take (i := 10) (v := ?_) (by simp only [List.getElem?_toArray, List.getElem?_cons_succ, List.getElem?_cons_zero] <;> rfl) (by kernel_rfl) (by kernel_rfl) (by kernel_rfl) (by exact fun _ _ _ h => h) (Or.inl ⟨by rfl, ?_⟩) (by assumption) ?_
            rotate_left
            · intro w hSw
              try dsimp only at hSw
              go_simp <;> with_reducible rfl
            (try simp only [Act.put, List.setIfInBounds_toArray, List.set_cons_zero, List.set_cons_succ])
            refine wpAnyH_take (i := 11) (v := ?_) (by simp only [List.getElem?_toArray, List.getElem?_cons_succ, List.getElem?_cons_zero] <;> rfl) (by kernel_rfl) (by kernel_rfl) (by kernel_rfl) (by exact fun _ _ _ h => h) (Or.inl ⟨by rfl, ?_⟩) (by assumption) ?_
            rotate_left
            · intro w hSw
              try dsimp only at hSw
              go_simp <;> with_reducible rfl
            (try simp only [Act.put, List.setIfInBounds_toArray, List.set_cons_zero, List.set_cons_succ])
            refine wpAnyH_take (i := 13) (v := ?_) (by simp only [List.getElem?_toArray, List.getElem?_cons_succ, List.getElem?_cons_zero] <;> rfl) (by kernel_rfl) (by kernel_rfl) (by kernel_rfl) (by exact fun _ _ _ h => h) (Or.inl ⟨by rfl, ?_⟩) (by assumption) ?_
            rotate_left
            · intro w hSw
              try dsimp only at hSw
              go_simp <;> with_reducible rfl
            (try simp only [Act.put, List.setIfInBounds_toArray, List.set_cons_zero, List.set_cons_succ])
            refine wpAnyH_take (i := 14) (v := ?_) (by simp only [List.getElem?_toArray, List.getElem?_cons_succ, List.getElem?_cons_zero] <;> rfl) (by kernel_rfl) (by kernel_rfl) (by kernel_rfl) (by exact fun _ _ _ h => h) (Or.inl ⟨by rfl, ?_⟩) (by assumption) ?_
            rotate_left
            · intro w hSw
              try dsimp only at hSw
              go_simp <;> with_reducible rfl
            (try simp only [Act.put, List.setIfInBounds_toArray, List.set_cons_zero, List.set_cons_succ])
            refine wpAnyH_take (i := 15) (v := ?_) (by simp only [List.getElem?_toArray, List.getElem?_cons_succ, List.getElem?_cons_zero] <;> rfl) (by kernel_rfl) (by kernel_rfl) (by kernel_rfl) (by exact fun _ _ _ h => h) (Or.inl ⟨by rfl, ?_⟩) (by assumption) ?_
            rotate_left
            · intro w hSw
              try dsimp only at hSw
              go_simp <;> with_reducible rfl
            (try simp only [Act.put, List.setIfInBounds_toArray, List.set_cons_zero, List.set_cons_succ])
            refine wpAnyH_ready (rs := [12]) (by kernel_rfl) (by simp) ?_
            refine AllReadyH.cons (by simp only [List.getElem?_toArray, List.getElem?_cons_succ, List.getElem?_cons_zero] <;> rfl) (fun KK hKK => ?_) AllReadyH.nil
            go_simp
            refine HDp.out.mono ?_
            rintro e w' ⟨rfl, rfl⟩
            refine hKK.out _ _ (dM5) (fun hHeld => ?_)
            clear hKK KK
            (try simp only [Act.put, List.setIfInBounds_toArray, List.set_cons_zero, List.set_cons_succ])
            refine wpAnyH_take (i := 16) (v := ?_) (by simp only [List.getElem?_toArray, List.getElem?_cons_succ, List.getElem?_cons_zero] <;> rfl) (by kernel_rfl) (by kernel_rfl) (by kernel_rfl) (by exact fun _ _ _ h => h) (Or.inl ⟨by rfl, ?_⟩) (by assumption) ?_
            rotate_left
            · intro w hSw
              try dsimp only at hSw
              go_simp <;> with_reducible rfl
            (try simp only [Act.put, List.setIfInBounds_toArray, List.set_cons_zero, List.set_cons_succ])
            refine wpAnyH_take (i := 17) (v := ?_) (by simp only [List.getElem?_toArray, List.getElem?_cons_succ, List.getElem?_cons_zero] <;> rfl) (by kernel_rfl) (by kernel_rfl) (by kernel_rfl) (by exact fun _ _ _ h => h) (Or.inl ⟨by rfl, ?_⟩) (by assumption) ?_
            rotate_left
            · intro w hSw
              try dsimp only at hSw
              go_simp <;> with_reducible rfl
            (try simp only [Act.put, List.setIfInBounds_toArray, List.set_cons_zero, List.set_cons_succ])
            refine wpAnyH_done (by kernel_rfl) ?_ _
            go_wp2_with fail
            go_roundw
            case rel => exact ⟨i + 1, k', ps', p', gP', cP', rows', N', by omega, by go_num, rfl, hk', Lib.hid ⟨HC.out.1, HC5.out⟩⟩
            case measure => simp [intOf]; omega
      · as_aux_lemma =>
        obtain rfl : m = i := by omega
        obtain ⟨aL, cL, dL, rL, _⟩ := H.out.2.last
        rw [← H.out.1] at dL
        have hpl := H.out.2.fh.len
        have hsub : IntKind.i64.wrap ((k : Int) + 1 - 1) = (k : Int) := by rw [wI (by omega) (by omega)]; omega
        have RL := Lib.hid rL
        clear rL
        obtain ⟨wq, hwq⟩ : ∃ z, z = wr := ⟨_, rfl⟩
        subst hwq
        go_wp2_with fail
        go_loopw [207] (fun s207 wr => ∃ i : Nat, i ≤ nn ∧ s207 = .int .i64 i ∧ Hid (Fr F0 wq wr)) (fun s207 _ => nn - (intOf s207).toNat)
        case atStart => exact ⟨0, Nat.zero_le _, rfl, Lib.hid (Fr.refl _ _)⟩
        case round =>
          obtain ⟨j, hj, rfl, HF⟩ := hrel
          by_cases hlt2 : j < nn
          · have hlt2' : (j : Int) < (nn : Int) := by omega
            have HFn := Lib.hid (Find_h (j : Int) (H.out.2.fh.fr0 HF.out) (by omega))
            rw [fndS_in hlt2] at HFn
            obtain ⟨pv, hpv⟩ : ∃ z, z = p.getD j 0 := ⟨_, rfl⟩
            rw [← hpv] at HFn
            have gv : p[j]? = some pv := by rw [hpv, List.getD_eq_getElem?_getD, List.getElem?_eq_getElem (by omega)]; rfl
            have Gv := Lib.hid gv
            clear hpv gv
            go_wp2_with fail
            refine HFn.out.mono ?_
            rintro e wy ⟨rfl, FY⟩
            have HY := Lib.hid (HF.out.trans0 FY)
            have dY := HY.out.cell dL id
            obtain ⟨bL, oL, rfl, cc⟩ := (RL.out.fr HY.out (fun _ _ h => h)).cells (by omega)
            have dv := cc j _ (nv_get Gv.out)
            clear cc FY HFn
            go_wp2_with fail
            go_roundw
            case rel => exact ⟨j + 1, by omega, by go_num, HY⟩
            case measure => simp [intOf]; omega
          · obtain rfl : nn = j := by omega
            go_wp2_with fail
            go_ret
            exact ⟨rfl, HF1.out.trans0 (H.out.2.fr.trans0 HF.out)⟩
set_option maxRecDepth 100000 in
set_option maxHeartbeats 4000000 in
theorem law6 {w : World} {n : Int} {aK aV aU : Option Addr} {mK cK mV cV mU cU : Nat} {Ks Vs Us : List Int} (hK : ArgU8 w aK mK cK Ks) (hV : ArgSl w aV mV cV Vs) (hU : ArgSl w aU mU cU Us) :
    Calls Try.prog 6 #[.int .i64 n, .slice aK mK cK, .slice aV mV cV, .slice aU mU cU] w fun e w' => e = .returned (.bool true) ∧ Fr F0 w w' := by
  have HW := Lib.hid awake_any
  have HL := Lib.hid (fun w => large_any n 0 w)
  cases hlg : lg n 0 with
  | true =>
    rw [hlg] at HL
    clear hlg hK hV hU
    go_enter Try.func6, Try.ntmps6
    go_wp2_with fail
    refine (HW.out w).mono ?_; rintro e w1 ⟨rfl, F1⟩; have HF1 := Lib.hid F1; clear F1
    go_wp2_with fail
    refine (HL.out w1).mono ?_; rintro e w2 ⟨rfl, rfl⟩
    go_wp2_with fail
    go_ret
    exact ⟨rfl, HF1.out⟩
  | false =>
    rw [hlg] at HL
    have hlg2 : ¬ (40 < n ∧ n ≤ 1000) := fun hh => by have := (lg_iff n 0).2 (.inl hh); rw [hlg] at this; cases this
    clear hlg
    by_cases hl : mK ≤ 60 ∧ mV ≤ 60 ∧ mU ≤ 60
    · by_cases hn : 1 ≤ n ∧ n ≤ 40
      · obtain ⟨nn, rfl⟩ := Int.eq_ofNat_of_zero_le (show 0 ≤ n by omega)
        exact law6_go (by omega) hK hV hU hl.1 hl.2.1 hl.2.2
      · have HM := Lib.hid (fun w => made_no n w (by omega))
        have b1 : ¬ 60 < (mK : Int) := by omega
        have b2 : ¬ 60 < (mV : Int) := by omega
        have b3 : ¬ 60 < (mU : Int) := by omega
        clear hK hV hU hl hn hlg2
        go_enter Try.func6, Try.ntmps6
        go_wp2_with fail
        refine (HW.out w).mono ?_; rintro e w1 ⟨rfl, F1⟩; have HF1 := Lib.hid F1; clear F1
        go_wp2_with fail
        refine (HL.out w1).mono ?_; rintro e w2 ⟨rfl, rfl⟩
        go_wp2_with fail
        refine (HM.out w1).mono ?_; rintro e w2 ⟨rfl, rfl⟩
        go_wp2_with fail
        go_ret
        exact ⟨rfl, HF1.out⟩
    · have hb : 60 < (mK : Int) ∨ (¬ 60 < (mK : Int) ∧ 60 < (mV : Int)) ∨ (¬ 60 < (mK : Int) ∧ ¬ 60 < (mV : Int) ∧ 60 < (mU : Int)) := by omega
      clear hK hV hU hl hlg2
      rcases hb with b1 | ⟨b1, b2⟩ | ⟨b1, b2, b3⟩
      all_goals
        go_enter Try.func6, Try.ntmps6
        go_wp2_with fail
        refine (HW.out w).mono ?_; rintro e w1 ⟨rfl, F1⟩; have HF1 := Lib.hid F1; clear F1
        go_wp2_with fail
        refine (HL.out w1).mono ?_; rintro e w2 ⟨rfl, rfl⟩
        go_wp2_with fail
        go_ret
        exact ⟨rfl, HF1.out⟩
theorem walkPlays (n : Int) (aK : Option Addr) (mK cK : Nat) (Ks : List Int) (aV : Option Addr) (mV cV : Nat) (Vs : List Int) (aU : Option Addr) (mU cU : Nat) (Us : List Int) (W : World) (hK : ArgU8 W aK mK cK Ks) (hV : ArgSl W aV mV cV Vs) (hU : ArgSl W aU mU cU Us) :
    Calls Try.prog 6 #[.int .i64 n, .slice aK mK cK, .slice aV mV cV, .slice aU mU cU] W fun e w' => e = .returned (.bool true) ∧ Fr F0 W w' := law6 hK hV hU
end Go.Proofs.Ytihcaemheknjbaa
