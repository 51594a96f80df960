/- The law Bridges: the walk. -/
import Derived.Test.YtihcaemheknjbaaF37
import Derived.Test.YtihcaemheknjbaaF38
import Derived.Test.YtihcaemheknjbaaF39
import Derived.Test.YtihcaemheknjbaaF40
import Derived.Test.YtihcaemheknjbaaF20
import Derived.Deep.DeepCutAuto
namespace Go.Proofs.Ytihcaemheknjbaa
open Go.RowKit
attribute [local go_sem ↓] Go.wp_at_zero Go.wp_at_succ
set_option maxRecDepth 100000 in
set_option maxHeartbeats 16000000 in
theorem law8 {w : World} {n : Int} {a : Option Addr} {m c : Nat} {l : List Pr} (h : ArgP w a m c l) :
    Calls Try.prog 8 #[.int .i64 n, .slice a m c] w fun e w' => e = .returned (.bool true) ∧ Fr F0 w w' := by
  have HA := Lib.hid h
  have hcap := h.cap
  have hmax := h.max
  have HW := Lib.hid awake_any
  have HL := Lib.hid (fun w => large_any n 0 w)
  have hml := h.len
  clear h
  cases hlg : lg n 0 with
  | true =>
    rw [hlg] at HL
    clear hlg
    go_enter Try.func8, Try.ntmps8
    go_wp2_with fail
    refine (HW.out w).mono ?_; rintro e w1 ⟨rfl, F1⟩; have HF1 := Lib.hid F1; clear F1
    go_wp2_with fail
    refine (HL.out w1).mono ?_; rintro e w2 ⟨rfl, rfl⟩
    go_wp2_with fail
    go_ret
    exact ⟨rfl, HF1.out⟩
  | false =>
    rw [hlg] at HL
    have hlg2 : ¬ (40 < n ∧ n ≤ 1000) := fun hh => by have := (lg_iff n 0).2 (.inl hh); rw [hlg] at this; cases this
    clear hlg
    by_cases hq : (40 < m ∧ m ≤ 1000) ∨ 3000 < m
    · rcases hq with hq | hq
      · have q1 : (40 : Int) < (m : Int) := by omega
        have q2 : (m : Int) ≤ 1000 := by omega
        clear hq
        go_enter Try.func8, Try.ntmps8
        go_wp2_with fail
        refine (HW.out w).mono ?_; rintro e w1 ⟨rfl, F1⟩; have HF1 := Lib.hid F1; clear F1
        go_wp2_with fail
        refine (HL.out w1).mono ?_; rintro e w2 ⟨rfl, rfl⟩
        go_wp2_with fail
        go_ret
        exact ⟨rfl, HF1.out⟩
      · have q1 : (40 : Int) < (m : Int) := by omega
        have q2 : ¬ (m : Int) ≤ 1000 := by omega
        have q3 : (3000 : Int) < (m : Int) := by omega
        clear hq
        go_enter Try.func8, Try.ntmps8
        go_wp2_with fail
        refine (HW.out w).mono ?_; rintro e w1 ⟨rfl, F1⟩; have HF1 := Lib.hid F1; clear F1
        go_wp2_with fail
        refine (HL.out w1).mono ?_; rintro e w2 ⟨rfl, rfl⟩
        go_wp2_with fail
        go_ret
        exact ⟨rfl, HF1.out⟩
    · have hm : m ≤ 40 ∨ (1000 < m ∧ m ≤ 3000) := by omega
      clear hq
      obtain ⟨b1, hb1⟩ : ∃ b, b = decide ((40 : Int) < (m : Int)) := ⟨_, rfl⟩
      have h3 : ¬ (3000 : Int) < (m : Int) := by omega
      have hor : (¬ (40 : Int) < (m : Int)) ∨ ((40 : Int) < (m : Int) ∧ ¬ (m : Int) ≤ 1000) := by omega
      obtain ⟨k, hk⟩ : ∃ k, k = brE n l := ⟨_, rfl⟩
      obtain ⟨L, hL⟩ : ∃ L, L = brL n l := ⟨_, rfl⟩
      have HB : Hid (∀ w1, Fr F0 w w1 → Calls Try.prog 34 #[.int .i64 n, .slice a m c] w1 fun e w' => ∃ a c, e = .returned (.tuple #[.slice a L.length c, .int .i64 (k : Int)]) ∧ Rd w' a L.length (nv L) ∧ Fr F0 w1 w') := Lib.hid (fun w1 F => by rw [hk, hL]; exact Bridges_any (n := n) (HA.out.fr0 F))
      have HR : Hid (∀ w1, Fr F0 w w1 → Calls Try.prog 35 #[.int .i64 n, .slice a m c] w1 fun e w' => ∃ a c, e = .returned (.tuple #[.slice a L.length c, .int .i64 (k : Int)]) ∧ Rd w' a L.length (nv L) ∧ Fr F0 w1 w') := Lib.hid (fun w1 F => by rw [hk, hL]; exact refBridges_any (n := n) (HA.out.fr0 F) (by omega))
      have HK := Lib.hid (And.intro hk hL)
      have HM := Lib.hid hm
      have HG := Lib.hid hlg2
      clear hk hL hm hlg2
      clear hb1 b1
      go_enter Try.func8, Try.ntmps8
      go_upto_region 3 with (go_at_call 9; refine (HW.out w).mono ?_; rintro e w1 ⟨rfl, F1⟩; have HF1 := Lib.hid F1; clear F1)
      go_cut [30] (fun s30 wx => s30 = .bool false ∧ wx = w1)
      case first =>
        rcases hor with q1 | ⟨q1, q2⟩
        · go_wp2_with (go_at_call 10; refine (HL.out w1).mono ?_; rintro e w2 ⟨rfl, rfl⟩)
          go_meet
          exact ⟨by rw [decide_eq_false (by omega)], rfl⟩
        · go_wp2_with (go_at_call 10; refine (HL.out w1).mono ?_; rintro e w2 ⟨rfl, rfl⟩)
          go_meet
          exact ⟨by rw [decide_eq_false (show ¬ (m : Int) ≤ 1000 by omega), decide_eq_false (by omega)]; rfl, rfl⟩
      case rest =>
        obtain ⟨rfl, rfl⟩ := hcut
        go_wp2_with fail
        refine (HB.out _ HF1.out).mono ?_
        rintro e w2 ⟨aL, cL, rfl, hR2, F2⟩
        have HR2 := Lib.hid hR2
        have HF2 := Lib.hid (HF1.out.trans0 F2)
        clear hR2 F2 HF1 HB HW HL
        go_wp2_with fail
        refine (HR.out _ HF2.out).mono ?_
        rintro e w3 ⟨aM, cM, rfl, hR3, F3⟩
        have HR3 := Lib.hid hR3
        have HR4 := Lib.hid (HR2.out.fr F3 (fun _ _ h => h))
        have HF3 := Lib.hid (HF2.out.trans0 F3)
        clear hR3 F3 HF2 HR2 HR
        go_wp2_with fail
        have hEq := Equal_any aL aM L.length L.length cL cM _ _ w3 (by rw [← nv_ints]; exact HR4.out) (by rw [← nv_ints]; exact HR3.out)
        rw [decide_eq_true rfl] at hEq
        refine hEq.mono ?_
        rintro e w4 ⟨rfl, hq⟩
        have F4 : Fr F0 w3 w4 := by obtain ⟨q, rfl⟩ := hq; exact (Fr.refl F0 _).drewN q
        have HR5 := Lib.hid (HR4.out.fr F4 (fun _ _ h => h))
        have HF4 := Lib.hid (HF3.out.trans0 F4)
        clear hq F4 hEq HR4 HR3 HF3
        by_cases hE : k = 0
        · have hE1 : (k : Int) = 0 := by omega
          have hE2 : ((k : Int) != 0) = false := by simp [hE]
          have hb := HK.out.1
          rw [hE] at hb
          have hn : 1 ≤ n ∧ n ≤ 1000 := by
            by_cases c : 1 ≤ n ∧ n ≤ 1000
            · exact c
            · unfold brE at hb; rw [if_pos c] at hb; omega
          have hany : l.any (fun e => !inP n e) = false := by
            cases hc : l.any (fun e => !inP n e) with
            | false => rfl
            | true => unfold brE at hb; rw [if_neg (by omega), if_pos hc] at hb; omega
          have hm1 : m ≤ 40 := by
            have h1 := HM.out
            unfold brE at hb; rw [if_neg (by omega), hany, if_neg (by decide)] at hb
            by_cases c : 1000 < l.length
            · rw [if_pos c] at hb; omega
            · omega
          have hn2 := HG.out
          obtain ⟨nn, rfl⟩ := Int.eq_ofNat_of_zero_le (show 0 ≤ n by omega)
          have hn3 : nn ≤ 40 := by omega
          have hin : ∀ e ∈ l, inP (nn : Int) e = true := fun e he => by
            have := List.any_eq_false.1 hany e he
            simpa using this
          obtain ⟨X, hX⟩ : ∃ X, X = l.map natE := ⟨_, rfl⟩
          have hXl : ∀ e ∈ X, e.1 < nn ∧ e.2 < nn := fun e he => by
            rw [hX, List.mem_map] at he
            obtain ⟨y, hy, rfl⟩ := he
            have := inP_iff.1 (hin y hy)
            unfold natE
            omega
          have hLX : L = refB nn X := by rw [HK.out.2]; unfold brL; rw [← HK.out.1, if_pos hE, hX]; rfl
          have hmX : m = X.length := by rw [hX, List.length_map]; exact hml.symm
          have HZ : Hid (∀ w', Fr F0 w w' → RdZ w' 2 a m (eds X)) := Lib.hid (fun w' F => by rw [hX]; exact (HA.out.fr0 F).rdz hin)
          have HXl := Lib.hid hXl
          have HLX := Lib.hid hLX
          have HMX := Lib.hid hmX
          clear hb hn hany hn2 hin hX hXl hLX hmX HK HM HG HA hml
          have HJ : Hid (∀ (a : Option Addr) (m c : Nat) (Y : List Ed), m ≤ 3000 → (∀ e ∈ Y, e.1 < nn ∧ e.2 < nn) → ∀ w', RdZ w' 2 a m (eds Y) → Calls Try.prog 36 #[.int .i64 (nn : Int), .slice a m c] w' (fun e w'' => ∃ a c, e = .returned (.slice a nn c) ∧ Rd w'' a nn (nv (foldP nn Y)) ∧ Fr F0 w' w'')) := Lib.hid (fun a m c Y hm hY w' h => by
            refine (Joined_any h hm (by omega) hY).mono ?_
            rintro e w'' ⟨a', c', he, ho, hF⟩
            rw [foldP_len] at he ho
            exact ⟨a', c', he, ho.rd, hF⟩)
          have HC : Hid (∀ (a : Option Addr) (c : Nat) (p : List Nat) (w' : World), Rd w' a nn (nv p) → Calls Try.prog 30 #[.slice a nn c] w' fun e w'' => e = .returned (.int .i64 (cntP p : Int)) ∧ w' = w'') := Lib.hid (fun a c p w' h => refCount_any h (by omega))
          go_wp2_with fail
          refine (HJ.out a m c X (by omega) HXl.out w4 (HZ.out w4 HF4.out)).mono ?_
          rintro e w5 ⟨aJ, cJ, rfl, hJ, F5⟩
          have HJ5 := Lib.hid hJ
          have HR6 := Lib.hid (HR5.out.fr F5 (fun _ _ h => h))
          have HF5 := Lib.hid (HF4.out.trans0 F5)
          clear hJ F5 HR5 HF4
          go_wp2_with fail
          refine (HC.out aJ cJ _ w5 HJ5.out).mono ?_
          rintro e w6 ⟨rfl, rfl⟩
          clear HJ5
          go_wp2_with fail
          obtain ⟨wq, hwq⟩ : ∃ q, q = w5 := ⟨_, rfl⟩
          subst hwq
          go_loopw [60] (fun s60 wr => ∃ i : Nat, i ≤ m ∧ s60 = .int .i64 i ∧ Hid (Fr F0 w wr ∧ Rd wr aL L.length (nv L))) (fun s60 _ => m - (intOf s60).toNat)
          case atStart => exact ⟨0, Nat.zero_le _, rfl, Lib.hid ⟨HF5.out, HR6.out⟩⟩
          case round =>
            obtain ⟨i, hi, rfl, H⟩ := hrel
            by_cases hlt : i < m
            · have hlt' : (i : Int) < (m : Int) := by omega
              go_upto_region 15 with fail
              go_cut [11] (fun s11 wx => s11 = .int .i64 (cntP (foldP nn (X.take i ++ X.drop (i + 1))) : Int) ∧ Hid (Fr F0 wr wx))
              case first =>
                obtain ⟨Y, hY⟩ : ∃ Y, Y = X.take i ++ X.drop (i + 1) := ⟨_, rfl⟩
                have h2a : ∀ W : World, (Instr.sliceAt 60 (.slice a m c) none (some (.int .i64 (i : Int))) none).run Try.prog W = .ok (.slice (cutZ 2 a c 0) i c) W := fun W => run_cutHiZ2 E62 W a (by omega) rfl
                have h2b : ∀ W : World, (Instr.sliceAt 60 (.slice a m c) (some (.int .i64 ((i : Int) + 1))) none none).run Try.prog W = .ok (.slice (cutZ 2 a c (i + 1)) (m - (i + 1)) (c - (i + 1))) W := fun W => run_cutLoZ E62 W a (k := i + 1) (by omega) (by omega)
                have hww : IntKind.i64.wrap ((i : Int) + 1) = (i : Int) + 1 := wI (by omega) (by omega)
                obtain ⟨w7, hw7⟩ : ∃ wz, wz = wr.drew := ⟨_, rfl⟩
                have F7 : Hid (Fr F0 wr w7) := Lib.hid (by rw [hw7]; exact (Fr.refl F0 _).drew)
                refine wp_region_last 12 (fun _ : World => True) (by kernel_rfl) ?_
                rw [← hw7]
                have hHeld : (fun _ : World => True) w7 := trivial
                clear hw7
                refine anyP_takeF 0 (v := ?_) rfl (by kernel_rfl) (fun _ _ _ h => h) (Or.inl ⟨by rfl, ?_⟩) (.inr hHeld) ?_
                rotate_left 1
                · (intro w0 hSw; (try dsimp only at hSw); go_simp; (try (with_reducible rfl)))
                (try simp only [Act.put, List.setIfInBounds_toArray, List.set_cons_zero, List.set_cons_succ])
                refine anyP_takeF 1 (v := ?_) rfl (by kernel_rfl) (fun _ _ _ h => h) (Or.inl ⟨by rfl, ?_⟩) (.inr hHeld) ?_
                rotate_left 1
                · (intro w0 hSw; (try dsimp only at hSw); go_simp; (try (with_reducible rfl)))
                (try simp only [Act.put, List.setIfInBounds_toArray, List.set_cons_zero, List.set_cons_succ])
                refine anyP_takeF 2 (v := ?_) rfl (by kernel_rfl) (fun _ _ _ h => h) (Or.inl ⟨by rfl, ?_⟩) (.inr hHeld) ?_
                rotate_left 1
                · (intro w0 hSw; (try dsimp only at hSw); go_simp; (try (with_reducible rfl)))
                (try simp only [Act.put, List.setIfInBounds_toArray, List.set_cons_zero, List.set_cons_succ])
                refine anyP_takeF 3 (v := ?_) rfl (by kernel_rfl) (fun _ _ _ h => h) (Or.inl ⟨by rfl, ?_⟩) (.inr hHeld) ?_
                rotate_left 1
                · (intro w0 hSw; (try dsimp only at hSw); go_simp; (try (with_reducible rfl)))
                (try simp only [Act.put, List.setIfInBounds_toArray, List.set_cons_zero, List.set_cons_succ])
                refine anyP_takeF 4 (v := ?_) rfl (by kernel_rfl) (fun _ _ _ h => h) (Or.inl ⟨by rfl, ?_⟩) (.inr hHeld) ?_
                rotate_left 1
                · (intro w0 hSw; (try dsimp only at hSw); go_simp; (try (with_reducible rfl)))
                (try simp only [Act.put, List.setIfInBounds_toArray, List.set_cons_zero, List.set_cons_succ])
                refine anyP_takeF 5 (v := ?_) rfl (by kernel_rfl) (fun _ _ _ h => h) (Or.inl ⟨by rfl, ?_⟩) (.inr hHeld) ?_
                rotate_left 1
                · (intro w0 hSw; (try dsimp only at hSw); go_simp; (try (with_reducible rfl)))
                (try simp only [Act.put, List.setIfInBounds_toArray, List.set_cons_zero, List.set_cons_succ])
                refine anyP_takeF 6 (v := ?_) rfl (by kernel_rfl) (fun _ _ _ h => h) (Or.inl ⟨by rfl, ?_⟩) (.inr hHeld) ?_
                rotate_left 1
                · (intro w0 hSw; (try dsimp only at hSw); go_simp; (try (with_reducible rfl)))
                (try simp only [Act.put, List.setIfInBounds_toArray, List.set_cons_zero, List.set_cons_succ])
                refine anyP_takeF 7 (v := ?_) rfl (by kernel_rfl) (fun _ _ _ h => h) (Or.inl ⟨by rfl, ?_⟩) (.inr hHeld) ?_
                rotate_left 1
                · (intro w0 hSw; (try dsimp only at hSw); go_simp; (try (with_reducible rfl)))
                (try simp only [Act.put, List.setIfInBounds_toArray, List.set_cons_zero, List.set_cons_succ])
                clear hww h2a h2b
                refine anyP_one 8 (by kernel_rfl) rfl (fun K hK => ?_)
                replace hK := Lib.hid hK
                go_simp
                refine hK.out _ _ (.inr trivial) ?_
                clear hK K
                (try simp only [Act.put, List.setIfInBounds_toArray, List.set_cons_zero, List.set_cons_succ])
                have BL := Blk.new w7 60 [Value.slice (cutZ 2 a c 0) i c, Value.slice (cutZ 2 a c (i + 1)) (m - (i + 1)) (c - (i + 1))]
                have FA := (Fr.refl F0 w7).alloc (.cells #[Value.slice (cutZ 2 a c 0) i c, Value.slice (cutZ 2 a c (i + 1)) (m - (i + 1)) (c - (i + 1))] 60)
                obtain ⟨g, hg⟩ : ∃ b, b = w7.heap.size := ⟨_, rfl⟩
                obtain ⟨w8, hw8⟩ : ∃ W, W = w7.alloc (.cells #[Value.slice (cutZ 2 a c 0) i c, Value.slice (cutZ 2 a c (i + 1)) (m - (i + 1)) (c - (i + 1))] 60) := ⟨_, rfl⟩
                change Blk (w7.alloc (.cells #[Value.slice (cutZ 2 a c 0) i c, Value.slice (cutZ 2 a c (i + 1)) (m - (i + 1)) (c - (i + 1))] 60)) _ _ _ at BL
                change anyP _ _ _ _ _ _ _ _ _ (w7.alloc (.cells #[Value.slice (cutZ 2 a c 0) i c, Value.slice (cutZ 2 a c (i + 1)) (m - (i + 1)) (c - (i + 1))] 60))
                rw [← hw8] at BL FA ⊢
                rw [← hg] at BL ⊢
                have F8 := Lib.hid (F7.out.trans0 FA)
                have RX := HZ.out w8 (H.out.1.trans0 F8.out)
                have R1 := RX.cutHi hcap (k := i) (by omega)
                have R2 := RX.cut hcap (k := i + 1) (r := m - (i + 1)) (by omega)
                rw [eds_take] at R1
                rw [eds_drop] at R2
                have HCC := Lib.hid (Concat_any (BL.cell (i := 0) rfl) (BL.cell (i := 1) rfl) R1 R2 (eds_one _) (eds_one _) (by omega) (by omega))
                rw [← eds_app, ← hY, show i + (m - (i + 1)) = m - 1 by omega] at HCC
                have HYl : Hid (∀ e ∈ Y, e.1 < nn ∧ e.2 < nn) := Lib.hid (by rw [hY]; exact without_lt HXl.out i)
                clear hw8 hg FA BL RX R1 R2 hHeld F7
                have hY' := Lib.hid hY
                clear hY
                refine anyP_one 9 (by kernel_rfl) rfl (fun K hK => ?_)
                replace hK := Lib.hid hK
                go_simp
                refine HCC.out.mono ?_
                rintro e w9 ⟨aY, cY, rfl, rY, F9⟩
                have RY := Lib.hid rY
                have F9' := Lib.hid (F8.out.trans0 F9)
                clear rY F9 F8 HCC
                refine hK.out _ _ (.inr trivial) ?_
                clear hK K
                (try simp only [Act.put, List.setIfInBounds_toArray, List.set_cons_zero, List.set_cons_succ])
                refine anyP_one 10 (by kernel_rfl) rfl (fun K hK => ?_)
                replace hK := Lib.hid hK
                go_simp
                refine (HJ.out aY (m - 1) cY Y (by omega) HYl.out w9 RY.out).mono ?_
                rintro e w10 ⟨aJ2, cJ2, rfl, rJ2, F10⟩
                have RJ2 := Lib.hid rJ2
                have F10' := Lib.hid (F9'.out.trans0 F10)
                clear rJ2 F10 F9' RY
                refine hK.out _ _ (.inr trivial) ?_
                clear hK K
                (try simp only [Act.put, List.setIfInBounds_toArray, List.set_cons_zero, List.set_cons_succ])
                refine anyP_one 11 (by kernel_rfl) rfl (fun K hK => ?_)
                replace hK := Lib.hid hK
                go_simp
                refine (HC.out aJ2 cJ2 _ w10 RJ2.out).mono ?_
                rintro e w11 ⟨rfl, rfl⟩
                refine hK.out _ _ (.inr trivial) ?_
                clear hK K
                (try simp only [Act.put, List.setIfInBounds_toArray, List.set_cons_zero, List.set_cons_succ])
                refine anyP_one 12 (by kernel_rfl) rfl (fun K hK => ?_)
                replace hK := Lib.hid hK
                go_simp
                refine hK.out _ _ (.inl (by kernel_rfl)) ?_
                clear hK K
                (try simp only [Act.put, List.setIfInBounds_toArray, List.set_cons_zero, List.set_cons_succ])
                refine anyP_done (by kernel_rfl) ?_ _
                refine NoPanic.normal ?_
                go_wp2_with fail
                go_meet
                exact ⟨by rw [← hY'.out], F10'⟩
              case rest =>
                obtain ⟨rfl, HF9⟩ := hcut
                have HH := Lib.hid (And.intro (H.out.1.trans0 HF9.out) (H.out.2.fr HF9.out (fun _ _ h => h)))
                have h1 := without_more HXl.out (i := i) (by rw [← HMX.out]; exact hlt)
                have h2 : L.contains i = isB nn X i := by rw [HLX.out]; exact refB_contains nn X (by rw [← HMX.out]; exact hlt)
                have HCo := Lib.hid (Contains_any aL L.length cL L i wc HH.out.2)
                rw [h2] at HCo
                clear h2
                generalize isB nn X i = b at h1 HCo
                cases b
                · have h3 : ¬ ((cntP (foldP nn X) : Nat) : Int) < ((cntP (foldP nn (X.take i ++ X.drop (i + 1))) : Nat) : Int) := by have := of_decide_eq_false h1; omega
                  go_wp2_with fail
                  refine HCo.out.mono ?_
                  rintro e w11 ⟨rfl, rfl⟩
                  go_wp2_with fail
                  go_roundw
                  case rel => exact ⟨i + 1, by omega, by go_num, HH⟩
                  case measure => simp [intOf]; omega
                · have h3 : ((cntP (foldP nn X) : Nat) : Int) < ((cntP (foldP nn (X.take i ++ X.drop (i + 1))) : Nat) : Int) := by have := of_decide_eq_true h1; omega
                  go_wp2_with fail
                  refine HCo.out.mono ?_
                  rintro e w11 ⟨rfl, rfl⟩
                  go_wp2_with fail
                  go_roundw
                  case rel => exact ⟨i + 1, by omega, by go_num, HH⟩
                  case measure => simp [intOf]; omega
            · obtain rfl : m = i := by omega
              go_wp2_with fail
              go_ret
              exact ⟨rfl, H.out.1⟩
        · have hE1 : ¬ (k : Int) = 0 := by omega
          have hE2 : ((k : Int) != 0) = true := by simp; omega
          go_wp2_with fail
          go_ret
          exact ⟨rfl, HF4.out⟩
theorem walkBridges (n : Int) (a : Option Addr) (m c : Nat) (R : Nat → Nat → Int) (W : World) (h : ArgSt W a m c [.i64, .i64] R) : Calls Try.prog 8 #[.int .i64 n, .slice a m c] W fun e w' => e = .returned (.bool true) ∧ Fr F0 W w' := law8 (argP_of h)
end Go.Proofs.Ytihcaemheknjbaa
