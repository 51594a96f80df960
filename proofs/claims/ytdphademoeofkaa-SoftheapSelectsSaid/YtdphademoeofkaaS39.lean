/- Selects. -/
import Derived.Test.YtdphademoeofkaaS38
namespace Go.Proofs.Ytdphademoeofkaa
open Go.RowKit
attribute [local go_sem ↓] Go.wp_at_zero Go.wp_at_succ
/-- What Select answers when it refuses: a key that is none, a list too long, no such place. -/
theorem Select_bad (K : Int) (a : Option Addr) (n c : Nat) (xs : List Int) (w : World) (A : Rd w a n (ints xs)) (hn : n ≤ 100000) (er : Int) (h : (xs.any notKey = true ∧ er = 2) ∨ (xs.any notKey = false ∧ 2000 < n ∧ er = 4) ∨ (xs.any notKey = false ∧ n ≤ 2000 ∧ (K < 0 ∨ (n : Int) ≤ K) ∧ er = 2)) :
    Calls Try.prog 27 #[.slice a n c, .int .i64 K] w fun e w' => e = .returned (.tuple #[.int .i64 0, .int .i64 er]) ∧ Fr F0 w w' := by
  have HC := Lib.hid (ContainsFunc_c2 notKey a n c xs w A (fun x => notKey44 x w))
  rcases h with ⟨h1, rfl⟩ | ⟨h1, h2, rfl⟩ | ⟨h1, h2, h3, rfl⟩
  · rw [h1] at HC
    clear h1 A
    go_enter Try.func27, Try.ntmps27
    go_wp2_with fail
    refine HC.out.mono ?_
    rintro e w1 ⟨rfl, rfl⟩
    go_wp2_with fail
    go_ret2
    exact ⟨rfl, Fr.refl _ _⟩
  · rw [h1] at HC
    have d1 : (2000 : Int) < (n : Int) := by omega
    clear h1 A h2
    go_enter Try.func27, Try.ntmps27
    go_wp2_with fail
    refine HC.out.mono ?_
    rintro e w1 ⟨rfl, rfl⟩
    go_wp2_with fail
    go_ret2
    exact ⟨rfl, Fr.refl _ _⟩
  · rw [h1] at HC
    have d1 : decide ((2000 : Int) < (n : Int)) = false := decide_eq_false (by omega)
    have d1' : decide (2000 < n) = false := decide_eq_false (by omega)
    by_cases h4 : K < 0
    · clear h1 A h2 h3
      go_enter Try.func27, Try.ntmps27
      go_wp2_with fail
      refine HC.out.mono ?_
      rintro e w1 ⟨rfl, rfl⟩
      go_wp2_with fail
      go_ret2
      exact ⟨rfl, Fr.refl _ _⟩
    · have h5 : (n : Int) ≤ K := h3.elim (fun e => absurd e h4) id
      clear h1 A h2 h3
      go_enter Try.func27, Try.ntmps27
      go_wp2_with fail
      refine HC.out.mono ?_
      rintro e w1 ⟨rfl, rfl⟩
      go_wp2_with fail
      go_ret2
      exact ⟨rfl, Fr.refl _ _⟩
set_option maxRecDepth 100000 in
set_option maxHeartbeats 4000000 in
theorem Selects_law (a : Option Addr) (n c : Nat) (xs : List Int) (K : Int) (w : World) (A : ArgSl w a n c xs) :
    Calls Try.prog 6 #[.slice a n c, .int .i64 K] w fun e w' => e = .returned (.bool true) ∧ Fr F0 w w' := by
  have hxl : xs.length = n := by simpa using A.rd.len
  by_cases hskip : (200 < n ∧ n ≤ 2000) ∨ 2005 < n
  · clear A hxl
    by_cases h1 : 2005 < n
    · have d1 : decide ((n : Int) ≤ 2000) = false := decide_eq_false (by omega)
      have d2 : (2005 : Int) < (n : Int) := by omega
      have d0 : (200 : Int) < (n : Int) := by omega
      clear hskip h1
      go_enter Try.func6, Try.ntmps6
      go_wp2_with fail
      refine (awake_any w).mono ?_
      rintro e w1 ⟨rfl, F1⟩
      go_wp2_with fail
      go_ret
      exact ⟨rfl, F1⟩
    · have d1 : (n : Int) ≤ 2000 := by omega
      have d0 : (200 : Int) < (n : Int) := by omega
      clear hskip h1
      go_enter Try.func6, Try.ntmps6
      go_wp2_with fail
      refine (awake_any w).mono ?_
      rintro e w1 ⟨rfl, F1⟩
      go_wp2_with fail
      go_ret
      exact ⟨rfl, F1⟩
  · have HA := Lib.hid A.rd
    have HC := Lib.hid (fun (w' : World) (F : Fr F0 w w') => ContainsFunc_c1 notKey a n c xs w' (A.rd.fr0 F) (fun x => notKey28 x w'))
    have Hxl := Lib.hid hxl
    clear A hxl
    by_cases hbig : 2000 < n
    · have d0 : (200 : Int) < (n : Int) := by omega
      have d1 : ¬ (n : Int) ≤ 2000 := by omega
      have d2 : ¬ (2005 : Int) < (n : Int) := by omega
      have d3 : (2000 : Int) < (n : Int) := by omega
      have Hn := Lib.hid (show n ≤ 2005 by omega)
      have Hbig := Lib.hid hbig
      clear hskip hbig
      cases hany : xs.any notKey with
      | true =>
        have HSel := Lib.hid (fun (w' : World) (F : Fr F0 w w') => Select_bad K a n c xs w' (HA.out.fr0 F) (by have := Hn.out; omega) 2 (.inl ⟨hany, rfl⟩))
        rw [hany] at HC
        clear hany
        go_enter Try.func6, Try.ntmps6
        go_wp2_with fail
        refine (awake_any w).mono ?_
        rintro e w1 ⟨rfl, F1⟩
        have HF1 := Lib.hid F1
        clear F1
        go_wp2_with fail
        refine (HSel.out w1 HF1.out).mono ?_
        rintro e w2 ⟨rfl, F2⟩
        have HF2 := Lib.hid (HF1.out.trans0 F2)
        clear F2
        go_wp2_with fail
        refine (HC.out w2 HF2.out).mono ?_
        rintro e w3 ⟨rfl, rfl⟩
        go_wp2_with fail
        go_ret
        exact ⟨rfl, HF2.out⟩
      | false =>
        have HSel := Lib.hid (fun (w' : World) (F : Fr F0 w w') => Select_bad K a n c xs w' (HA.out.fr0 F) (by have := Hn.out; omega) 4 (.inr (.inl ⟨hany, Hbig.out, rfl⟩)))
        rw [hany] at HC
        clear hany
        go_enter Try.func6, Try.ntmps6
        go_wp2_with fail
        refine (awake_any w).mono ?_
        rintro e w1 ⟨rfl, F1⟩
        have HF1 := Lib.hid F1
        clear F1
        go_wp2_with fail
        refine (HSel.out w1 HF1.out).mono ?_
        rintro e w2 ⟨rfl, F2⟩
        have HF2 := Lib.hid (HF1.out.trans0 F2)
        clear F2
        go_wp2_with fail
        refine (HC.out w2 HF2.out).mono ?_
        rintro e w3 ⟨rfl, rfl⟩
        go_wp2_with fail
        go_ret
        exact ⟨rfl, HF2.out⟩
    · have d0 : ¬ (200 : Int) < (n : Int) := by omega
      have d2 : ¬ (2005 : Int) < (n : Int) := by omega
      have d3 : ¬ (2000 : Int) < (n : Int) := by omega
      have Hn := Lib.hid (show n ≤ 200 by omega)
      clear hskip hbig
      cases hany : xs.any notKey with
      | true =>
        have HSel := Lib.hid (fun (w' : World) (F : Fr F0 w w') => Select_bad K a n c xs w' (HA.out.fr0 F) (by have := Hn.out; omega) 2 (.inl ⟨hany, rfl⟩))
        rw [hany] at HC
        clear hany
        go_enter Try.func6, Try.ntmps6
        go_wp2_with fail
        refine (awake_any w).mono ?_
        rintro e w1 ⟨rfl, F1⟩
        have HF1 := Lib.hid F1
        clear F1
        go_wp2_with fail
        refine (HSel.out w1 HF1.out).mono ?_
        rintro e w2 ⟨rfl, F2⟩
        have HF2 := Lib.hid (HF1.out.trans0 F2)
        clear F2
        go_wp2_with fail
        refine (HC.out w2 HF2.out).mono ?_
        rintro e w3 ⟨rfl, rfl⟩
        go_wp2_with fail
        go_ret
        exact ⟨rfl, HF2.out⟩
      | false =>
        by_cases hK : K < 0 ∨ (n : Int) ≤ K
        · have HSel := Lib.hid (fun (w' : World) (F : Fr F0 w w') => Select_bad K a n c xs w' (HA.out.fr0 F) (by have := Hn.out; omega) 2 (.inr (.inr ⟨hany, by have := Hn.out; omega, hK, rfl⟩)))
          rw [hany] at HC
          clear hany
          by_cases hK1 : K < 0
          · clear hK
            go_enter Try.func6, Try.ntmps6
            go_wp2_with fail
            refine (awake_any w).mono ?_
            rintro e w1 ⟨rfl, F1⟩
            have HF1 := Lib.hid F1
            clear F1
            go_wp2_with fail
            refine (HSel.out w1 HF1.out).mono ?_
            rintro e w2 ⟨rfl, F2⟩
            have HF2 := Lib.hid (HF1.out.trans0 F2)
            clear F2
            go_wp2_with fail
            refine (HC.out w2 HF2.out).mono ?_
            rintro e w3 ⟨rfl, rfl⟩
            go_wp2_with fail
            go_ret
            exact ⟨rfl, HF2.out⟩
          · have hK2 : (n : Int) ≤ K := hK.elim (fun e => absurd e hK1) id
            clear hK
            go_enter Try.func6, Try.ntmps6
            go_wp2_with fail
            refine (awake_any w).mono ?_
            rintro e w1 ⟨rfl, F1⟩
            have HF1 := Lib.hid F1
            clear F1
            go_wp2_with fail
            refine (HSel.out w1 HF1.out).mono ?_
            rintro e w2 ⟨rfl, F2⟩
            have HF2 := Lib.hid (HF1.out.trans0 F2)
            clear F2
            go_wp2_with fail
            refine (HC.out w2 HF2.out).mono ?_
            rintro e w3 ⟨rfl, rfl⟩
            go_wp2_with fail
            go_ret
            exact ⟨rfl, HF2.out⟩
        · obtain ⟨k, rfl⟩ : ∃ k : Nat, K = k := ⟨K.toNat, by omega⟩
          have hkn : k < n := by omega
          have HSel := Lib.hid (fun (w' : World) (F : Fr F0 w w') => Select_in k a n c xs w' (HA.out.fr0 F) (by have := Hn.out; omega) hkn hany)
          rw [hany] at HC
          have k1 : ¬ (k : Int) < 0 := by omega
          have k2 : ¬ n ≤ k := by omega
          obtain ⟨b, o, rfl, _⟩ := HA.out.cells (by omega)
          clear hany hK
          go_enter Try.func6, Try.ntmps6
          go_wp2_with fail
          refine (awake_any w).mono ?_
          rintro e w1 ⟨rfl, F1⟩
          have HF1 := Lib.hid F1
          clear F1
          go_wp2_with fail
          refine (HSel.out w1 HF1.out).mono ?_
          rintro e w2 ⟨x, rfl, hsx, F2⟩
          have HF2 := Lib.hid (HF1.out.trans0 F2)
          have Hsx := Lib.hid hsx
          clear F2 hsx
          go_wp2_with fail
          refine (HC.out w2 HF2.out).mono ?_
          rintro e w3 ⟨rfl, rfl⟩
          go_wp2_with fail
          refine (Clone_any b o n c xs w2 (HA.out.fr0 HF2.out) (by omega) (by have := Hn.out; omega)).mono ?_
          rintro e w3 ⟨aS, cs, rfl, hOs, hFs⟩
          have HOs := Lib.hid hOs
          have HFs := Lib.hid hFs
          clear hOs hFs
          go_wp2_with fail
          refine (Sort_any w2.heap.size n cs aS xs w3 HOs.out (by have := Hn.out; omega)).mono ?_
          rintro e w4 ⟨rfl, ys, hp, hs, hOy, hFy⟩
          have HFy : Hid (Fr F0 w2 w4) := Lib.hid (HFs.out.trans hFy (fun q hq e => by have := (HOs.out.blk q e).1; omega))
          obtain ⟨b2, o2, x2, rfl, hx, cx⟩ := hOy.rd.ix hkn
          have hxx : x2 = x := by
            have h1 := Hsx.out
            rw [srt_eq hp hs, hx] at h1
            exact Option.some.inj h1
          subst hxx
          clear hp hs hOy hFy hx
          go_wp2_with fail
          go_ret
          exact ⟨rfl, HF2.out.trans0 HFy.out⟩
end Go.Proofs.Ytdphademoeofkaa
