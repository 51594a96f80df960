/- SoftheapErrors. -/
import Derived.Test.YtdphademoeofkaaS15
namespace Go.Proofs.Ytdphademoeofkaa
open Go.RowKit
attribute [local go_sem ↓] Go.wp_at_zero Go.wp_at_succ
set_option maxRecDepth 100000 in
theorem Errors_bad (k0 k1 : Int) (a : Option Addr) (n c : Nat) (w : World) (h : k0 < 0 ∨ 20 < k0 ∨ k1 < 0 ∨ 20 < k1 ∨ 20 < n) :
    Calls Try.prog 3 #[.int .i64 k0, .int .i64 k1, .slice a n c] w fun e w' => e = .returned (.bool true) ∧ Fr F0 w w' := by
  have HW := Lib.hid (awake_any w)
  by_cases h1 : k0 < 0
  · clear h
    go_enter Try.func3, Try.ntmps3
    go_wp2_with (go_at_call 7; refine (HW.out).mono ?_; rintro e w1 ⟨rfl, F1'⟩; have F1 := Lib.hid F1'; clear F1')
    go_ret
    exact ⟨rfl, F1.out⟩
  · by_cases h2 : 20 < k0
    · clear h
      go_enter Try.func3, Try.ntmps3
      go_wp2_with (go_at_call 7; refine (HW.out).mono ?_; rintro e w1 ⟨rfl, F1'⟩; have F1 := Lib.hid F1'; clear F1')
      go_ret
      exact ⟨rfl, F1.out⟩
    · by_cases h3 : k1 < 0
      · clear h
        go_enter Try.func3, Try.ntmps3
        go_wp2_with (go_at_call 7; refine (HW.out).mono ?_; rintro e w1 ⟨rfl, F1'⟩; have F1 := Lib.hid F1'; clear F1')
        go_ret
        exact ⟨rfl, F1.out⟩
      · by_cases h4 : 20 < k1
        · clear h
          go_enter Try.func3, Try.ntmps3
          go_wp2_with (go_at_call 7; refine (HW.out).mono ?_; rintro e w1 ⟨rfl, F1'⟩; have F1 := Lib.hid F1'; clear F1')
          go_ret
          exact ⟨rfl, F1.out⟩
        · have h5 : 20 < n := by omega
          have h5' : (20 : Int) < n := by omega
          clear h
          go_enter Try.func3, Try.ntmps3
          go_wp2_with (go_at_call 7; refine (HW.out).mono ?_; rintro e w1 ⟨rfl, F1'⟩; have F1 := Lib.hid F1'; clear F1')
          go_ret
          exact ⟨rfl, F1.out⟩
/-- Some keys were tried. -/
def EL (w0 wr : World) (hb ho r0 r1 : Nat) (j : Nat) : Prop :=
  ∃ ts own I T, Hp wr hb r0 ts own I T ∧ Hp wr ho r1 [] [] [] (fun q => q = ho) ∧ ¬ T ho ∧ own.length ≤ j ∧ Fr F0 w0 wr ∧ w0.heap.size ≤ ho ∧ ∀ q, T q → w0.heap.size ≤ q
set_option maxRecDepth 100000 in
set_option maxHeartbeats 2000000 in
theorem Errors_in (r0 r1 : Nat) (a : Option Addr) (n c : Nat) (xs : List Int) (w : World) (hx : Rd w a n (ints xs)) (h0 : r0 ≤ 20) (h1 : r1 ≤ 20) (hn : n ≤ 20) :
    Calls Try.prog 3 #[.int .i64 r0, .int .i64 r1, .slice a n c] w fun e w' => e = .returned (.bool true) ∧ Fr F0 w w' := by
  have HW := Lib.hid (awake_any w)
  have HX := Lib.hid hx
  have H0 := Lib.hid h0
  have H1 := Lib.hid h1
  have e1 : decide ((r0 : Int) < 0) = false := decide_eq_false (by omega)
  have e2 : decide ((20 : Int) < r0) = false := decide_eq_false (by omega)
  have e3 : decide ((r1 : Int) < 0) = false := decide_eq_false (by omega)
  have e4 : decide ((20 : Int) < r1) = false := decide_eq_false (by omega)
  have e5 : decide ((20 : Int) < n) = false := decide_eq_false (by omega)
  have HN := Lib.hid hn
  clear hx h0 h1 hn
  go_enter Try.func3, Try.ntmps3
  go_wp2_with (go_at_call 7; refine (HW.out).mono ?_; rintro e w1 ⟨rfl, F1'⟩; have F1 := Lib.hid F1'; clear F1')
  refine (New_ok w1 H0.out).mono ?_
  rintro e w2 ⟨hb, rfl, Hb', F2', gb'⟩
  have Hb := Lib.hid Hb'
  have F2 := Lib.hid F2'
  have gb := Lib.hid gb'
  clear Hb' F2' gb'
  go_wp2_with fail
  refine (New_ok w2 H1.out).mono ?_
  rintro e w3 ⟨ho, rfl, Ho', F3', go'⟩
  have Ho := Lib.hid Ho'
  have F3 := Lib.hid F3'
  have gO := Lib.hid go'
  clear Ho' F3' go'
  go_wp2_with fail
  go_loopw [71] (fun s71 wr => ∃ j : Nat, j ≤ n ∧ s71 = .int .i64 j ∧ Hid (EL w wr hb ho r0 r1 j)) (fun s71 _ => n - (intOf s71).toNat)
  case atStart =>
    refine ⟨0, by omega, rfl, Lib.hid ⟨[], [], [], _, Hb.out.fr F3.out (fun _ _ => id), Ho.out, ?_, Nat.le_refl _, (F1.out.trans0 F2.out).trans0 F3.out, ?_, ?_⟩⟩
    · intro (e : ho = hb)
      have h1 := Hb.out.lt hb rfl
      have h2 := gO.out
      omega
    · have h1 := F1.out.size
      have h2 := F2.out.size
      have h3 := gO.out
      omega
    · intro q (e : q = hb)
      have h1 := F1.out.size
      have h2 := gb.out
      omega
  case round =>
    obtain ⟨j, hj, rfl, HE⟩ := hrel
    by_cases hlt : j < n
    · obtain ⟨ts, own, I, T, H, O, hT, hl, F, hgo, hTw⟩ := HE.out
      have hj9 : j ≤ 20 := by have := HN.out; omega
      have hx := HX.out.fr0 F
      obtain ⟨g, o, k, rfl, hk, c1⟩ := hx.ix hlt
      have hT' := Lib.hid hT
      have H' := Lib.hid H
      have O' := Lib.hid O
      have F' := Lib.hid F
      have hTw' := Lib.hid hTw
      have hgo' := Lib.hid hgo
      clear hx H O F hTw hT hk hgo
      by_cases hb1 : -1048576 ≤ k ∧ k ≤ 1048576
      · have HI := Lib.hid (Insert_ok H'.out hb1.1 hb1.2 (by have := HN.out; omega))
        have HK : Hid (∀ w', Calls Try.prog 10 #[.int .i64 k] w' fun e w'' => e = .returned (.bool true) ∧ w' = w'') := Lib.hid (fun w' => by have := key_any w' k; rwa [decide_eq_true hb1] at this)
        clear hb1
        go_wp2_with fail
        refine (HI.out).mono ?_
        rintro e w4 ⟨bx, ts', I', T', rfl, H4', _, F4', g4'⟩
        have H4 := Lib.hid H4'
        have F4 := Lib.hid F4'
        have g4 := Lib.hid g4'
        clear H4' F4' g4'
        go_wp2_with fail
        refine (HK.out _).mono ?_
        rintro e w5 ⟨rfl, rfl⟩
        go_wp2_with fail
        have hn9 := HN.out
        go_roundw
        case rel =>
          have hol := O'.out.lt ho rfl
          have hsz := F'.out.size
          refine ⟨j + 1, by omega, by go_num, Lib.hid ⟨ts', own ++ [k], I', T', H4.out, O'.out.fr F4.out (fun q (e : q = ho) => e ▸ hT'.out), fun e => (g4.out ho e).elim hT'.out (fun e => by omega), by simp; omega, F'.out.trans F4.out (fun q hq e => absurd (hTw'.out q e) (by omega)), hgo'.out, fun q hq => (g4.out q hq).elim (hTw'.out q) (fun e => by omega)⟩⟩
        case measure => simp [intOf]; omega
      · have HI := Lib.hid (Insert_bad (w := wr) (hb := hb) (k := k) (by omega))
        have HK : Hid (∀ w', Calls Try.prog 10 #[.int .i64 k] w' fun e w'' => e = .returned (.bool false) ∧ w' = w'') := Lib.hid (fun w' => by have := key_any w' k; rwa [decide_eq_false hb1] at this)
        clear hb1
        go_wp2_with fail
        refine (HI.out).mono ?_
        rintro e w4 ⟨rfl, rfl⟩
        go_wp2_with fail
        refine (HK.out _).mono ?_
        rintro e w5 ⟨rfl, rfl⟩
        go_wp2_with fail
        have hn9 := HN.out
        go_roundw
        case rel => exact ⟨j + 1, by omega, by go_num, Lib.hid ⟨ts, own, I, T, H'.out, O'.out, hT'.out, by omega, F'.out, hgo'.out, hTw'.out⟩⟩
        case measure => simp [intOf]; omega
    · obtain rfl : n = j := by omega
      obtain ⟨ts, own, I, T, H, O, hT, hl, F, hgo, hTw⟩ := HE.out
      have hT' := Lib.hid hT
      have H' := Lib.hid H
      have O' := Lib.hid O
      have F' := Lib.hid F
      have hTw' := Lib.hid hTw
      have hol : Hid (own.length ≤ 20) := Lib.hid (by have := HN.out; omega)
      obtain ⟨m, hm⟩ : ∃ m, m = (flat ts).length := ⟨_, rfl⟩
      have Hm := Lib.hid hm
      have HL := Lib.hid (Len_any H)
      rw [← hm] at HL
      have hgO := Lib.hid hgo
      clear H O F hTw hT hlt hj hl hm hgo
      go_wp2_with fail
      refine (HL.out).mono ?_
      rintro e w4 ⟨rfl, rfl⟩
      go_wp2_with fail
      refine (Meld_nil wr hb).mono ?_
      rintro e w4 ⟨rfl, q4, rfl⟩
      go_wp2_with fail
      refine (Meld_same _ hb).mono ?_
      rintro e w5 ⟨rfl, q5, rfl⟩
      obtain ⟨w5, hw5⟩ : ∃ w5, w5 = (wr.drewN q4).drewN q5 := ⟨_, rfl⟩
      rw [← hw5]
      have F5 : Hid (Fr F0 wr w5) := Lib.hid (by rw [hw5]; exact ((Fr.refl _ _).drewN _).drewN _)
      clear hw5
      have H5 := Lib.hid (H'.out.fr F5.out (fun _ _ => id))
      have O5 := Lib.hid (O'.out.fr F5.out (fun _ _ => id))
      have L5 := Lib.hid (Len_any H5.out)
      rw [← Hm.out] at L5
      go_wp2_with fail
      refine (L5.out).mono ?_
      rintro e w6 ⟨rfl, rfl⟩
      go_wp2_with fail
      have hoT : ho ≠ hb := fun e => by
        obtain ⟨_, _, _, _, _, _, _, h1, _⟩ := H'.out
        exact hT'.out (e ▸ h1.hT)
      have F05 : Hid (Fr F0 w w5) := Lib.hid (F'.out.trans0 F5.out)
      by_cases hr : r0 = r1
      · subst hr
        have HM := Lib.hid (Meld_ok O5.out H5.out (fun q (e : q = ho) h => hT'.out (e ▸ h)) (by have := hol.out; simp; omega))
        clear hoT
        refine (HM.out).mono ?_
        rintro e w7 ⟨ab, cb, tsF, IF, TF, rfl, P7', A7', Q7', _, _, F7', _⟩
        have L7 := Lib.hid (Len_any P7')
        have M7 := Lib.hid (Len_any Q7')
        have hm7 : (flat tsF).length = m := by
          have := A7'.perm.length_eq
          rw [List.length_append, flat_rn, List.length_map] at this
          rw [this, Hm.out]
          simp [flat]
        rw [hm7] at L7
        have F7 : Hid (Fr F0 w w7) := Lib.hid (F05.out.trans F7' (fun q hq e => by
          rcases e with e | e
          · have e' : q = ho := e
            have := hgO.out
            omega
          · exact absurd (hTw'.out q e) (by omega)))
        clear P7' A7' Q7' F7' hm7
        go_wp2_with fail
        refine (L7.out).mono ?_
        rintro e w8 ⟨rfl, rfl⟩
        go_wp2_with fail
        refine (M7.out).mono ?_
        rintro e w8 ⟨rfl, rfl⟩
        go_wp2_with fail
        refine (Insert_nil _ 1).mono ?_
        rintro e w8 ⟨rfl, rfl⟩
        go_wp2_with fail
        refine (DeleteMin_nil _).mono ?_
        rintro e w8 ⟨rfl, rfl⟩
        go_wp2_with fail
        refine (Current_nil _ 0).mono ?_
        rintro e w8 ⟨rfl, rfl⟩
        go_wp2_with fail
        refine (Meld_none _ _).mono ?_
        rintro e w8 ⟨rfl, q8, rfl⟩
        go_wp2_with fail
        refine (Len_nil _).mono ?_
        rintro e w8 ⟨rfl, rfl⟩
        go_wp2_with fail
        refine (Inserted_nil _).mono ?_
        rintro e w8 ⟨rfl, rfl⟩
        go_wp2_with fail
        refine (Corrupted_nil _).mono ?_
        rintro e w8 ⟨rfl, rfl⟩
        go_wp2_with fail
        refine (Items_nil _).mono ?_
        rintro e w8 ⟨rfl, rfl⟩
        go_wp2_with fail
        go_ret
        exact ⟨rfl, F7.out.drewN _⟩
      · have hr' : ((r0 : Int) == (r1 : Int)) = false := by simp; omega
        have HM := Lib.hid (Meld_rate O5.out H5.out hoT (fun e => hr e.symm))
        have LO := Lib.hid (fun q => Len_any (O5.out.fr ((Fr.refl F0 w5).drewN q) (fun _ _ => id)))
        have LH := Lib.hid (fun q => Len_any (H5.out.fr ((Fr.refl F0 w5).drewN q) (fun _ _ => id)))
        rw [← Hm.out] at LH
        clear hoT
        refine (HM.out).mono ?_
        rintro e w7 ⟨rfl, q7, rfl⟩
        go_wp2_with fail
        refine (LO.out _).mono ?_
        rintro e w8 ⟨rfl, rfl⟩
        go_wp2_with fail
        refine (LH.out _).mono ?_
        rintro e w8 ⟨rfl, rfl⟩
        go_wp2_with fail
        refine (Insert_nil _ 1).mono ?_
        rintro e w8 ⟨rfl, rfl⟩
        go_wp2_with fail
        refine (DeleteMin_nil _).mono ?_
        rintro e w8 ⟨rfl, rfl⟩
        go_wp2_with fail
        refine (Current_nil _ 0).mono ?_
        rintro e w8 ⟨rfl, rfl⟩
        go_wp2_with fail
        refine (Meld_none _ _).mono ?_
        rintro e w8 ⟨rfl, q8, rfl⟩
        go_wp2_with fail
        refine (Len_nil _).mono ?_
        rintro e w8 ⟨rfl, rfl⟩
        go_wp2_with fail
        refine (Inserted_nil _).mono ?_
        rintro e w8 ⟨rfl, rfl⟩
        go_wp2_with fail
        refine (Corrupted_nil _).mono ?_
        rintro e w8 ⟨rfl, rfl⟩
        go_wp2_with fail
        refine (Items_nil _).mono ?_
        rintro e w8 ⟨rfl, rfl⟩
        go_wp2_with fail
        go_ret
        exact ⟨rfl, F05.out.drewN _⟩
theorem Errors_law (k0 k1 : Int) (a : Option Addr) (n c : Nat) (xs : List Int) (w : World) (A : ArgSl w a n c xs) :
    Calls Try.prog 3 #[.int .i64 k0, .int .i64 k1, .slice a n c] w fun e w' => e = .returned (.bool true) ∧ Fr F0 w w' := by
  by_cases h : k0 < 0 ∨ 20 < k0 ∨ k1 < 0 ∨ 20 < k1 ∨ 20 < n
  · exact Errors_bad k0 k1 a n c w h
  · obtain ⟨r0, rfl⟩ : ∃ r : Nat, k0 = r := ⟨k0.toNat, by omega⟩
    obtain ⟨r1, rfl⟩ : ∃ r : Nat, k1 = r := ⟨k1.toNat, by omega⟩
    exact Errors_in r0 r1 a n c xs w A.rd (by omega) (by omega) (by omega)
end Go.Proofs.Ytdphademoeofkaa
