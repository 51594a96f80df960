/- Buffer trees: the law of things apart. -/
import Derived.Test.YtkmnnfflibamnaaL6
import Derived.Test.YtkmnnfflibamnaaL7
namespace Go.Proofs.Ytkmnnfflibamnaa
open Go.RowKit
attribute [local go_sem ↓] Go.wp_at_zero Go.wp_at_succ
set_option maxRecDepth 100000 in
set_option maxHeartbeats 8000000 in
theorem Apart_law (b m : Int) (a : Option Addr) (n c : Nat) (R : Nat → Nat → Int) (w : World) (h : ArgSt w a n c stK R) :
    Calls Try.prog 9 #[.int .i64 b, .int .i64 m, .slice a n c] w fun e w' => e = .returned (.bool true) ∧ Fr F0 w w' := by
  have HA := Lib.hid (awake_any w)
  have HP : Hid (∀ W, Fr F0 w W → n ≤ 60 → Calls Try.prog 24 #[.int .i64 b, .int .i64 m, .slice a n c] W (PlayS W b m R n)) := Lib.hid (fun W F hn => play_law b m W (h.fr0 F) (by omega))
  clear h
  by_cases hn : 60 < n
  · have hd : 60 < (n : Int) := by omega
    clear hn
    go_enter Try.func9, Try.ntmps9
    go_wp2_with (first | (go_at_call 10; refine HA.out.mono ?_; rintro e w1 ⟨rfl, F1⟩; have X1 := Lib.hid F1; clear F1) | (go_at_call 29; refine (Get_nil _ _).mono ?_; rintro e w2 ⟨rfl, F2⟩; have X2 := Lib.hid (X1.out.trans0 F2); clear F2) | (go_at_call 14; refine (Put_any (update_nil (0, 0, false) _)).mono ?_; rintro e w3 ⟨rfl, F3⟩; have X3 := Lib.hid (X2.out.trans0 F3); clear F3) | (go_at_call 13; refine (Remove_any (update_nil (0, 0, true) _)).mono ?_; rintro e w4 ⟨rfl, F4⟩; have X4 := Lib.hid (X3.out.trans0 F4); clear F4) | (go_at_call 30; refine (Flush_nil _).mono ?_; rintro e w' ⟨rfl, rfl⟩) | (go_at_call 27; refine (List_nil _).mono ?_; rintro e w' ⟨rfl, rfl⟩) | (go_at_call 31; refine (Buffered_nil _).mono ?_; rintro e w' ⟨rfl, rfl⟩) | (go_at_call 32; refine (Height_nil _).mono ?_; rintro e w' ⟨rfl, rfl⟩) | (go_at_call 15; refine (Blocks_nil _).mono ?_; rintro e w' ⟨rfl, rfl⟩))
    go_ret
    exact ⟨rfl, X4.out⟩
  · have hd : ¬ 60 < (n : Int) := by omega
    have hn2 : n ≤ 60 := by omega
    clear hn
    go_enter Try.func9, Try.ntmps9
    go_upto_region 9 with (first | (go_at_call 10; refine HA.out.mono ?_; rintro e w1 ⟨rfl, F1⟩; have X1 := Lib.hid F1; clear F1) | (go_at_call 29; refine (Get_nil _ _).mono ?_; rintro e w2 ⟨rfl, F2⟩; have X2 := Lib.hid (X1.out.trans0 F2); clear F2) | (go_at_call 14; refine (Put_any (update_nil (0, 0, false) _)).mono ?_; rintro e w3 ⟨rfl, F3⟩; have X3 := Lib.hid (X2.out.trans0 F3); clear F3) | (go_at_call 13; refine (Remove_any (update_nil (0, 0, true) _)).mono ?_; rintro e w4 ⟨rfl, F4⟩; have X4 := Lib.hid (X3.out.trans0 F4); clear F4) | (go_at_call 30; refine (Flush_nil _).mono ?_; rintro e w' ⟨rfl, rfl⟩) | (go_at_call 27; refine (List_nil _).mono ?_; rintro e w' ⟨rfl, rfl⟩) | (go_at_call 31; refine (Buffered_nil _).mono ?_; rintro e w' ⟨rfl, rfl⟩) | (go_at_call 32; refine (Height_nil _).mono ?_; rintro e w' ⟨rfl, rfl⟩) | (go_at_call 15; refine (Blocks_nil _).mono ?_; rintro e w' ⟨rfl, rfl⟩))
    clear X1 X2 X3 HA
    go_wp2_with fail
    refine (HP.out _ X4.out hn2).mono ?_
    rintro e w5 (⟨_, rfl, F3⟩ | ⟨B, M, t, s, g, c9, col, T, r, vb, vc, ba, bc, ra, rn, rc, _, rfl, rfl, rfl, hM, hU, _⟩)
    · have X3 := Lib.hid (X4.out.trans0 F3)
      clear F3
      go_wp2_with fail
      go_ret
      exact ⟨rfl, X3.out.alloc _⟩
    · have X3 := Lib.hid (X4.out.trans0 hM.fr)
      obtain ⟨nb, hnb⟩ : ∃ z, z = T.buf.length := ⟨_, rfl⟩
      obtain ⟨mv, hmv⟩ : ∃ z, z = T.mv := ⟨_, rfl⟩
      have HPM := Lib.hid hM
      have HU := Lib.hid hU
      have Hnb := Lib.hid hnb
      have Hmv := Lib.hid hmv
      rw [← hnb, ← hmv]
      clear hM hU hnb hmv HP X4
      go_upto_region 10 with fail
      have Bh := Lib.hid (Blk.new w5 51 (tcs B M mv ba nb bc ra rn rc))
      have X4 : Hid (Fr F0 w5 (w5.alloc (.cells #[.int .i64 (B : Int), .int .i64 (M : Int), .int .i64 (mv : Int), .slice ba nb bc, .slice ra rn rc] 51))) := Lib.hid ((Fr.refl _ _).alloc _)
      obtain ⟨h, hh⟩ : ∃ h, h = w5.heap.size := ⟨_, rfl⟩
      rw [← hh] at Bh ⊢
      change Hid (Blk (w5.alloc (.cells #[.int .i64 (B : Int), .int .i64 (M : Int), .int .i64 (mv : Int), .slice ba nb bc, .slice ra rn rc] 51)) _ _ _) at Bh
      generalize w5.alloc (.cells #[.int .i64 (B : Int), .int .i64 (M : Int), .int .i64 (mv : Int), .slice ba nb bc, .slice ra rn rc] 51) = W at *
      have HM4 := Lib.hid (HPM.out.fr0 X4.out)
      have X5 := Lib.hid (X3.out.trans0 X4.out)
      clear hh HPM X3 X4
      obtain ⟨L, hL⟩ : ∃ L, L = listT (lvT T.lv) T.buf := ⟨_, rfl⟩
      have HUU := HU.out
      obtain ⟨a9, p1, p2, p3, p4, p5⟩ := HUU
      have HLi : Hid (∀ W', Fr F0 W W' → Calls Try.prog 27 #[.pointer (some ⟨t, 0, none⟩)] W' fun e w' => ∃ a c, e = .returned (.slice a L.length c) ∧ OwnZ w' W'.heap.size 59 2 a L.length c (prs L) ∧ Fr F0 W' w') := Lib.hid (fun W' F => by
        have h1 := List_any (HM4.out.ts.fr0 F) p1 (by omega) (by omega) p4
        refine h1.mono ?_
        rintro e w' ⟨a, n, c, rfl, q1, q2, q3⟩
        rw [← hL] at q1 q2
        rw [q1] at q2 ⊢
        exact ⟨a, c, rfl, q2, q3⟩)
      have hLl : L.length ≤ 1000 := by
        have h1 := jn_len (runsT (lvT T.lv) ++ [T.buf])
        have h2 : L.length ≤ (jn (runsT (lvT T.lv) ++ [T.buf])).length := by rw [hL]; exact drp_len _
        rw [len1_app, runsT_tot] at h1
        have h4 := p1.tot
        have h5 : totT (lvT T.lv) ≤ a9 := h4
        have h6 : len1 [T.buf] = T.buf.length := by unfold len1; simp
        omega
      obtain ⟨k, hk⟩ : ∃ k, k = L.length := ⟨_, rfl⟩
      rw [← hk] at HLi hLl
      clear hL p1 p2 p3 p4 p5 hk HU
      go_upto_region 14 with (first | (go_at_call 27; refine (HLi.out _ (Fr.refl _ _)).mono ?_; rintro e w6 ⟨a6, c6, rfl, o6, F6⟩; have X6 := Lib.hid (And.intro o6 F6); clear o6 F6) | (go_at_call 33; refine (CloneP_any X6.out.1.rd (by omega)).mono ?_; rintro e w7 ⟨a7, c7, rfl, o7, F7⟩; have X7 := Lib.hid (And.intro (And.intro o7.rd o7.blk) (And.intro (X6.out.1.fr0 F7) F7)); clear o7 F7))
      have hl67 := Lib.hid (X6.out.1.blk)
      have F67 := Lib.hid (X6.out.2.trans0 X7.out.2.2)
      clear X6
      go_wp2_with fail
      go_loopw [85] (fun s85 wr => ∃ (i : Nat) (vs : List Value), i ≤ k ∧ s85 = .int .i64 (i : Int) ∧ Hid (OwnZ wr W.heap.size 59 2 a6 k c6 vs ∧ Fr (onBlk a6) w7 wr)) (fun s85 _ => k - (intOf s85).toNat)
      case atStart => exact ⟨0, _, Nat.zero_le _, rfl, Lib.hid ⟨X7.out.2.1, Fr.refl _ _⟩⟩
      case round =>
        obtain ⟨i, vs, hi, rfl, H⟩ := hrel
        by_cases hlt : i < k
        · have hlt' : (i : Int) < (k : Int) := by omega
          obtain ⟨g6, rfl, hgs, hgl, hgc, hgf⟩ := OwnZ.at H.out.1 (by omega)
          have hvl := H.out.1.rd.len
          obtain ⟨u0, hu0⟩ : ∃ u, vs[i * 2]? = some u := ⟨_, List.getElem?_eq_getElem (by omega)⟩
          obtain ⟨u1, hu1⟩ : ∃ u, vs[i * 2 + 1]? = some u := ⟨_, List.getElem?_eq_getElem (by omega)⟩
          have e0 := hgc _ _ hu0
          have e1 := hgc _ _ hu1
          have Hvl := Lib.hid hvl
          clear hgs hgl hgc hu0 hu1 hvl
          go_wp2_with fail
          go_roundw
          case rel => exact ⟨i + 1, _, by omega, by go_num, Lib.hid ⟨(H.out.1.set _).set _, (H.out.2.setOn _ _).setOn _ _⟩⟩
          case measure => simp [intOf]; omega
        · obtain rfl : k = i := by omega
          have F9 : Fr F0 W wr := F67.out.trans H.out.2 (fun q hq hs => by have := (hl67.out q hs).1; omega)
          have R9 : RdZ wr 2 a7 k (prs L) := X7.out.1.1.fr H.out.2 (fun q hq hs => by
            have h1 := (X7.out.1.2 q hq).1
            have h2 := (hl67.out q hs).2
            omega)
          have HR9 := Lib.hid R9
          have HF9 := Lib.hid F9
          have HGb := Lib.hid (fun W => Get_bad (t := t) 1048577 W (by decide))
          clear F9 R9 H
          go_upto_region 20 with (go_at_call 29; refine (HGb.out _).mono ?_; rintro e w8 ⟨rfl, F8⟩; have X8 := Lib.hid (And.intro (HR9.out.fr0 F8) (HF9.out.trans0 F8)); clear F8)
          clear HGb HR9 HF9
          obtain ⟨wa, hwa⟩ : ∃ wz, wz = w8.drew := ⟨_, rfl⟩
          have Fa : Fr F0 w8 wa := by rw [hwa]; exact (Fr.refl F0 _).drew
          have hB8 := Bh.out.fr X8.out.2 id
          have hB := hB8.fr Fa id
          have XA := Lib.hid (And.intro (X8.out.1.fr0 Fa) (X8.out.2.trans0 Fa))
          have HU1 : Hid (∀ W', Calls Try.prog 14 #[.pointer (some ⟨t, 0, none⟩), .int .i64 1048577, .int .i64 0] W' fun e w' => e = .returned (.int .i64 2) ∧ Fr F0 W' w') := Lib.hid (fun W' => Put_any (update_bad (w := W') (t := t) (1048577, 0, false) (.inl (by decide))))
          have HU2 : Hid (∀ W', Calls Try.prog 14 #[.pointer (some ⟨t, 0, none⟩), .int .i64 0, .int .i64 (-1048577)] W' fun e w' => e = .returned (.int .i64 2) ∧ Fr F0 W' w') := Lib.hid (fun W' => Put_any (update_bad (w := W') (t := t) (0, -1048577, false) (.inr (by decide))))
          have HU3 : Hid (∀ W', Calls Try.prog 13 #[.pointer (some ⟨t, 0, none⟩), .int .i64 (-1048577)] W' fun e w' => e = .returned (.int .i64 2) ∧ Fr F0 W' w') := Lib.hid (fun W' => Remove_any (update_bad (w := W') (t := t) (-1048577, 0, true) (.inl (by decide))))
          have HBl : Hid (∀ W', Fr F0 W W' → Calls Try.prog 15 #[.pointer (some ⟨t, 0, none⟩)] W' fun e w' => e = .returned (.int .i64 (mv : Int)) ∧ W' = w') := Lib.hid (fun W' F => by rw [Hmv.out]; exact Blocks_any (HM4.out.ts.fr0 F))
          have HBu : Hid (∀ W', Fr F0 W W' → Calls Try.prog 31 #[.pointer (some ⟨t, 0, none⟩)] W' fun e w' => e = .returned (.int .i64 (nb : Int)) ∧ W' = w') := Lib.hid (fun W' F => by rw [Hnb.out]; exact Buffered_any (HM4.out.ts.fr0 F))
          clear Fa X8
          refine wp_region_held_drew (S := (fun w' : World => Blk w' h 51 (tcs B M mv ba nb bc ra rn rc))) (by kernel_rfl) (hB8) (fun hHeld => ?_)
          change wpAnyH _ _ _ _ _ _ _ _ w8.drew
          rw [← hwa]
          clear hwa hB8
          have hHeld : (fun w' : World => Blk w' h 51 (tcs B M mv ba nb bc ra rn rc)) wa := hB
          refine wpAnyH_take (i := 0) (v := ?_) (by simp only [List.getElem?_toArray, List.getElem?_cons_zero] <;> rfl) (by kernel_rfl) (by kernel_rfl) (by kernel_rfl) (by exact fun _ _ _ h => h) (Or.inl ⟨by rfl, ?_⟩) (by assumption) ?_
          rotate_left
          · intro w hSw
            try dsimp only at hSw
            go_simp <;> with_reducible rfl
          (try simp only [Act.put, List.setIfInBounds_toArray, List.set_cons_zero, List.set_cons_succ])
          refine wpAnyH_take (i := 1) (v := ?_) (by simp only [List.getElem?_toArray, List.getElem?_cons_succ, List.getElem?_cons_zero] <;> rfl) (by kernel_rfl) (by kernel_rfl) (by kernel_rfl) (by exact fun _ _ _ h => h) (Or.inl ⟨by rfl, ?_⟩) (by assumption) ?_
          rotate_left
          · intro w hSw
            try dsimp only at hSw
            go_simp <;> with_reducible rfl
          (try simp only [Act.put, List.setIfInBounds_toArray, List.set_cons_zero, List.set_cons_succ])
          refine wpAnyH_take (i := 2) (v := ?_) (by simp only [List.getElem?_toArray, List.getElem?_cons_succ, List.getElem?_cons_zero] <;> rfl) (by kernel_rfl) (by kernel_rfl) (by kernel_rfl) (by exact fun _ _ _ h => h) (Or.inl ⟨by rfl, ?_⟩) (by assumption) ?_
          rotate_left
          · intro w hSw
            try dsimp only at hSw
            go_simp <;> with_reducible rfl
          (try simp only [Act.put, List.setIfInBounds_toArray, List.set_cons_zero, List.set_cons_succ])
          refine wpAnyH_take (i := 3) (v := ?_) (by simp only [List.getElem?_toArray, List.getElem?_cons_succ, List.getElem?_cons_zero] <;> rfl) (by kernel_rfl) (by kernel_rfl) (by kernel_rfl) (by exact fun _ _ _ h => h) (Or.inl ⟨by rfl, ?_⟩) (by assumption) ?_
          rotate_left
          · intro w hSw
            try dsimp only at hSw
            go_simp <;> with_reducible rfl
          (try simp only [Act.put, List.setIfInBounds_toArray, List.set_cons_zero, List.set_cons_succ])
          refine wpAnyH_ready (rs := [4]) (by kernel_rfl) (by simp) ?_
          refine AllReadyH.cons (by simp only [List.getElem?_toArray, List.getElem?_cons_succ, List.getElem?_cons_zero] <;> rfl) (fun KK hKK => ?_) AllReadyH.nil
          go_simp
          refine (HU1.out _).mono ?_
          rintro e wb ⟨rfl, F7⟩
          replace hB := hB.fr F7 id
          have XB := Lib.hid (And.intro (XA.out.1.fr0 F7) (XA.out.2.trans0 F7))
          clear F7
          refine hKK.out _ _ (hB) (fun hHeld => ?_)
          clear hKK KK
          (try simp only [Act.put, List.setIfInBounds_toArray, List.set_cons_zero, List.set_cons_succ])
          refine wpAnyH_take (i := 5) (v := ?_) (by simp only [List.getElem?_toArray, List.getElem?_cons_succ, List.getElem?_cons_zero] <;> rfl) (by kernel_rfl) (by kernel_rfl) (by kernel_rfl) (by exact fun _ _ _ h => h) (Or.inl ⟨by rfl, ?_⟩) (by assumption) ?_
          rotate_left
          · intro w hSw
            try dsimp only at hSw
            go_simp <;> with_reducible rfl
          (try simp only [Act.put, List.setIfInBounds_toArray, List.set_cons_zero, List.set_cons_succ])
          refine wpAnyH_take (i := 6) (v := ?_) (by simp only [List.getElem?_toArray, List.getElem?_cons_succ, List.getElem?_cons_zero] <;> rfl) (by kernel_rfl) (by kernel_rfl) (by kernel_rfl) (by exact fun _ _ _ h => h) (Or.inl ⟨by rfl, ?_⟩) (by assumption) ?_
          rotate_left
          · intro w hSw
            try dsimp only at hSw
            go_simp <;> with_reducible rfl
          (try simp only [Act.put, List.setIfInBounds_toArray, List.set_cons_zero, List.set_cons_succ])
          refine wpAnyH_take (i := 7) (v := ?_) (by simp only [List.getElem?_toArray, List.getElem?_cons_succ, List.getElem?_cons_zero] <;> rfl) (by kernel_rfl) (by kernel_rfl) (by kernel_rfl) (by exact fun _ _ _ h => h) (Or.inl ⟨by rfl, ?_⟩) (by assumption) ?_
          rotate_left
          · intro w hSw
            try dsimp only at hSw
            go_simp <;> with_reducible rfl
          (try simp only [Act.put, List.setIfInBounds_toArray, List.set_cons_zero, List.set_cons_succ])
          refine wpAnyH_take (i := 8) (v := ?_) (by simp only [List.getElem?_toArray, List.getElem?_cons_succ, List.getElem?_cons_zero] <;> rfl) (by kernel_rfl) (by kernel_rfl) (by kernel_rfl) (by exact fun _ _ _ h => h) (Or.inl ⟨by rfl, ?_⟩) (by assumption) ?_
          rotate_left
          · intro w hSw
            try dsimp only at hSw
            go_simp <;> with_reducible rfl
          (try simp only [Act.put, List.setIfInBounds_toArray, List.set_cons_zero, List.set_cons_succ])
          refine wpAnyH_ready (rs := [9]) (by kernel_rfl) (by simp) ?_
          refine AllReadyH.cons (by simp only [List.getElem?_toArray, List.getElem?_cons_succ, List.getElem?_cons_zero] <;> rfl) (fun KK hKK => ?_) AllReadyH.nil
          go_simp
          refine (HU2.out _).mono ?_
          rintro e wc ⟨rfl, F7⟩
          replace hB := hB.fr F7 id
          have XC := Lib.hid (And.intro (XB.out.1.fr0 F7) (XB.out.2.trans0 F7))
          clear F7
          refine hKK.out _ _ (hB) (fun hHeld => ?_)
          clear hKK KK
          (try simp only [Act.put, List.setIfInBounds_toArray, List.set_cons_zero, List.set_cons_succ])
          refine wpAnyH_take (i := 10) (v := ?_) (by simp only [List.getElem?_toArray, List.getElem?_cons_succ, List.getElem?_cons_zero] <;> rfl) (by kernel_rfl) (by kernel_rfl) (by kernel_rfl) (by exact fun _ _ _ h => h) (Or.inl ⟨by rfl, ?_⟩) (by assumption) ?_
          rotate_left
          · intro w hSw
            try dsimp only at hSw
            go_simp <;> with_reducible rfl
          (try simp only [Act.put, List.setIfInBounds_toArray, List.set_cons_zero, List.set_cons_succ])
          refine wpAnyH_take (i := 11) (v := ?_) (by simp only [List.getElem?_toArray, List.getElem?_cons_succ, List.getElem?_cons_zero] <;> rfl) (by kernel_rfl) (by kernel_rfl) (by kernel_rfl) (by exact fun _ _ _ h => h) (Or.inl ⟨by rfl, ?_⟩) (by assumption) ?_
          rotate_left
          · intro w hSw
            try dsimp only at hSw
            go_simp <;> with_reducible rfl
          (try simp only [Act.put, List.setIfInBounds_toArray, List.set_cons_zero, List.set_cons_succ])
          refine wpAnyH_take (i := 12) (v := ?_) (by simp only [List.getElem?_toArray, List.getElem?_cons_succ, List.getElem?_cons_zero] <;> rfl) (by kernel_rfl) (by kernel_rfl) (by kernel_rfl) (by exact fun _ _ _ h => h) (Or.inl ⟨by rfl, ?_⟩) (by assumption) ?_
          rotate_left
          · intro w hSw
            try dsimp only at hSw
            go_simp <;> with_reducible rfl
          (try simp only [Act.put, List.setIfInBounds_toArray, List.set_cons_zero, List.set_cons_succ])
          refine wpAnyH_take (i := 13) (v := ?_) (by simp only [List.getElem?_toArray, List.getElem?_cons_succ, List.getElem?_cons_zero] <;> rfl) (by kernel_rfl) (by kernel_rfl) (by kernel_rfl) (by exact fun _ _ _ h => h) (Or.inl ⟨by rfl, ?_⟩) (by assumption) ?_
          rotate_left
          · intro w hSw
            try dsimp only at hSw
            go_simp <;> with_reducible rfl
          (try simp only [Act.put, List.setIfInBounds_toArray, List.set_cons_zero, List.set_cons_succ])
          refine wpAnyH_ready (rs := [14]) (by kernel_rfl) (by simp) ?_
          refine AllReadyH.cons (by simp only [List.getElem?_toArray, List.getElem?_cons_succ, List.getElem?_cons_zero] <;> rfl) (fun KK hKK => ?_) AllReadyH.nil
          go_simp
          refine (HU3.out _).mono ?_
          rintro e wd ⟨rfl, F7⟩
          replace hB := hB.fr F7 id
          have XD := Lib.hid (And.intro (XC.out.1.fr0 F7) (XC.out.2.trans0 F7))
          clear F7
          refine hKK.out _ _ (hB) (fun hHeld => ?_)
          clear hKK KK
          (try simp only [Act.put, List.setIfInBounds_toArray, List.set_cons_zero, List.set_cons_succ])
          refine wpAnyH_take (i := 15) (v := ?_) (by simp only [List.getElem?_toArray, List.getElem?_cons_succ, List.getElem?_cons_zero] <;> rfl) (by kernel_rfl) (by kernel_rfl) (by kernel_rfl) (by exact fun _ _ _ h => h) (Or.inl ⟨by rfl, ?_⟩) (by assumption) ?_
          rotate_left
          · intro w hSw
            try dsimp only at hSw
            go_simp <;> with_reducible rfl
          (try simp only [Act.put, List.setIfInBounds_toArray, List.set_cons_zero, List.set_cons_succ])
          refine wpAnyH_take (i := 16) (v := ?_) (by simp only [List.getElem?_toArray, List.getElem?_cons_succ, List.getElem?_cons_zero] <;> rfl) (by kernel_rfl) (by kernel_rfl) (by kernel_rfl) (by exact fun _ _ _ h => h) (Or.inl ⟨by rfl, ?_⟩) (by assumption) ?_
          rotate_left
          · intro w hSw
            try dsimp only at hSw
            go_simp <;> with_reducible rfl
          (try simp only [Act.put, List.setIfInBounds_toArray, List.set_cons_zero, List.set_cons_succ])
          refine wpAnyH_take (i := 17) (v := ?_) (by simp only [List.getElem?_toArray, List.getElem?_cons_succ, List.getElem?_cons_zero] <;> rfl) (by kernel_rfl) (by kernel_rfl) (by kernel_rfl) (by exact fun _ _ _ h => h) (Or.inl ⟨by rfl, ?_⟩) (by assumption) ?_
          rotate_left
          · intro w hSw
            try dsimp only at hSw
            go_simp <;> with_reducible rfl
          (try simp only [Act.put, List.setIfInBounds_toArray, List.set_cons_zero, List.set_cons_succ])
          refine wpAnyH_take (i := 18) (v := ?_) (by simp only [List.getElem?_toArray, List.getElem?_cons_succ, List.getElem?_cons_zero] <;> rfl) (by kernel_rfl) (by kernel_rfl) (by kernel_rfl) (by exact fun _ _ _ h => h) (Or.inl ⟨by rfl, ?_⟩) (by assumption) ?_
          rotate_left
          · intro w hSw
            try dsimp only at hSw
            go_simp <;> with_reducible rfl
          (try simp only [Act.put, List.setIfInBounds_toArray, List.set_cons_zero, List.set_cons_succ])
          refine wpAnyH_take (i := 20) (v := ?_) (by simp only [List.getElem?_toArray, List.getElem?_cons_succ, List.getElem?_cons_zero] <;> rfl) (by kernel_rfl) (by kernel_rfl) (by kernel_rfl) (by exact fun _ _ _ h => h) (Or.inl ⟨by rfl, ?_⟩) (by assumption) ?_
          rotate_left
          · intro w hSw
            try dsimp only at hSw
            go_simp <;> with_reducible rfl
          (try simp only [Act.put, List.setIfInBounds_toArray, List.set_cons_zero, List.set_cons_succ])
          refine wpAnyH_ready (rs := [19]) (by kernel_rfl) (by simp) ?_
          refine AllReadyH.cons (by simp only [List.getElem?_toArray, List.getElem?_cons_succ, List.getElem?_cons_zero] <;> rfl) (fun KK hKK => ?_) AllReadyH.nil
          go_simp
          refine (HLi.out _ XD.out.2).mono ?_
          rintro e we ⟨ae, ce, rfl, oe, Fe⟩
          replace hB := hB.fr Fe id
          have HE := Lib.hid (EqualP_same ce c7 oe.rd (XD.out.1.fr0 Fe))
          have XE := Lib.hid (XD.out.2.trans0 Fe)
          clear oe Fe
          refine hKK.out _ _ (hB) (fun hHeld => ?_)
          clear hKK KK
          (try simp only [Act.put, List.setIfInBounds_toArray, List.set_cons_zero, List.set_cons_succ])
          refine wpAnyH_ready (rs := [21]) (by kernel_rfl) (by simp) ?_
          refine AllReadyH.cons (by simp only [List.getElem?_toArray, List.getElem?_cons_succ, List.getElem?_cons_zero] <;> rfl) (fun KK hKK => ?_) AllReadyH.nil
          go_simp
          refine HE.out.mono ?_
          rintro e wf ⟨rfl, q8, rfl⟩
          have XF := Lib.hid (XE.out.drewN q8)
          generalize we.drewN q8 = wf at XF ⊢
          replace hB : Blk wf h 51 (tcs B M mv ba nb bc ra rn rc) := Bh.out.fr XF.out id
          refine hKK.out _ _ (hB) (fun hHeld => ?_)
          clear hKK KK
          (try simp only [Act.put, List.setIfInBounds_toArray, List.set_cons_zero, List.set_cons_succ])
          refine wpAnyH_take (i := 22) (v := ?_) (by simp only [List.getElem?_toArray, List.getElem?_cons_succ, List.getElem?_cons_zero] <;> rfl) (by kernel_rfl) (by kernel_rfl) (by kernel_rfl) (by exact fun _ _ _ h => h) (Or.inl ⟨by rfl, ?_⟩) (by assumption) ?_
          rotate_left
          · intro w hSw
            try dsimp only at hSw
            go_simp <;> with_reducible rfl
          (try simp only [Act.put, List.setIfInBounds_toArray, List.set_cons_zero, List.set_cons_succ])
          refine wpAnyH_take (i := 23) (v := ?_) (by simp only [List.getElem?_toArray, List.getElem?_cons_succ, List.getElem?_cons_zero] <;> rfl) (by kernel_rfl) (by kernel_rfl) (by kernel_rfl) (by exact fun _ _ _ h => h) (Or.inl ⟨by rfl, ?_⟩) (by assumption) ?_
          rotate_left
          · intro w hSw
            try dsimp only at hSw
            go_simp <;> with_reducible rfl
          (try simp only [Act.put, List.setIfInBounds_toArray, List.set_cons_zero, List.set_cons_succ])
          refine wpAnyH_take (i := 24) (v := ?_) (by simp only [List.getElem?_toArray, List.getElem?_cons_succ, List.getElem?_cons_zero] <;> rfl) (by kernel_rfl) (by kernel_rfl) (by kernel_rfl) (by exact fun _ _ _ h => h) (Or.inl ⟨by rfl, ?_⟩) (by assumption) ?_
          rotate_left
          · intro w hSw
            try dsimp only at hSw
            go_simp <;> with_reducible rfl
          (try simp only [Act.put, List.setIfInBounds_toArray, List.set_cons_zero, List.set_cons_succ])
          refine wpAnyH_take (i := 26) (v := ?_) (by simp only [List.getElem?_toArray, List.getElem?_cons_succ, List.getElem?_cons_zero] <;> rfl) (by kernel_rfl) (by kernel_rfl) (by kernel_rfl) (by exact fun _ _ _ h => h) (Or.inl ⟨by rfl, ?_⟩) (by assumption) ?_
          rotate_left
          · intro w hSw
            try dsimp only at hSw
            go_simp <;> with_reducible rfl
          (try simp only [Act.put, List.setIfInBounds_toArray, List.set_cons_zero, List.set_cons_succ])
          refine wpAnyH_take (i := 27) (v := ?_) (by simp only [List.getElem?_toArray, List.getElem?_cons_succ, List.getElem?_cons_zero] <;> rfl) (by kernel_rfl) (by kernel_rfl) (by kernel_rfl) (by exact fun _ _ _ h => h) (Or.inl ⟨by rfl, ?_⟩) (by assumption) ?_
          rotate_left
          · intro w hSw
            try dsimp only at hSw
            have e0 := hSw.cell (i := 0) rfl; have e1 := hSw.cell (i := 1) rfl; have e2 := hSw.cell (i := 2) rfl; have e3 := hSw.cell (i := 3) rfl; have e4 := hSw.cell (i := 4) rfl; go_simp <;> with_reducible rfl
          (try simp only [Act.put, List.setIfInBounds_toArray, List.set_cons_zero, List.set_cons_succ])
          refine wpAnyH_ready (rs := [25]) (by kernel_rfl) (by simp) ?_
          refine AllReadyH.cons (by simp only [List.getElem?_toArray, List.getElem?_cons_succ, List.getElem?_cons_zero] <;> rfl) (fun KK hKK => ?_) AllReadyH.nil
          go_simp
          refine (HBl.out _ XF.out).mono ?_
          rintro e w' ⟨rfl, rfl⟩
          refine hKK.out _ _ (hB) (fun hHeld => ?_)
          clear hKK KK
          (try simp only [Act.put, List.setIfInBounds_toArray, List.set_cons_zero, List.set_cons_succ])
          refine wpAnyH_take (i := 28) (v := ?_) (by simp only [List.getElem?_toArray, List.getElem?_cons_succ, List.getElem?_cons_zero] <;> rfl) (by kernel_rfl) (by kernel_rfl) (by kernel_rfl) (by exact fun _ _ _ h => h) (Or.inl ⟨by rfl, ?_⟩) (by assumption) ?_
          rotate_left
          · intro w hSw
            try dsimp only at hSw
            go_simp <;> with_reducible rfl
          (try simp only [Act.put, List.setIfInBounds_toArray, List.set_cons_zero, List.set_cons_succ])
          refine wpAnyH_take (i := 29) (v := ?_) (by simp only [List.getElem?_toArray, List.getElem?_cons_succ, List.getElem?_cons_zero] <;> rfl) (by kernel_rfl) (by kernel_rfl) (by kernel_rfl) (by exact fun _ _ _ h => h) (Or.inl ⟨by rfl, ?_⟩) (by assumption) ?_
          rotate_left
          · intro w hSw
            try dsimp only at hSw
            go_simp <;> with_reducible rfl
          (try simp only [Act.put, List.setIfInBounds_toArray, List.set_cons_zero, List.set_cons_succ])
          refine wpAnyH_take (i := 30) (v := ?_) (by simp only [List.getElem?_toArray, List.getElem?_cons_succ, List.getElem?_cons_zero] <;> rfl) (by kernel_rfl) (by kernel_rfl) (by kernel_rfl) (by exact fun _ _ _ h => h) (Or.inl ⟨by rfl, ?_⟩) (by assumption) ?_
          rotate_left
          · intro w hSw
            try dsimp only at hSw
            go_simp <;> with_reducible rfl
          (try simp only [Act.put, List.setIfInBounds_toArray, List.set_cons_zero, List.set_cons_succ])
          refine wpAnyH_take (i := 31) (v := ?_) (by simp only [List.getElem?_toArray, List.getElem?_cons_succ, List.getElem?_cons_zero] <;> rfl) (by kernel_rfl) (by kernel_rfl) (by kernel_rfl) (by exact fun _ _ _ h => h) (Or.inl ⟨by rfl, ?_⟩) (by assumption) ?_
          rotate_left
          · intro w hSw
            try dsimp only at hSw
            go_simp <;> with_reducible rfl
          (try simp only [Act.put, List.setIfInBounds_toArray, List.set_cons_zero, List.set_cons_succ])
          refine wpAnyH_take (i := 33) (v := ?_) (by simp only [List.getElem?_toArray, List.getElem?_cons_succ, List.getElem?_cons_zero] <;> rfl) (by kernel_rfl) (by kernel_rfl) (by kernel_rfl) (by exact fun _ _ _ h => h) (Or.inl ⟨by rfl, ?_⟩) (by assumption) ?_
          rotate_left
          · intro w hSw
            try dsimp only at hSw
            go_simp <;> with_reducible rfl
          (try simp only [Act.put, List.setIfInBounds_toArray, List.set_cons_zero, List.set_cons_succ])
          refine wpAnyH_take (i := 34) (v := ?_) (by simp only [List.getElem?_toArray, List.getElem?_cons_succ, List.getElem?_cons_zero] <;> rfl) (by kernel_rfl) (by kernel_rfl) (by kernel_rfl) (by exact fun _ _ _ h => h) (Or.inl ⟨by rfl, ?_⟩) (by assumption) ?_
          rotate_left
          · intro w hSw
            try dsimp only at hSw
            have e0 := hSw.cell (i := 0) rfl; have e1 := hSw.cell (i := 1) rfl; have e2 := hSw.cell (i := 2) rfl; have e3 := hSw.cell (i := 3) rfl; have e4 := hSw.cell (i := 4) rfl; go_simp <;> with_reducible rfl
          (try simp only [Act.put, List.setIfInBounds_toArray, List.set_cons_zero, List.set_cons_succ])
          refine wpAnyH_take (i := 35) (v := ?_) (by simp only [List.getElem?_toArray, List.getElem?_cons_succ, List.getElem?_cons_zero] <;> rfl) (by kernel_rfl) (by kernel_rfl) (by kernel_rfl) (by exact fun _ _ _ h => h) (Or.inl ⟨by rfl, ?_⟩) (by assumption) ?_
          rotate_left
          · intro w hSw
            try dsimp only at hSw
            go_simp <;> with_reducible rfl
          (try simp only [Act.put, List.setIfInBounds_toArray, List.set_cons_zero, List.set_cons_succ])
          refine wpAnyH_ready (rs := [32]) (by kernel_rfl) (by simp) ?_
          refine AllReadyH.cons (by simp only [List.getElem?_toArray, List.getElem?_cons_succ, List.getElem?_cons_zero] <;> rfl) (fun KK hKK => ?_) AllReadyH.nil
          go_simp
          refine (HBu.out _ XF.out).mono ?_
          rintro e w' ⟨rfl, rfl⟩
          refine hKK.out _ _ (hB) (fun hHeld => ?_)
          clear hKK KK
          (try simp only [Act.put, List.setIfInBounds_toArray, List.set_cons_zero, List.set_cons_succ])
          refine wpAnyH_take (i := 36) (v := ?_) (by simp only [List.getElem?_toArray, List.getElem?_cons_succ, List.getElem?_cons_zero] <;> rfl) (by kernel_rfl) (by kernel_rfl) (by kernel_rfl) (by exact fun _ _ _ h => h) (Or.inl ⟨by rfl, ?_⟩) (by assumption) ?_
          rotate_left
          · intro w hSw
            try dsimp only at hSw
            go_simp <;> with_reducible rfl
          (try simp only [Act.put, List.setIfInBounds_toArray, List.set_cons_zero, List.set_cons_succ])
          refine wpAnyH_take (i := 37) (v := ?_) (by simp only [List.getElem?_toArray, List.getElem?_cons_succ, List.getElem?_cons_zero] <;> rfl) (by kernel_rfl) (by kernel_rfl) (by kernel_rfl) (by exact fun _ _ _ h => h) (Or.inl ⟨by rfl, ?_⟩) (by assumption) ?_
          rotate_left
          · intro w hSw
            try dsimp only at hSw
            go_simp <;> with_reducible rfl
          (try simp only [Act.put, List.setIfInBounds_toArray, List.set_cons_zero, List.set_cons_succ])
          refine wpAnyH_take (i := 38) (v := ?_) (by simp only [List.getElem?_toArray, List.getElem?_cons_succ, List.getElem?_cons_zero] <;> rfl) (by kernel_rfl) (by kernel_rfl) (by kernel_rfl) (by exact fun _ _ _ h => h) (Or.inl ⟨by rfl, ?_⟩) (by assumption) ?_
          rotate_left
          · intro w hSw
            try dsimp only at hSw
            go_simp <;> with_reducible rfl
          (try simp only [Act.put, List.setIfInBounds_toArray, List.set_cons_zero, List.set_cons_succ])
          refine wpAnyH_done (by kernel_rfl) ?_ _
          go_wp2_with fail
          go_ret
          exact ⟨by first | rfl | simp, X5.out.trans0 XF.out⟩
end Go.Proofs.Ytkmnnfflibamnaa
