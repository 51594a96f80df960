/- Buffer trees: the law of lists. -/
import Derived.Test.YtkmnnfflibamnaaL6
import Derived.Test.YtkmnnfflibamnaaL7
namespace Go.Proofs.Ytkmnnfflibamnaa
open Go.RowKit
attribute [local go_sem ↓] Go.wp_at_zero Go.wp_at_succ
set_option maxRecDepth 100000 in
set_option maxHeartbeats 4000000 in
theorem Lists_law (b m : Int) (a : Option Addr) (n c : Nat) (R : Nat → Nat → Int) (w : World) (h : ArgSt w a n c stK R) :
    Calls Try.prog 7 #[.int .i64 b, .int .i64 m, .slice a n c] w fun e w' => e = .returned (.bool true) ∧ Fr F0 w w' := by
  have HA := Lib.hid (awake_any w)
  have HM := Lib.hid (fun W => many_any a n c W)
  have HP : Hid (∀ W, Fr F0 w W → n ≤ 120 → Calls Try.prog 24 #[.int .i64 b, .int .i64 m, .slice a n c] W (PlayS W b m R n)) := Lib.hid (fun W F hn => play_law b m W (h.fr0 F) hn)
  clear h
  by_cases hn : 120 < n
  · have hd : decide (120 < (n : Int)) = true := by simp; omega
    rw [hd] at HM
    go_enter Try.func7, Try.ntmps7
    go_wp2_with (first | (go_at_call 10; refine HA.out.mono ?_; rintro e w1 ⟨rfl, F1⟩; have X1 := Lib.hid F1; clear F1) | (go_at_call 23; refine (HM.out _).mono ?_; rintro e w2 ⟨rfl, rfl⟩))
    go_ret
    exact ⟨rfl, X1.out⟩
  · have hd : decide (120 < (n : Int)) = false := by simp; omega
    rw [hd] at HM
    have hn2 : n ≤ 120 := by omega
    clear hd hn
    go_enter Try.func7, Try.ntmps7
    go_upto_region 5 with (first | (go_at_call 10; refine HA.out.mono ?_; rintro e w1 ⟨rfl, F1⟩; have X1 := Lib.hid F1; clear F1) | (go_at_call 23; refine (HM.out _).mono ?_; rintro e w2 ⟨rfl, rfl⟩))
    go_wp2_with fail
    refine (HP.out _ X1.out hn2).mono ?_
    rintro e w3 (⟨_, rfl, F3⟩ | ⟨B, M, t, s, g, c9, col, T, r, vb, vc, ba, bc, ra, rn, rc, _, rfl, rfl, rfl, hM, hU, _⟩)
    · have X3 := Lib.hid (X1.out.trans0 F3)
      clear F3
      go_wp2_with fail
      go_ret
      exact ⟨rfl, X3.out.alloc _⟩
    · have X3 := Lib.hid (X1.out.trans0 hM.fr)
      obtain ⟨nb, hnb⟩ : ∃ z, z = T.buf.length := ⟨_, rfl⟩
      obtain ⟨mv, hmv⟩ : ∃ z, z = T.mv := ⟨_, rfl⟩
      have HPM := Lib.hid hM
      have HU := Lib.hid hU
      have Hnb := Lib.hid hnb
      have Hmv := Lib.hid hmv
      rw [← hnb, ← hmv]
      clear hM hU hnb hmv HP HM
      go_upto_region 6 with fail
      have Bh := Lib.hid (Blk.new w3 51 (tcs B M mv ba nb bc ra rn rc))
      have X4 : Hid (Fr F0 w3 (w3.alloc (.cells #[.int .i64 (B : Int), .int .i64 (M : Int), .int .i64 (mv : Int), .slice ba nb bc, .slice ra rn rc] 51))) := Lib.hid ((Fr.refl _ _).alloc _)
      obtain ⟨h, hh⟩ : ∃ h, h = w3.heap.size := ⟨_, rfl⟩
      rw [← hh] at Bh ⊢
      change Hid (Blk (w3.alloc (.cells #[.int .i64 (B : Int), .int .i64 (M : Int), .int .i64 (mv : Int), .slice ba nb bc, .slice ra rn rc] 51)) _ _ _) at Bh
      generalize w3.alloc (.cells #[.int .i64 (B : Int), .int .i64 (M : Int), .int .i64 (mv : Int), .slice ba nb bc, .slice ra rn rc] 51) = W at *
      have HM4 := Lib.hid (HPM.out.fr0 X4.out)
      have X5 := Lib.hid (X3.out.trans0 X4.out)
      clear hh HPM X3 X4
      have y0 := Bh.out.cell (i := 0) rfl
      have y1 := Bh.out.cell (i := 1) rfl
      have y2 := Bh.out.cell (i := 2) rfl
      have y3 := Bh.out.cell (i := 3) rfl
      have y4 := Bh.out.cell (i := 4) rfl
      obtain ⟨L, hL⟩ : ∃ L, L = listT (lvT T.lv) T.buf := ⟨_, rfl⟩
      have HUU := HU.out
      obtain ⟨a9, p1, p2, p3, p4, p5⟩ := HUU
      have HR : Hid (Calls Try.prog 25 #[.agg #[.int .i64 (B : Int), .int .i64 (M : Int), .int .i64 (mv : Int), .slice ba nb bc, .slice ra rn rc]] W (EnR W L)) := Lib.hid (by
        have h1 := rlist_any HM4.out.tr p2 (by omega) (by omega)
        rw [← p5.list p4, ← Hnb.out, ← Hmv.out] at h1
        rw [hL]
        exact h1)
      have HLi : Hid (∀ W', Fr F0 W W' → Calls Try.prog 27 #[.pointer (some ⟨t, 0, none⟩)] W' fun e w' => ∃ a c, e = .returned (.slice a L.length c) ∧ RdZ w' 2 a L.length (prs L) ∧ Fr F0 W' w') := Lib.hid (fun W' F => by
        have h1 := List_any (HM4.out.ts.fr0 F) p1 (by omega) (by omega) p4
        refine h1.mono ?_
        rintro e w' ⟨a, n, c, rfl, q1, q2, q3⟩
        rw [← hL] at q1 q2
        rw [q1] at q2 ⊢
        exact ⟨a, c, rfl, q2.rd, q3⟩)
      have hLl : L.length ≤ 1000 := by
        have h1 := jn_len (runsT (lvT T.lv) ++ [T.buf])
        have h2 : L.length ≤ (jn (runsT (lvT T.lv) ++ [T.buf])).length := by rw [hL]; exact drp_len _
        rw [len1_app] at h1
        have h3 : len1 (runsT (lvT T.lv)) = totT (lvT T.lv) := by
          unfold runsT; rw [len1_flat, totT_rev]
        have h4 := p1.tot
        have h5 : totT (lvT T.lv) ≤ a9 := h4
        have h6 : len1 [T.buf] = T.buf.length := by unfold len1; simp
        omega
      obtain ⟨k, hk⟩ : ∃ k, k = L.length := ⟨_, rfl⟩
      rw [← hk] at HLi hLl
      have Hk := Lib.hid hk
      clear hL p1 p2 p3 p4 p5 hk HU
      go_upto_block 0 with (go_at_call 25; refine HR.out.mono ?_; rintro e w5 ⟨a5, c5, rfl, o5, F5⟩; have X6 := Lib.hid (And.intro o5 F5); clear o5 F5)
      rw [← Hk.out] at X6 ⊢
      clear HR y0 y1 y2 y3 y4
      go_wp2_with fail
      go_loopw [10, 35] (fun s10 s35 wr => ∃ (i : Nat) (a' : Option Addr) (c' : Nat), i ≤ k ∧ s35 = .int .i64 (i : Int) ∧ s10 = .slice a' i c' ∧ Hid (OwnZ wr w5.heap.size 59 2 a' i c' (prs (L.take i)) ∧ Fr F0 w5 wr)) (fun _ s35 _ => k - (intOf s35).toNat)
      case atStart => exact ⟨0, none, 0, Nat.zero_le _, rfl, rfl, Lib.hid ⟨OwnZ.nil _ _ _ _, Fr.refl _ _⟩⟩
      case round =>
        obtain ⟨i, a', c', hi, rfl, rfl, H⟩ := hrel
        by_cases hlt : i < k
        · have hlt' : (i : Int) < (k : Int) := by omega
          obtain ⟨x, hx⟩ : ∃ x, L[i]? = some x := ⟨_, List.getElem?_eq_getElem (by have := Hk.out; omega)⟩
          obtain ⟨b, o, rfl, d0, d1, d2⟩ := (X6.out.1.rd.fr0 H.out.2).ent hx
          have htk : prs (L.take (i + 1)) = prs (L.take i) ++ pr2 x := by
            rw [List.take_add_one, hx, prs_app]; rfl
          obtain ⟨x1, x2, x3⟩ := x
          dsimp only at d0 d1 d2 htk
          have HTk := Lib.hid htk
          have F1 : Fr F0 wr (wr.alloc (.cells #[.int .i64 x1, .int .i64 x2, .bool x3] 58)) := (Fr.refl _ _).alloc _
          have hbx : Blk (wr.alloc (.cells #[.int .i64 x1, .int .i64 x2, .bool x3] 58)) wr.heap.size 58 (en3 (x1, x2, x3)) := Blk.new wr 58 (en3 (x1, x2, x3))
          have z0 := hbx.cell (i := 0) rfl
          have z1 := hbx.cell (i := 1) rfl
          dsimp only at z0 z1
          have HF1 := Lib.hid F1
          clear hx htk hbx F1
          go_wp2_with (at_builtin; refine wpAppZAt E59 (by omega) (H.out.1.fr0 HF1.out) (us := [.int .i64 x1, .int .i64 x2]) rfl (fun u hu => by simp at hu; rcases hu with rfl | rfl <;> rfl) (by omega) (by omega) (Nat.le_trans H.out.2.size HF1.out.size) (by rfl) (by rw [size_alloc]; rfl) ?_; intro a9 c9 w9 own9 fr9 at9; have H9 := Lib.hid (And.intro own9 ((H.out.2.trans0 HF1.out).trans fr9 (fun k hk hs => by have := (OwnZ.blk H.out.1 k hs).1; omega))); clear own9 fr9 at9)
          go_roundw
          case rel => exact ⟨i + 1, a9, c9, by omega, by go_num, rfl, Lib.hid ⟨by rw [HTk.out]; exact H9.out.1, H9.out.2⟩⟩
          case measure => simp [intOf]; omega
        · obtain rfl : k = i := by omega
          have h1 := H.out.1
          rw [List.take_of_length_le (by rw [Hk.out]; exact Nat.le_refl _)] at h1
          have F9 : Fr F0 W wr := X6.out.2.trans0 H.out.2
          obtain ⟨w6, hw6⟩ : ∃ wz, wz = wr.drew := ⟨_, rfl⟩
          have F6 : Fr F0 wr w6 := by rw [hw6]; exact (Fr.refl F0 _).drew
          have hB9 := Bh.out.fr F9 id
          have hB6 := hB9.fr F6 id
          have HW := Lib.hid (h1.rd.fr0 F6)
          have FW := Lib.hid (F9.trans0 F6)
          have HLi6 := Lib.hid (HLi.out w6 FW.out)
          have HBl : Hid (∀ W', Fr F0 W W' → Calls Try.prog 15 #[.pointer (some ⟨t, 0, none⟩)] W' fun e w' => e = .returned (.int .i64 (mv : Int)) ∧ W' = w') := Lib.hid (fun W' F => by rw [Hmv.out]; exact Blocks_any (HM4.out.ts.fr0 F))
          clear h1 F9 F6 HLi
          go_upto_region 14 with fail
          refine wp_region_held_drew (S := (fun w' : World => Blk w' h 51 (tcs B M mv ba nb bc ra rn rc))) (by kernel_rfl) (hB9) (fun hHeld => ?_)
          change wpAnyH _ _ _ _ _ _ _ _ wr.drew
          rw [← hw6]
          clear hw6 hB9
          have hHeld : (fun w' : World => Blk w' h 51 (tcs B M mv ba nb bc ra rn rc)) w6 := hB6
          refine wpAnyH_take (i := 0) (v := ?_) (by simp only [List.getElem?_toArray, List.getElem?_cons_zero] <;> rfl) (by kernel_rfl) (by kernel_rfl) (by kernel_rfl) (by exact fun _ _ _ h => h) (Or.inl ⟨by rfl, ?_⟩) (by assumption) ?_
          rotate_left
          · intro w hSw
            try dsimp only at hSw
            go_simp <;> with_reducible rfl
          (try simp only [Act.put, List.setIfInBounds_toArray, List.set_cons_zero, List.set_cons_succ])
          refine wpAnyH_take (i := 2) (v := ?_) (by simp only [List.getElem?_toArray, List.getElem?_cons_succ, List.getElem?_cons_zero] <;> rfl) (by kernel_rfl) (by kernel_rfl) (by kernel_rfl) (by exact fun _ _ _ h => h) (Or.inl ⟨by rfl, ?_⟩) (by assumption) ?_
          rotate_left
          · intro w hSw
            try dsimp only at hSw
            go_simp <;> with_reducible rfl
          (try simp only [Act.put, List.setIfInBounds_toArray, List.set_cons_zero, List.set_cons_succ])
          refine wpAnyH_ready (rs := [1]) (by kernel_rfl) (by simp) ?_
          refine AllReadyH.cons (by simp only [List.getElem?_toArray, List.getElem?_cons_succ, List.getElem?_cons_zero] <;> rfl) (fun KK hKK => ?_) AllReadyH.nil
          go_simp
          refine HLi6.out.mono ?_
          rintro e w7 ⟨a7, c7, rfl, r7, F7⟩
          replace hB6 := hB6.fr F7 id
          have HE := Lib.hid (EqualP_same c7 c' r7 (HW.out.fr0 F7))
          have FW7 := Lib.hid (FW.out.trans0 F7)
          clear r7 F7
          refine hKK.out _ _ (hB6) (fun hHeld => ?_)
          clear hKK KK
          (try simp only [Act.put, List.setIfInBounds_toArray, List.set_cons_zero, List.set_cons_succ])
          refine wpAnyH_ready (rs := [3]) (by kernel_rfl) (by simp) ?_
          refine AllReadyH.cons (by simp only [List.getElem?_toArray, List.getElem?_cons_succ, List.getElem?_cons_zero] <;> rfl) (fun KK hKK => ?_) AllReadyH.nil
          go_simp
          refine HE.out.mono ?_
          rintro e w8 ⟨rfl, q8, rfl⟩
          have FW8 := Lib.hid (FW7.out.drewN q8)
          generalize w7.drewN q8 = w8 at FW8 ⊢
          replace hB6 : Blk w8 h 51 (tcs B M mv ba nb bc ra rn rc) := Bh.out.fr FW8.out id
          refine hKK.out _ _ (hB6) (fun hHeld => ?_)
          clear hKK KK
          (try simp only [Act.put, List.setIfInBounds_toArray, List.set_cons_zero, List.set_cons_succ])
          refine wpAnyH_take (i := 4) (v := ?_) (by simp only [List.getElem?_toArray, List.getElem?_cons_succ, List.getElem?_cons_zero] <;> rfl) (by kernel_rfl) (by kernel_rfl) (by kernel_rfl) (by exact fun _ _ _ h => h) (Or.inl ⟨by rfl, ?_⟩) (by assumption) ?_
          rotate_left
          · intro w hSw
            try dsimp only at hSw
            go_simp <;> with_reducible rfl
          (try simp only [Act.put, List.setIfInBounds_toArray, List.set_cons_zero, List.set_cons_succ])
          refine wpAnyH_take (i := 5) (v := ?_) (by simp only [List.getElem?_toArray, List.getElem?_cons_succ, List.getElem?_cons_zero] <;> rfl) (by kernel_rfl) (by kernel_rfl) (by kernel_rfl) (by exact fun _ _ _ h => h) (Or.inl ⟨by rfl, ?_⟩) (by assumption) ?_
          rotate_left
          · intro w hSw
            try dsimp only at hSw
            go_simp <;> with_reducible rfl
          (try simp only [Act.put, List.setIfInBounds_toArray, List.set_cons_zero, List.set_cons_succ])
          refine wpAnyH_take (i := 7) (v := ?_) (by simp only [List.getElem?_toArray, List.getElem?_cons_succ, List.getElem?_cons_zero] <;> rfl) (by kernel_rfl) (by kernel_rfl) (by kernel_rfl) (by exact fun _ _ _ h => h) (Or.inl ⟨by rfl, ?_⟩) (by assumption) ?_
          rotate_left
          · intro w hSw
            try dsimp only at hSw
            go_simp <;> with_reducible rfl
          (try simp only [Act.put, List.setIfInBounds_toArray, List.set_cons_zero, List.set_cons_succ])
          refine wpAnyH_take (i := 8) (v := ?_) (by simp only [List.getElem?_toArray, List.getElem?_cons_succ, List.getElem?_cons_zero] <;> rfl) (by kernel_rfl) (by kernel_rfl) (by kernel_rfl) (by exact fun _ _ _ h => h) (Or.inl ⟨by rfl, ?_⟩) (by assumption) ?_
          rotate_left
          · intro w hSw
            try dsimp only at hSw
            have e0 := hSw.cell (i := 0) rfl; have e1 := hSw.cell (i := 1) rfl; have e2 := hSw.cell (i := 2) rfl; have e3 := hSw.cell (i := 3) rfl; have e4 := hSw.cell (i := 4) rfl; go_simp <;> with_reducible rfl
          (try simp only [Act.put, List.setIfInBounds_toArray, List.set_cons_zero, List.set_cons_succ])
          refine wpAnyH_ready (rs := [6]) (by kernel_rfl) (by simp) ?_
          refine AllReadyH.cons (by simp only [List.getElem?_toArray, List.getElem?_cons_succ, List.getElem?_cons_zero] <;> rfl) (fun KK hKK => ?_) AllReadyH.nil
          go_simp
          refine (HBl.out _ FW8.out).mono ?_
          rintro e w' ⟨rfl, rfl⟩
          refine hKK.out _ _ (hB6) (fun hHeld => ?_)
          clear hKK KK
          (try simp only [Act.put, List.setIfInBounds_toArray, List.set_cons_zero, List.set_cons_succ])
          refine wpAnyH_take (i := 9) (v := ?_) (by simp only [List.getElem?_toArray, List.getElem?_cons_succ, List.getElem?_cons_zero] <;> rfl) (by kernel_rfl) (by kernel_rfl) (by kernel_rfl) (by exact fun _ _ _ h => h) (Or.inl ⟨by rfl, ?_⟩) (by assumption) ?_
          rotate_left
          · intro w hSw
            try dsimp only at hSw
            go_simp <;> with_reducible rfl
          (try simp only [Act.put, List.setIfInBounds_toArray, List.set_cons_zero, List.set_cons_succ])
          refine wpAnyH_take (i := 10) (v := ?_) (by simp only [List.getElem?_toArray, List.getElem?_cons_succ, List.getElem?_cons_zero] <;> rfl) (by kernel_rfl) (by kernel_rfl) (by kernel_rfl) (by exact fun _ _ _ h => h) (Or.inl ⟨by rfl, ?_⟩) (by assumption) ?_
          rotate_left
          · intro w hSw
            try dsimp only at hSw
            go_simp <;> with_reducible rfl
          (try simp only [Act.put, List.setIfInBounds_toArray, List.set_cons_zero, List.set_cons_succ])
          refine wpAnyH_take (i := 11) (v := ?_) (by simp only [List.getElem?_toArray, List.getElem?_cons_succ, List.getElem?_cons_zero] <;> rfl) (by kernel_rfl) (by kernel_rfl) (by kernel_rfl) (by exact fun _ _ _ h => h) (Or.inl ⟨by rfl, ?_⟩) (by assumption) ?_
          rotate_left
          · intro w hSw
            try dsimp only at hSw
            go_simp <;> with_reducible rfl
          (try simp only [Act.put, List.setIfInBounds_toArray, List.set_cons_zero, List.set_cons_succ])
          refine wpAnyH_done (by kernel_rfl) ?_ _
          go_wp2_with fail
          go_ret
          exact ⟨by first | rfl | simp, X5.out.trans0 FW8.out⟩
end Go.Proofs.Ytkmnnfflibamnaa
