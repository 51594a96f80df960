/- The reference's Build. -/
import Derived.Test.YtdllpiekkbojgaaS2
namespace Go.Proofs.Ytdllpiekkbojgaa
open Go.RowKit Go.Maps

set_option maxHeartbeats 2000000 in
theorem refBuild_any (kind : Int) (a : Option Addr) (n c : Nat) (keys : List Int) (w : World) (hr : Rd w a n (ints keys)) (hn : n ≤ 300) (hk1 : 1 ≤ kind) (hk2 : kind ≤ 4) :
    Calls Try.prog 29 #[.int .i64 kind, .slice a n c] w (BuildPost kind keys w) := by
  have hkl : keys.length = n := by simpa using hr.len
  rcases heightS_spec n with h0 | ⟨hh1, hh2, hh3⟩
  · have E : Hid (buildV kind keys = ([], 3)) := Lib.hid (by unfold buildV; rw [hkl, if_pos h0])
    clear hkl
    have h0' : ((heightS n : Nat) : Int) = 0 := by omega
    go_enter Try.func29, Try.ntmps29
    go_wp2_with fail
    refine (refHeight_any n _ _ rfl (by omega)).mono ?_; rintro e w' ⟨rfl, rfl⟩
    rw [h0']
    go_wp2_with fail
    go_ret2
    exact ⟨none, 0, 0, by rw [E.out]; rfl, by rw [E.out]; exact Own.nil _ _ _, Fr.refl _ _⟩
  · obtain ⟨h, hh⟩ : ∃ h, h = heightS n := ⟨_, rfl⟩
    rw [← hh] at hh1 hh2 hh3
    have hh8 := cnt_small hh3 hn
    have hz : ((h : Int) == 0) = false := by simp; omega
    by_cases ha : ascB keys = false
    · have E : Hid (buildV kind keys = ([], 1)) := Lib.hid (by unfold buildV; rw [hkl, if_neg (by omega), if_pos ha])
      have Hh := Lib.hid hh
      have Ha := Lib.hid ha
      clear hkl hh ha
      go_enter Try.func29, Try.ntmps29
      go_wp2_with fail
      refine (refHeight_any n _ _ rfl (by omega)).mono ?_; rintro e w' ⟨rfl, rfl⟩
      rw [← Hh.out]
      go_wp2_with fail
      refine (asc47_any a n c keys w hr).mono ?_; rintro e w' ⟨rfl, q, rfl⟩
      rw [Ha.out]
      go_wp2_with fail
      go_ret2
      exact ⟨none, 0, 0, by rw [E.out]; rfl, by rw [E.out]; exact Own.nil _ _ _, (Fr.refl _ _).drewN q⟩
    · have ha' : ascB keys = true := by simpa using ha
      have E : Hid (buildV kind keys = (buildK (layS kind h) (layS 2 h) keys n, 0)) := Lib.hid (by unfold buildV buildL; rw [hkl, if_neg (by omega), if_neg ha, ← hh, hh3])
      have L1 := lay_range hk1 hk2 (h := h) (by omega)
      have L2 := lay_range (k := 2) (by omega) (by omega) (h := h) (by omega)
      have L3 := layS_len kind h
      have L4 := layS_len 2 h
      rw [hh3] at L1 L2 L3 L4
      generalize hl : layS kind h = l at *
      generalize ho : layS 2 h = order at *
      have C1 : ∀ w, Calls Try.prog 17 #[.int .i64 kind, .int .i64 h] w (MadeInts w l n) := fun w => by
        have := refLayout_any kind h h w rfl hh1 hh2 hk1 hk2; rw [hl, hh3] at this; exact this
      have C2 : ∀ w, Calls Try.prog 17 #[.int .i64 2, .int .i64 h] w (MadeInts w order n) := fun w => by
        have := refLayout_any 2 h h w rfl hh1 hh2 (by omega) (by omega); rw [ho, hh3] at this; exact this
      replace C1 := Lib.hid C1
      replace C2 := Lib.hid C2
      have Hh := Lib.hid hh
      have Ha := Lib.hid ha'
      have Hkl := Lib.hid hkl
      have Hl3 := Lib.hid L3
      have Hl4 := Lib.hid L4
      replace L1 := Lib.hid L1
      replace L2 := Lib.hid L2
      have hn1 : 0 < n := by have h9 := Nat.pow_le_pow_right (n := 2) (by omega) hh1; unfold cnt at hh3; omega
      have hmk := run_mk E3 rfl n (by omega) (by omega)
      clear hkl hh ha ha' L3 L4 hl ho hh3
      go_enter Try.func29, Try.ntmps29
      go_wp2_with fail
      refine (refHeight_any n _ _ rfl (by omega)).mono ?_; rintro e w' ⟨rfl, rfl⟩
      rw [← Hh.out]
      go_wp2_with fail
      refine (asc47_any a n c keys w hr).mono ?_; rintro e w' ⟨rfl, q, rfl⟩
      rw [Ha.out]
      have F : Fr F0 w (w.drewN q) := (Fr.refl _ _).drewN q
      generalize hw0 : w.drewN q = w0 at *
      clear hw0
      go_wp2_with fail
      refine (C1.out _).mono ?_; rintro e w1 ⟨a1, c1, rfl, O1, F1⟩
      have R1 := O1.rd
      replace F := F.trans0 F1
      clear O1 F1
      go_wp2_with fail
      refine (C2.out _).mono ?_; rintro e w2 ⟨a2, c2, rfl, O2, F3⟩
      have R2 := O2.rd
      replace R1 := R1.fr0 F3
      replace F := F.trans0 F3
      have R0 := hr.fr0 F
      clear O2 F3 hr
      have hb0 : w.heap.size ≤ w2.heap.size := F.size
      have B0 : ∀ k, onBlk a k → k ≠ w2.heap.size := fun k hk => by have := R0.lt hn1 k hk; omega
      have B1 : ∀ k, onBlk a1 k → k ≠ w2.heap.size := fun k hk => by have := R1.lt hn1 k hk; omega
      have B2 : ∀ k, onBlk a2 k → k ≠ w2.heap.size := fun k hk => by have := R2.lt hn1 k hk; omega
      have hO := Own.made (w := w2) (B := w.heap.size) (T := 3) (z := .int .i64 0) n hb0 (by omega)
      have F2 : Fr F0 w2 (w2.alloc (.cells (Array.replicate n (.int .i64 0)) 3)) := (Fr.refl _ _).alloc _
      replace R0 := R0.fr0 F2
      replace R1 := R1.fr0 F2
      replace R2 := R2.fr0 F2
      replace F := F.trans0 F2
      replace hO := Lib.hid hO
      clear F2
      go_wp2_with fail
      clear hmk
      obtain ⟨g, hg'⟩ : ∃ g, g = w2.heap.size := ⟨_, rfl⟩
      rw [← hg'] at B0 B1 B2 hb0 hO
      simp only [← hg']
      clear hg'
      go_loopw [10] (fun i wr => ∃ k : Nat, k ≤ n ∧ i = .int .i64 k ∧ Own wr w.heap.size 3 (some ⟨g, 0, none⟩) n n (ints (buildK l order keys k)) ∧ Fr (onB g) (w2.alloc (.cells (Array.replicate n (.int .i64 0)) 3)) wr) (fun i _ => n - (intOf i).toNat)
      case atStart => exact ⟨0, by omega, rfl, by simpa [buildK, Hkl.out] using hO.out, Fr.refl _ _⟩
      case round =>
        obtain ⟨k, hk, rfl, hP, hnx⟩ := hrel
        by_cases hlt : k < n
        · have hl3 := Hl3.out
          have hl4 := Hl4.out
          have hkl := Hkl.out
          obtain ⟨x, hx⟩ : ∃ x, order[k]? = some x := ⟨order[k], by simp⟩
          obtain ⟨p, hp⟩ : ∃ p, l[k]? = some p := ⟨l[k], by simp⟩
          have hx1 := L2.out x (List.mem_of_getElem? hx)
          have hp1 := L1.out p (List.mem_of_getElem? hp)
          obtain ⟨y, hy⟩ : ∃ y, keys[x.toNat]? = some y := ⟨keys[x.toNat]'(by omega), by simp⟩
          obtain ⟨b0, o0, hb0', hc0⟩ := (R0.fr hnx B0).cells (by omega)
          obtain ⟨b1, o1, hb1', hc1⟩ := (R1.fr hnx B1).cells (by omega)
          obtain ⟨b2, o2, hb2', hc2⟩ := (R2.fr hnx B2).cells (by omega)
          have n0 : b0 ≠ g := B0 b0 (by rw [hb0', onBlk_some])
          have n1 : b1 ≠ g := B1 b1 (by rw [hb1', onBlk_some])
          have n2 : b2 ≠ g := B2 b2 (by rw [hb2', onBlk_some])
          subst hb0' hb1' hb2'
          have d0 := hc0 x.toNat (.int .i64 y) (by simp [hy])
          have d1 := hc1 k (.int .i64 p) (by simp [hp])
          have d2 := hc2 k (.int .i64 x) (by simp [hx])
          obtain ⟨⟨z, hz1, _⟩, hz2⟩ := own_facts hP (v := p.toNat) (by omega)
          have hstep : Hid (buildK l order keys (k + 1) = (buildK l order keys k).set p.toNat y) := Lib.hid (by
            rw [buildK]; simp [hp, hx, getI, hy])
          have hP' := Lib.hid hP
          have hnx' := Lib.hid hnx
          clear hc0 hc1 hc2 hx hp hy hP hnx hl3 hl4 hkl
          go_wp2_with fail
          go_region
          all_goals go_wp2_with fail
          all_goals go_roundw
          case rel =>
            refine ⟨k + 1, by omega, by go_num, ?_, ?_⟩
            · rw [hstep.out]
              have h := (hP'.out.set (i := p.toNat) (.int .i64 y)).drew
              simpa [List.map_set] using h
            · exact (hnx'.out.setB _ _).drew
          case measure => simp [intOf]; omega
        · obtain rfl : n = k := by omega
          go_wp2_with fail
          go_ret2
          exact ⟨some ⟨g, 0, none⟩, n, n, by rw [E.out]; rfl, by rw [E.out]; exact hP, F.trans hnx (fun k hk hs => by have : k = g := hs; omega)⟩

end Go.Proofs.Ytdllpiekkbojgaa
