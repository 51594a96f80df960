/- Build: treelayout's and the reference's. -/
import Derived.Test.YtdllpiekkbojgaaS1
import Derived.Test.YtdllpiekkbojgaaPerm
namespace Go.Proofs.Ytdllpiekkbojgaa
open Go.RowKit Go.Maps

/-- xs with element order[v] of keys put at place l[v], for v < k. -/
def buildK (l order keys : List Int) : Nat → List Int
  | 0 => List.replicate keys.length 0
  | k + 1 => (buildK l order keys k).set (l.getD k 0).toNat (getI keys (order.getD k 0))
theorem buildK_len (l order keys : List Int) : ∀ k, (buildK l order keys k).length = keys.length := by
  intro k
  induction k with
  | zero => simp [buildK]
  | succ k ih => simp [buildK, ih]
def buildL (kind : Int) (h : Nat) (keys : List Int) : List Int := buildK (layS kind h) (layS 2 h) keys (cnt h)
def buildV (kind : Int) (keys : List Int) : List Int × Int :=
  if heightS keys.length = 0 then ([], 3) else if ascB keys = false then ([], 1) else (buildL kind (heightS keys.length) keys, 0)

theorem invK_range {l : List Int} : ∀ {k : Nat} {out : List Int}, invK l k = some out → ∀ j, j < k → 0 ≤ l.getD j 0 ∧ l.getD j 0 < l.length := by
  intro k
  induction k with
  | zero => intro out _ j hj; omega
  | succ k ih =>
    intro out h j hj
    unfold invK at h
    split at h
    · cases h
    · rename_i o ho
      split at h
      · rename_i hk
        by_cases e : j = k
        · subst e
          have := invK_len ho
          exact ⟨hk.1, by rw [← this]; exact hk.2.1⟩
        · exact ih ho j (by omega)
      · cases h
theorem invS_range {l out : List Int} (h : invS l = some out) : ∀ x ∈ l, 0 ≤ x ∧ x < l.length := by
  intro x hx
  unfold invS at h
  split at h
  · cases h
  · obtain ⟨j, hj, rfl⟩ := List.mem_iff_getElem.1 hx
    have := invK_range h j hj
    simpa [List.getD_eq_getElem?_getD, hj] using this
theorem lay_range {k : Int} {h : Nat} (hk1 : 1 ≤ k) (hk2 : k ≤ 4) (hh : h ≤ 8) : ∀ x ∈ layS k h, 0 ≤ x ∧ x < (cnt h : Int) := by
  obtain ⟨out, ho⟩ := perm_ok8 hk1 hk2 hh
  have := invS_range ho
  rw [layS_len] at this
  exact this
theorem cnt_small {h n : Nat} (hn : cnt h = n) (h300 : n ≤ 300) : h ≤ 8 := by
  by_cases e : h ≤ 8
  · exact e
  · exfalso
    have := Nat.pow_le_pow_right (n := 2) (by omega) (show 9 ≤ h by omega)
    have e2 : (2 : Nat) ^ 9 = 512 := rfl
    unfold cnt at hn
    omega

def BuildPost (kind : Int) (keys : List Int) (w : World) (e : Ending) (w' : World) : Prop :=
  ∃ a n c, e = .returned (.tuple #[.slice a n c, .int .i64 (buildV kind keys).2]) ∧ Own w' w.heap.size 3 a n c (ints (buildV kind keys).1) ∧ Fr F0 w w'

set_option maxHeartbeats 1000000 in
theorem Build_kind (kind : Int) (a : Option Addr) (n c : Nat) (w : World) (hk : ¬ (1 ≤ kind ∧ kind ≤ 4)) :
    Calls Try.prog 27 #[.int .i64 kind, .slice a n c] w fun e w' => e = .returned (.tuple #[.slice none 0 0, .int .i64 2]) ∧ w = w' := by
  have hg : givenB kind 1 1 = false := by simp [givenB]; omega
  go_enter Try.func27, Try.ntmps27
  go_wp2_with fail
  refine (given_any _ _ _ _).mono ?_; rintro e w' ⟨rfl, rfl⟩
  go_wp2_with fail
  go_ret2
  exact ⟨rfl, rfl⟩

set_option maxHeartbeats 2000000 in
theorem Build_any (kind : Int) (a : Option Addr) (n c : Nat) (keys : List Int) (w : World) (hr : Rd w a n (ints keys)) (hn : n ≤ 300) (hk1 : 1 ≤ kind) (hk2 : kind ≤ 4) :
    Calls Try.prog 27 #[.int .i64 kind, .slice a n c] w (BuildPost kind keys w) := by
  have hg : givenB kind 1 1 = true := by simp [givenB]; omega
  have hkl : keys.length = n := by simpa using hr.len
  rcases heightS_spec n with h0 | ⟨hh1, hh2, hh3⟩
  · have E : Hid (buildV kind keys = ([], 3)) := Lib.hid (by unfold buildV; rw [hkl, if_pos h0])
    clear hkl
    have h0' : ((heightS n : Nat) : Int) = 0 := by omega
    go_enter Try.func27, Try.ntmps27
    go_wp2_with fail
    refine (given_any _ _ _ _).mono ?_; rintro e w' ⟨rfl, rfl⟩
    go_wp2_with fail
    refine (heightOf_any n _ _ rfl (by omega)).mono ?_; rintro e w' ⟨rfl, rfl⟩
    rw [h0']
    go_wp2_with fail
    go_ret2
    exact ⟨none, 0, 0, by rw [E.out]; rfl, by rw [E.out]; exact Own.nil _ _ _, Fr.refl _ _⟩
  · obtain ⟨h, hh⟩ : ∃ h, h = heightS n := ⟨_, rfl⟩
    rw [← hh] at hh1 hh2 hh3
    have hh8 := cnt_small hh3 hn
    have hz : ((h : Int) == 0) = false := by simp; omega
    by_cases ha : ascB keys = false
    · have E : Hid (buildV kind keys = ([], 1)) := Lib.hid (by unfold buildV; rw [hkl, if_neg (by omega), if_pos ha])
      have Hh := Lib.hid hh
      have Ha := Lib.hid ha
      clear hkl hh ha
      go_enter Try.func27, Try.ntmps27
      go_wp2_with fail
      refine (given_any _ _ _ _).mono ?_; rintro e w' ⟨rfl, rfl⟩
      go_wp2_with fail
      refine (heightOf_any n _ _ rfl (by omega)).mono ?_; rintro e w' ⟨rfl, rfl⟩
      rw [← Hh.out]
      go_wp2_with fail
      refine (asc45_any a n c keys w hr).mono ?_; rintro e w' ⟨rfl, q, rfl⟩
      rw [Ha.out]
      go_wp2_with fail
      go_ret2
      exact ⟨none, 0, 0, by rw [E.out]; rfl, by rw [E.out]; exact Own.nil _ _ _, (Fr.refl _ _).drewN q⟩
    · have ha' : ascB keys = true := by simpa using ha
      have E : Hid (buildV kind keys = (buildK (layS kind h) (layS 2 h) keys n, 0)) := Lib.hid (by unfold buildV buildL; rw [hkl, if_neg (by omega), if_neg ha, ← hh, hh3])
      have L1 := lay_range hk1 hk2 (h := h) (by omega)
      have L2 := lay_range (k := 2) (by omega) (by omega) (h := h) (by omega)
      have L3 := layS_len kind h
      have L4 := layS_len 2 h
      rw [hh3] at L1 L2 L3 L4
      generalize hl : layS kind h = l at *
      generalize ho : layS 2 h = order at *
      have C1 : ∀ w, Calls Try.prog 34 #[.int .i64 kind, .int .i64 h] w (MadeInts w l n) := fun w => by
        have := layout_any kind h h w rfl hh1 hh2; rw [hl, hh3] at this; exact this
      have C2 : ∀ w, Calls Try.prog 34 #[.int .i64 2, .int .i64 h] w (MadeInts w order n) := fun w => by
        have := layout_any 2 h h w rfl hh1 hh2; rw [ho, hh3] at this; exact this
      replace C1 := Lib.hid C1
      replace C2 := Lib.hid C2
      have Hh := Lib.hid hh
      have Ha := Lib.hid ha'
      have Hkl := Lib.hid hkl
      have Hl3 := Lib.hid L3
      have Hl4 := Lib.hid L4
      replace L1 := Lib.hid L1
      replace L2 := Lib.hid L2
      have Hnn : Hid (0 < n) := Lib.hid (by have h9 := Nat.pow_le_pow_right (n := 2) (by omega) hh1; unfold cnt at hh3; omega)
      have hmk := run_mk E3 rfl n (by omega) (by omega)
      clear hkl hh ha ha' L3 L4 hl ho hh3
      go_enter Try.func27, Try.ntmps27
      go_wp2_with fail
      refine (given_any _ _ _ _).mono ?_; rintro e w' ⟨rfl, rfl⟩
      go_wp2_with fail
      refine (heightOf_any n _ _ rfl (by omega)).mono ?_; rintro e w' ⟨rfl, rfl⟩
      rw [← Hh.out]
      go_wp2_with fail
      refine (asc45_any a n c keys w hr).mono ?_; rintro e w' ⟨rfl, q, rfl⟩
      rw [Ha.out]
      have F : Fr F0 w (w.drewN q) := (Fr.refl _ _).drewN q
      generalize hw0 : w.drewN q = w0 at *
      clear hw0
      go_wp2_with fail
      refine (C1.out _).mono ?_; rintro e w1 ⟨a1, c1, rfl, O1, F1⟩
      have R1 := O1.rd
      replace F := F.trans0 F1
      have hb0 : w.heap.size ≤ w1.heap.size := F.size
      have hn1 : 0 < n := by
        have h8 := Hnn.out
        omega
      have B1 : ∀ k, onBlk a1 k → k ≠ w1.heap.size := fun k hk => by have := R1.lt hn1 k hk; omega
      have B0 : ∀ k, onBlk a k → k ≠ w1.heap.size := fun k hk => by have := hr.lt hn1 k hk; omega
      clear O1 F1
      go_wp2_with fail
      have hO := Own.made (w := w1) (B := w1.heap.size) (T := 3) (z := .int .i64 0) n (by omega) (by omega)
      have F2 : Fr F0 w1 (w1.alloc (.cells (Array.replicate n (.int .i64 0)) 3)) := (Fr.refl _ _).alloc _
      replace hO := Lib.hid hO
      refine (C2.out _).mono ?_; rintro e w2 ⟨a2, c2, rfl, O2, F3⟩
      have R2 := O2.rd
      have hO1 := hO.out.fr0 F3
      replace R1 := (R1.fr0 F2).fr0 F3
      replace F := (F.trans0 F2).trans0 F3
      have B2 : ∀ k, onBlk a2 k → k ≠ w1.heap.size := fun k hk => by have := (O2.blk k hk).1; simp at this; omega
      have R0 := hr.fr0 F
      clear hmk O2 F2 F3 hr
      obtain ⟨wo, rfl⟩ : ∃ wo : World, wo = w2 := ⟨_, rfl⟩
      obtain ⟨g, hg'⟩ : ∃ g, g = w1.heap.size := ⟨_, rfl⟩
      rw [← hg'] at B0 B1 B2 hb0
      replace hO1 : Own wo w1.heap.size 3 (some ⟨g, 0, none⟩) n n (List.replicate n (.int .i64 0)) := by rw [hg']; exact hO1
      simp only [← hg']
      replace hO := Own.mono hO1 (B' := w.heap.size) (by omega)
      clear hO1 hg'
      go_wp2_with fail
      go_loopw [33] (fun i wr => ∃ k : Nat, k ≤ n ∧ i = .int .i64 k ∧ Own wr w.heap.size 3 (some ⟨g, 0, none⟩) n n (ints (buildK l order keys k)) ∧ Fr (onB g) wo wr) (fun i _ => n - (intOf i).toNat)
      case atStart => exact ⟨0, by omega, rfl, by simpa [buildK, Hkl.out] using hO, Fr.refl _ _⟩
      case round =>
        obtain ⟨k, hk, rfl, hP, hnx⟩ := hrel
        by_cases hlt : k < n
        · have hl3 := Hl3.out
          have hl4 := Hl4.out
          have hkl := Hkl.out
          obtain ⟨x, hx⟩ : ∃ x, order[k]? = some x := ⟨order[k], by simp⟩
          obtain ⟨p, hp⟩ : ∃ p, l[k]? = some p := ⟨l[k], by simp⟩
          have hx1 := L2.out x (List.mem_of_getElem? hx)
          have hp1 := L1.out p (List.mem_of_getElem? hp)
          obtain ⟨y, hy⟩ : ∃ y, keys[x.toNat]? = some y := ⟨keys[x.toNat]'(by omega), by simp⟩
          obtain ⟨b0, o0, hb0', hc0⟩ := (R0.fr hnx B0).cells (by omega)
          obtain ⟨b1, o1, hb1', hc1⟩ := (R1.fr hnx B1).cells (by omega)
          obtain ⟨b2, o2, hb2', hc2⟩ := (R2.fr hnx B2).cells (by omega)
          have n0 : b0 ≠ g := B0 b0 (by rw [hb0', onBlk_some])
          have n1 : b1 ≠ g := B1 b1 (by rw [hb1', onBlk_some])
          have n2 : b2 ≠ g := B2 b2 (by rw [hb2', onBlk_some])
          subst hb0' hb1' hb2'
          have d0 := hc0 x.toNat (.int .i64 y) (by simp [hy])
          have d1 := hc1 k (.int .i64 p) (by simp [hp])
          have d2 := hc2 k (.int .i64 x) (by simp [hx])
          obtain ⟨⟨z, hz1, _⟩, hz2⟩ := own_facts hP (v := p.toNat) (by omega)
          have hstep : Hid (buildK l order keys (k + 1) = (buildK l order keys k).set p.toNat y) := Lib.hid (by
            rw [buildK]; simp [hp, hx, getI, hy])
          have hP' := Lib.hid hP
          have hnx' := Lib.hid hnx
          clear hc0 hc1 hc2 hx hp hy hP hnx hl3 hl4 hkl
          go_wp2_with fail
          go_region
          all_goals go_wp2_with fail
          all_goals go_roundw
          case rel =>
            refine ⟨k + 1, by omega, by go_num, ?_, ?_⟩
            · rw [hstep.out]
              have h := (hP'.out.set (i := p.toNat) (.int .i64 y)).drew
              simpa [List.map_set] using h
            · exact (hnx'.out.setB _ _).drew
          case measure => simp [intOf]; omega
        · obtain rfl : n = k := by omega
          go_wp2_with fail
          go_ret2
          exact ⟨some ⟨g, 0, none⟩, n, n, by rw [E.out]; rfl, by rw [E.out]; exact hP, F.trans hnx (fun k hk hs => by have : k = g := hs; omega)⟩

end Go.Proofs.Ytdllpiekkbojgaa
