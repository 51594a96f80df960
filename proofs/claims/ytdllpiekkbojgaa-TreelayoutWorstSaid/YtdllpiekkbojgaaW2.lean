/- The reference's Worst and Bound; the law TreelayoutWorst. -/
import Derived.Test.YtdllpiekkbojgaaW1
namespace Go.Proofs.Ytdllpiekkbojgaa
open Go.RowKit Go.Maps

set_option maxHeartbeats 1000000 in
theorem refWorst_any (kind : Int) (h : Nat) (hi s : Int) (w : World) (hhi : hi = h) (h1 : 1 ≤ h) (h2 : h ≤ 16) (hk1 : 1 ≤ kind) (hk2 : kind ≤ 4) (hs : 1 ≤ s) :
    Calls Try.prog 19 #[.int .i64 kind, .int .i64 hi, .int .i64 s] w fun e w' => e = .returned (.int .i64 (worstS kind h s)) ∧ Fr F0 w w' := by
  subst hhi
  obtain ⟨m, hm⟩ : ∃ m, m = cnt (h - 1) := ⟨_, rfl⟩
  have hp : (1 : Nat) ≤ 2 ^ (h - 1) := Nat.one_le_two_pow
  have hm1 : m ≤ 65535 := by rw [hm]; exact cnt_le (by omega)
  have hm2 : 2 ^ (h - 1) = m + 1 := by rw [hm]; unfold cnt; omega
  have Hc : ∀ w, Calls Try.prog 14 #[.int .i64 ((h : Int) - 1)] w fun e w' => e = .returned (.int .i64 m) ∧ w = w' := fun w => by
    have := Count_any (h - 1) ((h : Int) - 1) w (by omega) (by omega); rw [← hm] at this; exact this
  replace Hc := Lib.hid Hc
  have Hm := Lib.hid hm2
  clear hm hm2 hp
  go_enter Try.func19, Try.ntmps19
  go_wp2_with fail
  refine (refLayout_any kind h _ _ rfl h1 h2 hk1 hk2).mono ?_; rintro e w1 ⟨a, c, rfl, hO, hF⟩
  have hR := hO.rd
  clear hO
  obtain ⟨wo, rfl⟩ : ∃ wo : World, wo = w1 := ⟨_, rfl⟩
  go_wp2_with fail
  go_loopw [8, 9] (fun b i wr => ∃ k : Nat, k ≤ m + 1 ∧ i = .int .i64 k ∧ b = .int .i64 (worstK kind h s k) ∧ Fr F0 wo wr) (fun _ i _ => m + 1 - (intOf i).toNat)
  case atStart => exact ⟨0, by omega, rfl, rfl, Fr.refl _ _⟩
  case round =>
    obtain ⟨k, hk, rfl, rfl, hnx⟩ := hrel
    by_cases hlt : k ≤ m
    · have hkm : k < 2 ^ (h - 1) := by rw [Hm.out]; omega
      replace hkm := Lib.hid hkm
      have hstep : Hid (worstK kind h s (k + 1) = max (worstK kind h s k) (blocksN s ((pathL h k).map (getI (layS kind h))))) := Lib.hid rfl
      generalize worstK kind h s k = q at *
      go_wp2_with fail
      refine (Hc.out _).mono ?_; rintro e w2 ⟨rfl, rfl⟩
      go_wp2_with fail
      refine (refPath_any h k _ _ wr rfl rfl h1 h2 hkm.out).mono ?_; rintro e w2 ⟨a2, n2, c2, rfl, hO2, hF2⟩
      have hn2 : n2 = h := by rw [← hO2.lens, path_length h1 hkm.out]
      subst hn2
      have hR2 := hO2.rd
      replace hnx := hnx.trans0 hF2
      clear hO2
      go_wp2_with fail
      refine (refBlocks_any a a2 _ n2 c c2 (layS kind n2) (pathL n2 k) s w2 (hR.fr0 hnx) hR2 (path_mem h1 hkm.out) (by omega) hs).mono ?_; rintro e w4 ⟨rfl, hF4⟩
      replace hnx := hnx.trans0 hF4
      generalize blocksN s ((pathL n2 k).map (getI (layS kind n2))) = r at *
      by_cases hqr : q < r
      · go_wp2_with fail
        go_roundw
        case rel => exact ⟨k + 1, by omega, by go_num, by rw [hstep.out, Nat.max_eq_right (by omega)], hnx⟩
        case measure => simp [intOf]; omega
      · go_wp2_with fail
        go_roundw
        case rel => exact ⟨k + 1, by omega, by go_num, by rw [hstep.out, Nat.max_eq_left (by omega)], hnx⟩
        case measure => simp [intOf]; omega
    · obtain rfl : k = m + 1 := by omega
      have E : Hid (worstS kind h s = worstK kind h s (m + 1)) := Lib.hid (by rw [worstS, Hm.out])
      go_wp2_with fail
      refine (Hc.out _).mono ?_; rintro e w2 ⟨rfl, rfl⟩
      go_wp2_with fail
      go_ret
      rw [E.out]
      exact ⟨rfl, hF.trans0 hnx⟩

/-- Bound: with a height b >= 1 of a block's tree whose nodes fit into a block. -/
def BoundPost (h : Nat) (s : Int) (w : World) (e : Ending) (w' : World) : Prop := ∃ b v : Nat, e = .returned (.int .i64 v) ∧ w = w' ∧ 1 ≤ b ∧ b ≤ 20 ∧ (cnt b : Int) ≤ s ∧ v = 4 * ((h + b - 1) / b) + 4
theorem bound_num {h k : Nat} (hk : 1 ≤ k) (hk2 : k ≤ 20) (hh : h ≤ 16) : wrap64 (wrap64 (4 * (((h : Int) + k - 1) / k)) + 4) = ((4 * ((h + k - 1) / k) + 4 : Nat) : Int) := by
  have e : ((h : Int) + k - 1) / k = (((h + k - 1) / k : Nat) : Int) := by
    rw [show (h : Int) + k - 1 = ((h + k - 1 : Nat) : Int) by omega, Int.natCast_ediv]
  have hq : (h + k - 1) / k ≤ 36 := Nat.le_trans (Nat.div_le_self _ _) (by omega)
  rw [e]
  generalize (h + k - 1) / k = q at *
  rw [IntWalk.wrap64_in (4 * (q : Int)) (by omega), IntWalk.wrap64_in _ (by omega)]
  omega
set_option maxHeartbeats 1000000 in
theorem Bound_any (h : Nat) (hi s : Int) (w : World) (hhi : hi = h) (h1 : 1 ≤ h) (h2 : h ≤ 16) (hs : 1 ≤ s) :
    Calls Try.prog 20 #[.int .i64 hi, .int .i64 s] w (BoundPost h s w) := by
  subst hhi
  go_enter Try.func20, Try.ntmps20
  go_wp2_with fail
  go_loopw [5] (fun b wr => ∃ k : Nat, k ≤ 20 ∧ b = .int .i64 k ∧ Hid ((cnt k : Int) ≤ s) ∧ w = wr) (fun b _ => 20 - (intOf b).toNat)
  case atStart => exact ⟨0, by omega, rfl, Lib.hid (by simp [cnt]; omega), rfl⟩
  case round =>
    obtain ⟨k, hk, rfl, hc, rfl⟩ := hrel
    have hend : ∀ b : Nat, 1 ≤ b → b ≤ 20 → Hid ((cnt b : Int) ≤ s) → ∀ v : Nat, v = 4 * ((h + b - 1) / b) + 4 → BoundPost h s w (.returned (.int .i64 v)) w := fun b hb1 hb2 hb3 v hv => ⟨b, v, rfl, rfl, hb1, hb2, hb3.out, hv⟩
    replace hend := Lib.hid hend
    by_cases hlt : k < 20
    · obtain ⟨m, hm⟩ : ∃ m, m = cnt (k + 1) := ⟨_, rfl⟩
      have Hc : ∀ w, Calls Try.prog 14 #[.int .i64 ((k : Int) + 1)] w fun e w' => e = .returned (.int .i64 m) ∧ w = w' := fun w => by
        have := Count_any (k + 1) ((k : Int) + 1) w (by omega) (by omega); rw [← hm] at this; exact this
      replace Hc := Lib.hid Hc
      have Hm := Lib.hid hm
      clear hm
      by_cases hms : (m : Int) ≤ s
      · go_wp2_with fail
        refine (Hc.out _).mono ?_; rintro e w2 ⟨rfl, rfl⟩
        go_wp2_with fail
        go_roundw
        case rel => exact ⟨k + 1, by omega, by go_num, Lib.hid (by rw [← Hm.out]; exact hms), trivial⟩
        case measure => simp [intOf]; omega
      · by_cases hk0 : k < 1
        · exfalso
          have : k = 0 := by omega
          subst this
          have := Hm.out
          simp [cnt] at this
          omega
        · go_wp2_with fail
          refine (Hc.out _).mono ?_; rintro e w2 ⟨rfl, rfl⟩
          go_wp2_with fail
          go_ret
          exact ⟨k, _, ret_int (bound_num (by omega) (by omega) h2), rfl, by omega, by omega, hc.out, rfl⟩
    · obtain rfl : k = 20 := by omega
      rw [show ((20 : Nat) : Int) = 20 from rfl]
      go_wp2_with fail
      go_ret
      exact ⟨20, 4 * ((h + 20 - 1) / 20) + 4, ret_int (by show 4 * (((h : Int) + 20 - 1) / 20) + 4 = _; omega), rfl, by omega, by omega, hc.out, rfl⟩

/-! The bound. -/
theorem foldl_addKey_len : ∀ (ks acc : List Lit), (ks.foldl addKey acc).length ≤ acc.length + ks.length := by
  intro ks
  induction ks with
  | nil => intro acc; simp
  | cons k ks ih =>
    intro acc
    simp only [List.foldl_cons, List.length_cons]
    have h1 := ih (addKey acc k)
    have h2 : (addKey acc k).length ≤ acc.length + 1 := by unfold addKey; split <;> simp
    omega
theorem blocksN_le (s : Int) (ps : List Int) : blocksN s ps ≤ ps.length := by
  have := foldl_addKey_len (keys s ps) []
  simpa [blocksN, keys] using this
theorem foldl_same : ∀ (ks : List Lit), (∀ k ∈ ks, k = .int .i64 0) → ks.foldl addKey [.int .i64 0] = [.int .i64 0] := by
  intro ks
  induction ks with
  | nil => intro _; rfl
  | cons k ks ih =>
    intro h
    rw [List.foldl_cons, h k (by simp)]
    have : addKey [Lit.int .i64 0] (.int .i64 0) = [.int .i64 0] := rfl
    rw [this]
    exact ih (fun k hk => h k (by simp [hk]))
theorem blocksN_one (s : Int) (ps : List Int) (h : ∀ p ∈ ps, 0 ≤ p ∧ p < s) : blocksN s ps ≤ 1 := by
  unfold blocksN
  cases ps with
  | nil => simp [keys]
  | cons p ps =>
    have hz : ∀ q ∈ p :: ps, blk s q = 0 := by
      intro q hq
      have := h q hq
      unfold blk
      rw [Int.tdiv_eq_ediv_of_nonneg this.1, Int.ediv_eq_zero_of_lt this.1 this.2, IntWalk.wrap64_in _ (by omega)]
    have e : keys s (p :: ps) = .int .i64 0 :: keys s ps := by simp [keys, hz p (by simp)]
    rw [e, List.foldl_cons, show addKey [] (.int .i64 0) = [Lit.int .i64 0] from rfl, foldl_same]
    · simp
    · intro k hk
      obtain ⟨q, hq, rfl⟩ := List.mem_map.1 hk
      rw [hz q (by simp [hq])]
theorem worstK_le (kind : Int) (h : Nat) (s : Int) (B : Nat) : ∀ k, (∀ j, j < k → blocksN s ((pathL h j).map (getI (layS kind h))) ≤ B) → worstK kind h s k ≤ B := by
  intro k
  induction k with
  | zero => intro _; exact Nat.zero_le _
  | succ k ih =>
    intro hB
    exact Nat.max_le.2 ⟨ih (fun j hj => hB j (by omega)), hB k (by omega)⟩

/-- The van Emde Boas layout's positions: each is below the next free one. -/
theorem split_range : ∀ (f v h a : Nat) (s : St), 1 ≤ h → h ≤ f → s.at_ = a → a + 2 ^ h ≤ 1152921504606846976 →
    (splitS f v h s).at_ = ((a + (2 ^ h - 1) : Nat) : Int) ∧ ∀ x ∈ (splitS f v h s).l, x ∈ s.l ∨ ((a : Int) ≤ x ∧ x < ((a + (2 ^ h - 1) : Nat) : Int)) := by
  intro f
  induction f with
  | zero => intro v h a s h1 h2; omega
  | succ f ih =>
    intro v h a s h1 h2 ha hb
    unfold splitS
    by_cases e1 : h = 1
    · subst e1
      rw [if_pos rfl]
      refine ⟨?_, fun x hx => ?_⟩
      · show wrap64 (s.at_ + 1) = _
        rw [ha, IntWalk.wrap64_in _ (by omega)]; omega
      · rcases List.mem_or_eq_of_mem_set hx with h | h
        · exact .inl h
        · right; rw [h, ha]; omega
    · rw [if_neg e1]
      obtain ⟨low, hlow⟩ : ∃ low, low = h / 2 := ⟨_, rfl⟩
      obtain ⟨top, htop⟩ : ∃ top, top = h - h / 2 := ⟨_, rfl⟩
      rw [← htop, ← hlow]
      rw [← hlow] at htop
      have hsum : 2 ^ h = 2 ^ top * 2 ^ low := by rw [← Nat.pow_add]; congr 1; omega
      have ht1 : 1 ≤ 2 ^ top := Nat.one_le_two_pow
      have hl1 : 1 ≤ 2 ^ low := Nat.one_le_two_pow
      have htl : 2 ^ top ≤ 2 ^ h := Nat.pow_le_pow_right (by omega) (by omega)
      obtain ⟨i1, i2⟩ := ih v top a s (by omega) (by omega) ha (by omega)
      have key : ∀ j, j ≤ 2 ^ top →
          (iterS (fun i s => splitS f ((v + 1) * 2 ^ top - 1 + i) low s) j (splitS f v top s)).at_ = ((a + (2 ^ top - 1) + j * (2 ^ low - 1) : Nat) : Int) ∧
          ∀ x ∈ (iterS (fun i s => splitS f ((v + 1) * 2 ^ top - 1 + i) low s) j (splitS f v top s)).l, x ∈ s.l ∨ ((a : Int) ≤ x ∧ x < ((a + (2 ^ top - 1) + j * (2 ^ low - 1) : Nat) : Int)) := by
        intro j
        induction j with
        | zero => intro _; rw [iterS_zero]; simpa using ⟨i1, i2⟩
        | succ j ihj =>
          intro hj
          obtain ⟨j1, j2⟩ := ihj (by omega)
          rw [iterS_succ]
          have hm : (j + 1) * (2 ^ low - 1) = j * (2 ^ low - 1) + (2 ^ low - 1) := by rw [Nat.add_mul, Nat.one_mul]
          have hle : (j + 1) * (2 ^ low - 1) ≤ 2 ^ top * (2 ^ low - 1) := Nat.mul_le_mul_right _ hj
          have hmm : 2 ^ top * (2 ^ low - 1) + 2 ^ top = 2 ^ h := by rw [hsum, Nat.mul_sub, Nat.mul_one, Nat.sub_add_cancel (Nat.le_mul_of_pos_right _ hl1)]
          obtain ⟨k1, k2⟩ := ih ((v + 1) * 2 ^ top - 1 + j) low _ _ (by omega) (by omega) j1 (by omega)
          refine ⟨by rw [k1]; omega, fun x hx => ?_⟩
          rcases k2 x hx with h | h
          · rcases j2 x h with h | h
            · exact .inl h
            · right; omega
          · right; omega
      obtain ⟨k1, k2⟩ := key (2 ^ top) (Nat.le_refl _)
      have hmm : 2 ^ top * (2 ^ low - 1) + 2 ^ top = 2 ^ h := by rw [hsum, Nat.mul_sub, Nat.mul_one, Nat.sub_add_cancel (Nat.le_mul_of_pos_right _ hl1)]
      have e : a + (2 ^ top - 1) + 2 ^ top * (2 ^ low - 1) = a + (2 ^ h - 1) := by omega
      rw [e] at k1 k2
      exact ⟨k1, k2⟩
theorem lay4_range {h : Nat} (h1 : 1 ≤ h) (h2 : h ≤ 16) : ∀ x ∈ layS 4 h, 0 ≤ x ∧ x < (cnt h : Int) := by
  intro x hx
  have hp : 2 ≤ 2 ^ h := by have := Nat.pow_le_pow_right (n := 2) (by omega) h1; simpa using this
  have hq : 2 ^ h ≤ 65536 := by have := Nat.pow_le_pow_right (n := 2) (by omega) h2; simpa using this
  have e : layS 4 h = (splitS h 0 h (zeroS (cnt h))).l := by unfold layS; rw [if_neg (by decide), if_pos rfl]
  rw [e] at hx
  rcases (split_range h 0 h 0 (zeroS (cnt h)) h1 (Nat.le_refl _) rfl (by omega)).2 x hx with h | h
  · simp [zeroS] at h
    unfold cnt; omega
  · unfold cnt; omega
theorem getI_mem {l : List Int} {x : Int} (h0 : 0 ≤ x) (h1 : x < l.length) : getI l x ∈ l := by
  unfold getI
  rw [List.getD_eq_getElem?_getD, List.getElem?_eq_getElem (by omega)]
  exact List.getElem_mem _
theorem worst_le {h b : Nat} {s : Int} (h1 : 1 ≤ h) (h2 : h ≤ 10) (hb : 1 ≤ b) (hc : (cnt b : Int) ≤ s) : worstS 4 h s ≤ 4 * ((h + b - 1) / b) + 4 := by
  refine worstK_le 4 h s _ _ (fun j hj => ?_)
  by_cases hbh : h ≤ b
  · have h3 : cnt h ≤ cnt b := by unfold cnt; have := Nat.pow_le_pow_right (n := 2) (by omega) hbh; omega
    have := blocksN_one s ((pathL h j).map (getI (layS 4 h))) (by
      intro p hp
      obtain ⟨x, hx, rfl⟩ := List.mem_map.1 hp
      have hx2 := path_mem h1 hj x hx
      have := lay4_range h1 (by omega) _ (getI_mem hx2.1 (by rw [layS_len]; exact hx2.2))
      omega)
    omega
  · have h3 : 2 ≤ (h + b - 1) / b := (Nat.le_div_iff_mul_le (by omega)).2 (by omega)
    have h4 := blocksN_le s ((pathL h j).map (getI (layS 4 h)))
    rw [List.length_map, path_length h1 hj] at h4
    omega

/-! The law. -/
set_option maxHeartbeats 1000000 in
theorem Worst_bad (k h s : Int) (w : World) (hg : givenB k h s = false) :
    Calls Try.prog 18 #[.int .i64 k, .int .i64 h, .int .i64 s] w fun e w' => e = .returned (.tuple #[.int .i64 0, .int .i64 2]) ∧ w = w' := by
  go_enter Try.func18, Try.ntmps18
  go_wp2_with fail
  refine (given_any _ _ _ _).mono ?_; rintro e w' ⟨rfl, rfl⟩
  go_wp2_with fail
  go_ret2
  exact ⟨rfl, rfl⟩

set_option maxHeartbeats 1000000 in
theorem LWorst_none (k h s : Int) (w : World) (h1 : rightB k h = false) (h2 : outB k h = false) : Calls Try.prog 4 #[.int .i64 k, .int .i64 h, .int .i64 s] w fun e w' => e = .returned (.bool true) ∧ Fr F0 w w' := by
  go_enter Try.func4, Try.ntmps4
  go_wp2_with fail
  refine (awake_any w).mono ?_; rintro e w1 ⟨rfl, F1⟩
  go_wp2_with fail
  refine (right_any _ _ _).mono ?_; rintro e w' ⟨rfl, rfl⟩
  rw [h1]
  go_wp2_with fail
  refine (out_any _ _ _).mono ?_; rintro e w' ⟨rfl, rfl⟩
  rw [h2]
  go_wp2_with fail
  go_ret
  exact ⟨rfl, F1⟩
set_option maxHeartbeats 1000000 in
theorem LWorst_out (k h s : Int) (w : World) (h1 : rightB k h = false) (h2 : outB k h = true) : Calls Try.prog 4 #[.int .i64 k, .int .i64 h, .int .i64 s] w fun e w' => e = .returned (.bool true) ∧ Fr F0 w w' := by
  have hg : givenB k h s = false := by simp [outB] at h2; simp [givenB]; omega
  go_enter Try.func4, Try.ntmps4
  go_wp2_with fail
  refine (awake_any w).mono ?_; rintro e w1 ⟨rfl, F1⟩
  go_wp2_with fail
  refine (right_any _ _ _).mono ?_; rintro e w' ⟨rfl, rfl⟩
  rw [h1]
  go_wp2_with fail
  refine (out_any _ _ _).mono ?_; rintro e w' ⟨rfl, rfl⟩
  rw [h2]
  go_wp2_with fail
  refine (Worst_bad _ _ _ _ hg).mono ?_; rintro e w' ⟨rfl, rfl⟩
  go_wp2_with fail
  refine (out_any _ _ _).mono ?_; rintro e w' ⟨rfl, rfl⟩
  rw [h2]
  go_wp2_with fail
  go_ret
  exact ⟨rfl, F1⟩
set_option maxHeartbeats 1000000 in
theorem LWorst_size (k h s : Int) (w : World) (h1 : rightB k h = true) (h2 : outB k h = false) (hs : s < 1) : Calls Try.prog 4 #[.int .i64 k, .int .i64 h, .int .i64 s] w fun e w' => e = .returned (.bool true) ∧ Fr F0 w w' := by
  have hg : givenB k h s = false := by simp [givenB]; omega
  go_enter Try.func4, Try.ntmps4
  go_wp2_with fail
  refine (awake_any w).mono ?_; rintro e w1 ⟨rfl, F1⟩
  go_wp2_with fail
  refine (right_any _ _ _).mono ?_; rintro e w' ⟨rfl, rfl⟩
  rw [h1]
  go_wp2_with fail
  refine (Worst_bad _ _ _ _ hg).mono ?_; rintro e w' ⟨rfl, rfl⟩
  go_wp2_with fail
  refine (out_any _ _ _).mono ?_; rintro e w' ⟨rfl, rfl⟩
  rw [h2]
  go_wp2_with fail
  go_ret
  exact ⟨rfl, F1⟩
set_option maxHeartbeats 2000000 in
theorem LWorst_in (k h s : Int) (w : World) (h1 : rightB k h = true) (h2 : outB k h = false) (hs : 1 ≤ s) : Calls Try.prog 4 #[.int .i64 k, .int .i64 h, .int .i64 s] w fun e w' => e = .returned (.bool true) ∧ Fr F0 w w' := by
  have hg : 1 ≤ k ∧ k ≤ 4 ∧ 1 ≤ h ∧ h ≤ 10 := by simp [rightB] at h1; omega
  obtain ⟨g1, g2, g3, g4⟩ := hg
  obtain ⟨H, rfl⟩ := Int.eq_ofNat_of_zero_le (show 0 ≤ h by omega)
  by_cases hk : k = 4
  · subst hk
    go_enter Try.func4, Try.ntmps4
    go_wp2_with fail
    refine (awake_any w).mono ?_; rintro e w1 ⟨rfl, F1⟩
    go_wp2_with fail
    refine (right_any _ _ _).mono ?_; rintro e w' ⟨rfl, rfl⟩
    rw [h1]
    go_wp2_with fail
    refine (Worst_any 4 H _ s _ rfl (by omega) (by omega) (by omega) (by omega) hs).mono ?_; rintro e w2 ⟨rfl, F2⟩
    go_wp2_with fail
    refine (out_any _ _ _).mono ?_; rintro e w' ⟨rfl, rfl⟩
    rw [h2]
    go_wp2_with fail
    refine (refWorst_any 4 H _ s _ rfl (by omega) (by omega) (by omega) (by omega) hs).mono ?_; rintro e w3 ⟨rfl, F3⟩
    go_wp2_with fail
    refine (Bound_any H _ s _ rfl (by omega) (by omega) hs).mono ?_; rintro e w4 ⟨b, v, rfl, rfl, b1, b2, b3, b4⟩
    have hle := worst_le (h := H) (by omega) (by omega) b1 b3
    rw [← b4] at hle
    clear b4
    generalize worstS 4 H s = q at *
    go_wp2_with fail
    go_ret
    exact ⟨ret_bool (by first | rfl | (simp; done) | (simp; omega)), (F1.trans0 F2).trans0 F3⟩
  · have hk' : (k != 4) = true := by simpa using hk
    go_enter Try.func4, Try.ntmps4
    go_wp2_with fail
    refine (awake_any w).mono ?_; rintro e w1 ⟨rfl, F1⟩
    go_wp2_with fail
    refine (right_any _ _ _).mono ?_; rintro e w' ⟨rfl, rfl⟩
    rw [h1]
    go_wp2_with fail
    refine (Worst_any k H _ s _ rfl (by omega) (by omega) (by omega) (by omega) hs).mono ?_; rintro e w2 ⟨rfl, F2⟩
    go_wp2_with fail
    refine (out_any _ _ _).mono ?_; rintro e w' ⟨rfl, rfl⟩
    rw [h2]
    go_wp2_with fail
    refine (refWorst_any k H _ s _ rfl (by omega) (by omega) (by omega) (by omega) hs).mono ?_; rintro e w3 ⟨rfl, F3⟩
    go_wp2_with fail
    go_ret
    exact ⟨rfl, (F1.trans0 F2).trans0 F3⟩

theorem LWorst_any (k h s : Int) (w : World) : Calls Try.prog 4 #[.int .i64 k, .int .i64 h, .int .i64 s] w fun e w' => e = .returned (.bool true) ∧ Fr F0 w w' := by
  by_cases h1 : rightB k h = true
  · have h2 : outB k h = false := by simp [rightB] at h1; simp [outB]; omega
    by_cases hs : s < 1
    · exact LWorst_size k h s w h1 h2 hs
    · exact LWorst_in k h s w h1 h2 (by omega)
  · have h1' : rightB k h = false := by simpa using h1
    by_cases h2 : outB k h = true
    · exact LWorst_out k h s w h1' h2
    · exact LWorst_none k h s w h1' (by simpa using h2)

end Go.Proofs.Ytdllpiekkbojgaa
