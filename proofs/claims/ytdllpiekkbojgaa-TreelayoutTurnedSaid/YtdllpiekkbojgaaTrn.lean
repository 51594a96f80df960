/- TreelayoutTurned: plain facts. -/
import Derived.Test.YtdllpiekkbojgaaF1
import Derived.Test.YtdllpiekkbojgaaPerm9
import Derived.Test.YtdllpiekkbojgaaW1
import Derived.Test.YtdllpiekkbojgaaV3
import Derived.Test.YtdllpiekkbojgaaBlocks
namespace Go.Proofs.Ytdllpiekkbojgaa
open Go.RowKit Go.Maps

/-- A list whose entries have a left inverse is turned by invK. -/
theorem invK_of {l out : List Int} {n : Nat} (h : Inv l out n) : ∀ k, k ≤ n → ∃ o, invK l k = some o ∧ o.length = n ∧ ∀ q : Nat, q < n → getI o q = if getI out q < k then getI out q else -1 := by
  intro k
  induction k with
  | zero =>
    intro _
    refine ⟨_, rfl, by simp [h.ll], fun q hq => ?_⟩
    have := (h.or_ q hq).1
    rw [if_neg (by omega)]
    simp [getI, h.ll, hq]
  | succ k ih =>
    intro hk
    obtain ⟨o, ho, hol, hoq⟩ := ih (by omega)
    have hlk := h.lr k (by omega)
    obtain ⟨j, hj⟩ := Int.eq_ofNat_of_zero_le hlk.1
    have e1 : l.getD k 0 = (j : Int) := by rw [← hj]; simp [getI]
    have e2 : getI out (j : Int) = k := by rw [← hj]; exact h.lv k (by omega)
    have hjn : j < n := by omega
    have hok : invOk o (j : Int) := by
      refine ⟨by omega, by omega, ?_⟩
      have := hoq j hjn
      rw [e2, if_neg (by omega)] at this
      simpa [getI] using (show getI o (j : Int) < 0 by omega)
    refine ⟨o.set j k, ?_, by simp [hol], fun q hq => ?_⟩
    · rw [invK, ho]
      simp only [e1]
      rw [if_pos hok, Int.toNat_natCast]
    · rw [getI_set (by omega)]
      by_cases e : j = q
      · subst e; rw [if_pos rfl, e2, if_pos (by omega)]
      · rw [if_neg e, hoq q hq]
        have hne : getI out (q : Int) ≠ k := by
          intro e3
          have h1 := h.ov q hq
          rw [e3, hj] at h1
          omega
        by_cases e4 : getI out (q : Int) < k
        · rw [if_pos e4, if_pos (by omega)]
        · rw [if_neg e4, if_neg (by omega)]
theorem Inv.symm {l out : List Int} {n : Nat} (h : Inv l out n) : Inv out l n := ⟨h.lo, h.ll, h.or_, h.lr, h.ov, h.lv⟩
theorem invS_of {l out : List Int} {n : Nat} (h : Inv l out n) (hn : n < 65536) : invS l = some out := by
  obtain ⟨o, ho, hol, hoq⟩ := invK_of h n (Nat.le_refl _)
  unfold invS
  rw [if_neg (by rw [h.ll]; omega), h.ll, ho]
  congr 1
  refine ext_getI hol h.lo (fun q hq => ?_)
  rw [hoq q hq, if_pos (h.or_ q hq).2]

/-- Different places are in different blocks of one place. -/
theorem foldl_addKey_new : ∀ (ps acc : List Int), (ps ++ acc).Nodup → (∀ p ∈ ps, -9223372036854775808 ≤ p ∧ p ≤ 9223372036854775807) →
    (((keys 1 ps).foldl addKey (lits acc)).length = acc.length + ps.length) := by
  intro ps
  induction ps with
  | nil => intro acc _ _; simp [keys, lits]
  | cons p ps ih =>
    intro acc hnd hb
    have hp : blk 1 p = p := by unfold blk; rw [Int.tdiv_one, IntWalk.wrap64_in _ (by have := hb p (by simp); omega)]
    have e : keys 1 (p :: ps) = .int .i64 p :: keys 1 ps := by simp [keys, hp]
    simp only [List.cons_append, List.nodup_cons, List.mem_append, not_or] at hnd
    rw [e, List.foldl_cons, addKey_lits, if_neg hnd.1.2]
    rw [ih (acc ++ [p]) (by
      rw [← List.append_assoc, List.nodup_append]
      refine ⟨hnd.2, by simp, ?_⟩
      intro a ha b hb2
      simp at hb2
      subst hb2
      intro e2
      subst e2
      rcases List.mem_append.1 ha with h | h
      · exact hnd.1.1 h
      · exact hnd.1.2 h) (fun q hq => hb q (by simp [hq]))]
    simp; omega
theorem blocksN_all {ps : List Int} (hnd : ps.Nodup) (hb : ∀ p ∈ ps, -9223372036854775808 ≤ p ∧ p ≤ 9223372036854775807) : blocksN 1 ps = ps.length := by
  have := foldl_addKey_new ps [] (by simpa using hnd) hb
  simpa [blocksN, lits] using this
theorem up_nodup : ∀ u : Nat, (up u).Nodup := by
  intro u
  induction u using Nat.strongRecOn with
  | _ u ih =>
    by_cases h : u = 0
    · subst h; simp [up_zero]
    · rw [up_pos u (by omega), List.nodup_cons]
      exact ⟨fun hm => by have := up_mem _ _ hm; omega, ih (u / 2) (by omega)⟩
theorem path_nodup (h l : Nat) : (pathL h l).Nodup := by
  unfold pathL List.Nodup; rw [List.pairwise_reverse]; exact (up_nodup _).imp (fun h => h.symm)
theorem nodup_map {l lo : List Int} {n : Nat} (h : Inv l lo n) : ∀ {ps : List Int}, ps.Nodup → (∀ x ∈ ps, 0 ≤ x ∧ x < n) → (ps.map (getI l)).Nodup := by
  intro ps
  induction ps with
  | nil => intro _ _; simp
  | cons p ps ih =>
    intro hnd hr
    rw [List.nodup_cons] at hnd
    rw [List.map_cons, List.nodup_cons]
    refine ⟨fun hm => ?_, ih hnd.2 (fun x hx => hr x (by simp [hx]))⟩
    obtain ⟨q, hq, he⟩ := List.mem_map.1 hm
    have h1 := hr p (by simp)
    have h2 := hr q (by simp [hq])
    obtain ⟨p', rfl⟩ := Int.eq_ofNat_of_zero_le h1.1
    obtain ⟨q', rfl⟩ := Int.eq_ofNat_of_zero_le h2.1
    have := h.inj (u := q') (v := p') (by omega) (by omega) he
    subst this
    exact hnd.1 hq
theorem blocks_path {l lo : List Int} {h leaf : Nat} (hi : Inv l lo (cnt h)) (h1 : 1 ≤ h) (h2 : h ≤ 16) (hl : leaf < 2 ^ (h - 1)) : blocksN 1 ((pathL h leaf).map (getI l)) = h := by
  have hm := path_mem h1 hl
  rw [blocksN_all (nodup_map hi (path_nodup h leaf) hm), List.length_map, path_length h1 hl]
  intro p hp
  obtain ⟨x, hx, rfl⟩ := List.mem_map.1 hp
  have h3 := hm x hx
  obtain ⟨x', rfl⟩ := Int.eq_ofNat_of_zero_le h3.1
  have := hi.lr x' (by omega)
  have := cnt_le h2
  omega
theorem blocks_all {l lo : List Int} {h leaf : Nat} (hi : Inv l lo (cnt h)) (h1 : 1 ≤ h) (hl : leaf < 2 ^ (h - 1)) : blocksN (cnt h) ((pathL h leaf).map (getI l)) = 1 := by
  have hm := path_mem h1 hl
  have hlen := path_length h1 hl
  have hz : ∀ p ∈ (pathL h leaf).map (getI l), blk (cnt h) p = 0 := by
    intro p hp
    obtain ⟨x, hx, rfl⟩ := List.mem_map.1 hp
    have h3 := hm x hx
    obtain ⟨x', rfl⟩ := Int.eq_ofNat_of_zero_le h3.1
    have h4 := hi.lr x' (by omega)
    unfold blk
    rw [Int.tdiv_eq_ediv_of_nonneg h4.1, Int.ediv_eq_zero_of_lt h4.1 h4.2, IntWalk.wrap64_in _ (by omega)]
  have hne : (pathL h leaf).map (getI l) ≠ [] := by
    intro e
    have := congrArg List.length e
    rw [List.length_map, hlen] at this
    simp at this; omega
  generalize (pathL h leaf).map (getI l) = ps at *
  cases ps with
  | nil => exact absurd rfl hne
  | cons p ps =>
    unfold blocksN
    have e : keys (cnt h) (p :: ps) = .int .i64 0 :: keys (cnt h) ps := by simp [keys, hz p (by simp)]
    have key : ∀ (ks : List Lit), (∀ k ∈ ks, k = .int .i64 0) → ks.foldl addKey [.int .i64 0] = [.int .i64 0] := by
      intro ks
      induction ks with
      | nil => intro _; rfl
      | cons k ks ih =>
        intro h
        rw [List.foldl_cons, h k (by simp)]
        have : addKey [Lit.int .i64 0] (.int .i64 0) = [.int .i64 0] := rfl
        rw [this]
        exact ih (fun k hk => h k (by simp [hk]))
    rw [e, List.foldl_cons, show addKey [] (.int .i64 0) = [Lit.int .i64 0] from rfl, key]
    · rfl
    · intro k hk
      obtain ⟨q, hq, rfl⟩ := List.mem_map.1 hk
      rw [hz q (by simp [hq])]
theorem worstK_eq {kind : Int} {h : Nat} {lo : List Int} (hi : Inv (layS kind h) lo (cnt h)) (h1 : 1 ≤ h) (h2 : h ≤ 16) : ∀ k, k ≤ 2 ^ (h - 1) → worstK kind h 1 k = if k = 0 then 0 else h := by
  intro k
  induction k with
  | zero => intro _; rfl
  | succ k ih =>
    intro hk
    have hw : worstK kind h 1 (k + 1) = max (worstK kind h 1 k) (blocksN 1 ((pathL h k).map (getI (layS kind h)))) := rfl
    rw [hw, ih (by omega), blocks_path hi h1 h2 (leaf := k) (by omega), if_neg (show ¬ k + 1 = 0 by omega)]
    split <;> omega
theorem worst_one {kind : Int} {h : Nat} {lo : List Int} (hi : Inv (layS kind h) lo (cnt h)) (h1 : 1 ≤ h) (h2 : h ≤ 16) : worstS kind h 1 = h := by
  have : (1 : Nat) ≤ 2 ^ (h - 1) := Nat.one_le_two_pow
  unfold worstS
  rw [worstK_eq hi h1 h2 _ (Nat.le_refl _), if_neg (by omega)]
/-- A path's nodes: the root first, each the parent of the next. -/
theorem up_last : ∀ u : Nat, 0 < u → (up u).getLast? = some 0 := by
  intro u
  induction u using Nat.strongRecOn with
  | _ u ih =>
    intro h
    rw [up_pos u h]
    by_cases h2 : u / 2 = 0
    · have : u = 1 := by omega
      subst this; rfl
    · rw [List.getLast?_cons, ih (u / 2) (by omega) (by omega)]; rfl
theorem path_head {h l : Nat} : (pathL h l)[0]? = some 0 := by
  unfold pathL
  have : (1 : Nat) ≤ 2 ^ (h - 1) := Nat.one_le_two_pow
  rw [← List.head?_eq_getElem?, List.head?_reverse, up_last _ (by omega)]
theorem up_parent : ∀ (u i : Nat) (x y : Int), (up u)[i]? = some x → (up u)[i + 1]? = some y → (x - 1) / 2 = y := by
  intro u
  induction u using Nat.strongRecOn with
  | _ u ih =>
    intro i x y hx hy
    by_cases h : u = 0
    · subst h; simp [up_zero] at hx
    · rw [up_pos u (by omega)] at hx hy
      cases i with
      | zero =>
        simp at hx hy
        by_cases h2 : u / 2 = 0
        · rw [h2, up_zero] at hy; simp at hy
        · rw [up_pos (u / 2) (by omega)] at hy
          simp at hy
          omega
      | succ i =>
        simp only [List.getElem?_cons_succ] at hx hy
        exact ih (u / 2) (by omega) i x y hx hy
theorem path_parent {h l i : Nat} {x y : Int} (hx : (pathL h l)[i]? = some x) (hy : (pathL h l)[i + 1]? = some y) : (y - 1) / 2 = x := by
  unfold pathL at hx hy
  generalize hu : 2 ^ (h - 1) + l = u at *
  have hlt : i + 1 < (up u).length := by
    have := (List.getElem?_eq_some_iff.1 hy).1
    simpa using this
  rw [List.getElem?_reverse (by omega)] at hx hy
  obtain ⟨j, hj⟩ : ∃ j, j = (up u).length - 1 - (i + 1) := ⟨_, rfl⟩
  rw [← hj] at hy
  rw [show (up u).length - 1 - i = j + 1 by omega] at hx
  exact up_parent u j y x hy hx

/-! The walk. -/
abbrev RetU (w : World) (e : Ending) (w' : World) : Prop := e = .returned (.bool true) ∧ Fr F0 w w'
set_option maxHeartbeats 1000000 in
set_option maxRecDepth 100000 in
theorem LTurned_out (k h l : Int) (w : World) (h1 : rightB k h = false ∨ 9 < h) : Calls Try.prog 7 #[.int .i64 k, .int .i64 h, .int .i64 l] w (RetU w) := by
  by_cases hr : rightB k h = false
  · go_enter Try.func7, Try.ntmps7
    go_wp2_with fail
    refine (awake_any w).mono ?_; rintro e w1 ⟨rfl, F1⟩
    go_wp2_with fail
    refine (right_any _ _ _).mono ?_; rintro e w' ⟨rfl, rfl⟩
    rw [hr]
    go_wp2_with fail
    go_ret
    exact ⟨rfl, F1⟩
  · have hr' : rightB k h = true := by simpa using hr
    have h9 : 9 < h := by
      rcases h1 with h1 | h1
      · exact absurd h1 hr
      · exact h1
    clear h1
    go_enter Try.func7, Try.ntmps7
    go_wp2_with fail
    refine (awake_any w).mono ?_; rintro e w1 ⟨rfl, F1⟩
    go_wp2_with fail
    refine (right_any _ _ _).mono ?_; rintro e w' ⟨rfl, rfl⟩
    rw [hr']
    go_wp2_with fail
    go_ret
    exact ⟨rfl, F1⟩

set_option maxHeartbeats 4000000 in
set_option maxRecDepth 100000 in
theorem LTurned_in (k : Int) (H : Nat) (l : Int) (w : World) (hk1 : 1 ≤ k) (hk2 : k ≤ 4) (hH1 : 1 ≤ H) (hH2 : H ≤ 9) : Calls Try.prog 7 #[.int .i64 k, .int .i64 (H : Int), .int .i64 l] w (RetU w) := by
  have hr : rightB k H = true := by simp [rightB]; omega
  obtain ⟨lo, hlo⟩ := perm_ok hk1 hk2 hH2
  have hI := inv_of hlo
  rw [layS_len] at hI
  have hcn := cnt_le (show H ≤ 16 by omega)
  have hback := invS_of hI.symm (by omega)
  have hN1 : 1 ≤ cnt H := by have := Nat.pow_le_pow_right (n := 2) (by omega) hH1; unfold cnt; omega
  have hw1 := worst_one hI hH1 (by omega)
  have hbp := fun (leaf : Nat) (hl : leaf < 2 ^ (H - 1)) => blocks_path hI hH1 (by omega) hl
  have hba := fun (leaf : Nat) (hl : leaf < 2 ^ (H - 1)) => blocks_all hI hH1 hl
  have CL : ∀ w, Calls Try.prog 12 #[.int .i64 k, .int .i64 (H : Int)] w fun e w' => ∃ a c, e = .returned (.tuple #[.slice a (cnt H) c, .int .i64 0]) ∧ Own w' w.heap.size 3 a (cnt H) c (ints (layS k H)) ∧ Fr F0 w w' :=
    fun w => Layout_any k H H w rfl hH1 (by omega) hk1 hk2
  have CW : ∀ w, Calls Try.prog 18 #[.int .i64 k, .int .i64 (H : Int), .int .i64 1] w fun e w' => e = .returned (.tuple #[.int .i64 (H : Int), .int .i64 0]) ∧ Fr F0 w w' := fun w => by
    have := Worst_any k H H 1 w rfl hH1 (by omega) hk1 hk2 (by omega); rw [hw1] at this; exact this
  have hni : invS (layS k H) ≠ none := by rw [hlo]; simp
  generalize layS k H = lay at *
  generalize hn : cnt H = n at *
  replace CL := Lib.hid CL
  replace CW := Lib.hid CW
  have Hlo := Lib.hid hlo
  have Hback := Lib.hid hback
  clear hlo hback hw1
  by_cases hp : pathOk H l
  · obtain ⟨q1, q2, q3, q4⟩ := hp
    have hl2 : l.toNat < 2 ^ (H - 1) := by
      rw [show ((H : Int)).toNat = H by simp] at q4
      clear hbp hba
      generalize 2 ^ (H - 1) = m at *
      omega
    have hP : ∀ w, Calls Try.prog 13 #[.int .i64 (H : Int), .int .i64 l] w fun e w' => ∃ a c, e = .returned (.tuple #[.slice a H c, .int .i64 0]) ∧ Rd w' a H (ints (pathL H l.toNat)) ∧ Fr F0 w w' := fun w =>
      (Path_any H l.toNat H l w rfl (by omega) hH1 (by omega) hl2).mono fun e w' ⟨a, m, c, e1, e2, e3⟩ => by
        have : m = H := by rw [← e2.lens, path_length hH1 hl2]
        subst this
        exact ⟨a, c, e1, e2.rd, e3⟩
    have hmem := path_mem hH1 hl2
    rw [hn] at hmem
    have hlen := path_length hH1 hl2
    have hpar := fun i x y => path_parent (h := H) (l := l.toNat) (i := i) (x := x) (y := y)
    have hhead : (pathL H l.toNat)[0]? = some 0 := path_head
    have hb1 : blocksN 1 ((pathL H l.toNat).map (getI lay)) = H := hbp l.toNat hl2
    have hb2 : blocksN n ((pathL H l.toNat).map (getI lay)) = 1 := hba l.toNat hl2
    have hnb : (pathL H l.toNat).any (badB n) = false := by
      rw [List.any_eq_false]
      intro x hx
      have := hmem x hx
      simp [badB]; omega
    have hB1 : blocksS lay (pathL H l.toNat) n 1 = ((H : Int), 0) := by unfold blocksS; rw [if_neg (by omega), if_neg hni, hnb, hb1]; rfl
    have hB2 : blocksS lay (pathL H l.toNat) n n = (1, 0) := by unfold blocksS; rw [if_neg (by omega), if_neg hni, hnb, hb2]; rfl
    generalize pathL H l.toNat = path at *
    replace hP := Lib.hid hP
    replace hmem := Lib.hid hmem
    replace hpar := Lib.hid hpar
    replace hB1 := Lib.hid hB1
    replace hB2 := Lib.hid hB2
    have Hlen := Lib.hid hlen
    have Hhead := Lib.hid hhead
    have hd9 : decide (9 < (H : Int)) = false := by simp; omega
    clear hlen hhead hb1 hb2 hnb hbp hba q1 q2 q3 q4 hl2 hn hI hni
    go_enter Try.func7, Try.ntmps7
    go_wp2_with fail
    refine (awake_any w).mono ?_; rintro e w1 ⟨rfl, F⟩
    go_wp2_with fail
    refine (right_any _ _ _).mono ?_; rintro e w' ⟨rfl, rfl⟩
    rw [hr]
    go_wp2_with fail
    refine (CL.out _).mono ?_; rintro e w2 ⟨a1, c1, rfl, O1, F2⟩
    have R1 := O1.rd
    replace F := F.trans0 F2
    clear O1 F2
    go_wp2_with fail
    refine (Inverse_some a1 n c1 lay lo _ R1 Hlo.out).mono ?_; rintro e w3 ⟨a2, c2, rfl, R2, F2⟩
    replace R1 := R1.fr0 F2
    replace F := F.trans0 F2
    clear F2
    go_wp2_with fail
    refine (Inverse_some a2 n c2 lo lay _ R2 Hback.out).mono ?_; rintro e w4 ⟨a3, c3, rfl, R3, F2⟩
    replace R1 := R1.fr0 F2
    replace F := F.trans0 F2
    clear F2 R2
    go_wp2_with fail
    refine (Equal_any _ _ _ _ _ _ _ _ _ R3 R1).mono ?_; rintro e w5 ⟨rfl, q, rfl⟩
    rw [show decide (lay = lay) = true by simp]
    replace R1 := R1.fr0 ((Fr.refl _ _).drewN q)
    replace F := F.drewN q
    clear R3
    go_wp2_with fail
    refine (hP.out _).mono ?_; rintro e w6 ⟨a4, c4, rfl, R4, F2⟩
    replace R1 := R1.fr0 F2
    replace F := F.trans0 F2
    clear F2
    obtain ⟨wo, rfl⟩ : ∃ wo : World, wo = w6 := ⟨_, rfl⟩
    go_wp2_with fail
    go_loopw [82] (fun i wr => ∃ j : Nat, j ≤ H ∧ i = .int .i64 j ∧ wo = wr) (fun i _ => H - (intOf i).toNat)
    case atStart => exact ⟨0, by omega, rfl, rfl⟩
    case round =>
      obtain ⟨j, hj, rfl, rfl⟩ := hrel
      obtain ⟨b4, o4, hb4, hc4⟩ := R4.cells (by omega)
      by_cases hlt : j < H
      · obtain ⟨y, hy⟩ : ∃ y, path[j]? = some y := ⟨path[j]'(by rw [Hlen.out]; omega), by simp⟩
        have hy1 := hmem.out y (List.mem_of_getElem? hy)
        have d1 := hc4 j (.int .i64 y) (by simp [hy])
        by_cases hj0 : j = 0
        · subst hj0
          rw [Hhead.out] at hy
          injection hy with hy
          subst hy
          rw [hb4]
          subst hb4
          replace hc4 := Lib.hid hc4
          rw [show ((0 : Nat) : Int) = 0 from rfl]
          simp only [Nat.add_zero] at d1
          go_wp2_with fail
          go_roundw
          case rel => exact ⟨1, by omega, rfl, trivial⟩
          case measure => simp [intOf]; omega
        · obtain ⟨i, rfl⟩ : ∃ i, j = i + 1 := ⟨j - 1, by omega⟩
          obtain ⟨x, hx⟩ : ∃ x, path[i]? = some x := ⟨path[i]'(by rw [Hlen.out]; omega), by simp⟩
          have hx1 := hmem.out x (List.mem_of_getElem? hx)
          have hq := hpar.out i x y hx hy
          have hy2 : 1 ≤ y := by omega
          have hqb : ((y - 1) / 2 != x) = false := by simp [hq]
          have d2 := hc4 i (.int .i64 x) (by simp [hx])
          have d3 : wo.cell? ⟨b4, o4 + i + 1, none⟩ = some (.int .i64 y) := d1
          subst hb4
          replace hc4 := Lib.hid hc4
          replace hq := Lib.hid hq
          clear hx hy
          go_wp2_with fail
          go_roundw
          case rel => exact ⟨i + 2, by omega, by go_num, trivial⟩
          case measure => simp [intOf]; omega
      · obtain rfl : H = j := by omega
        have d1 : wo.cell? ⟨b4, o4, none⟩ = some (.int .i64 0) := by have := hc4 0 (.int .i64 0) (by simp [Hhead.out]); simpa using this
        have R4' := R4
        subst hb4
        clear hc4
        go_wp2_with fail
        refine (Blocks_any a1 _ n H c1 c4 lay path 1 _ R1 R4 (by omega)).mono ?_; rintro e w7 ⟨rfl, F7⟩
        rw [hB1.out]
        replace d1 := F7.cell d1 id
        replace R1 := R1.fr0 F7
        replace R4 := R4.fr0 F7
        replace F := F.trans0 F7
        clear F7
        go_wp2_with fail
        refine (Blocks_any a1 _ n H c1 c4 lay path n _ R1 R4 (by omega)).mono ?_; rintro e w8 ⟨rfl, F7⟩
        rw [hB2.out]
        replace d1 := F7.cell d1 id
        replace F := F.trans0 F7
        clear F7
        go_wp2_with fail
        refine (CW.out _).mono ?_; rintro e w9 ⟨rfl, F7⟩
        replace d1 := F7.cell d1 id
        replace F := F.trans0 F7
        clear F7
        go_wp2_with fail
        go_ret
        exact ⟨rfl, F⟩
  · have hP : ∀ w, Calls Try.prog 13 #[.int .i64 (H : Int), .int .i64 l] w fun e w' => e = .returned (.tuple #[.slice none 0 0, .int .i64 2]) ∧ w = w' := fun w => Path_bad H l w (by unfold pathOk at hp; clear hbp hba; omega)
    replace hP := Lib.hid hP
    have hd9 : decide (9 < (H : Int)) = false := by simp; omega
    clear hbp hba hn hI hni hp
    go_enter Try.func7, Try.ntmps7
    go_wp2_with fail
    refine (awake_any w).mono ?_; rintro e w1 ⟨rfl, F⟩
    go_wp2_with fail
    refine (right_any _ _ _).mono ?_; rintro e w' ⟨rfl, rfl⟩
    rw [hr]
    go_wp2_with fail
    refine (CL.out _).mono ?_; rintro e w2 ⟨a1, c1, rfl, O1, F2⟩
    have R1 := O1.rd
    replace F := F.trans0 F2
    clear O1 F2
    go_wp2_with fail
    refine (Inverse_some a1 n c1 lay lo _ R1 Hlo.out).mono ?_; rintro e w3 ⟨a2, c2, rfl, R2, F2⟩
    replace R1 := R1.fr0 F2
    replace F := F.trans0 F2
    clear F2
    go_wp2_with fail
    refine (Inverse_some a2 n c2 lo lay _ R2 Hback.out).mono ?_; rintro e w4 ⟨a3, c3, rfl, R3, F2⟩
    replace R1 := R1.fr0 F2
    replace F := F.trans0 F2
    clear F2 R2
    go_wp2_with fail
    refine (Equal_any _ _ _ _ _ _ _ _ _ R3 R1).mono ?_; rintro e w5 ⟨rfl, q, rfl⟩
    rw [show decide (lay = lay) = true by simp]
    replace F := F.drewN q
    clear R3
    go_wp2_with fail
    refine (hP.out _).mono ?_; rintro e w6 ⟨rfl, rfl⟩
    go_wp2_with fail
    go_ret
    exact ⟨rfl, F⟩

theorem LTurned_any (k h l : Int) (w : World) : Calls Try.prog 7 #[.int .i64 k, .int .i64 h, .int .i64 l] w (RetU w) := by
  by_cases hr : rightB k h = false ∨ 9 < h
  · exact LTurned_out k h l w hr
  · have h1 : 1 ≤ k ∧ k ≤ 4 ∧ 1 ≤ h ∧ h ≤ 9 := by
      by_cases e : rightB k h = false
      · exact absurd (.inl e) hr
      · have : rightB k h = true := by simpa using e
        simp [rightB] at this
        omega
    obtain ⟨H, rfl⟩ := Int.eq_ofNat_of_zero_le (show 0 ≤ h by omega)
    exact LTurned_in k H l w h1.1 h1.2.1 (by omega) (by omega)

end Go.Proofs.Ytdllpiekkbojgaa
