/- The reference: Unions, Solve. -/
import Derived.Test.YtihcaemheknjbaaF20
import Derived.Test.YtihcaemheknjbaaF17
namespace Go.Proofs.Ytihcaemheknjbaa
open Go.RowKit
attribute [local go_sem ↓] Go.wp_at_zero Go.wp_at_succ
theorem refI_bd (l : List Ev) : ∀ x ∈ refI l, x.2.2.1 < l.length ∧ x.2.2.2 ≤ l.length := by
  intro x hx
  unfold refI at hx
  obtain ⟨i, hi, hx⟩ := List.mem_flatMap.1 hx
  rw [List.mem_range] at hi
  unfold ivAt at hx
  split at hx
  · split at hx
    · rw [List.mem_singleton] at hx
      subst hx
      refine ⟨hi, ?_⟩
      show endF l _ _ i ≤ _
      unfold endF
      exact Nat.le_trans (endK_le l _ _ _ _) (by omega)
    · cases hx
  · cases hx
set_option maxRecDepth 100000 in
set_option maxHeartbeats 4000000 in
theorem refUnions_any {w : World} {a : Option Addr} {N c n : Nat} {l : List Ev} (hl : ArgE w a N c l) (hN : N ≤ 2000) (hok : ∀ (i : Nat) (x : Ev), l[i]? = some x → okE n x = true) :
    Calls Try.prog 21 #[.slice a N c] w fun e w' => e = .returned (.int .i64 (unS N (refI l) : Int)) ∧ Fr F0 w w' := by
  have HI := Lib.hid (refIntervals_any hl (by omega) hok)
  have HN := Lib.hid hl.len
  have hbd := refI_bd l
  rw [hl.len] at hbd
  have HB := Lib.hid hbd
  have hml : (refI l).length ≤ N := by have h := refI_len l l.length; rw [hl.len] at h; unfold refI; rw [hl.len]; exact h
  obtain ⟨m, hm⟩ : ∃ m, m = (refI l).length := ⟨_, rfl⟩
  rw [← hm] at HI hml
  have HM := Lib.hid hm
  clear hl hok hbd hm
  go_enter Try.func21, Try.ntmps21
  go_wp2_with fail
  refine HI.out.mono ?_
  rintro e w1 ⟨a1, c1, rfl, O1, F1⟩
  have HO := Lib.hid O1
  have HF := Lib.hid F1
  clear O1 F1 HI
  go_wp2_with fail
  go_loopw [3, 5] (fun s3 s5 wr => ∃ (i k : Nat), i ≤ m ∧ s5 = .int .i64 i ∧ s3 = .int .i64 k ∧ Hid (k = unS N ((refI l).take i)) ∧ Hid (Fr F0 w1 wr)) (fun _ s5 _ => m - (intOf s5).toNat)
  case atStart => exact ⟨0, 0, Nat.zero_le _, rfl, rfl, Lib.hid rfl, Lib.hid (Fr.refl _ _)⟩
  case round =>
    obtain ⟨i, k, hi, rfl, rfl, Hk, H⟩ := hrel
    by_cases hlt : i < m
    · obtain ⟨⟨xa, xb, xf, xt⟩, hx⟩ : ∃ x, (refI l)[i]? = some x := ⟨_, List.getElem?_eq_getElem (by rw [← HM.out]; exact hlt)⟩
      have hxb := HB.out _ (List.mem_of_getElem? hx)
      dsimp only at hxb
      obtain ⟨g, rfl, _, _, hc, _⟩ := (OwnZ.fr0 HO.out H.out).at (by omega)
      have x2 := hc (i * 4 + 2) (.int .i64 (xf : Int)) (by rw [ivs_get hx 2 (by omega)]; rfl)
      have x3 := hc (i * 4 + 3) (.int .i64 (xt : Int)) (by rw [ivs_get hx 3 (by omega)]; rfl)
      have hlt' : (i : Int) < (m : Int) := by omega
      have hN0 : 0 < N := by omega
      have hns := unS_take (len := N) hx
      have hle := unS_le N hN0 ((refI l).take (i + 1))
      have hkl : unS N ((refI l).take (i + 1)) ≤ 2001 * 2000 := by
        refine Nat.le_trans hle (Nat.mul_le_mul ?_ ?_)
        · rw [List.length_take]; omega
        · omega
      obtain ⟨q, hq⟩ : ∃ q, q = nodN N 0 N xf xt := ⟨_, rfl⟩
      have hkq : unS N ((refI l).take (i + 1)) = k + q := by rw [hns, Hk.out, hq]
      have hkb : k + q ≤ 2001 * 2000 := by omega
      have HKQ := Lib.hid hkq
      have HNd : Hid (∀ W, Calls Try.prog 47 #[.int .i64 0, .int .i64 (N : Int), .int .i64 (xf : Int), .int .i64 (xt : Int)] W fun e w' => e = .returned (.int .i64 (q : Int)) ∧ W = w') := Lib.hid (fun W => by rw [hq]; exact nodes_any N 0 N xf xt W (by omega) hN0 (by omega) (by omega) (by omega))
      have hwr : IntKind.i64.wrap ((k : Int) + (q : Int)) = (k : Int) + (q : Int) := wI (by omega) (by omega)
      clear hc hx hns hle hkl hq hkq hxb hN0
      go_wp2_with fail
      go_region_held3 (fun w' => w'.cell? ⟨g, i * 4 + 2, none⟩ = some (.int .i64 (xf : Int)) ∧ w'.cell? ⟨g, i * 4 + 3, none⟩ = some (.int .i64 (xt : Int))) (go_keep)
        (first | (go_at_call 47; refine (HNd.out _).mono ?_; rintro e w2 ⟨rfl, rfl⟩) | fail)
      go_wp2_with fail
      go_roundw
      case rel => exact ⟨i + 1, k + q, by omega, by go_num, rfl, Lib.hid HKQ.out.symm, Lib.hid H.out.drew⟩
      case measure => simp [intOf]; omega
    · obtain rfl : m = i := by omega
      go_wp2_with fail
      go_ret
      have h := Hk.out
      rw [List.take_of_length_le (by rw [← HM.out]; exact Nat.le_refl _)] at h
      exact ⟨ret_int (by rw [h]), HF.out.trans0 H.out⟩
/-- The edges behind the first i events. -/
def edS (n : Nat) (l : List Ev) (i : Nat) : List Ed := (refS n (l.take i)).getD []
def refA (n : Nat) (l : List Ev) (i : Nat) : List Bool := (List.range i).flatMap (fun j => leafA l (foldP n (edS n l (j + 1))) j)
def refC (n : Nat) (l : List Ev) (i : Nat) : List Nat := (List.range i).map (fun j => cntP (foldP n (edS n l (j + 1))))
theorem refA_succ (n : Nat) (l : List Ev) (i : Nat) : refA n l (i + 1) = refA n l i ++ leafA l (foldP n (edS n l (i + 1))) i := by unfold refA; rw [List.range_succ, List.flatMap_append]; simp
theorem refC_succ (n : Nat) (l : List Ev) (i : Nat) : refC n l (i + 1) = refC n l i ++ [cntP (foldP n (edS n l (i + 1)))] := by unfold refC; rw [List.range_succ, List.map_append]; rfl
theorem refA_len (n : Nat) (l : List Ev) : ∀ i, (refA n l i).length ≤ i
  | 0 => by simp [refA]
  | i + 1 => by
    have := refA_len n l i
    have := leafA_len l (foldP n (edS n l (i + 1))) i
    rw [refA_succ, List.length_append]; omega
theorem refC_len (n : Nat) (l : List Ev) (i : Nat) : (refC n l i).length = i := by unfold refC; simp
/-- The ends of the edges are vertices. -/
theorem refS_bd (n : Nat) : ∀ (l : List Ev) {E : List Ed}, refS n l = some E → ∀ e ∈ E, e.1 < n ∧ e.2 < n := by
  refine snoc_ind ?_ ?_
  · intro E h e he; injection h with h; subst h; cases he
  · intro l x ih E h e he
    rw [refS_snoc] at h
    cases h1 : refS n l with
    | none => rw [h1] at h; cases h
    | some E0 =>
      rw [h1] at h
      have J := ih h1
      change aft n E0 x = some E at h
      unfold aft at h
      split at h
      · rename_i hok
        unfold okE at hok
        simp at hok
        split at h
        · split at h
          · cases h
          · injection h with h; subst h
            rcases List.mem_append.1 he with he | he
            · exact J e he
            · rw [List.mem_singleton] at he
              subst he
              show x.2.1.toNat < n ∧ x.2.2.toNat < n
              omega
        · split at h
          · split at h
            · cases h
            · injection h with h; subst h
              rcases List.mem_append.1 he with he | he
              · exact J e (List.mem_of_mem_take he)
              · exact J e (List.mem_of_mem_drop he)
          · split at h
            · injection h with h; subst h; exact J e he
            · cases h
      · cases h
set_option maxRecDepth 100000 in
set_option maxHeartbeats 8000000 in
theorem refSolve_any {w : World} {a : Option Addr} {N c n : Nat} {l : List Ev} (hl : ArgE w a N c l) (hN : N ≤ 2000) (hn : n ≤ 1000) (hv : (refS n l).isSome = true) (hok : ∀ (i : Nat) (x : Ev), l[i]? = some x → okE n x = true) :
    Calls Try.prog 13 #[.int .i64 n, .slice a N c] w fun e w' => ∃ aA cA aC cC, e = .returned (.tuple #[.slice aA (refA n l N).length cA, .slice aC N cC]) ∧ Own w' 0 4 aA (refA n l N).length cA (bls (refA n l N)) ∧ Own w' 0 3 aC N cC (nv (refC n l N)) ∧ Fr F0 w w' := by
  have HL := Lib.hid hl
  have hNl := Lib.hid hl.len
  have HOK := Lib.hid hok
  have HV : Hid (∀ i, ∃ E, refS n (l.take i) = some E) := Lib.hid (fun i => by
    cases h : refS n (l.take i) with
    | none =>
      have := refS_none (r := l.drop i) h
      rw [List.take_append_drop] at this
      rw [this] at hv; cases hv
    | some E => exact ⟨E, rfl⟩)
  clear hl hv hok
  go_enter Try.func13, Try.ntmps13
  go_wp2_with fail
  go_loopw [6, 7, 8, 9] (fun s6 s7 s8 s9 wr => ∃ (i kA k : Nat) (aA : Option Addr) (cA : Nat) (aC : Option Addr) (cC : Nat) (a' : Option Addr) (c' : Nat), i ≤ N ∧ kA ≤ i ∧ k ≤ i ∧ s9 = .int .i64 i ∧ s6 = .slice aA kA cA ∧ s7 = .slice aC i cC ∧ s8 = .slice a' k c' ∧ Hid (kA = (refA n l i).length ∧ k = (edS n l i).length) ∧
      Hid (Own wr w.heap.size 4 aA kA cA (bls (refA n l i)) ∧ Own wr w.heap.size 3 aC i cC (nv (refC n l i)) ∧ OwnZ wr w.heap.size 62 2 a' k c' (eds (edS n l i)) ∧ Apart aA aC ∧ Fr F0 w wr ∧ (∀ j, onBlk a' j → ¬ onBlk aA j ∧ ¬ onBlk aC j))) (fun _ _ _ s9 _ => N - (intOf s9).toNat)
  case atStart => exact ⟨0, 0, 0, none, 0, none, 0, none, 0, Nat.zero_le _, Nat.le_refl _, Nat.le_refl _, rfl, rfl, rfl, rfl, Lib.hid ⟨rfl, rfl⟩, Lib.hid ⟨Own.nil _ _ _, Own.nil _ _ _, OwnZ.nil _ _ _ _, none_apart _, Fr.refl _ _, fun j h => absurd h (onBlk_none _)⟩⟩
  case round =>
    obtain ⟨i, kA, k, aA, cA, aC, cC, a', c', hi, hkA, hk, rfl, rfl, rfl, rfl, HK, H⟩ := hrel
    by_cases hlt : i < N
    · obtain ⟨⟨K, A0, B0⟩, hx⟩ : ∃ x, l[i]? = some x := ⟨_, List.getElem?_eq_getElem (by rw [hNl.out]; exact hlt)⟩
      have hxo := HOK.out i _ hx
      unfold okE at hxo
      simp at hxo
      obtain ⟨va, rfl⟩ := Int.eq_ofNat_of_zero_le (show 0 ≤ A0 by omega)
      obtain ⟨vb, rfl⟩ := Int.eq_ofNat_of_zero_le (show 0 ≤ B0 by omega)
      have hvn : va < n ∧ vb < n := by omega
      obtain ⟨E', hE'⟩ := HV.out (i + 1)
      have hed : edS n l (i + 1) = E' := by unfold edS; rw [hE']; rfl
      have haf : aft n (edS n l i) (K, (va : Int), (vb : Int)) = some E' := by
        obtain ⟨E0, hE0⟩ := HV.out i
        rw [take_snoc hx, refS_snoc, hE0] at hE'
        unfold edS
        rw [hE0]
        exact hE'
      have HA := Lib.hid (After_any (n := n) (K := K) (A := (va : Int)) (Bv := (vb : Int)) H.out.2.2.1 H.out.2.2.2.2.1.size (by omega))
      rw [haf] at HA
      have hE'i : E'.length ≤ i + 1 := by have h := refS_len n _ hE'; rw [List.length_take] at h; omega
      have hE'l : E'.length ≤ N := by have h := refS_len n _ hE'; rw [List.length_take] at h; omega
      have HEb := Lib.hid (refS_bd n _ hE')
      have hleaf : Hid (leafA l (foldP n E') i = if K = 3 then [(foldP n E').getD va 0 == (foldP n E').getD vb 0] else []) := Lib.hid (by unfold leafA; rw [hx]; rfl)
      have nbA : Hid (∀ b o, a = some ⟨b, o, none⟩ → ¬ onBlk aA b) := Lib.hid (fun b o ha hb => by
        obtain ⟨b1, o1, ha1, q, _⟩ := HL.out.cells i _ hx
        rw [ha] at ha1; injection ha1 with ha1; injection ha1 with h1 h2
        subst h1
        have h3 := World.block_lt_of_cell? _ _ q
        have h4 := (H.out.1.blk b hb).1
        simp only at h3; omega)
      obtain ⟨b, o, hab, x0, x1, x2⟩ := (HL.out.fr0 H.out.2.2.2.2.1).cells i _ hx
      subst hab
      dsimp only at x0 x1 x2
      have hlt' : (i : Int) < (N : Int) := by omega
      have hA1 := refA_succ n l i
      have hC1 := refC_succ n l i
      rw [hed] at hA1 hC1
      have HA1 := Lib.hid (And.intro hA1 (And.intro hC1 hed))
      have HX := Lib.hid (fun (W : World) (F : Fr F0 wr W) => And.intro (F.cell x0 id) (And.intro (F.cell x1 id) (F.cell x2 id)))
      clear hx hxo hed haf hE' hA1 hC1
      go_wp2_with fail
      refine HA.out.mono ?_
      rintro e w2 ⟨a2, c2, rfl, O2, F2, hat2⟩
      have ndA : Hid (∀ j, onBlk a2 j → ¬ onBlk aA j) := Lib.hid (fun j hj h => (hat2 j hj).elim (fun h1 => (H.out.2.2.2.2.2 j h1).1 h) (fun h1 => by have := (H.out.1.blk j h).2; omega))
      have ndC : Hid (∀ j, onBlk a2 j → ¬ onBlk aC j) := Lib.hid (fun j hj h => (hat2 j hj).elim (fun h1 => (H.out.2.2.2.2.2 j h1).2 h) (fun h1 => by have := (H.out.2.1.blk j h).2; omega))
      clear hat2
      obtain ⟨k2, hk2⟩ : ∃ k2, k2 = E'.length := ⟨_, rfl⟩
      rw [← hk2] at O2 hE'l ⊢
      have HO2 := Lib.hid O2
      have HF2 := Lib.hid F2
      have Hk2 := Lib.hid hk2
      have HJ := Lib.hid (Joined_any (n := n) (c := c2) O2.rd (by omega) hn HEb.out)
      clear O2 F2 hk2 x0 x1 x2 HA
      go_wp2_with fail
      refine HJ.out.mono ?_
      rintro e w3 ⟨a3, c3, rfl, O3, F3⟩
      rw [foldP_len] at O3 ⊢
      have HO3 := Lib.hid O3
      have HF3 := Lib.hid (HF2.out.trans0 F3)
      have HF23 := Lib.hid F3
      have HO23 := Lib.hid (OwnZ.fr0 HO2.out F3)
      obtain ⟨x0, x1, x2⟩ := HX.out w3 (HF2.out.trans0 F3)
      clear O3 F3 HJ
      have HOA := Lib.hid (H.out.1.fr0 HF3.out)
      have HOC := Lib.hid (H.out.2.1.fr0 HF3.out)
      have HW := Lib.hid (H.out.2.2.2.2.1.trans0 HF3.out)
      have HAp := Lib.hid H.out.2.2.2.1
      have hsz : Hid (wr.heap.size ≤ w3.heap.size ∧ (∀ k, onBlk a3 k → wr.heap.size ≤ k) ∧ (∀ k, onBlk aA k → k < wr.heap.size) ∧ (∀ k, onBlk aC k → k < wr.heap.size)) := Lib.hid ⟨HF3.out.size, fun k hk => by have := (HO3.out.blk k hk).1; have := HF2.out.size; omega, fun k hk => (H.out.1.blk k hk).2, fun k hk => (H.out.2.1.blk k hk).2⟩
      have hk2le : Hid (k2 ≤ i + 1) := Lib.hid (by rw [Hk2.out]; exact hE'i)
      have hA8 : (kA + 1) * 1 ≤ 140737488355328 ∧ (i + 1) * 8 ≤ 140737488355328 := by omega
      by_cases g3 : K = 3
      · have k3 : (K == 3) = true := by simpa using g3
        have HLf : Hid (leafA l (foldP n E') i = [(foldP n E').getD va 0 == (foldP n E').getD vb 0]) := Lib.hid (by rw [hleaf.out, if_pos g3])
        clear g3
        go_wp2_with fail
        clear k3
        obtain ⟨b3, o3, pa, rfl, hpa, ca⟩ := HO3.out.rd.nvix hvn.1
        obtain ⟨b4, o4, pb, hab, hpb, cb⟩ := HO3.out.rd.nvix hvn.2
        obtain ⟨rfl, rfl⟩ : b3 = b4 ∧ o3 = o4 := by injection hab with hab; injection hab with h1 h2; exact ⟨h1, h2⟩
        obtain ⟨ans, hans⟩ : ∃ v, v = (pa == pb) := ⟨_, rfl⟩
        have hans2 : ((pa : Int) == (pb : Int)) = ans := by rw [hans, Bool.eq_iff_iff, beq_iff_eq, beq_iff_eq]; omega
        have HAns : Hid (leafA l (foldP n E') i = [ans]) := Lib.hid (by rw [HLf.out, gd hpa, gd hpb, hans])
        have hvn' : (va : Int) < (n : Int) ∧ (vb : Int) < (n : Int) := by omega
        obtain ⟨hva', hvb'⟩ := hvn'
        clear hpa hpb hab hans
        obtain ⟨w4, hw4⟩ : ∃ wz, wz = w3.drew := ⟨_, rfl⟩
        have F34 : Hid (Fr F0 w3 w4) := Lib.hid (by rw [hw4]; exact (Fr.refl _ _).drew)
        have sh : Hid (∀ W, Fr F0 w4 W → (fun w' : World => w'.cell? ⟨b, o + i * 3 + 1, none⟩ = some (.int .i64 (va : Int)) ∧ w'.cell? ⟨b, o + i * 3 + 2, none⟩ = some (.int .i64 (vb : Int)) ∧ w'.cell? ⟨b3, o3 + va, none⟩ = some (.int .i64 (pa : Int)) ∧ w'.cell? ⟨b3, o3 + vb, none⟩ = some (.int .i64 (pb : Int))) W) := Lib.hid (fun W F => ⟨(F34.out.trans0 F).cell x1 id, (F34.out.trans0 F).cell x2 id, (F34.out.trans0 F).cell ca id, (F34.out.trans0 F).cell cb id⟩)
        refine wp_region_held_drew (S := (fun w' : World => w'.cell? ⟨b, o + i * 3 + 1, none⟩ = some (.int .i64 (va : Int)) ∧ w'.cell? ⟨b, o + i * 3 + 2, none⟩ = some (.int .i64 (vb : Int)) ∧ w'.cell? ⟨b3, o3 + va, none⟩ = some (.int .i64 (pa : Int)) ∧ w'.cell? ⟨b3, o3 + vb, none⟩ = some (.int .i64 (pb : Int)))) (by kernel_rfl) (⟨x1, x2, ca, cb⟩) (fun hHeld => ?_)
        rw [← hw4]
        clear hw4 hHeld
        have hHeld := sh.out w4 (Fr.refl _ _)
        refine wpAnyH_take (i := 0) (v := ?_) (by simp only [List.getElem?_toArray, List.getElem?_cons_zero] <;> rfl) (by kernel_rfl) (by kernel_rfl) (by kernel_rfl) (by exact fun _ _ _ h => h) (Or.inl ⟨by rfl, ?_⟩) (by assumption) ?_
        rotate_left
        · intro w hSw
          try dsimp only at hSw
          go_simp <;> with_reducible rfl
        (try simp only [Act.put, List.setIfInBounds_toArray, List.set_cons_zero, List.set_cons_succ])
        refine wpAnyH_take (i := 1) (v := ?_) (by simp only [List.getElem?_toArray, List.getElem?_cons_succ, List.getElem?_cons_zero] <;> rfl) (by kernel_rfl) (by kernel_rfl) (by kernel_rfl) (by exact fun _ _ _ h => h) (Or.inl ⟨by rfl, ?_⟩) (by assumption) ?_
        rotate_left
        · intro w hSw
          try dsimp only at hSw
          go_simp <;> with_reducible rfl
        (try simp only [Act.put, List.setIfInBounds_toArray, List.set_cons_zero, List.set_cons_succ])
        refine wpAnyH_take (i := 2) (v := ?_) (by simp only [List.getElem?_toArray, List.getElem?_cons_succ, List.getElem?_cons_zero] <;> rfl) (by kernel_rfl) (by kernel_rfl) (by kernel_rfl) (by exact fun _ _ _ h => h) (Or.inl ⟨by rfl, ?_⟩) (by assumption) ?_
        rotate_left
        · intro w hSw
          try dsimp only at hSw
          go_simp <;> with_reducible rfl
        (try simp only [Act.put, List.setIfInBounds_toArray, List.set_cons_zero, List.set_cons_succ])
        refine wpAnyH_take (i := 3) (v := ?_) (by simp only [List.getElem?_toArray, List.getElem?_cons_succ, List.getElem?_cons_zero] <;> rfl) (by kernel_rfl) (by kernel_rfl) (by kernel_rfl) (by exact fun _ _ _ h => h) (Or.inl ⟨by rfl, ?_⟩) (by assumption) ?_
        rotate_left
        · intro w hSw
          try dsimp only at hSw
          go_simp <;> with_reducible rfl
        (try simp only [Act.put, List.setIfInBounds_toArray, List.set_cons_zero, List.set_cons_succ])
        refine wpAnyH_take (i := 4) (v := ?_) (by simp only [List.getElem?_toArray, List.getElem?_cons_succ, List.getElem?_cons_zero] <;> rfl) (by kernel_rfl) (by kernel_rfl) (by kernel_rfl) (by exact fun _ _ _ h => h) (Or.inl ⟨by rfl, ?_⟩) (by assumption) ?_
        rotate_left
        · intro w hSw
          try dsimp only at hSw
          go_simp <;> with_reducible rfl
        (try simp only [Act.put, List.setIfInBounds_toArray, List.set_cons_zero, List.set_cons_succ])
        refine wpAnyH_take (i := 5) (v := ?_) (by simp only [List.getElem?_toArray, List.getElem?_cons_succ, List.getElem?_cons_zero] <;> rfl) (by kernel_rfl) (by kernel_rfl) (by kernel_rfl) (by exact fun _ _ _ h => h) (Or.inl ⟨by rfl, ?_⟩) (by assumption) ?_
        rotate_left
        · intro w hSw
          try dsimp only at hSw
          go_simp <;> with_reducible rfl
        (try simp only [Act.put, List.setIfInBounds_toArray, List.set_cons_zero, List.set_cons_succ])
        refine wpAnyH_take (i := 6) (v := ?_) (by simp only [List.getElem?_toArray, List.getElem?_cons_succ, List.getElem?_cons_zero] <;> rfl) (by kernel_rfl) (by kernel_rfl) (by kernel_rfl) (by exact fun _ _ _ h => h) (Or.inl ⟨by rfl, ?_⟩) (by assumption) ?_
        rotate_left
        · intro w hSw
          try dsimp only at hSw
          go_simp <;> with_reducible rfl
        (try simp only [Act.put, List.setIfInBounds_toArray, List.set_cons_zero, List.set_cons_succ])
        refine wpAnyH_take (i := 7) (v := ?_) (by simp only [List.getElem?_toArray, List.getElem?_cons_succ, List.getElem?_cons_zero] <;> rfl) (by kernel_rfl) (by kernel_rfl) (by kernel_rfl) (by exact fun _ _ _ h => h) (Or.inl ⟨by rfl, ?_⟩) (by assumption) ?_
        rotate_left
        · intro w hSw
          try dsimp only at hSw
          go_simp <;> with_reducible rfl
        (try simp only [Act.put, List.setIfInBounds_toArray, List.set_cons_zero, List.set_cons_succ])
        refine wpAnyH_take (i := 8) (v := ?_) (by simp only [List.getElem?_toArray, List.getElem?_cons_succ, List.getElem?_cons_zero] <;> rfl) (by kernel_rfl) (by kernel_rfl) (by kernel_rfl) (by exact fun _ _ _ h => h) (Or.inl ⟨by rfl, ?_⟩) (by assumption) ?_
        rotate_left
        · intro w hSw
          try dsimp only at hSw
          go_simp <;> with_reducible rfl
        (try simp only [Act.put, List.setIfInBounds_toArray, List.set_cons_zero, List.set_cons_succ])
        refine wpAnyH_take (i := 9) (v := ?_) (by simp only [List.getElem?_toArray, List.getElem?_cons_succ, List.getElem?_cons_zero] <;> rfl) (by kernel_rfl) (by kernel_rfl) (by kernel_rfl) (by exact fun _ _ _ h => h) (Or.inl ⟨by rfl, ?_⟩) (by assumption) ?_
        rotate_left
        · intro w hSw
          try dsimp only at hSw
          go_simp <;> with_reducible rfl
        (try simp only [Act.put, List.setIfInBounds_toArray, List.set_cons_zero, List.set_cons_succ])
        refine wpAnyH_take (i := 10) (v := ?_) (by simp only [List.getElem?_toArray, List.getElem?_cons_succ, List.getElem?_cons_zero] <;> rfl) (by kernel_rfl) (by kernel_rfl) (by kernel_rfl) (by exact fun _ _ _ h => h) (Or.inl ⟨by rfl, ?_⟩) (by assumption) ?_
        rotate_left
        · intro w hSw
          try dsimp only at hSw
          go_simp <;> with_reducible rfl
        (try simp only [Act.put, List.setIfInBounds_toArray, List.set_cons_zero, List.set_cons_succ])
        refine wpAnyH_take (i := 11) (v := ?_) (by simp only [List.getElem?_toArray, List.getElem?_cons_succ, List.getElem?_cons_zero] <;> rfl) (by kernel_rfl) (by kernel_rfl) (by kernel_rfl) (by exact fun _ _ _ h => h) (Or.inl ⟨by rfl, ?_⟩) (by assumption) ?_
        rotate_left
        · intro w hSw
          try dsimp only at hSw
          go_simp <;> with_reducible rfl
        (try simp only [Act.put, List.setIfInBounds_toArray, List.set_cons_zero, List.set_cons_succ])
        refine wpAnyH_take (i := 12) (v := ?_) (by simp only [List.getElem?_toArray, List.getElem?_cons_succ, List.getElem?_cons_zero] <;> rfl) (by kernel_rfl) (by kernel_rfl) (by kernel_rfl) (by exact fun _ _ _ h => h) (Or.inl ⟨by rfl, ?_⟩) (by assumption) ?_
        rotate_left
        · intro w hSw
          try dsimp only at hSw
          go_simp <;> with_reducible rfl
        (try simp only [Act.put, List.setIfInBounds_toArray, List.set_cons_zero, List.set_cons_succ])
        refine wpAnyH_take (i := 13) (v := ?_) (by simp only [List.getElem?_toArray, List.getElem?_cons_succ, List.getElem?_cons_zero] <;> rfl) (by kernel_rfl) (by kernel_rfl) (by kernel_rfl) (by exact fun _ _ _ h => h) (Or.inl ⟨by rfl, ?_⟩) (by assumption) ?_
        rotate_left
        · intro w hSw
          try dsimp only at hSw
          go_simp <;> with_reducible rfl
        (try simp only [Act.put, List.setIfInBounds_toArray, List.set_cons_zero, List.set_cons_succ])
        refine wpAnyH_take (i := 14) (v := ?_) (by simp only [List.getElem?_toArray, List.getElem?_cons_succ, List.getElem?_cons_zero] <;> rfl) (by kernel_rfl) (by kernel_rfl) (by kernel_rfl) (by exact fun _ _ _ h => h) (Or.inl ⟨by rfl, ?_⟩) (by assumption) ?_
        rotate_left
        · intro w hSw
          try dsimp only at hSw
          go_simp <;> with_reducible rfl
        (try simp only [Act.put, List.setIfInBounds_toArray, List.set_cons_zero, List.set_cons_succ])
        refine wpAnyH_take (i := 15) (v := ?_) (by simp only [List.getElem?_toArray, List.getElem?_cons_succ, List.getElem?_cons_zero] <;> rfl) (by kernel_rfl) (by kernel_rfl) (by kernel_rfl) (by exact fun _ _ _ h => h) (Or.inl ⟨by rfl, ?_⟩) (by assumption) ?_
        rotate_left
        · intro w hSw
          try dsimp only at hSw
          go_simp <;> with_reducible rfl
        (try simp only [Act.put, List.setIfInBounds_toArray, List.set_cons_zero, List.set_cons_succ])
        refine wpAnyH_take (i := 16) (v := ?_) (by simp only [List.getElem?_toArray, List.getElem?_cons_succ, List.getElem?_cons_zero] <;> rfl) (by kernel_rfl) (by kernel_rfl) (by kernel_rfl) (by exact fun _ _ _ h => h) (Or.inl ⟨by rfl, ?_⟩) (by assumption) ?_
        rotate_left
        · intro w hSw
          try dsimp only at hSw
          go_simp <;> with_reducible rfl
        (try simp only [Act.put, List.setIfInBounds_toArray, List.set_cons_zero, List.set_cons_succ])
        refine wpAnyH_take (i := 17) (v := ?_) (by simp only [List.getElem?_toArray, List.getElem?_cons_succ, List.getElem?_cons_zero] <;> rfl) (by kernel_rfl) (by kernel_rfl) (by kernel_rfl) (by exact fun _ _ _ h => h) (Or.inl ⟨by rfl, ?_⟩) (by assumption) ?_
        rotate_left
        · intro w hSw
          try dsimp only at hSw
          go_simp <;> with_reducible rfl
        (try simp only [Act.put, List.setIfInBounds_toArray, List.set_cons_zero, List.set_cons_succ])
        have F45 := (Fr.refl F0 w4).alloc (.cells [.bool ans].toArray 4)
        refine wpAnyH_ready (rs := [18]) (by kernel_rfl) (by simp) ?_
        refine AllReadyH.cons (by simp only [List.getElem?_toArray, List.getElem?_cons_succ, List.getElem?_cons_zero] <;> rfl) (fun KK hKK => ?_) AllReadyH.nil
        go_simp
        refine hKK.out _ _ (sh.out _ ((Fr.refl F0 w4).alloc _)) (fun hHeld => ?_)
        clear hKK KK
        (try simp only [Act.put, List.setIfInBounds_toArray, List.set_cons_zero, List.set_cons_succ])
        have lit := Own.rd (Own.lit (w := w4) (B := 0) (T := 4) [.bool ans] 1 rfl (Nat.zero_le _) (by omega))
        have H8 := (HOA.out.fr0 F34.out).fr0 F45
        have sh8 := fun (W : World) (F : Fr F0 (w4.alloc (.cells [.bool ans].toArray 4)) W) => sh.out W (F45.trans0 F)
        obtain ⟨w5, hw5⟩ : ∃ W, W = w4.alloc (.cells [.bool ans].toArray 4) := ⟨_, rfl⟩
        obtain ⟨g5, hg5⟩ : ∃ g, g = w4.heap.size := ⟨_, rfl⟩
        change wpAnyH _ _ _ _ _ _ _ _ (w4.alloc (.cells [.bool ans].toArray 4))
        rw [← hw5] at lit H8 F45 sh8 ⊢
        rw [← hg5] at lit ⊢
        replace H8 := Lib.hid H8; replace F45 := Lib.hid F45; replace sh8 := Lib.hid sh8; replace lit := Lib.hid lit
        clear hw5 hg5 hHeld
        have hHeld := sh8.out w5 (Fr.refl _ _)
        refine wpAnyH_ready (rs := [19]) (by kernel_rfl) (by simp) ?_
        refine AllReadyH.cons (by simp only [List.getElem?_toArray, List.getElem?_cons_succ, List.getElem?_cons_zero] <;> rfl) (fun KK hKK => ?_) AllReadyH.nil
        refine stepAppRd E25 (by rfl) (by rfl) (by rfl) (by rfl) H8.out lit.out (fun u hu => by simp at hu; subst hu; rfl) (by omega) (by omega) (by have := HW.out.size; have := F34.out.size; have := F45.out.size; omega) (kA + 1) rfl ?_
        intro a9 c9 w9 own9 fr9 at9
        have nx : ∀ k, onBlk aA k → k ≠ b ∧ k ≠ b3 := fun k hk => ⟨fun e => nbA.out b o rfl (e ▸ hk), fun e => by have h1 := hsz.out.2.1 b3 ((onBlk_some _ _ _ _).2 rfl); have h2 := hsz.out.2.2.1 k hk; omega⟩
        have s9 : (fun w' : World => w'.cell? ⟨b, o + i * 3 + 1, none⟩ = some (.int .i64 (va : Int)) ∧ w'.cell? ⟨b, o + i * 3 + 2, none⟩ = some (.int .i64 (vb : Int)) ∧ w'.cell? ⟨b3, o3 + va, none⟩ = some (.int .i64 (pa : Int)) ∧ w'.cell? ⟨b3, o3 + vb, none⟩ = some (.int .i64 (pb : Int))) w9 := ⟨fr9.cell hHeld.1 (fun h => (nx b h).1 rfl), fr9.cell hHeld.2.1 (fun h => (nx b h).1 rfl), fr9.cell hHeld.2.2.1 (fun h => (nx b3 h).2 rfl), fr9.cell hHeld.2.2.2 (fun h => (nx b3 h).2 rfl)⟩
        refine hKK.out _ _ s9 (fun hHeld2 => ?_)
        clear hKK KK
        (try simp only [Act.put, List.setIfInBounds_toArray, List.set_cons_zero, List.set_cons_succ])
        have HO9 := Lib.hid own9
        have G39 : Hid (Fr (onBlk aA) w3 w9) := Lib.hid (((F34.out.trans0 F45.out).mono (fun _ _ h => h.elim)).trans fr9 (fun _ _ h => h))
        have at9' : ∀ k, onBlk a9 k → onBlk aA k ∨ w3.heap.size ≤ k := fun k hk => (at9 k hk).imp id (fun h => Nat.le_trans (Nat.le_trans F34.out.size F45.out.size) h)
        have HA9 := Lib.hid at9'
        have HC9 := Lib.hid (HOC.out.fr G39.out (fun k hk h => HAp.out k h hk))
        have HE9 := Lib.hid (OwnZ.fr HO23.out G39.out (fun k hk h => ndA.out k hk h))
        have HP9 := Lib.hid (HO3.out.fr G39.out (fun k hk h => by have h1 := hsz.out.2.1 k hk; have h2 := hsz.out.2.2.1 k h; omega))
        have HW9 := Lib.hid (HW.out.trans G39.out (fun k hk h => by have := (HOA.out.blk k h).1; omega))
        have HAp9 : Hid (Apart a9 aC) := Lib.hid (fun k hk h => (HA9.out k hk).elim (fun h1 => HAp.out k h1 h) (fun h1 => by have := hsz.out; have := hsz.out.2.2.2 k h; omega))
        clear own9 fr9 at9 at9' nx s9 lit H8 sh8 F45 F34 sh hHeld
        have hHeld := hHeld2
        refine wpAnyH_take (i := 20) (v := ?_) (by simp only [List.getElem?_toArray, List.getElem?_cons_succ, List.getElem?_cons_zero] <;> rfl) (by kernel_rfl) (by kernel_rfl) (by kernel_rfl) (by exact fun _ _ _ h => h) (Or.inl ⟨by rfl, ?_⟩) (by assumption) ?_
        rotate_left
        · intro w hSw
          try dsimp only at hSw
          go_simp <;> with_reducible rfl
        (try simp only [Act.put, List.setIfInBounds_toArray, List.set_cons_zero, List.set_cons_succ])
        refine wpAnyH_done (by kernel_rfl) ?_ _
        clear hHeld hHeld2 x0 x1 x2 ca cb
        have HCt := Lib.hid (refCount_any (c := c3) HP9.out.rd hn)
        go_wp2_with fail
        refine HCt.out.mono ?_
        rintro e w7 ⟨rfl, rfl⟩
        obtain ⟨cn, hcn⟩ : ∃ c, c = cntP (foldP n E') := ⟨_, rfl⟩
        rw [← hcn]
        have Hcn := Lib.hid hcn
        clear hcn HCt
        go_wp2_with (at_builtin; refine wpAppAt E3 HC9.out (by omega) (by omega) HW9.out.size (u := .int .i64 (cn : Int)) rfl rfl rfl ?_; intro aX cX wX ownX frX atX; have HOX := Lib.hid ownX; have HFX := Lib.hid frX; have HAX := Lib.hid atX; clear ownX frX atX)
        go_roundw
        case rel =>
          refine ⟨i + 1, (kA + 1), k2, a9, c9, aX, cX, a2, c2, by omega, by omega, ?_, by go_num, rfl, rfl, rfl, Lib.hid ⟨?_, ?_⟩, Lib.hid ⟨?_, ?_, ?_, ?_, ?_, ?_⟩⟩
          · exact hk2le.out
          · rw [HA1.out.1, HAns.out, List.length_append, ← HK.out.1]; rfl
          · rw [HA1.out.2.2]; exact Hk2.out
          · rw [HA1.out.1, HAns.out]; unfold bls; rw [List.map_append]; exact HO9.out.fr HFX.out HAp9.out
          · rw [HA1.out.2.1, nv_app, ← Hcn.out]; exact HOX.out
          · rw [HA1.out.2.2]; exact OwnZ.fr HE9.out HFX.out (fun k hk h => ndC.out k hk h)
          · exact fun k hk h => (HAX.out k h).elim (fun h1 => HAp9.out k hk h1) (fun h1 => by have := (HO9.out.blk k hk).2; omega)
          · exact HW9.out.trans HFX.out (fun k hk h => by have := (HC9.out.blk k h).1; omega)
          · intro j hj
            have hj2 := (OwnZ.blk HO2.out j hj).2
            have hj3 := HF23.out.size
            refine ⟨fun h => (HA9.out j h).elim (fun h1 => ndA.out j hj h1) (fun h1 => by omega), fun h => (HAX.out j h).elim (fun h1 => ndC.out j hj h1) (fun h1 => by have := G39.out.size; omega)⟩
        case measure => simp [intOf]; omega
      · have k3 : (K == 3) = false := by simpa using g3
        have HLf : Hid (leafA l (foldP n E') i = []) := Lib.hid (by rw [hleaf.out, if_neg g3])
        clear g3
        have HCt := Lib.hid (refCount_any (c := c3) HO3.out.rd hn)
        go_wp2_with fail
        refine HCt.out.mono ?_
        rintro e w7 ⟨rfl, rfl⟩
        obtain ⟨cn, hcn⟩ : ∃ c, c = cntP (foldP n E') := ⟨_, rfl⟩
        rw [← hcn]
        have Hcn := Lib.hid hcn
        clear hcn HCt
        go_wp2_with (at_builtin; refine wpAppAt E3 HOC.out (by omega) (by omega) HW.out.size (u := .int .i64 (cn : Int)) rfl rfl rfl ?_; intro aX cX wX ownX frX atX; have HOX := Lib.hid ownX; have HFX := Lib.hid frX; have HAX := Lib.hid atX; clear ownX frX atX)
        go_roundw
        case rel =>
          refine ⟨i + 1, kA, k2, aA, cA, aX, cX, a2, c2, by omega, by omega, ?_, by go_num, rfl, rfl, rfl, Lib.hid ⟨?_, ?_⟩, Lib.hid ⟨?_, ?_, ?_, ?_, ?_, ?_⟩⟩
          · exact hk2le.out
          · rw [HA1.out.1, HLf.out, List.length_append, ← HK.out.1]; rfl
          · rw [HA1.out.2.2]; exact Hk2.out
          · rw [HA1.out.1, HLf.out]; rw [List.append_nil]; exact HOA.out.fr HFX.out HAp.out
          · rw [HA1.out.2.1, nv_app, ← Hcn.out]; exact HOX.out
          · rw [HA1.out.2.2]; exact OwnZ.fr HO23.out HFX.out (fun k hk h => ndC.out k hk h)
          · exact fun k hk h => (HAX.out k h).elim (fun h1 => HAp.out k hk h1) (fun h1 => by have := (HOA.out.blk k hk).2; omega)
          · exact HW.out.trans HFX.out (fun k hk h => by have := (HOC.out.blk k h).1; omega)
          · intro j hj
            have hj2 := (OwnZ.blk HO2.out j hj).2
            have hj3 := HF23.out.size
            exact ⟨ndA.out j hj, fun h => (HAX.out j h).elim (fun h1 => ndC.out j hj h1) (fun h1 => by omega)⟩
        case measure => simp [intOf]; omega
    · obtain rfl : N = i := by omega
      go_wp2_with fail
      go_ret2
      have h := HK.out.1
      subst h
      exact ⟨aA, cA, aC, cC, rfl, H.out.1.mono (Nat.zero_le _), H.out.2.1.mono (Nat.zero_le _), H.out.2.2.2.2.1⟩
end Go.Proofs.Ytihcaemheknjbaa
