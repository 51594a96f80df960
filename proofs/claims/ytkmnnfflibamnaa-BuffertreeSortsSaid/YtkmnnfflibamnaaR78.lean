/- Common texts of this seat, one behind another. -/
import Derived.Test.YtkmnnfflibamnaaG289
import Derived.BigQuiet
import Derived.Test.YtkmnnfflibamnaaG30c
import Derived.Test.YtkmnnfflibamnaaR1
/- Buffer trees: the reference's sorted list. -/
namespace Go.Proofs.Ytkmnnfflibamnaa
open Go.RowKit
attribute [local go_sem ↓] Go.wp_at_zero Go.wp_at_succ
/-- The first i elements ascend, but the one at k may be too small. -/
def OrdK (xs : List Int) (i k : Nat) : Prop := ∀ p q x y, p < q → q < i → q ≠ k → xs[p]? = some x → xs[q]? = some y → x ≤ y
theorem OrdK.swap {xs : List Int} {i k : Nat} {x y : Int} (h : OrdK xs i (k + 1)) (hk : k + 1 < i) (hx : xs[k]? = some x) (hy : xs[k + 1]? = some y) (hlt : y < x) : OrdK ((xs.set (k + 1) x).set k y) i k := by
  have hk1 := (List.getElem?_eq_some_iff.1 hx).1
  have hk2 := (List.getElem?_eq_some_iff.1 hy).1
  have g : ∀ p, ((xs.set (k + 1) x).set k y)[p]? = if p = k then some y else if p = k + 1 then some x else xs[p]? := fun p => by
    rw [List.getElem?_set, List.getElem?_set, List.length_set]
    by_cases c1 : k = p
    · subst c1; rw [if_pos rfl, if_pos hk1, if_pos rfl]
    · rw [if_neg c1, if_neg (Ne.symm c1)]
      by_cases c2 : k + 1 = p
      · subst c2; rw [if_pos rfl, if_pos hk2, if_pos rfl]
      · rw [if_neg c2, if_neg (Ne.symm c2)]
  intro p q a b hpq hq hqk ha hb
  rw [g] at ha hb
  rw [if_neg hqk] at hb
  by_cases c1 : p = k
  · rw [if_pos c1] at ha; injection ha with ha
    by_cases c2 : q = k + 1
    · rw [if_pos c2] at hb; injection hb with hb; omega
    · rw [if_neg c2] at hb
      have := h (k + 1) q y b (by omega) hq c2 hy hb
      omega
  · rw [if_neg c1] at ha
    by_cases c3 : p = k + 1
    · rw [if_pos c3] at ha; injection ha with ha
      rw [if_neg (by omega)] at hb
      have := h k q x b (by omega) hq (by omega) hx hb
      omega
    · rw [if_neg c3] at ha
      by_cases c2 : q = k + 1
      · rw [if_pos c2] at hb; injection hb with hb
        have := h p k a x (by omega) (by omega) (by omega) ha hx
        omega
      · rw [if_neg c2] at hb
        exact h p q a b hpq hq c2 ha hb
theorem OrdK.done {xs : List Int} {i k : Nat} (h : OrdK xs i k) (hd : k = 0 ∨ ∃ x y, xs[k - 1]? = some x ∧ xs[k]? = some y ∧ ¬ y < x) (k' : Nat) : OrdK xs i k' := by
  intro p q a b hpq hq _ ha hb
  by_cases c : q = k
  · subst c
    rcases hd with e | ⟨x, y, hx, hy, hlt⟩
    · omega
    · rw [hb] at hy; injection hy with hy
      by_cases c2 : p = q - 1
      · subst c2; rw [ha] at hx; injection hx with hx; omega
      · have := h p (q - 1) a x (by omega) (by omega) (by omega) ha hx
        omega
  · exact h p q a b hpq hq c ha hb
theorem OrdK.next {xs : List Int} {i : Nat} {k : Nat} (h : OrdK xs i k) (hk : i ≤ k) : OrdK xs (i + 1) i := fun p q a b hpq hq hqi ha hb => h p q a b hpq (by omega) (by omega) ha hb
theorem OrdK.pw {xs : List Int} {k : Nat} (h : OrdK xs xs.length k) (hk : xs.length ≤ k) : xs.Pairwise (· ≤ ·) := by
  rw [List.pairwise_iff_getElem]
  intro p q hp hq hpq
  exact h p q _ _ hpq hq (by omega) (List.getElem?_eq_getElem hp) (List.getElem?_eq_getElem hq)
theorem swap_perm {xs : List Int} {k : Nat} {x y : Int} (hx : xs[k]? = some x) (hy : xs[k + 1]? = some y) : ((xs.set (k + 1) x).set k y).Perm xs := by
  obtain ⟨h1, rfl⟩ := List.getElem?_eq_some_iff.1 hx
  obtain ⟨h2, rfl⟩ := List.getElem?_eq_some_iff.1 hy
  exact List.set_set_perm h2 h1
set_option maxRecDepth 100000 in
set_option maxHeartbeats 4000000 in
theorem rsorted_any {w : World} {a : Option Addr} {n c : Nat} {l : List Int} (h : Rd w a n (ints l)) (hn : n ≤ 100000) :
    Calls Try.prog 47 #[.slice a n c] w fun e w' => ∃ a' c' ys, e = .returned (.slice a' n c') ∧ ys.Perm l ∧ ys.Pairwise (· ≤ ·) ∧ Rd w' a' n (ints ys) ∧ (∀ k, onBlk a' k → w.heap.size ≤ k) ∧ Fr F0 w w' := by
  have hll : l.length = n := by have := h.len; simpa using this
  have HR := Lib.hid h
  have Hl := Lib.hid hll
  clear h hll
  go_enter Try.func47, Try.ntmps47
  go_wp2_with (at_builtin; refine wpAppRd E3 (Own.lit (B := w.heap.size) (T := 3) [] 0 rfl (Nat.le_refl _) (by omega)) (HR.out.fr0 ((Fr.refl F0 w).alloc _)) (oneCell_ints _) (by omega) (by omega) (by simp) n (by omega) (by rfl) (by rfl) ?_; intro a1 c1 w1 own1 fr1 at1; have X1 : Hid (Own w1 w.heap.size 3 a1 n c1 (ints l) ∧ Fr F0 w w1) := Lib.hid ⟨own1, ((Fr.refl F0 w).alloc (.cells #[] 3)).trans fr1 (fun k hk hs => by have := (onBlk_some _ _ _ _).1 hs; omega)⟩; clear own1 fr1 at1)
  go_loopw [4, 5] (fun s4 s5 wr => ∃ (i : Nat) (xs : List Int), 1 ≤ i ∧ i ≤ n + 1 ∧ s4 = .int .i64 (i : Int) ∧ Hid (xs.Perm l ∧ OrdK xs i i ∧ Own wr w.heap.size 3 a1 n c1 (ints xs) ∧ Fr F0 w wr)) (fun s4 _ _ => n + 1 - (intOf s4).toNat)
  case atStart => exact ⟨1, l, Nat.le_refl _, by omega, rfl, Lib.hid ⟨List.Perm.refl _, fun p q a b hpq hq _ _ _ => by omega, X1.out⟩⟩
  case round =>
    obtain ⟨i, xs, hi1, hi, rfl, H⟩ := hrel
    by_cases hlt : i < n
    · have hlt' : (i : Int) < (n : Int) := by omega
      obtain ⟨g, rfl, _⟩ := Own.at H.out.2.2.1 (by omega)
      go_wp2_with fail
      go_loopw [5] (fun s5 wr => ∃ (k : Nat) (xs : List Int), k ≤ i ∧ s5 = .int .i64 (k : Int) ∧ Hid (xs.Perm l ∧ OrdK xs (i + 1) k ∧ Own wr w.heap.size 3 (some ⟨g, 0, none⟩) n c1 (ints xs) ∧ Fr F0 w wr)) (fun s5 _ => (intOf s5).toNat)
      case atStart => exact ⟨i, xs, Nat.le_refl _, rfl, Lib.hid ⟨H.out.1, H.out.2.1.next (Nat.le_refl _), H.out.2.2⟩⟩
      case round =>
        obtain ⟨k, xs, hk, rfl, H⟩ := hrel
        have hxl : xs.length = n := by have := H.out.1.length_eq; have := Hl.out; omega
        obtain ⟨g2, e2, _, _, hcell, hfree⟩ := Own.at H.out.2.2.1 (by omega)
        injection e2 with e2; injection e2 with e2
        subst e2
        by_cases hk0 : 0 < k
        · obtain ⟨j, rfl⟩ : ∃ j, k = j + 1 := ⟨k - 1, by omega⟩
          obtain ⟨x, hx⟩ : ∃ x, xs[j]? = some x := ⟨_, List.getElem?_eq_getElem (by omega)⟩
          obtain ⟨y, hy⟩ : ∃ y, xs[j + 1]? = some y := ⟨_, List.getElem?_eq_getElem (by omega)⟩
          have d0 := hcell j (.int .i64 x) (by simp [ints, hx])
          have d1 := hcell (j + 1) (.int .i64 y) (by simp [ints, hy])
          have ej : ((j + 1 : Nat) : Int) - 1 = (j : Int) := by omega
          have hj0 : 0 < ((j + 1 : Nat) : Int) := by omega
          have HXY := Lib.hid (And.intro hx hy)
          have hjn : ((j + 1 : Nat) : Int) < (n : Int) := by omega
          have hjn2 : (j : Int) < (n : Int) := by omega
          clear hx hy hcell
          rcases Int.lt_or_le y x with hyx | hyx
          · go_wp2_with fail
            go_quiet (fail)
            have HQ : Hid (Own (World.drewN wr nq) w.heap.size 3 (some ⟨g, 0, none⟩) n c1 (ints xs) ∧ Fr F0 w (World.drewN wr nq)) := Lib.hid ⟨H.out.2.2.1.fr0 ((Fr.refl F0 _).drewN nq), H.out.2.2.2.drewN nq⟩
            generalize World.drewN wr nq = wq at *
            clear d0 d1 hfree
            obtain ⟨g2, e2, _, _, hcell, hfree⟩ := Own.at HQ.out.1 (by omega)
            injection e2 with e2; injection e2 with e2
            subst e2
            have d0 := hcell j (.int .i64 x) (by simp [ints, HXY.out.1])
            have d1 := hcell (j + 1) (.int .i64 y) (by simp [ints, HXY.out.2])
            clear hcell
            go_wp2_with fail
            go_region
            have X8 : Hid (Own ((wq.setCell ⟨g, j + 1, none⟩ (.int .i64 x)).setCell ⟨g, j, none⟩ (.int .i64 y)) w.heap.size 3 (some ⟨g, 0, none⟩) n c1 (ints ((xs.set (j + 1) x).set j y)) ∧ Fr F0 w ((wq.setCell ⟨g, j + 1, none⟩ (.int .i64 x)).setCell ⟨g, j, none⟩ (.int .i64 y))) := Lib.hid ⟨by
              have h1 := Own.set (i := j) (Own.set (i := j + 1) HQ.out.1 (.int .i64 x)) (.int .i64 y)
              have e : ints ((xs.set (j + 1) x).set j y) = ((ints xs).set (j + 1) (.int .i64 x)).set j (.int .i64 y) := by unfold ints; rw [List.map_set, List.map_set]
              rw [e]; exact h1, HQ.out.2.trans (Fr.setCell (S := fun k => k = g) (Fr.setCell (S := fun k => k = g) (Fr.refl _ wq) (fun _ => rfl) _) (fun _ => rfl) _) (fun k hk hs => by
              have h1 := (HQ.out.1.blk g ((onBlk_some _ _ _ _).2 rfl)).1
              rw [hs] at hk; omega)⟩
            go_wp2_with fail
            go_roundw
            case rel => exact ⟨j, (xs.set (j + 1) x).set j y, by omega, by go_num, Lib.hid ⟨(swap_perm HXY.out.1 HXY.out.2).trans H.out.1, H.out.2.1.swap (by omega) HXY.out.1 HXY.out.2 hyx, X8.out.1.fr0 ((Fr.refl F0 _).drew), X8.out.2.drew⟩⟩
            case measure => simp [intOf] <;> omega
          · go_wp2_with fail
            go_quiet (fail)
            have HF : Hid (OrdK xs (i + 1) (i + 1) ∧ Own (World.drewN wr nq) w.heap.size 3 (some ⟨g, 0, none⟩) n c1 (ints xs) ∧ Fr F0 w (World.drewN wr nq)) := Lib.hid ⟨H.out.2.1.done (.inr ⟨x, y, HXY.out.1, HXY.out.2, Int.not_lt.2 hyx⟩) _, H.out.2.2.1.fr0 ((Fr.refl F0 _).drewN nq), H.out.2.2.2.drewN nq⟩
            generalize World.drewN wr nq = wq at *
            go_wp2_with fail
            go_roundw
            case rel => exact ⟨i + 1, xs, by omega, by omega, by go_num, Lib.hid ⟨H.out.1, HF.out⟩⟩
            case measure => simp [intOf] <;> omega
        · obtain rfl : k = 0 := by omega
          go_wp2_with fail
          go_quiet (fail)
          have HF : Hid (OrdK xs (i + 1) (i + 1) ∧ Own (World.drewN wr nq) w.heap.size 3 (some ⟨g, 0, none⟩) n c1 (ints xs) ∧ Fr F0 w (World.drewN wr nq)) := Lib.hid ⟨H.out.2.1.done (.inl rfl) _, H.out.2.2.1.fr0 ((Fr.refl F0 _).drewN nq), H.out.2.2.2.drewN nq⟩
          generalize World.drewN wr nq = wq at *
          go_wp2_with fail
          go_roundw
          case rel => exact ⟨i + 1, xs, by omega, by omega, by go_num, Lib.hid ⟨H.out.1, HF.out⟩⟩
          case measure => simp [intOf] <;> omega
    · have hin : ¬ (i : Int) < (n : Int) := by omega
      go_wp2_with fail
      go_ret
      refine ⟨a1, ⟨c1, rfl⟩, xs, H.out.1, ?_, H.out.2.2.1.rd, fun k hk => (H.out.2.2.1.blk k hk).1, H.out.2.2.2⟩
      have hxl : xs.length = n := by have := H.out.1.length_eq; have := Hl.out; omega
      refine OrdK.pw (k := i) ?_ (by omega)
      exact fun p q x y hpq hq hqi hx hy => H.out.2.1 p q x y hpq (by omega) hqi hx hy
end Go.Proofs.Ytkmnnfflibamnaa
/- Buffer trees: Sort of the reference. -/
namespace Go.Proofs.Ytkmnnfflibamnaa
open Go.RowKit
attribute [local go_sem ↓] Go.wp_at_zero Go.wp_at_succ
theorem rsort_bad (a : Option Addr) (n c : Nat) (b m : Int) (w : World) (h : szB b m = false) :
    Calls Try.prog 21 #[.slice a n c, .int .i64 b, .int .i64 m] w fun e w' => e = .returned (.tuple #[.slice none 0 0, .int .i64 0, .int .i64 2]) ∧ Fr F0 w w' := by
  have HS := Lib.hid (fun w => Sizes_any b m w)
  rw [h] at HS
  clear h
  go_enter Try.func21, Try.ntmps21
  go_wp2_with (go_at_call 11; refine (HS.out _).mono ?_; rintro e w1 ⟨rfl, rfl⟩)
  go_ret3
  exact ⟨rfl, Fr.refl _ _⟩
theorem rsort_many (a : Option Addr) (n c : Nat) (b m : Int) (w : World) (h : szB b m = true) (hn : 4096 < n) :
    Calls Try.prog 21 #[.slice a n c, .int .i64 b, .int .i64 m] w fun e w' => e = .returned (.tuple #[.slice none 0 0, .int .i64 0, .int .i64 4]) ∧ Fr F0 w w' := by
  have HS := Lib.hid (fun w => Sizes_any b m w)
  rw [h] at HS
  have hn' : 4096 < (n : Int) := by omega
  clear h
  go_enter Try.func21, Try.ntmps21
  go_wp2_with (go_at_call 11; refine (HS.out _).mono ?_; rintro e w1 ⟨rfl, rfl⟩)
  go_ret3
  exact ⟨rfl, Fr.refl _ _⟩
/-- The number of elements in a cell. -/
def rnQ (o : Option Value) : Nat := match o with | some (.slice _ n _) => n | _ => 0
/-- Numbers of a list as values. -/
def nts (ls : List Nat) : List Value := ls.map (fun n : Nat => .int .i64 (n : Int))
theorem nts_one (ls : List Nat) : ∀ u ∈ nts ls, u.oneCell' = true := by
  intro u hu
  obtain ⟨_, _, rfl⟩ := List.mem_map.1 hu
  rfl
theorem nts_snoc (ls : List Nat) (n : Nat) : nts (ls ++ [n]) = nts ls ++ [.int .i64 (n : Int)] := by unfold nts; rw [List.map_append]; rfl
theorem Own.nat {w : World} {B : Nat} {a : Option Addr} {n c : Nat} {ls : List Nat} (h : Own w B 3 a n c (nts ls)) {i : Nat} {x : Nat} (hx : ls[i]? = some x) : ∃ g, a = some ⟨g, 0, none⟩ ∧ w.cell? ⟨g, i, none⟩ = some (.int .i64 (x : Int)) := by
  have hl := h.len
  unfold nts at hl
  rw [List.length_map] at hl
  have hi := (List.getElem?_eq_some_iff.1 hx).1
  obtain ⟨g, hg, _, _, hc, _⟩ := Own.at h (by omega)
  exact ⟨g, hg, hc i _ (by unfold nts; rw [List.getElem?_map, hx]; rfl)⟩
theorem sum_get {ls : List Nat} {i x : Nat} (h : ls[i]? = some x) : x ≤ ls.sum := by
  have e : ls.sum = (ls.take (i + 1)).sum + (ls.drop (i + 1)).sum := by rw [← List.sum_append, List.take_append_drop]
  have e2 : (ls.take (i + 1)).sum = (ls.take i).sum + x := by rw [List.take_add_one, h, List.sum_append]; simp
  omega
theorem cstL_take {B : Nat} {ls : List Nat} {i x : Nat} (h : ls[i]? = some x) : cstL B (ls.take (i + 1)) = cstL B (ls.take i) + cnt B x := by
  rw [List.take_add_one, h, cstL_app]
  unfold cstL; simp
theorem sum_takeL (ls : List Nat) (i : Nat) : (ls.take i).sum ≤ ls.sum := by
  have e : ls.sum = (ls.take i).sum + (ls.drop i).sum := by rw [← List.sum_append, List.take_append_drop]
  omega
/-- The first chunks' lengths. -/
def chT (len m j : Nat) : List Nat := (List.range j).map (chl len m)
theorem chT_succ (len m j : Nat) : chT len m (j + 1) = chT len m j ++ [chl len m j] := by unfold chT; rw [List.range_succ, List.map_append]; rfl
/-- The first sums of a round. -/
def rdT (F : Nat) (ls : List Nat) (j : Nat) : List Nat := (List.range j).map fun t => (chnk ls F t).sum
theorem rdT_succ (F : Nat) (ls : List Nat) (j : Nat) : rdT F ls (j + 1) = rdT F ls j ++ [(chnk ls F j).sum] := by unfold rdT; rw [List.range_succ, List.map_append]; rfl
theorem rdT_sum (F : Nat) (ls : List Nat) : ∀ j, (rdT F ls j).sum = (ls.take (j * F)).sum
  | 0 => by simp [rdT]
  | j + 1 => by
    rw [rdT_succ, List.sum_append, rdT_sum F ls j, Nat.succ_mul, List.take_add, List.sum_append]
    simp [chnk]
theorem take_chnk (ls : List Nat) (F j : Nat) : ls.take ((j + 1) * F) = ls.take (j * F) ++ chnk ls F j := by rw [Nat.succ_mul, List.take_add]; rfl
set_option maxRecDepth 100000 in
set_option maxHeartbeats 8000000 in
theorem rsort_any {w : World} {a : Option Addr} {n c B M : Nat} {l : List Int} (h : Rd w a n (ints l)) (hn : n ≤ 4096) (hB : 1 ≤ B ∧ B ≤ 64) (hM : 2 * B ≤ M ∧ M ≤ 1000) :
    Calls Try.prog 21 #[.slice a n c, .int .i64 (B : Int), .int .i64 (M : Int)] w fun e w' => ∃ a' c' ys, e = .returned (.tuple #[.slice a' n c', .int .i64 (srtN B (fanN B M) M n : Int), .int .i64 0]) ∧ ys.Perm l ∧ ys.Pairwise (· ≤ ·) ∧ Rd w' a' n (ints ys) ∧ Fr F0 w w' := by
  have hsz : szB (B : Int) (M : Int) = true := szB_iff.2 (by omega)
  have HS := Lib.hid (fun w => Sizes_any (B : Int) (M : Int) w)
  rw [hsz] at HS
  have HC := Lib.hid (fun n W (hn : n ≤ 1000000) => Count_still (n := n) (W := W) hB hn)
  have HFn := Lib.hid (fun W => Fan_any B M W hB hM)
  have hF2 : 2 ≤ fanN B M := Nat.le_max_left _ _
  have hF3 : fanN B M ≤ 1000 := by unfold fanN; have := Nat.div_le_self M B; omega
  have HSt : Hid (∀ W, Fr F0 w W → _) := Lib.hid (fun W F => rsorted_any (w := W) (c := c) (h.fr0 F) (by omega))
  have hn4 : ¬ 4096 < (n : Int) := by omega
  have hM0 : 0 < M := by omega
  have HB := Lib.hid hB
  obtain ⟨R, hR⟩ : ∃ R, R = srtN B (fanN B M) M n := ⟨_, rfl⟩
  have HRs : Hid (sortF B (fanN B M) (nch n M) (chL n M) (2 * cstL B (chL n M)) = R) := Lib.hid hR.symm
  rw [← hR]
  obtain ⟨F, hFd⟩ : ∃ F, F = fanN B M := ⟨_, rfl⟩
  rw [← hFd] at HFn hF2 hF3 HRs
  clear hR hFd hsz h
  go_enter Try.func21, Try.ntmps21
  go_wp2_with (go_at_call 11; refine (HS.out _).mono ?_; rintro e w1 ⟨rfl, rfl⟩)
  go_loopw [9, 10] (fun s9 s10 wr => ∃ (j : Nat) (a1 : Option Addr) (k1 c1 : Nat), j ≤ nch n M ∧ k1 = j ∧ s10 = .int .i64 ((n : Int) - (j : Int) * (M : Int)) ∧ s9 = .slice a1 k1 c1 ∧ Hid (Own wr w.heap.size 3 a1 k1 c1 (nts (chT n M j)) ∧ Fr F0 w wr)) (fun s9 _ _ => nch n M - rnQ (some s9))
  case atStart => exact ⟨0, none, 0, 0, Nat.zero_le _, rfl, by go_num, rfl, Lib.hid (show Own w w.heap.size 3 none 0 0 [] ∧ Fr F0 w w from ⟨Own.nil _ _ _, Fr.refl _ _⟩)⟩
  case round =>
    obtain ⟨j, a1, k1, c1, hj, hk1, rfl, rfl, H⟩ := hrel
    subst hk1
    obtain ⟨z, hz⟩ : ∃ z : Int, z = (n : Int) - (k1 : Int) * (M : Int) := ⟨_, rfl⟩
    have hcd : 0 < z ↔ k1 < nch n M := by
      rw [nch_lt hM0, hz]
      constructor
      · intro h; have : ((k1 * M : Nat) : Int) < (n : Int) := by rw [Int.natCast_mul]; omega
        omega
      · intro h; have : ((k1 * M : Nat) : Int) < (n : Int) := by omega
        rw [Int.natCast_mul] at this; omega
    have hzn : (n : Int) - ((k1 + 1 : Nat) : Int) * (M : Int) = z - (M : Int) := by
      rw [hz]
      have : ((k1 + 1 : Nat) : Int) = (k1 : Int) + 1 := by omega
      rw [this, Int.add_mul, Int.one_mul]; omega
    have hzl : z ≤ 4096 := by
      have h0 : 0 ≤ (k1 : Int) * (M : Int) := by rw [← Int.natCast_mul]; omega
      omega
    have Hz := Lib.hid (And.intro hz hzn)
    rw [← hz]
    have HBw : Hid (w.heap.size ≤ wr.heap.size) := Lib.hid H.out.2.size
    have hk1n : k1 ≤ 4096 := by
      rcases Nat.eq_zero_or_pos k1 with c | c
      · omega
      · have h1 : k1 - 1 < nch n M := by omega
        rw [nch_lt hM0] at h1
        have h2 : k1 - 1 ≤ (k1 - 1) * M := Nat.le_mul_of_pos_right _ hM0
        omega
    clear hz hzn
    by_cases hz0 : 0 < z
    · have hjn := hcd.1 hz0
      obtain ⟨v, hv, hvc⟩ : ∃ v : Nat, v = chl n M k1 ∧ (if (M : Int) < z then (v : Int) = (M : Int) else (v : Int) = z) := by
        refine ⟨_, rfl, ?_⟩
        have h1 := (nch_lt hM0).1 hjn
        have h2 : ((k1 * M : Nat) : Int) = (k1 : Int) * (M : Int) := Int.natCast_mul _ _
        have h3 := Hz.out.1
        unfold chl
        split <;> omega
      have Hv := Lib.hid hv
      clear hcd hv
      by_cases hMz : (M : Int) < z
      · rw [if_pos hMz] at hvc
        go_wp2_with (at_builtin; refine wpAppAt E3 H.out.1 (by omega) (by omega) HBw.out (u := .int .i64 (M : Int)) rfl (by rfl) (by rfl) ?_; intro a2 c2 w2 own2 fr2 at2; have X2 := Lib.hid (And.intro own2 fr2); clear own2 fr2 at2)
        go_roundw
        case rel => exact ⟨k1 + 1, a2, k1 + 1, c2, by omega, rfl, congrArg (Value.int .i64) Hz.out.2.symm, rfl, Lib.hid ⟨by rw [chT_succ, nts_snoc, ← Hv.out, hvc]; exact X2.out.1, H.out.2.trans X2.out.2 (fun k hk hs => by have := (H.out.1.blk k hs).1; omega)⟩⟩
        case measure => show nch n M - (k1 + 1) < nch n M - k1; omega
      · rw [if_neg hMz] at hvc
        go_wp2_with (at_builtin; refine wpAppAt E3 H.out.1 (by omega) (by omega) HBw.out (u := .int .i64 z) rfl (by rfl) (by rfl) ?_; intro a2 c2 w2 own2 fr2 at2; have X2 := Lib.hid (And.intro own2 fr2); clear own2 fr2 at2)
        go_roundw
        case rel => exact ⟨k1 + 1, a2, k1 + 1, c2, by omega, rfl, congrArg (Value.int .i64) Hz.out.2.symm, rfl, Lib.hid ⟨by rw [chT_succ, nts_snoc, ← Hv.out, hvc]; exact X2.out.1, H.out.2.trans X2.out.2 (fun k hk hs => by have := (H.out.1.blk k hs).1; omega)⟩⟩
        case measure => show nch n M - (k1 + 1) < nch n M - k1; omega
    · have hjn : k1 = nch n M := by
        have : ¬ k1 < nch n M := fun h => hz0 (hcd.2 h)
        omega
      obtain ⟨ls, hls⟩ : ∃ ls, ls = chL n M := ⟨_, rfl⟩
      have H1 : Hid (Own wr w.heap.size 3 a1 k1 c1 (nts ls)) := Lib.hid (by have := H.out.1; rw [hls]; rw [hjn] at this ⊢; exact this)
      have hlk : ls.length = k1 := by rw [hls, hjn]; unfold chL; simp
      have hsum : ls.sum = n := by rw [hls]; exact chL_sum hM0
      have HR1 : Hid (sortF B F k1 ls (2 * cstL B ls) = R) := Lib.hid (by rw [hls, hjn]; exact HRs.out)
      have Hfr := Lib.hid H.out.2
      have Hlk := Lib.hid (And.intro hlk hsum)
      clear hls H hcd hlk hsum hjn Hz HRs hj
      go_wp2_with fail
      go_loop [11, 12] (fun s11 s12 => ∃ (i b' : Nat), i ≤ k1 ∧ b' ≤ 8192 ∧ s12 = .int .i64 (i : Int) ∧ s11 = .int .i64 (b' : Int) ∧ Hid (b' = 2 * cstL B (ls.take i))) (fun _ s12 => k1 - (intOf s12).toNat)
      case atStart => exact ⟨0, 0, Nat.zero_le _, by omega, rfl, rfl, Lib.hid (by rw [List.take_zero]; rfl)⟩
      case round =>
        obtain ⟨i, b', hi, hb', rfl, rfl, Hb⟩ := hrel
        by_cases hik : i < k1
        · have hik' : (i : Int) < (k1 : Int) := by omega
          obtain ⟨x, hx⟩ : ∃ x, ls[i]? = some x := ⟨_, List.getElem?_eq_getElem (by have := Hlk.out.1; omega)⟩
          obtain ⟨g, rfl, d0⟩ := Own.nat H1.out hx
          have hxs := sum_get hx
          have hct := cstL_take (B := B) hx
          have hcl := cstL_le HB.out.1 (ls.take (i + 1))
          have hst := sum_takeL ls (i + 1)
          have hCx := HC.out x wr (by have := Hlk.out.2; omega)
          obtain ⟨cm, hcm⟩ : ∃ cm, cm = cnt B x := ⟨_, rfl⟩
          rw [← hcm] at hCx hct
          have hcm2 : cm ≤ 4096 := by rw [hcm]; have := cnt_le HB.out.1 x; have := Hlk.out.2; omega
          have hb2 : b' + 2 * cm ≤ 8192 := by have := Hb.out; have := Hlk.out.2; omega
          have HCt := Lib.hid hct
          have HCx := Lib.hid hCx
          clear hx hxs hct hcl hst hCx hcm
          go_wp2_with (go_at_call 19; refine HCx.out.mono ?_; rintro e w1 ⟨rfl, rfl⟩)
          go_round
          case rel => exact ⟨i + 1, b' + 2 * cm, by omega, hb2, by go_num, by go_num, Lib.hid (by rw [HCt.out, Hb.out]; omega)⟩
          case measure => simp [intOf] <;> omega
        · obtain rfl : k1 = i := by omega
          have hbF : b' = 2 * cstL B ls := by have := Hb.out; rw [List.take_of_length_le (by rw [Hlk.out.1]; exact Nat.le_refl _)] at this; exact this
          have HR2 : Hid (sortF B F k1 ls b' = R) := Lib.hid (by rw [hbF]; exact HR1.out)
          clear Hb hbF HR1
          go_upto_region 18 with (go_at_call 46; refine (HFn.out _).mono ?_; rintro e w1 ⟨rfl, rfl⟩)
          go_loopw [9, 11, 14, 15, 16, 17] (fun s9 s11 s14 s15 s16 s17 wr => ∃ (ls : List Nat) (a1 : Option Addr) (k1 c1 b' fuel : Nat), k1 ≤ 4096 ∧ b' + 8192 * k1 ≤ 33562624 ∧ s9 = .slice a1 k1 c1 ∧ s11 = .int .i64 (b' : Int) ∧ Hid (Own wr w.heap.size 3 a1 k1 c1 (nts ls) ∧ Fr F0 w wr ∧ ls.length = k1 ∧ ls.sum = n ∧ k1 ≤ fuel ∧ sortF B F fuel ls b' = R)) (fun s9 _ _ _ _ _ _ => rnQ (some s9))
          case atStart => exact ⟨ls, a1, k1, c1, b', k1, by omega, by omega, rfl, rfl, Lib.hid ⟨H1.out, Hfr.out, Hlk.out.1, Hlk.out.2, Nat.le_refl _, HR2.out⟩⟩
          case round =>
            clear H1 Hfr Hlk HR2 hb' hk1n HBw hik hi
            obtain ⟨ls, a1, k1, c1, b', fuel, hk1, hbk, rfl, rfl, H⟩ := hrel
            generalize wr = wo at *
            by_cases hk2 : 1 < k1
            · have hk2' : 1 < (k1 : Int) := by omega
              go_wp2_with fail
              go_loopw [11, 14, 15, 16, 17] (fun s11 s14 s15 s16 s17 wr4 => ∃ (j i : Nat) (aN : Option Addr) (kN cN b4 : Nat), j ≤ nch k1 F ∧ i ≤ 10000 ∧ kN = j ∧ b4 ≤ b' + 8192 ∧ s15 = .int .i64 (i : Int) ∧ s14 = .slice aN kN cN ∧ s11 = .int .i64 (b4 : Int) ∧ Hid (i = j * F ∧ b4 = b' + cstL B (ls.take (j * F)) + cstL B (rdT F ls j) ∧ Own wr4 wo.heap.size 3 aN kN cN (nts (rdT F ls j)) ∧ Own wr4 w.heap.size 3 a1 k1 c1 (nts ls) ∧ Fr F0 wo wr4)) (fun _ s14 _ _ _ _ => nch k1 F - rnQ (some s14))
              case atStart => exact ⟨0, 0, none, 0, 0, b', Nat.zero_le _, by omega, rfl, by omega, rfl, rfl, rfl, Lib.hid ⟨by omega, by rw [Nat.zero_mul, List.take_zero]; rfl, (show Own wo wo.heap.size 3 none 0 0 [] from Own.nil _ _ _), H.out.1, Fr.refl _ _⟩⟩
              case round =>
                obtain ⟨j, i, aN, kN, cN, b4, hj, hi, hkN, hb4, rfl, rfl, rfl, H4⟩ := hrel
                subst hkN
                have hF0 : 0 < F := by omega
                by_cases hjn : kN < nch k1 F
                · have hik0 : i < k1 := by have := (nch_lt hF0).1 hjn; rw [H4.out.1]; exact this
                  have hik : (i : Int) < (k1 : Int) := by omega
                  have hi2 : i + F ≤ 10000 := by omega
                  have hnx : i + F = (kN + 1) * F := by rw [H4.out.1, Nat.succ_mul]
                  have HNx := Lib.hid hnx
                  clear hnx
                  go_wp2_with fail
                  go_loop [11, 16, 17] (fun s11 s16 s17 => ∃ (q k x5 b5 : Nat), q ≤ F ∧ k = i + q ∧ k ≤ k1 ∧ x5 ≤ 4096 ∧ b5 ≤ b4 + 4096 ∧ s17 = .int .i64 (k : Int) ∧ s16 = .int .i64 (x5 : Int) ∧ s11 = .int .i64 (b5 : Int) ∧ Hid (x5 = ((ls.drop i).take q).sum ∧ b5 = b4 + cstL B ((ls.drop i).take q))) (fun _ _ s17 => i + F - (intOf s17).toNat)
                  case atStart => exact ⟨0, i, 0, b4, Nat.zero_le _, rfl, by omega, by omega, by omega, rfl, rfl, rfl, Lib.hid (by rw [List.take_zero]; exact ⟨rfl, rfl⟩)⟩
                  case round =>
                    obtain ⟨q, k, x5, b5, hq, hk, hkk, hx5, hb5, rfl, rfl, rfl, H5⟩ := hrel
                    have Hk := Lib.hid hk
                    have hdsum : ∀ q, ((ls.drop i).take q).sum ≤ n := fun q => by
                      have h1 := sum_takeL (ls.drop i) q
                      have h2 : ls.sum = (ls.take i).sum + (ls.drop i).sum := by rw [← List.sum_append, List.take_append_drop]
                      have h3 := H.out.2.2.2.1
                      omega
                    have HDs := Lib.hid hdsum
                    clear hdsum
                    by_cases hgo : q < F ∧ k < k1
                    · have hg1 : (k : Int) < (k1 : Int) := by omega
                      have hg2 : (k : Int) < (i : Int) + (F : Int) := by omega
                      obtain ⟨x, hx⟩ : ∃ x, ls[k]? = some x := ⟨_, List.getElem?_eq_getElem (by have := H.out.2.2.1; omega)⟩
                      obtain ⟨g, rfl, d0⟩ := Own.nat H4.out.2.2.2.1 hx
                      have htk : (ls.drop i).take (q + 1) = (ls.drop i).take q ++ [x] := by rw [List.take_add_one, List.getElem?_drop, ← hk, hx]; rfl
                      have hxs : ((ls.drop i).take (q + 1)).sum = x5 + x := by rw [htk, List.sum_append, ← H5.out.1]; simp
                      have hcs : b4 + cstL B ((ls.drop i).take (q + 1)) = b5 + cnt B x := by
                        rw [htk, cstL_app, ← Nat.add_assoc, ← H5.out.2]; unfold cstL; simp
                      have hd1 := HDs.out (q + 1)
                      have hcl := cstL_le HB.out.1 ((ls.drop i).take (q + 1))
                      have hCx := HC.out x wr (by omega)
                      obtain ⟨cm, hcm⟩ : ∃ cm, cm = cnt B x := ⟨_, rfl⟩
                      rw [← hcm] at hCx hcs
                      have hxx : x5 + x ≤ 4096 := by omega
                      have hbb : b5 + cm ≤ b4 + 4096 := by omega
                      have HCx := Lib.hid hCx
                      have HS5 := Lib.hid (And.intro hxs hcs)
                      clear hx htk hxs hcs hd1 hcl hCx hcm hk
                      go_wp2_with (go_at_call 19; refine HCx.out.mono ?_; rintro e w1 ⟨rfl, rfl⟩)
                      go_round
                      case rel => exact ⟨q + 1, k + 1, x5 + x, b5 + cm, by omega, by have := Hk.out; omega, by omega, hxx, hbb, by go_num, by go_num, by go_num, Lib.hid ⟨HS5.out.1.symm, HS5.out.2.symm⟩⟩
                      case measure => have := Hk.out; simp [intOf] <;> omega
                    · have hch : (ls.drop i).take q = chnk ls F kN := by
                        have h1 : (ls.drop i).take q = (ls.drop i).take F := by
                          by_cases c : q = F
                          · rw [c]
                          · have hl := H.out.2.2.1
                            rw [List.take_of_length_le (by rw [List.length_drop]; omega), List.take_of_length_le (by rw [List.length_drop]; omega)]
                        rw [h1, H4.out.1]; rfl
                      have hbd : b5 + cnt B x5 = b' + cstL B (ls.take ((kN + 1) * F)) + cstL B (rdT F ls (kN + 1)) := by
                        rw [take_chnk, rdT_succ, cstL_app, cstL_app, H5.out.2, H5.out.1, hch, H4.out.2.1]
                        have e : cstL B [(chnk ls F kN).sum] = cnt B (chnk ls F kN).sum := by unfold cstL; simp
                        rw [e]; omega
                      have hbd2 : b5 + cnt B x5 ≤ b' + 8192 := by
                        have h1 := cstL_le HB.out.1 (ls.take ((kN + 1) * F))
                        have h2 := cstL_le HB.out.1 (rdT F ls (kN + 1))
                        have h3 := sum_takeL ls ((kN + 1) * F)
                        rw [rdT_sum] at h2
                        have h4 := H.out.2.2.2.1
                        omega
                      have hx5c : x5 = (chnk ls F kN).sum := by rw [H5.out.1, hch]
                      have hCx := HC.out x5 wr (by omega)
                      obtain ⟨cm, hcm⟩ : ∃ cm, cm = cnt B x5 := ⟨_, rfl⟩
                      rw [← hcm] at hCx hbd hbd2
                      have HCx := Lib.hid hCx
                      have HB5 := Lib.hid (And.intro hbd hx5c)
                      have HBw4 : Hid (wo.heap.size ≤ wr.heap.size) := Lib.hid H4.out.2.2.2.2.size
                      have hkN4 : kN ≤ 4096 := by
                        have : kN ≤ kN * F := Nat.le_mul_of_pos_right _ hF0
                        have := H4.out.1
                        omega
                      clear hCx hcm hbd hx5c hch HDs
                      have harm : (¬ (k : Int) < (k1 : Int)) ∨ ((k : Int) < (k1 : Int) ∧ ¬ (k : Int) < (i : Int) + (F : Int)) := by omega
                      clear hk
                      rcases harm with hg1 | ⟨hg1, hg2⟩
                      all_goals (
                        go_wp2_with (first | (go_at_call 19; refine HCx.out.mono ?_; rintro e w1 ⟨rfl, rfl⟩) | (at_builtin; refine wpAppAt E3 H4.out.2.2.1 (by omega) (by omega) HBw4.out (u := .int .i64 (x5 : Int)) rfl (by rfl) (by rfl) ?_; intro a2 c2 w2 own2 fr2 at2; have X2 := Lib.hid (And.intro own2 fr2); clear own2 fr2 at2))
                        go_roundw
                        case rel => exact ⟨kN + 1, i + F, a2, kN + 1, c2, b5 + cm, by omega, hi2, rfl, hbd2, by go_num, rfl, by go_num, Lib.hid ⟨HNx.out, HB5.out.1, by rw [rdT_succ, nts_snoc, ← HB5.out.2]; exact X2.out.1, H4.out.2.2.2.1.fr X2.out.2 (fun k hk hs => by have h1 := (H4.out.2.2.1.blk k hs).1; have h2 := (H.out.1.blk k hk).2; omega), H4.out.2.2.2.2.trans X2.out.2 (fun k hk hs => by have := (H4.out.2.2.1.blk k hs).1; omega)⟩⟩
                        case measure => show nch k1 F - (kN + 1) < nch k1 F - kN; omega)
                · have hik0 : ¬ i < k1 := by rw [H4.out.1]; exact fun h => hjn ((nch_lt hF0).2 h)
                  have hik : ¬ (i : Int) < (k1 : Int) := by omega
                  have hjj : kN = nch k1 F := by omega
                  have HX9 : Hid (Own wr w.heap.size 3 aN kN cN (nts (roundL F ls)) ∧ Fr F0 w wr ∧ (roundL F ls).length = kN ∧ (roundL F ls).sum = n ∧ kN ≤ fuel - 1 ∧ sortF B F (fuel - 1) (roundL F ls) b4 = R) := Lib.hid (by
                    have e1 : rdT F ls kN = roundL F ls := by rw [hjj, ← H.out.2.2.1]; rfl
                    have e2 : ls.take (kN * F) = ls := List.take_of_length_le (by rw [H.out.2.2.1, ← H4.out.1]; omega)
                    have e3 : (roundL F ls).length = kN := by rw [roundL_len, H.out.2.2.1, hjj]
                    have e4 := nch_less (n := k1) hF2 hk2
                    refine ⟨by rw [← e1]; exact H4.out.2.2.1.mono H.out.2.1.size, H.out.2.1.trans0 H4.out.2.2.2.2, e3, by rw [chnk_sums hF0]; exact H.out.2.2.2.1, by have := H.out.2.2.2.2.1; omega, ?_⟩
                    obtain ⟨f9, hf9⟩ : ∃ f9, fuel = f9 + 1 := ⟨fuel - 1, by have := H.out.2.2.2.2.1; omega⟩
                    have h6 := H.out.2.2.2.2.2
                    rw [hf9, sortF_step (by rw [H.out.2.2.1]; exact hk2)] at h6
                    have h7 := H4.out.2.1
                    rw [e1, e2] at h7
                    rw [h7, hf9]; exact h6)
                  have hless := nch_less (n := k1) hF2 hk2
                  rw [← hjj] at hless
                  clear hjj
                  go_wp2_with fail
                  go_roundw
                  case rel => exact ⟨roundL F ls, aN, kN, cN, b4, fuel - 1, by omega, by omega, rfl, rfl, HX9⟩
                  case measure => show kN < k1; omega
            · have hk2' : ¬ 1 < (k1 : Int) := by omega
              have hRb : R = b' := by have := H.out.2.2.2.2.2; rw [sortF_end _ _ _ (by rw [H.out.2.2.1]; omega)] at this; exact this.symm
              go_wp2_with (go_at_call 47; refine (HSt.out _ H.out.2.1).mono ?_; rintro e w5 ⟨a5, c5, ys, rfl, p1, p2, p3, p4, F5⟩; have X5 := Lib.hid (And.intro p1 (And.intro p2 (And.intro p3 F5))); clear p1 p2 p3 p4 F5)
              go_ret3
              exact ⟨a5, c5, ys, by rw [hRb]; rfl, X5.out.1, X5.out.2.1, X5.out.2.2.1, H.out.2.1.trans0 X5.out.2.2.2⟩
end Go.Proofs.Ytkmnnfflibamnaa
