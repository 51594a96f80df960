/- The reference's Layout; slices.Equal, slices.Reverse; the paths. -/
import Derived.Test.YtdllpiekkbojgaaR1
namespace Go.Proofs.Ytdllpiekkbojgaa
open Go.RowKit

theorem refLayout_any (kind : Int) (h : Nat) (hi : Int) (w : World) (hhi : hi = h) (h1 : 1 ≤ h) (h2 : h ≤ 16) (hk1 : 1 ≤ kind) (hk2 : kind ≤ 4) :
    Calls Try.prog 17 #[.int .i64 kind, .int .i64 hi] w (MadeInts w (layS kind h) (cnt h)) := by
  subst hhi
  obtain ⟨n, hn⟩ : ∃ n, n = cnt h := ⟨_, rfl⟩
  have hn1 := cnt_le h2
  rw [← hn] at hn1 ⊢
  have hcz : ∀ w, Calls Try.prog 14 #[.int .i64 h] w fun e w' => e = .returned (.int .i64 n) ∧ w = w' := fun w => by
    have := Count_any h h w rfl (by omega); rw [← hn] at this; exact this
  have Hc := Lib.hid hcz
  have Hn := Lib.hid hn
  clear hn hcz
  have hmk := run_mk E3 rfl n (by omega) (by omega)
  have hO : Own (w.alloc (.cells (Array.replicate n (.int .i64 0)) 3)) w.heap.size 3 (some ⟨w.heap.size, 0, none⟩) n n (ints (zeroS n).l) := by
    have h := Own.made (w := w) (B := w.heap.size) (T := 3) (z := .int .i64 0) n (by omega) (by omega)
    have e : ints (zeroS n).l = List.replicate n (.int .i64 0) := by simp [zeroS]
    rw [e]; exact h
  have hF : Fr F0 w (w.alloc (.cells (Array.replicate n (.int .i64 0)) 3)) := (Fr.refl _ _).alloc _
  replace hO := Lib.hid hO
  replace hF := Lib.hid hF
  have hk : kind = 1 ∨ kind = 2 ∨ kind = 3 ∨ kind = 4 := by omega
  rcases hk with rfl | rfl | rfl | rfl
  · have E : Hid (layS 1 h = (iterS putS n (zeroS n)).l) := Lib.hid (by unfold layS; rw [if_pos rfl, Hn.out])
    go_enter Try.func17, Try.ntmps17
    go_wp2_with fail
    refine (Hc.out _).mono ?_; rintro e w' ⟨rfl, rfl⟩
    go_wp2_with fail
    clear hmk
    go_loopw [6] (fun i wr => ∃ k : Nat, k ≤ n ∧ i = .int .i64 k ∧ (iterS putS k (zeroS n)).at_ = k ∧ Own wr w.heap.size 3 (some ⟨w.heap.size, 0, none⟩) n n (ints (iterS putS k (zeroS n)).l) ∧ Fr F0 w wr) (fun i _ => n - (intOf i).toNat)
    case atStart => exact ⟨0, by omega, rfl, rfl, hO.out, hF.out⟩
    case round =>
      obtain ⟨k, hk, rfl, hat, L2, F2⟩ := hrel
      obtain ⟨s, hs⟩ : ∃ s, s = iterS putS k (zeroS n) := ⟨_, rfl⟩
      rw [← hs] at L2 hat
      replace hs := Lib.hid hs
      replace hat := Lib.hid hat
      by_cases hlt : k < n
      · obtain ⟨⟨y, hy, _⟩, hz⟩ := own_facts L2 (v := k) hlt
        replace L2 := Lib.hid L2
        replace F2 := Lib.hid F2
        go_wp2_with fail
        go_roundw
        case rel =>
          refine ⟨k + 1, by omega, by go_num, ?_, ?_, ?_⟩
          · rw [iterS_succ, ← hs.out]; show wrap64 (s.at_ + 1) = _; rw [hat.out, IntWalk.wrap64_in _ (by omega)]; omega
          · rw [iterS_succ, ← hs.out]; have := own_put (v := k) L2.out; rw [hat.out] at this; exact this
          · exact F2.out.setCell (fun h => by simp at h) _
        case measure => simp [intOf]; omega
      · have hkm : k = n := by omega
        subst hkm
        replace L2 := Lib.hid L2
        replace F2 := Lib.hid F2
        go_wp2_with fail
        go_ret
        rw [E.out, ← hs.out]
        exact ⟨_, _, rfl, L2.out, F2.out⟩
  · have E : Hid (layS 2 h = (walkS 2 n n 0 (zeroS n)).l) := Lib.hid (by unfold layS; rw [if_neg (by decide), if_neg (by decide), Hn.out])
    go_enter Try.func17, Try.ntmps17
    go_wp2_with fail
    refine (Hc.out _).mono ?_; rintro e w' ⟨rfl, rfl⟩
    go_wp2_with fail
    clear hmk
    refine (inorder_any w.heap.size w.heap.size n n (by omega) n 0 _ (zeroS n) _ rfl (by omega) (by omega) hO.out).mono ?_; rintro e w2 ⟨rfl, L2, F2⟩
    replace L2 := Lib.hid L2
    replace F2 := Lib.hid F2
    go_wp2_with fail
    go_ret
    rw [E.out]
    exact ⟨_, _, rfl, L2.out, hF.out.trans F2.out (fun k hk h => by have : k = w.heap.size := h; omega)⟩
  · have E : Hid (layS 3 h = (walkS 3 n n 0 (zeroS n)).l) := Lib.hid (by unfold layS; rw [if_neg (by decide), if_neg (by decide), Hn.out])
    go_enter Try.func17, Try.ntmps17
    go_wp2_with fail
    refine (Hc.out _).mono ?_; rintro e w' ⟨rfl, rfl⟩
    go_wp2_with fail
    clear hmk
    refine (preorder_any w.heap.size w.heap.size n n (by omega) n 0 _ (zeroS n) _ rfl (by omega) (by omega) hO.out).mono ?_; rintro e w2 ⟨rfl, L2, F2⟩
    replace L2 := Lib.hid L2
    replace F2 := Lib.hid F2
    go_wp2_with fail
    go_ret
    rw [E.out]
    exact ⟨_, _, rfl, L2.out, hF.out.trans F2.out (fun k hk h => by have : k = w.heap.size := h; omega)⟩
  · have E : Hid (layS 4 h = (splitS h 0 h (zeroS n)).l) := Lib.hid (by unfold layS; rw [if_neg (by decide), if_pos rfl, Hn.out])
    go_enter Try.func17, Try.ntmps17
    go_wp2_with fail
    refine (Hc.out _).mono ?_; rintro e w' ⟨rfl, rfl⟩
    go_wp2_with fail
    clear hmk
    refine (emde_any w.heap.size w.heap.size n n h ?_ h2 h 0 h _ _ (zeroS n) _ rfl rfl (Nat.le_refl _) h1 ?_ hO.out).mono ?_
    · rw [Hn.out]; unfold cnt; exact Nat.sub_add_cancel Nat.one_le_two_pow
    · rw [← Nat.pow_succ']; exact Nat.pow_le_pow_right (by omega) (by omega)
    rintro e w2 ⟨rfl, L2, F2⟩
    replace L2 := Lib.hid L2
    replace F2 := Lib.hid F2
    go_wp2_with fail
    go_ret
    rw [E.out]
    exact ⟨_, _, rfl, L2.out, hF.out.trans F2.out (fun k hk h => by have : k = w.heap.size := h; omega)⟩

/-- slices.Equal at ints. -/
theorem Equal_any (a1 a2 : Option Addr) (n m c1 c2 : Nat) (xs ys : List Int) (w : World) (hx : Rd w a1 n (ints xs)) (hy : Rd w a2 m (ints ys)) :
    Calls Try.prog 15 #[.slice a1 n c1, .slice a2 m c2] w fun e w' => e = .returned (.bool (decide (xs = ys))) ∧ ∃ q, w' = w.drewN q := by
  have hxl : xs.length = n := by simpa using hx.len
  have hyl : ys.length = m := by simpa using hy.len
  have hm1 := hx.max
  have hm2 := hy.max
  by_cases hnm : n = m
  · subst hnm
    have Hx := Lib.hid hxl
    have Hy := Lib.hid hyl
    clear hxl hyl
    have hne : (((n : Nat) : Int) != (n : Int)) = false := by simp
    go_enter Try.func15, Try.ntmps15
    go_wp2_with fail
    go_loopw [13] (fun i wr => ∃ k : Nat, k ≤ n ∧ i = .int .i64 k ∧ xs.take k = ys.take k ∧ ∃ q, wr = w.drewN q) (fun i _ => n - (intOf i).toNat)
    case atStart => exact ⟨0, by omega, rfl, by simp, 0, rfl⟩
    case round =>
      obtain ⟨k, hk, rfl, htk, q, rfl⟩ := hrel
      replace htk := Lib.hid htk
      by_cases hlt : k < n
      · have hxl := Hx.out
        have hyl := Hy.out
        obtain ⟨x, hxk⟩ : ∃ x, xs[k]? = some x := ⟨xs[k], by simp [hxl, hlt]⟩
        obtain ⟨y, hyk⟩ : ∃ y, ys[k]? = some y := ⟨ys[k], by simp [hyl, hlt]⟩
        obtain ⟨b1, o1, rfl, hc1⟩ := hx.cells (by omega)
        obtain ⟨b2, o2, rfl, hc2⟩ := hy.cells (by omega)
        have d1 := hc1 k (.int .i64 x) (by simp [hxk])
        have d2 := hc2 k (.int .i64 y) (by simp [hyk])
        have e : xs.take (k + 1) = ys.take (k + 1) ↔ x = y := by
          rw [List.take_add_one, List.take_add_one, htk.out, hxk, hyk]; simp
        have E := Lib.hid e
        clear hc1 hc2 hxk hyk e hxl hyl
        by_cases hxy : x = y
        · subst hxy
          have hb : (x != x) = false := by simp
          go_wp2_with fail
          go_quiet (fail)
          go_wp2_with fail
          go_roundw
          case rel => exact ⟨k + 1, by omega, by go_num, E.out.2 trivial, _, rfl⟩
          case measure => simp [intOf]; omega
        · have hb : (x != y) = true := by simp [hxy]
          go_wp2_with fail
          go_quiet (fail)
          go_wp2_with fail
          go_ret
          refine ⟨ret_bool ?_, _, World.drewN_drewN _ _ _⟩
          show false = _
          rw [Eq.comm, decide_eq_false_iff_not]
          intro h
          subst h
          exact hxy (E.out.1 rfl)
      · have hkm : k = n := by omega
        subst hkm
        go_wp2_with fail
        go_ret
        refine ⟨ret_bool ?_, _, rfl⟩
        show true = _
        have h := htk.out
        rw [List.take_of_length_le (by rw [Hx.out]; omega), List.take_of_length_le (by rw [Hy.out]; omega)] at h
        simp [h]
  · have hne : (((n : Nat) : Int) != (m : Int)) = true := by simp; omega
    have H : Hid (decide (xs = ys) = false) := Lib.hid (by simp; intro h; subst h; omega)
    clear hxl hyl
    go_enter Try.func15, Try.ntmps15
    go_wp2_with fail
    go_ret
    rw [H.out]
    exact ⟨rfl, 0, rfl⟩

end Go.Proofs.Ytdllpiekkbojgaa
