/- Size; the example of the chapter; what a Check of 0 tells. -/
import Derived.Test.YtglonedhcljdoaaC13
namespace Go.Proofs.Ytglonedhcljdoaa
open Go.RowKit
attribute [local go_sem ↓] Go.wp_at_zero Go.wp_at_succ

theorem check_ok {L : List (List Int)} (h : checkC L = 0) : L.length ≤ 32 ∧ 0 < L.length ∧ (∀ l ∈ L, l.length ≤ 1000) ∧ (∀ l ∈ L, Asc l) := by
  unfold checkC at h
  by_cases h1 : 32 < L.length
  · rw [if_pos h1] at h; cases h
  rw [if_neg h1] at h
  by_cases h2 : L.any longB = true
  · rw [if_pos h2] at h; cases h
  rw [if_neg h2] at h
  by_cases h3 : L = []
  · rw [if_pos h3] at h; cases h
  rw [if_neg h3] at h
  by_cases h4 : L.any badB = true
  · rw [if_pos h4] at h; cases h
  refine ⟨by omega, List.length_pos_iff.2 h3, fun l hl => ?_, fun l hl => ?_⟩
  · have : L.any longB = false := by simpa using h2
    have := List.any_eq_false.1 this l hl
    unfold longB at this
    simpa using this
  · have : L.any badB = false := by simpa using h4
    have := List.any_eq_false.1 this l hl
    have hb : badB l = false := by simpa using this
    have hs : sortB l = true := by
      cases hs : sortB l with
      | true => rfl
      | false => unfold badB at hb; rw [hs] at hb; simp at hb
    refine List.pairwise_iff_getElem.2 fun i j hi hj hij => ?_
    have := sort_le hs j i (by omega) hj
    simpa [List.getD_eq_getElem?_getD, hi, hj] using this

set_option maxHeartbeats 1000000 in
theorem Size_any {B : Nat} {w : World} {x : Nat} {L : List (List Int)} {cmp : Int} {g : Nat} {hs : List Value} (h : IxR B w x L cmp g hs) (hn : L.length ≤ 32) (hlen : ∀ l ∈ L, l.length ≤ 1000) :
    Calls Try.prog 17 #[.pointer (some ⟨x, 0, none⟩)] w fun e w' => e = .returned (.int .i64 (tot ((augK L).map keyL))) ∧ Fr F0 w w' := by
  have hL := Lists_any h hn hlen
  obtain ⟨M, hM⟩ : ∃ M, M = (augK L).map keyL := ⟨_, rfl⟩
  obtain ⟨n, hnL⟩ : ∃ n, n = L.length := ⟨_, rfl⟩
  rw [← hnL] at hL hn
  have hml : ∀ l ∈ M, l.length ≤ 2000 := by
    intro l hl
    rw [hM, ← kx_all] at hl
    obtain ⟨q, _, rfl⟩ := List.mem_map.1 hl
    exact kx_len hlen q
  rw [← hM]
  have Hlen := Lib.hid hml
  have HM := Lib.hid hM
  clear hM h hnL hlen hml
  go_enter Try.func17, Try.ntmps17
  go_wp2_with (refine hL.mono ?_; rintro e w1 ⟨a, c, R, rfl, hR0, hE0, hF⟩; have hR := Lib.hid hR0; have hE := Lib.hid hE0; clear hR0 hE0 hL)
  rw [← HM.out] at hE
  go_loop [3, 5, 9] (fun s _ i => ∃ (k t : Nat), k ≤ n ∧ i = .int .i64 k ∧ s = .int .i64 t ∧ t ≤ k * 2000 ∧ Hid (t = tot (M.take k))) (fun _ _ i => n - (intOf i).toNat)
  case atStart => exact ⟨0, 0, by omega, rfl, rfl, by omega, Lib.hid (by simp [tot])⟩
  case round =>
    obtain ⟨k, t, hk, rfl, rfl, ht, hT⟩ := hrel
    by_cases hlt : k < n
    · obtain ⟨b, o, r, hb, hrk, d⟩ := hR.out.ix hlt
      have hx : M[k]? = some r.xs := by rw [← hE.out]; simp [catL, hrk]
      have hrl : r.xs.length = r.n := by simpa using (hR.out.row k r hrk).len
      have h1 := Hlen.out r.xs (List.mem_of_getElem? hx)
      have hT2 : Hid (t + r.n = tot (M.take (k + 1))) := Lib.hid (by rw [tot_take hx, ← hT.out, hrl])
      have hrn : r.n ≤ 2000 := by omega
      obtain ⟨ra, rn, rc, rxs⟩ := r
      simp only [RowV.val] at *
      subst hb
      clear hx hrk hrl h1
      go_wp2_with fail
      go_round
      case rel => exact ⟨k + 1, t + rn, by omega, by go_num, by go_num, by omega, hT2⟩
      case measure => simp [intOf]; omega
    · obtain rfl : k = n := by omega
      have e : Hid (t = tot M) := Lib.hid (by
        have h := hT.out
        have := hR.out.len
        have h2 := hE.out
        rwa [List.take_of_length_le (by rw [← h2]; simp [catL]; omega)] at h)
      go_wp2_with fail
      go_ret
      exact ⟨ret_int (by rw [e.out]), hF⟩
theorem Size_nil (w : World) : Calls Try.prog 17 #[.pointer none] w fun e w' => e = .returned (.int .i64 0) ∧ w = w' := by
  go_enter Try.func17, Try.ntmps17
  go_wp2_with (refine (Lists_nil _).mono ?_; rintro e w1 ⟨rfl, rfl⟩)
  go_loop [3, 9] (fun s i => s = .int .i64 0 ∧ i = .int .i64 0) (fun _ _ => 0)
  case atStart => exact ⟨rfl, rfl⟩
  case round =>
    obtain ⟨rfl, rfl⟩ := hrel
    go_wp2_with fail
    go_ret
    exact ⟨rfl, rfl⟩

abbrev exL : List (List Int) := [[1, 4, 6], [2, 3, 5, 7]]
theorem exL_check : checkC exL = 0 := by decide +kernel
theorem exL_rk : (exL.map fun l => (rk l 5 : Int)) = [2, 2] := by decide +kernel
theorem exL_args (w : World) : ArgRows (((w.alloc (.cells #[.int .i64 1, .int .i64 4, .int .i64 6] 3)).alloc (.cells #[.int .i64 2, .int .i64 3, .int .i64 5, .int .i64 7] 3)).alloc
    (.cells #[.slice (some ⟨w.heap.size, 0, none⟩) 3 3, .slice (some ⟨w.heap.size + 1, 0, none⟩) 4 4] 31)) (some ⟨w.heap.size + 1 + 1, 0, none⟩) 2 2 [⟨some ⟨w.heap.size, 0, none⟩, 3, 3, [1, 4, 6]⟩, ⟨some ⟨w.heap.size + 1, 0, none⟩, 4, 4, [2, 3, 5, 7]⟩] := by
  have h1 : Rd (w.alloc (.cells #[.int .i64 1, .int .i64 4, .int .i64 6] 3)) (some ⟨w.heap.size, 0, none⟩) 3 (ints [1, 4, 6]) := Own.rd (Own.lit (w := w) (B := w.heap.size) (T := 3) (ints [1, 4, 6]) 3 rfl (by omega) (by omega))
  generalize e1 : w.alloc (.cells #[.int .i64 1, .int .i64 4, .int .i64 6] 3) = w1 at *
  have s1 : w1.heap.size = w.heap.size + 1 := by rw [← e1, size_alloc]
  have h2 : Rd (w1.alloc (.cells #[.int .i64 2, .int .i64 3, .int .i64 5, .int .i64 7] 3)) (some ⟨w1.heap.size, 0, none⟩) 4 (ints [2, 3, 5, 7]) := Own.rd (Own.lit (w := w1) (B := w1.heap.size) (T := 3) (ints [2, 3, 5, 7]) 4 rfl (by omega) (by omega))
  have h1' := h1.alloc (.cells #[.int .i64 2, .int .i64 3, .int .i64 5, .int .i64 7] 3)
  rw [s1] at h2
  generalize e2 : w1.alloc (.cells #[.int .i64 2, .int .i64 3, .int .i64 5, .int .i64 7] 3) = w2 at *
  have s2 : w2.heap.size = w.heap.size + 1 + 1 := by rw [← e2, size_alloc, s1]
  have h3 : Rd (w2.alloc (.cells #[.slice (some ⟨w.heap.size, 0, none⟩) 3 3, .slice (some ⟨w.heap.size + 1, 0, none⟩) 4 4] 31)) (some ⟨w2.heap.size, 0, none⟩) 2 [.slice (some ⟨w.heap.size, 0, none⟩) 3 3, .slice (some ⟨w.heap.size + 1, 0, none⟩) 4 4] :=
    Own.rd (Own.lit (w := w2) (B := w2.heap.size) (T := 31) [.slice (some ⟨w.heap.size, 0, none⟩) 3 3, .slice (some ⟨w.heap.size + 1, 0, none⟩) 4 4] 2 rfl (by omega) (by omega))
  rw [s2] at h3
  refine ⟨h3, ?_, by omega, ?_, ?_⟩
  · intro j r hr
    match j, hr with
    | 0, hr => simp at hr; subst hr; exact h1'.alloc _
    | 1, hr => simp at hr; subst hr; exact h2.alloc _
  · intro j r hr
    match j, hr with
    | 0, hr => simp at hr; subst hr; exact Nat.le_refl _
    | 1, hr => simp at hr; subst hr; exact Nat.le_refl _
  · intro j r hr
    match j, hr with
    | 0, hr => simp at hr; subst hr; intro x hx; simp at hx; omega
    | 1, hr => simp at hr; subst hr; intro x hx; simp at hx; omega
set_option maxHeartbeats 2000000 in
theorem awake_any (w : World) : Calls Try.prog 7 #[] w fun e w' => e = .returned (.bool true) ∧ Fr F0 w w' := by
  have hA := exL_args w
  have hF : Fr F0 w (((w.alloc (.cells #[.int .i64 1, .int .i64 4, .int .i64 6] 3)).alloc (.cells #[.int .i64 2, .int .i64 3, .int .i64 5, .int .i64 7] 3)).alloc
    (.cells #[.slice (some ⟨w.heap.size, 0, none⟩) 3 3, .slice (some ⟨w.heap.size + 1, 0, none⟩) 4 4] 31)) := (((Fr.refl _ _).alloc _).alloc _).alloc _
  have hm : Calls Try.prog 9 _ _ (MkPost exL _) := Make_any _ 2 2 _ _ hA
  replace hF := Lib.hid hF
  clear hA
  go_enter Try.func7, Try.ntmps7
  go_wp2_with fail
  refine hm.mono ?_
  rintro e w1 ⟨F1, hp⟩
  rcases hp with ⟨hne, _⟩ | ⟨_, x, g, hs, rfl, hI⟩
  · exact absurd exL_check hne
  have hS := Search_any hI (check_ok exL_check).1 (check_ok exL_check).2.1 (check_ok exL_check).2.2.1 (check_ok exL_check).2.2.2 5
  have hB := Nat.le_trans hF.out.size hI.bx
  have h2 := lt_of_block hI.kx
  replace hF := Lib.hid (hF.out.trans0 F1)
  clear hm F1 hI
  go_wp2_with fail
  refine hS.mono ?_
  rintro e w2 ⟨a, c, cmp, rfl, hR, hI, _, _, _, F2⟩
  have hR0 : Rd w2 a 2 (ints (exL.map fun l => (rk l 5 : Int))) := hR
  rw [exL_rk] at hR0
  replace hF := Lib.hid (hF.out.trans F2 (fun k hk h => by have e : k = x := h; omega))
  have hR1 := Lib.hid hR0
  have hI1 := Lib.hid hI
  clear hS hR hI F2 hR0
  rw [show exL.length = 2 from rfl]
  have hLen : ∀ q, Calls Try.prog 11 #[.pointer (some ⟨x, 0, none⟩)] ((w2.alloc (.cells #[.int .i64 2, .int .i64 2] 3)).drewN q) fun e w' => e = .returned (.int .i64 2) ∧ (w2.alloc (.cells #[.int .i64 2, .int .i64 2] 3)).drewN q = w' := fun q => Len_any (hI1.out.fr (((Fr.refl _ _).alloc _).drewN q))
  have L1 : Rd (w2.alloc (.cells #[.int .i64 2, .int .i64 2] 3)) (some ⟨w2.heap.size, 0, none⟩) 2 (ints [2, 2]) := Own.rd (Own.lit (w := w2) (B := w2.heap.size) (T := 3) (ints [2, 2]) 2 rfl (by omega) (by omega))
  have hE := Equal_any _ _ 2 2 c 2 _ _ _ (hR1.out.alloc (.cells #[.int .i64 2, .int .i64 2] 3)) L1
  rw [show decide (([2, 2] : List Int) = [2, 2]) = true by simp] at hE
  replace L1 := Lib.hid L1
  go_wp2_with (first | (refine hE.mono ?_; rintro e w3 ⟨rfl, q, rfl⟩) | (refine (hLen _).mono ?_; rintro e w3 ⟨rfl, rfl⟩))
  go_ret
  exact ⟨rfl, (hF.out.alloc _).drewN _⟩
end Go.Proofs.Ytglonedhcljdoaa
