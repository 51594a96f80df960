/- The reference's Without, Touch. -/
import Derived.Test.YtnlgjpcnnnilpaaC1
import Derived.Test.YtnlgjpcnnnilpaaCom9
namespace Go.Proofs.Ytnlgjpcnnnilpaa
open Go.RowKit
attribute [local go_sem ↓] Go.wp_at_zero Go.wp_at_succ

set_option maxHeartbeats 1000000 in
theorem Without_any (a : Option Addr) (n c k : Nat) (l : List Int) (w : World) (hr : Rd w a n (ints l)) (hc : n ≤ c) (hk : k < n) (hn : n ≤ 100000) :
    Calls Try.prog 36 #[.slice a n c, .int .i64 k] w fun e w' => ∃ a' c', e = .returned (.slice a' (n - 1) c') ∧ Own w' w.heap.size 3 a' (n - 1) c' (ints (l.eraseIdx k)) ∧ Fr F0 w w' := by
  have s1 : ∀ w, (Instr.sliceAt 22 (.slice a n c) none (some (.int .i64 k)) none).run Try.prog w = .ok (.slice (cutA a c 0) k c) w := fun w => run_cutHi E3 w a (by omega) rfl
  have s2 : ∀ w, (Instr.sliceAt 22 (.slice a n c) (some (.int .i64 ((k : Int) + 1))) none none).run Try.prog w = .ok (.slice (cutA a c (k + 1)) (n - (k + 1)) (c - (k + 1))) w := fun w => run_cutLo E3 w a (by omega) (by omega)
  have w1 : IntKind.i64.wrap ((k : Int) + 1) = (k : Int) + 1 := IntWalk.i64_in _ (by omega)
  have r1 : Hid (Rd w (cutA a c 0) k (ints (l.take k))) := Lib.hid (by have h := hr.cutHi hc (k := k) (by omega); simpa [ints] using h)
  have r2 : Hid (Rd w (cutA a c (k + 1)) (n - (k + 1)) (ints (l.drop (k + 1)))) := Lib.hid (by have h := hr.cut hc (k := k + 1) (r := n - (k + 1)) (by omega); simpa [ints] using h)
  have Hr := Lib.hid hr
  have e1 : Hid (k + (n - (k + 1)) = n - 1) := Lib.hid (by omega)
  have OA : Hid (Own ((w.alloc (.cells (#[] : Array Value) 3))).drew w.heap.size 3 (some ⟨w.heap.size, 0, none⟩) 0 0 (ints [])) := Lib.hid ((Own.lit [] 0 rfl (by omega) (by omega)).fr0 (Fr.refl _ _).drew)
  have FA : Hid (Fr F0 w ((w.alloc (.cells (#[] : Array Value) 3))).drew) := Lib.hid ((Fr.refl _ _).alloc _).drew
  clear hr
  go_enter Try.func36, Try.ntmps36
  go_wp2_with fail
  go_region_held3 (fun _ => True) (trivial)
    (first | (refine stepAppRd E3 (by rfl) (by rfl) (by rfl) (by rfl) OA.out (r1.out.fr0 FA.out) (oneCell_ints _) (by omega) (by omega) (by simp <;> omega) k (by omega) ?_; intro a6 c6 w6 own6 fr6 at6; have G6 : Hid (Fr F0 w w6) := Lib.hid (FA.out.trans fr6 (fun k hk hs => absurd (OA.out.blk _ hs).1 (by omega))); have O6 := Lib.hid own6; clear own6 fr6 at6) | (refine stepAppRd E3 (by rfl) (by rfl) (by rfl) (by rfl) O6.out (r2.out.fr0 G6.out) (oneCell_ints _) (by omega) (by omega) (by have := G6.out.size; omega) (n - 1) e1.out ?_; intro a7 c7 w7 own7 fr7 at7; have G7 : Hid (Fr F0 w w7) := Lib.hid (G6.out.trans fr7 (fun k hk hs => absurd (O6.out.blk _ hs).1 (by omega))); have O7 := Lib.hid own7; clear own7 fr7 at7))
  all_goals
    go_wp2_with fail
    go_ret
    exact ⟨a7, c7, rfl, by have h := O7.out; rw [List.eraseIdx_eq_take_drop_succ]; simpa [ints] using h, G7.out⟩

/-- A reference in an LRU cache of m blocks: the blocks behind it, and whether it was a hit. -/
def touchL (K : List Int) (m : Nat) (b : Int) : List Int × Bool := if K.any (· == b) = true then (b :: K.eraseIdx (K.findIdx (· == b)), true) else (b :: (if K.length = m then K.take (m - 1) else K), false)
theorem touch_len {K : List Int} {m : Nat} (b : Int) (hm : 1 ≤ m) (h : K.length ≤ m) : (touchL K m b).1.length ≤ m := by
  unfold touchL
  split
  · rename_i h1
    have := List.findIdx_lt_length_of_exists (List.any_eq_true.1 h1)
    simp only [List.length_cons, List.length_eraseIdx]
    split <;> omega
  · split
    · simp; omega
    · simp; omega
def TouchPost (K : List Int) (m : Nat) (b : Int) (w : World) (e : Ending) (w' : World) : Prop :=
  ∃ a' n' c', e = .returned (.tuple #[.slice a' n' c', .bool (touchL K m b).2]) ∧ Own w' w.heap.size 3 a' n' c' (ints (touchL K m b).1) ∧ Fr F0 w w'
set_option maxHeartbeats 1000000 in
theorem refTouch_any (a : Option Addr) (n c m : Nat) (K : List Int) (b : Int) (w : World) (hr : Rd w a n (ints K)) (hc : n ≤ c) (hm : 1 ≤ m) (hnm : n ≤ m) (hn : m ≤ 100000) :
    Calls Try.prog 18 #[.slice a n c, .int .i64 m, .int .i64 b] w (TouchPost K m b w) := by
  have hll : K.length = n := by simpa using hr.len
  have OA : Hid (Own (w.alloc (.cells #[.int .i64 b] 3)) w.heap.size 3 (some ⟨w.heap.size, 0, none⟩) 1 1 (ints [b])) := Lib.hid (Own.lit (ints [b]) 1 rfl (by omega) (by omega))
  have FA : Hid (Fr F0 w (w.alloc (.cells #[.int .i64 b] 3))) := Lib.hid ((Fr.refl _ _).alloc _)
  have Hr := Lib.hid hr
  cases hany : K.any (· == b) with
  | true =>
    obtain ⟨k, hk⟩ : ∃ k, k = K.findIdx (· == b) := ⟨_, rfl⟩
    have hkn : k < n := by rw [hk, ← hll]; exact List.findIdx_lt_length_of_exists (List.any_eq_true.1 hany)
    have hidx : idxI K b = k := by unfold idxI; rw [if_pos hany, hk]
    have hres : Hid (touchL K m b = (b :: K.eraseIdx k, true)) := Lib.hid (by unfold touchL; rw [if_pos hany, hk])
    have hf := Find_any a n c K b w hr
    rw [hidx] at hf
    have k0 : (0 : Int) ≤ (k : Int) := by omega
    have en : Hid (1 + (n - 1) = n) := Lib.hid (by omega)
    clear hany hk hidx hll hr
    go_enter Try.func18, Try.ntmps18
    go_wp2_with (refine hf.mono ?_; rintro e w' ⟨rfl, rfl⟩)
    refine (Without_any a n c k K _ (Hr.out.fr0 FA.out) hc hkn (by omega)).mono ?_
    rintro e w2 ⟨a2, c2, rfl, O2, F2⟩
    have O1 := Lib.hid (OA.out.fr0 F2)
    replace F2 := Lib.hid (FA.out.trans0 F2)
    replace O2 := Lib.hid O2.rd
    go_wp2_with (at_builtin; refine wpAppRd E3 O1.out O2.out (oneCell_ints _) (by omega) (by omega) (by have := F2.out.size; omega) n en.out rfl rfl ?_; intro a' c' w' own' fr' at')
    go_ret2
    exact ⟨a', n, c', by rw [hres.out]; rfl, by rw [hres.out]; simpa [ints] using own', F2.out.trans fr' (fun k hk hs => absurd (O1.out.blk _ hs).1 (by omega))⟩
  | false =>
    have hf := Find_any a n c K b w hr
    have hidx : idxI K b = -1 := by unfold idxI; rw [hany]; rfl
    rw [hidx] at hf
    by_cases h2 : n = m
    · have hres : Hid (touchL K m b = (b :: K.take (m - 1), false)) := Lib.hid (by unfold touchL; rw [hany, if_neg (by decide), if_pos (by rw [hll]; exact h2)])
      subst h2
      have s1 : ∀ w, (Instr.sliceAt 22 (.slice a n c) none (some (.int .i64 ((n : Int) - 1))) none).run Try.prog w = .ok (.slice (cutA a c 0) (n - 1) c) w := fun w => run_cutHi E3 w a (by omega) (by omega)
      have r1 : Hid (Rd w (cutA a c 0) (n - 1) (ints (K.take (n - 1)))) := Lib.hid (by have h := hr.cutHi hc (k := n - 1) (by omega); simpa [ints] using h)
      have en : Hid (1 + (n - 1) = n) := Lib.hid (by omega)
      clear hany hidx hll hr
      go_enter Try.func18, Try.ntmps18
      go_wp2_with (first | (refine hf.mono ?_; rintro e w' ⟨rfl, rfl⟩) | (at_builtin; refine wpAppRd E3 OA.out (r1.out.fr0 FA.out) (oneCell_ints _) (by omega) (by omega) (by simp) n en.out rfl rfl ?_; intro a' c' w' own' fr' at'))
      go_ret2
      exact ⟨a', n, c', by rw [hres.out]; rfl, by rw [hres.out]; simpa [ints] using own', FA.out.trans fr' (fun k hk hs => absurd (OA.out.blk _ hs).1 (by omega))⟩
    · have hres : Hid (touchL K m b = (b :: K, false)) := Lib.hid (by unfold touchL; rw [hany, if_neg (by decide), if_neg (by rw [hll]; exact h2)])
      have d1 : ((n : Int) == (m : Int)) = false := by simp; omega
      have d2 : (n == m) = false := by simpa using h2
      have en : Hid (1 + n = n + 1) := Lib.hid (by omega)
      replace h2 := Lib.hid h2
      clear hany hidx hll hr
      go_enter Try.func18, Try.ntmps18
      go_wp2_with (first | (refine hf.mono ?_; rintro e w' ⟨rfl, rfl⟩) | (at_builtin; refine wpAppRd E3 OA.out (Hr.out.fr0 FA.out) (oneCell_ints _) (by omega) (by omega) (by simp) (n + 1) en.out rfl rfl ?_; intro a' c' w' own' fr' at'))
      go_ret2
      exact ⟨a', n + 1, c', by rw [hres.out]; rfl, by rw [hres.out]; simpa [ints] using own', FA.out.trans fr' (fun k hk hs => absurd (OA.out.blk _ hs).1 (by omega))⟩
end Go.Proofs.Ytnlgjpcnnnilpaa
