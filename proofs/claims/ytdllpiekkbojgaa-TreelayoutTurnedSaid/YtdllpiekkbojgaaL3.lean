/- treelayout's layout and Layout. -/
import Derived.Test.YtdllpiekkbojgaaL2
namespace Go.Proofs.Ytdllpiekkbojgaa
open Go.RowKit

def givenB (k h s : Int) : Bool := decide (1 ≤ k ∧ k ≤ 4 ∧ 1 ≤ h ∧ h ≤ 16 ∧ 0 < s)

set_option maxHeartbeats 400000 in
theorem given_any (k h s : Int) (w : World) :
    Calls Try.prog 33 #[.int .i64 k, .int .i64 h, .int .i64 s] w fun e w' => e = .returned (.bool (givenB k h s)) ∧ w = w' := by
  go_enter Try.func33, Try.ntmps33
  go_wp2
  all_goals go_ret
  all_goals refine ⟨ret_bool ?_, rfl⟩
  all_goals (unfold givenB; first | (apply Eq.symm; apply decide_eq_false; omega) | (show decide _ = _; rw [decide_eq_decide]; omega))

/-- The result of a call that makes a slice of ints. -/
def MadeInts (w : World) (xs : List Int) (n : Nat) (e : Ending) (w' : World) : Prop := ∃ a c, e = .returned (.slice a n c) ∧ Own w' w.heap.size 3 a n c (ints xs) ∧ Fr F0 w w'

theorem cnt_le {h : Nat} (hh : h ≤ 16) : cnt h ≤ 65535 := by
  have := Nat.pow_le_pow_right (n := 2) (by omega) hh
  have e : (2 : Nat) ^ 16 = 65536 := rfl
  unfold cnt; omega

def layWorld (w : World) (n : Nat) (kind : Int) : World :=
  (((((((w.alloc (.cells #[.int .i64 kind] 3)).alloc (.cells #[.int .i64 n] 3)).alloc (.cells (Array.replicate n (.int .i64 0)) 3)).alloc
    (.cells #[.slice (some ⟨w.heap.size + 1 + 1, 0, none⟩) n n] 23)).alloc (.cells #[.int .i64 0] 3)).alloc
    (.cells #[.func (.func 48) #[] #[.pointer (some ⟨w.heap.size + 1 + 1 + 1 + 1, 0, none⟩), .pointer (some ⟨w.heap.size + 1 + 1 + 1, 0, none⟩)]] 62)).alloc
    (.cells #[.func (.func 49) #[] #[.pointer (some ⟨w.heap.size + 1, 0, none⟩), .pointer (some ⟨w.heap.size, 0, none⟩), .pointer (some ⟨w.heap.size + 1 + 1 + 1 + 1 + 1, 0, none⟩), .pointer (some ⟨w.heap.size + 1 + 1 + 1 + 1 + 1 + 1, 0, none⟩)]] 62)).alloc
    (.cells #[.func (.func 50) #[] #[.pointer (some ⟨w.heap.size + 1 + 1 + 1 + 1 + 1, 0, none⟩), .pointer (some ⟨w.heap.size + 1 + 1 + 1 + 1 + 1 + 1 + 1, 0, none⟩)]] 63)
theorem One.new' {w : World} (T : TypeId) (v : Value) {b : Nat} (hb : b = w.heap.size) : One (w.alloc (.cells #[v] T)) b T v := by subst hb; exact One.new T v
theorem lay_start (w : World) (n : Nat) (kind : Int) (hn : n ≤ 65535) : Lay (layWorld w n kind) w.heap.size n kind (zeroS n) := by
  refine ⟨?_, ?_, ?_, ?_, ?_, ?_, ?_, ?_⟩
  · exact (((((((One.new 3 _).alloc _).alloc _).alloc _).alloc _).alloc _).alloc _).alloc _
  · exact (((((((One.new' 3 _ (by simp))).alloc _).alloc _).alloc _).alloc _).alloc _).alloc _
  · have h := Own.made (w := (w.alloc (.cells #[.int .i64 kind] 3)).alloc (.cells #[.int .i64 n] 3)) (B := w.heap.size) (T := 3) (z := .int .i64 0) n (by simp; omega) (by omega)
    have e : ints (zeroS n).l = List.replicate n (.int .i64 0) := by simp [zeroS]
    rw [e]
    have h2 := ((((h.alloc (.cells #[.slice (some ⟨w.heap.size + 1 + 1, 0, none⟩) n n] 23)).alloc (.cells #[.int .i64 0] 3)).alloc
      (.cells #[.func (.func 48) #[] #[.pointer (some ⟨w.heap.size + 1 + 1 + 1 + 1, 0, none⟩), .pointer (some ⟨w.heap.size + 1 + 1 + 1, 0, none⟩)]] 62)).alloc
      (.cells #[.func (.func 49) #[] #[.pointer (some ⟨w.heap.size + 1, 0, none⟩), .pointer (some ⟨w.heap.size, 0, none⟩), .pointer (some ⟨w.heap.size + 1 + 1 + 1 + 1 + 1, 0, none⟩), .pointer (some ⟨w.heap.size + 1 + 1 + 1 + 1 + 1 + 1, 0, none⟩)]] 62)).alloc
      (.cells #[.func (.func 50) #[] #[.pointer (some ⟨w.heap.size + 1 + 1 + 1 + 1 + 1, 0, none⟩), .pointer (some ⟨w.heap.size + 1 + 1 + 1 + 1 + 1 + 1 + 1, 0, none⟩)]] 63)
    simpa [layWorld] using h2
  · exact ((((One.new' 23 _ (by simp))).alloc _).alloc _).alloc _ |>.alloc _
  · exact ((((One.new' 3 _ (by simp))).alloc _).alloc _).alloc _
  · exact ((One.new' 62 _ (by simp)).alloc _).alloc _
  · exact (One.new' 62 _ (by simp)).alloc _
  · exact One.new' 63 _ (by simp)
theorem lay_start_fr (w : World) (n : Nat) (kind : Int) : Fr F0 w (layWorld w n kind) :=
  (((((((((Fr.refl _ _).alloc _).alloc _).alloc _).alloc _).alloc _).alloc _).alloc _).alloc _)
theorem lay_made {w W : World} {n : Nat} {kind : Int} {s : St} (h : Lay W w.heap.size n kind s) (f : Fr F0 w W) : MadeInts w s.l n (.returned (.slice (some ⟨w.heap.size + 2, 0, none⟩) n n)) W :=
  ⟨_, _, rfl, h.own, f⟩
theorem lay_fr {w W W' : World} (f : Fr F0 w W) (f' : Fr (LayS w.heap.size) W W') : Fr F0 w W' := f.trans f' (fun k hk h => by rcases h with h | h <;> omega)

set_option maxHeartbeats 1000000 in
theorem layout_any (kind : Int) (h : Nat) (hi : Int) (w : World) (hhi : hi = h) (h1 : 1 ≤ h) (h2 : h ≤ 16) :
    Calls Try.prog 34 #[.int .i64 kind, .int .i64 hi] w (MadeInts w (layS kind h) (cnt h)) := by
  subst hhi
  obtain ⟨n, hn⟩ : ∃ n, n = cnt h := ⟨_, rfl⟩
  have hn1 := cnt_le h2
  rw [← hn] at hn1 ⊢
  have hp : (1 : Nat) ≤ 2 ^ h := Nat.one_le_two_pow
  have W1 : Hid (wrap64 ((2 : Int) ^ h) = ((n + 1 : Nat) : Int)) := Lib.hid (by
    rw [show (2 : Int) ^ h = ((n + 1 : Nat) : Int) by subst hn; unfold cnt; rw [Nat.sub_add_cancel hp]; simp]
    exact IntWalk.wrap64_in _ (by omega))
  have W2 : Hid (wrap64 (((n + 1 : Nat) : Int) - 1) = (n : Int)) := Lib.hid (by rw [IntWalk.wrap64_in _ (by omega)]; omega)
  have Hn := Lib.hid hn
  clear hn
  have hmk := run_mk E3 rfl n (by omega) (by omega)
  go_enter Try.func34, Try.ntmps34
  go_wp2_with fail
  simp only [W1.out, W2.out]
  go_simp
  go_wp2_with fail
  rotate_left
  · have hk1 : (kind == 1) = false := by assumption
    have hk4 : (kind == 4) = true := by assumption
    have e : layS kind h = (splitS h 0 h (zeroS n)).l := by unfold layS; rw [if_neg (by simpa using hk1), if_pos (by simpa using hk4), Hn.out]
    have E := Lib.hid e
    clear e hmk
    refine (split_any w.heap.size n h kind ?_ h2 h 0 h _ _ (zeroS n) (layWorld w n kind) rfl rfl (Nat.le_refl _) h1 ?_ (lay_start w n kind hn1)).mono ?_
    · rw [Hn.out]; unfold cnt; omega
    · rw [← Nat.pow_succ']; exact Nat.pow_le_pow_right (by omega) (by omega)
    rintro e w1 ⟨rfl, L1, F1⟩
    have b1 := L1.bo.cell
    have L1 := Lib.hid L1
    go_wp2_with fail
    go_ret
    rw [E.out]
    exact lay_made L1.out (lay_fr (lay_start_fr w n kind) F1)
  · have hk1 : (kind == 1) = false := by assumption
    have hk4 : (kind == 4) = false := by assumption
    have e : layS kind h = (walkS kind n n 0 (zeroS n)).l := by unfold layS; rw [if_neg (by simpa using hk1), if_neg (by simpa using hk4), Hn.out]
    have E := Lib.hid e
    clear e hmk
    refine (walk_any w.heap.size n kind (by omega) n 0 _ (zeroS n) (layWorld w n kind) rfl (by omega) (by omega) (lay_start w n kind hn1)).mono ?_
    rintro e w1 ⟨rfl, L1, F1⟩
    have b1 := L1.bo.cell
    have L1 := Lib.hid L1
    go_wp2_with fail
    go_ret
    rw [E.out]
    exact lay_made L1.out (lay_fr (lay_start_fr w n kind) F1)
  · have hk1 : (kind == 1) = true := by assumption
    have e : layS kind h = (iterS putS n (zeroS n)).l := by unfold layS; rw [if_pos (by simpa using hk1), Hn.out]
    have E := Lib.hid e
    clear e hmk
    simp only [hk1]
    go_loopw [26] (fun i wr => ∃ k : Nat, k ≤ n ∧ i = .int .i64 k ∧ Lay wr w.heap.size n kind (iterS putS k (zeroS n)) ∧ Fr F0 w wr) (fun i _ => n - (intOf i).toNat)
    case atStart => exact ⟨0, by omega, rfl, lay_start w n kind hn1, lay_start_fr w n kind⟩
    case round =>
      obtain ⟨k, hk, rfl, L2, F2⟩ := hrel
      have b3 := L2.bp.cell
      have b1 := L2.bo.cell
      have L2 := Lib.hid L2
      have F2 := Lib.hid F2
      by_cases hlt : k < n
      · go_wp2_with fail
        refine (put_any wr w.heap.size n k kind _ L2.out hlt).mono ?_
        rintro e w3 ⟨rfl, L3, F3⟩
        have L3 := Lib.hid L3
        have F3 := Lib.hid F3
        go_wp2_with fail
        go_roundw
        case rel => exact ⟨k + 1, by omega, by go_num, by rw [iterS_succ]; exact L3.out, lay_fr F2.out F3.out⟩
        case measure => simp [intOf]; omega
      · have hkm : k = n := by omega
        subst hkm
        go_wp2_with fail
        go_ret
        rw [E.out]
        exact lay_made L2.out F2.out

theorem Layout_bad (kind hi : Int) (w : World) (h : givenB kind hi 1 = false) :
    Calls Try.prog 12 #[.int .i64 kind, .int .i64 hi] w fun e w' => e = .returned (.tuple #[.slice none 0 0, .int .i64 2]) ∧ w = w' := by
  go_enter Try.func12, Try.ntmps12
  go_wp2_with fail
  refine (given_any _ _ _ _).mono ?_; rintro e w' ⟨rfl, rfl⟩
  go_wp2_with fail
  go_ret2
  exact ⟨rfl, rfl⟩
theorem Layout_any (kind : Int) (h : Nat) (hi : Int) (w : World) (hhi : hi = h) (h1 : 1 ≤ h) (h2 : h ≤ 16) (hk1 : 1 ≤ kind) (hk2 : kind ≤ 4) :
    Calls Try.prog 12 #[.int .i64 kind, .int .i64 hi] w fun e w' => ∃ a c, e = .returned (.tuple #[.slice a (cnt h) c, .int .i64 0]) ∧ Own w' w.heap.size 3 a (cnt h) c (ints (layS kind h)) ∧ Fr F0 w w' := by
  subst hhi
  have hg : givenB kind h 1 = true := by unfold givenB; simp; omega
  go_enter Try.func12, Try.ntmps12
  go_wp2_with fail
  refine (given_any _ _ _ _).mono ?_; rintro e w' ⟨rfl, rfl⟩
  go_wp2_with fail
  refine (layout_any kind h _ _ rfl h1 h2).mono ?_; rintro e w' ⟨a, c, rfl, hO, hF⟩
  have hO := Lib.hid hO
  have hF := Lib.hid hF
  go_wp2_with fail
  go_ret2
  exact ⟨_, _, rfl, hO.out, hF.out⟩

end Go.Proofs.Ytdllpiekkbojgaa
