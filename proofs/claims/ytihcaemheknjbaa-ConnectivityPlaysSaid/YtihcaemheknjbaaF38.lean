/- large, made; slices.Contains. -/
import Derived.Test.YtihcaemheknjbaaF9
import Derived.Test.YtihcaemheknjbaaF8
import Derived.Test.YtihcaemheknjbaaSlIndex
namespace Go.Proofs.Ytihcaemheknjbaa
open Go.RowKit
attribute [local go_sem ↓] Go.wp_at_zero Go.wp_at_succ
def lg (n e : Int) : Bool := (decide (40 < n) && decide (n ≤ 1000)) || (decide (60 < e) && decide (e ≤ 2000)) || decide (3000 < e)
set_option maxHeartbeats 4000000 in
theorem large_any (n e : Int) (w : World) : Calls Try.prog 10 #[.int .i64 n, .int .i64 e] w fun en w' => en = .returned (.bool (lg n e)) ∧ w = w' := by
  obtain ⟨r, hr⟩ : ∃ r, r = lg n e := ⟨_, rfl⟩
  rw [← hr]
  unfold lg at hr
  by_cases c1 : 40 < n <;> by_cases c2 : n ≤ 1000 <;> by_cases c3 : 60 < e <;> by_cases c4 : e ≤ 2000 <;> by_cases c5 : 3000 < e
  all_goals first
    | (exfalso; omega)
    | (simp only [c1, c2, c3, c4, c5, decide_true, decide_false, Bool.and_true, Bool.and_false, Bool.or_true, Bool.or_false, Bool.true_and, Bool.false_and] at hr
       subst hr
       go_enter Try.func10, Try.ntmps10
       go_wp2_with fail
       go_ret
       exact ⟨rfl, rfl⟩)
theorem lg_iff (n e : Int) : lg n e = true ↔ (40 < n ∧ n ≤ 1000) ∨ (60 < e ∧ e ≤ 2000) ∨ 3000 < e := by
  unfold lg; simp [or_assoc]
theorem made_ok (n : Nat) (w : World) (h1 : 1 ≤ n) (h2 : n ≤ 1000) : Calls Try.prog 22 #[.int .i64 n] w fun e w' => ∃ f, e = .returned (.tuple #[.pointer (some ⟨f, 0, none⟩), .bool true]) ∧ Fh w' w.heap.size (fun k => w.heap.size ≤ k) f n [] (List.range n) ∧ Fr F0 w w' := by
  have HN := Lib.hid (NewForest_h n w h1 h2)
  have HV : Hid (∀ w, Calls Try.prog 43 #[.int .i64 (n : Int)] w fun e w' => e = .returned (.bool true) ∧ w = w') := Lib.hid (fun w => by
    have := Vertices_any (n : Int) w
    rw [show (decide (1 ≤ (n : Int)) && decide ((n : Int) ≤ 1000)) = true by simp; omega] at this
    exact this)
  clear h1 h2
  go_enter Try.func22, Try.ntmps22
  go_wp2_with fail
  refine HN.out.mono ?_
  rintro e w' ⟨f, rfl, hF, hf⟩
  have H1 := Lib.hid (And.intro hF hf)
  clear hF hf HN
  go_wp2_with fail
  refine (HV.out _).mono ?_
  rintro e w' ⟨rfl, rfl⟩
  go_wp2_with fail
  go_ret2
  exact ⟨f, rfl, H1.out.1, H1.out.2⟩
theorem made_no (n : Int) (w : World) (h : n < 1 ∨ 1000 < n) : Calls Try.prog 22 #[.int .i64 n] w fun e w' => e = .returned (.tuple #[.pointer none, .bool true]) ∧ w = w' := by
  have HN := Lib.hid (NewForest_no n w h)
  have HV : Hid (∀ w, Calls Try.prog 43 #[.int .i64 n] w fun e w' => e = .returned (.bool false) ∧ w = w') := Lib.hid (fun w => by
    have := Vertices_any n w
    rw [show (decide (1 ≤ n) && decide (n ≤ 1000)) = false by simp; omega] at this
    exact this)
  clear h
  go_enter Try.func22, Try.ntmps22
  go_wp2_with fail
  refine HN.out.mono ?_
  rintro e w' ⟨rfl, rfl⟩
  go_wp2_with fail
  refine (HV.out _).mono ?_
  rintro e w' ⟨rfl, rfl⟩
  go_wp2_with fail
  go_ret2
  exact ⟨rfl, rfl⟩
theorem Contains_any (a : Option Addr) (m c : Nat) (ps : List Nat) (x : Nat) (w : World) (hp : Rd w a m (nv ps)) :
    Calls Try.prog 38 #[.slice a m c, .int .i64 (x : Int)] w fun e w' => e = .returned (.bool (ps.contains x)) ∧ w = w' := by
  rw [nv_ints] at hp
  have HI := Lib.hid (Index_any a m c _ (x : Int) w hp)
  have he : (decide (0 ≤ idxI (ps.map (fun k : Nat => (k : Int))) (x : Int))) = ps.contains x := by
    have h1 : (ps.map (fun k : Nat => (k : Int))).any (· == (x : Int)) = ps.contains x := by
      rw [List.any_map, Bool.eq_iff_iff, List.any_eq_true, List.contains_iff_mem]
      constructor
      · rintro ⟨y, hy, hxy⟩
        simp at hxy
        rw [← show y = x by omega]; exact hy
      · intro h; exact ⟨x, h, by simp⟩
    unfold idxI
    rw [h1]
    cases ps.contains x <;> simp
  have HE := Lib.hid he
  clear hp he
  go_enter Try.func38, Try.ntmps38
  go_wp2_with fail
  refine HI.out.mono ?_
  rintro e w' ⟨rfl, rfl⟩
  go_wp2_with fail
  go_ret
  exact ⟨ret_bool (by rw [← HE.out]), rfl⟩
end Go.Proofs.Ytihcaemheknjbaa
