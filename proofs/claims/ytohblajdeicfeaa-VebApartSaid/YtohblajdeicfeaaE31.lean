/- VebApart: the law. -/
import Derived.Test.YtohblajdeicfeaaE29
import Derived.Test.YtohblajdeicfeaaE30
import Derived.Test.YtohblajdeicfeaaE26
import Derived.Test.YtohblajdeicfeaaSlEqual
namespace Go.Proofs.Ytohblajdeicfeaa
open Go.RowKit
attribute [local go_sem ↓] Go.wp_at_zero Go.wp_at_succ
theorem Fr.setCells {b : Nat} : ∀ (vs : List Value) (o : Nat) (w : World), Fr (onB b) w (w.setCells b o vs)
  | [], _, _ => Fr.refl _ _
  | v :: vs, o, w => ((Fr.refl (onB b) w).setB o v).trans (Fr.setCells vs (o + 1) (w.setCell ⟨b, o, none⟩ v)) (fun _ _ h => h)
theorem clear_any {w : World} {B : Nat} {a : Option Addr} {n c : Nat} {xs : List Int} (O : Own w B 3 a n c (ints xs)) (ty : TypeId) : ∃ W, (Builtin.clear_ #[23] ty #[.slice a n c]).run Try.prog w = .ok (.tuple #[]) W ∧ Fr (onBlk a) w W := by
  by_cases hn : 0 < n
  · obtain ⟨g, rfl, _, _, hc, hz⟩ := O.at hn
    have hl := O.lens
    refine ⟨_, Lib.run_clear_slice w 23 3 ty (.int .i64 0) Try.underlying23 (fun w => by kernel_rfl) rfl rfl g 0 n c hn (fun j hj => ?_) (fun j hj => by rw [Nat.zero_add]; exact hz j), (Fr.setCells _ _ _).mono (fun q _ (e : q = g) => (onBlk_some _ _ _ _).2 e)⟩
    have hj' : j < xs.length := by omega
    rw [Nat.zero_add, hc j (.int .i64 xs[j]) (by simp [hj'])]
    rfl
  · obtain rfl : n = 0 := by omega
    refine ⟨w, ?_, Fr.refl _ _⟩
    cases a <;> simp [Builtin.clear_, run_underlying Try.underlying23]
set_option maxRecDepth 100000 in
set_option maxHeartbeats 4000000 in
theorem Apart_bad (k0 : Int) (a : Option Addr) (n c : Nat) (x : Int) (w : World) (h : k0 < 1 ∨ 20 < k0 ∨ 40 < n) :
    Calls Try.prog 6 #[.int .i64 k0, .slice a n c, .int .i64 x] w fun e w' => e = .returned (.bool true) ∧ Fr F0 w w' := by
  have HA := Lib.hid (awake_any w)
  by_cases hk : k0 < 1 ∨ 20 < k0
  · have HB := fun w => Bits_any w k0
    rw [decide_eq_false (by omega)] at HB
    have HB := Lib.hid HB
    clear h hk
    go_enter Try.func6, Try.ntmps6
    go_wp2_with fail
    refine (HA.out).mono ?_
    rintro e w1 ⟨rfl, F1⟩
    go_wp2_with (go_at_call 27; refine (HB.out _).mono ?_; rintro e w2 ⟨rfl, rfl⟩)
    go_ret
    exact ⟨rfl, F1⟩
  · have HB := fun w => Bits_any w k0
    rw [decide_eq_true (by omega)] at HB
    have HB := Lib.hid HB
    have hn : 40 < n := by omega
    clear h hk
    go_enter Try.func6, Try.ntmps6
    go_wp2_with fail
    refine (HA.out).mono ?_
    rintro e w1 ⟨rfl, F1⟩
    go_wp2_with (go_at_call 27; refine (HB.out _).mono ?_; rintro e w2 ⟨rfl, rfl⟩)
    go_ret
    exact ⟨rfl, F1⟩
set_option maxRecDepth 100000 in
set_option maxHeartbeats 8000000 in
theorem Apart_in (k : Nat) (a : Option Addr) (n c : Nat) (args : List Int) (x : Int) (w : World) (A : Rd w a n (ints args)) (hn : n ≤ 40) (hk1 : 1 ≤ k) (hk2 : k ≤ 20) :
    Calls Try.prog 6 #[.int .i64 k, .slice a n c, .int .i64 x] w fun e w' => e = .returned (.bool true) ∧ Fr F0 w w' := by
  have HA := Lib.hid (awake_any w)
  have HM := Lib.hid (fun w => made_ok w hk1 hk2)
  have H1 := Lib.hid A
  have HB := fun w => Bits_any w k
  rw [decide_eq_true (by omega)] at HB
  have HB := Lib.hid HB
  have g1 : ¬ 40 < n := by omega
  clear A
  go_enter Try.func6, Try.ntmps6
  go_wp2_with fail
  refine (HA.out).mono ?_
  rintro e w1 ⟨rfl, F1⟩
  have HF1 := Lib.hid F1
  clear F1
  go_wp2_with (go_at_call 27; refine (HB.out _).mono ?_; rintro e w2 ⟨rfl, rfl⟩)
  refine (HM.out w1).mono ?_
  rintro e w2 ⟨s, rb, N, rfl, R2, F2, q1, q2⟩
  have hsz1 := HF1.out.size
  have HM2 : Hid (Mt w w2 s k rb [] N [] none 0 0) := Lib.hid ⟨⟨_, R2⟩, HF1.out.trans F2 (fun _ _ h => h), fun q hq => hq.elim (fun e => by have := q2 q e; omega) (fun e => by omega), Rd.nil _ _, Nat.le_refl _, fun q hq => absurd hq (onBlk_none _)⟩
  clear R2 F2 q2 HF1
  go_wp2_with fail
  go_loopw [51] (fun s51 wr => ∃ (i : Nat) (xs : List Int) (N : Nat → Prop), i ≤ n ∧ s51 = .int .i64 i ∧ Hid (Mt w wr s k rb xs N [] none 0 0) ∧ Hid (xs.length ≤ i)) (fun s51 _ => n - (intOf s51).toNat)
  case atStart => exact ⟨0, [], N, by omega, rfl, HM2, Lib.hid (by simp)⟩
  case round =>
    obtain ⟨i, xs, N, hi, rfl, HMt, HZ⟩ := hrel
    clear HM2
    by_cases hlt : i < n
    · obtain ⟨b1, o1, y, ea1, hu, hc1⟩ := (H1.out.fr0 HMt.out.F).ix (show i < n by omega)
      subst ea1
      clear hu
      obtain ⟨st, R⟩ := HMt.out.R
      have HI := Lib.hid (Insert_step R y (by have := HZ.out; omega))
      clear R
      go_wp2_with fail
      refine (HI.out).mono ?_
      rintro e w3 ⟨v, err, st3, zs3, N3, rfl, R3, hl3, _, F3, hN3⟩
      have HM3 := Lib.hid (HMt.out.op R3 F3 hN3)
      have HZ3 := Lib.hid (show zs3.length ≤ i + 1 by have := HZ.out; omega)
      clear R3 hl3 F3 hN3 HI HMt HZ
      go_wp2_with fail
      go_roundw
      case rel => exact ⟨i + 1, zs3, N3, by omega, by go_num, HM3, HZ3⟩
      case measure => simp [intOf]; omega
    · obtain rfl : i = n := by omega
      obtain ⟨st, R⟩ := HMt.out.R
      have HR := Lib.hid R
      have hl : xs.length ≤ 100 := by have := HZ.out; omega
      clear R
      go_wp2_with fail
      refine (List_any HR.out hl).mono ?_
      rintro e w4 ⟨a4, c4, rfl, O4, R4, F4⟩
      have HF4 := Lib.hid (HMt.out.F.trans F4 (fun q hq (e : q = s) => by have := HMt.out.nw q (.inr e); omega))
      have hslt := HR.out.lt s (.inr rfl)
      have hsz4 := F4.size
      have HNW := Lib.hid (fun q (e : q = s) => HMt.out.nw q (.inr e))
      have hsz0 := HMt.out.F.size
      have HO4 := Lib.hid O4
      have HR4 := Lib.hid R4
      clear O4 R4 F4 HR HMt
      go_wp2_with fail
      refine (List_any HR4.out hl).mono ?_
      rintro e w5 ⟨a5, c5, rfl, O5, R5, F5⟩
      obtain ⟨w6, hclr, F6⟩ := clear_any O5 0
      have hb5 := O5.blk
      have HN5 := R5.lt
      have F46 : Fr (fun q => q = s ∨ onBlk a5 q) w4 w6 := (F5.mono (fun q _ (e : q = s) => .inl e)).trans F6 (fun q _ e => .inr e)
      have HR6 := Lib.hid (R5.fr F6 (fun q hq e => by have := (hb5 q e).1; have := HR4.out.lt q (.inl hq); omega) (fun e => by have := (hb5 s e).1; omega))
      have HO6 := Lib.hid (HO4.out.fr F46 (fun q hq e => e.elim (fun e => by have := (HO4.out.blk q hq).1; omega) (fun e => by have := (HO4.out.blk q hq).2; have := (hb5 q e).1; omega)))
      have HF6 := Lib.hid (HF4.out.trans F46 (fun q hq e => e.elim (fun e => by have := HNW.out q e; omega) (fun e => by have := (hb5 q e).1; omega)))
      have hsz6 := F46.size
      clear O5 R5 F5 F6 hb5 HN5 F46 HF4 HO4 HR4
      go_wp2_with fail
      refine (List_any HR6.out hl).mono ?_
      rintro e w7 ⟨a7, c7, rfl, O7, R7, F7⟩
      have HO7 := Lib.hid O7
      have HF7 := Lib.hid (HF6.out.trans F7 (fun q hq (e : q = s) => by have := HNW.out q e; omega))
      have HO67 := Lib.hid (HO6.out.fr F7 (fun q hq (e : q = s) => by have := (HO6.out.blk q hq).1; omega))
      clear O7 R7 F7 HR6 HO6 HF6
      have HEq := Equal_any a4 a7 xs.length xs.length c4 c7 xs xs w7 HO67.out.rd HO7.out.rd
      rw [decide_eq_true rfl] at HEq
      have HEq := Lib.hid HEq
      go_wp2_with (first
        | (go_at_call 9; refine (Insert_nil _ _).mono ?_; rintro e w8 ⟨rfl, rfl⟩)
        | (go_at_call 10; refine (Delete_nil _ _).mono ?_; rintro e w8 ⟨rfl, rfl⟩)
        | (go_at_call 11; refine (Contains_nil _ _).mono ?_; rintro e w8 ⟨rfl, rfl⟩)
        | (go_at_call 23; refine (Min_nil _).mono ?_; rintro e w8 ⟨rfl, rfl⟩)
        | (go_at_call 24; refine (Max_nil _).mono ?_; rintro e w8 ⟨rfl, rfl⟩)
        | (go_at_call 12; refine (Next_nil _ _).mono ?_; rintro e w8 ⟨rfl, rfl⟩)
        | (go_at_call 13; refine (Prev_nil _ _).mono ?_; rintro e w8 ⟨rfl, rfl⟩))
      refine (HEq.out).mono ?_
      rintro e w8 ⟨rfl, q8, rfl⟩
      have HF8 := Lib.hid (HF7.out.drewN q8)
      clear HEq HO7 HO67 HF7
      generalize w7.drewN q8 = w8 at *
      go_wp2_with fail
      have O9 := Lib.hid (Own.lit (w := w8) (B := w8.heap.size) (T := 28) (ints [1, 1, 1, 1, 1, 1, 1]) 7 rfl (by omega) (by omega))
      have hs9 := size_alloc w8 (.cells #[.int .i64 1, .int .i64 1, .int .i64 1, .int .i64 1, .int .i64 1, .int .i64 1, .int .i64 1] 28)
      have B10 := Blk.new (w8.alloc (.cells #[.int .i64 1, .int .i64 1, .int .i64 1, .int .i64 1, .int .i64 1, .int .i64 1, .int .i64 1] 28)) 28 [.int .i64 1]
      rw [hs9] at B10
      refine (Repeat_any (B10.cell (i := 0) rfl)).mono ?_
      rintro e w11 ⟨g, rfl, B11, hg, F11⟩
      have hRd1 : Rd w11 (some ⟨w8.heap.size, 0, none⟩) 7 (ints [1, 1, 1, 1, 1, 1, 1]) := (O9.out.rd.fr0 ((Fr.refl _ _).alloc _)).fr0 F11
      have hRd2 : Rd w11 (some ⟨g, 0, none⟩) 7 (ints [1, 1, 1, 1, 1, 1, 1]) := ⟨rfl, by omega, fun _ => ⟨g, 0, rfl, fun i u hu => by rw [Nat.zero_add]; exact B11.cell hu⟩⟩
      have HE := EqualE_any _ _ 7 7 7 7 _ _ w11 hRd1 hRd2
      rw [decide_eq_true rfl] at HE
      have HE := Lib.hid HE
      have HF11 := Lib.hid (((HF8.out.alloc _).alloc _).trans F11 (fun _ _ h => h))
      clear O9 hs9 B10 B11 F11 hRd1 hRd2
      go_wp2_with fail
      refine (HE.out).mono ?_
      rintro e w12 ⟨rfl, q12, rfl⟩
      have HF12 := Lib.hid (HF11.out.drewN q12)
      clear HE
      generalize w11.drewN q12 = w12 at *
      go_wp2_with (first
        | (go_at_call 22; refine (Len_nil _).mono ?_; rintro e w13 ⟨rfl, rfl⟩)
        | (go_at_call 26; refine (List_nil _).mono ?_; rintro e w13 ⟨rfl, rfl⟩)
        | (go_at_call 14; refine (Steps_nil _).mono ?_; rintro e w13 ⟨rfl, rfl⟩))
      go_ret
      exact ⟨rfl, HF12.out⟩
theorem Apart_law (k0 : Int) (a : Option Addr) (n c : Nat) (xs : List Int) (x : Int) (w : World) (A : ArgSl w a n c xs) :
    Calls Try.prog 6 #[.int .i64 k0, .slice a n c, .int .i64 x] w fun e w' => e = .returned (.bool true) ∧ Fr F0 w w' := by
  by_cases h : k0 < 1 ∨ 20 < k0 ∨ 40 < n
  · exact Apart_bad k0 a n c x w h
  · obtain ⟨k, rfl⟩ : ∃ k : Nat, k0 = k := ⟨k0.toNat, by omega⟩
    exact Apart_in k a n c xs x w A.rd (by omega) (by omega) (by omega)
end Go.Proofs.Ytohblajdeicfeaa
