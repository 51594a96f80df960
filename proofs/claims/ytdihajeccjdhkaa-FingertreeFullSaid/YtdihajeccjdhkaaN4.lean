/- FingertreeFull: the walk. -/
import Derived.Test.YtdihajeccjdhkaaN3
namespace Go.Proofs.Ytdihajeccjdhkaa
open Go.RowKit
attribute [local go_sem ↓] Go.wp_at_zero Go.wp_at_succ
theorem nil24 (w : World) : Calls Try.prog 24 #[.pointer none, .int .i64 1] w fun e w' => e = .returned (.tuple #[.pointer none, .int .i64 1]) ∧ w = w' :=
  PushFront_of (fun _ _ h => ⟨none, 1, h.1⟩) (push_nil 1 true w)
theorem nil25 (w : World) : Calls Try.prog 25 #[.pointer none, .int .i64 1] w fun e w' => e = .returned (.tuple #[.pointer none, .int .i64 1]) ∧ w = w' :=
  PushBack_of (fun _ _ h => ⟨none, 1, h.1⟩) (push_nil 1 false w)
theorem nil26 (w : World) : Calls Try.prog 26 #[.pointer none] w fun e w' => e = .returned (.tuple #[.int .i64 0, .pointer none, .int .i64 1]) ∧ w = w' := by
  go_enter Try.func26, Try.ntmps26
  go_wp2_with fail
  go_ret3
  exact ⟨rfl, rfl⟩
theorem nil27 (w : World) : Calls Try.prog 27 #[.pointer none] w fun e w' => e = .returned (.tuple #[.int .i64 0, .pointer none, .int .i64 1]) ∧ w = w' := by
  go_enter Try.func27, Try.ntmps27
  go_wp2_with fail
  go_ret3
  exact ⟨rfl, rfl⟩
theorem nil13 (w : World) : Calls Try.prog 13 #[.pointer none, .int .i64 0] w fun e w' => e = .returned (.tuple #[.int .i64 0, .int .i64 1]) ∧ w = w' := by
  go_enter Try.func13, Try.ntmps13
  go_wp2_with fail
  go_ret2
  exact ⟨rfl, rfl⟩
theorem nil28 (w : World) : Calls Try.prog 28 #[.pointer none, .int .i64 0, .int .i64 1] w fun e w' => e = .returned (.tuple #[.pointer none, .int .i64 1]) ∧ w = w' := by
  go_enter Try.func28, Try.ntmps28
  go_wp2_with fail
  go_ret2
  exact ⟨rfl, rfl⟩
theorem nil18 (w : World) : Calls Try.prog 18 #[.pointer none, .pointer none] w fun e w' => e = .returned (.tuple #[.pointer none, .int .i64 1]) ∧ w = w' := by
  go_enter Try.func18, Try.ntmps18
  go_wp2_with fail
  go_ret2
  exact ⟨rfl, rfl⟩
theorem nil22 (w : World) : Calls Try.prog 22 #[.pointer none, .int .i64 0] w fun e w' => e = .returned (.tuple #[.pointer none, .pointer none, .int .i64 1]) ∧ w = w' := by
  go_enter Try.func22, Try.ntmps22
  go_wp2_with fail
  go_ret3
  exact ⟨rfl, rfl⟩
theorem nil14 (w : World) : Calls Try.prog 14 #[.pointer none, .int .i64 0, .int .i64 0] w fun e w' => e = .returned (.tuple #[.int .i64 0, .int .i64 1]) ∧ w = w' := by
  go_enter Try.func14, Try.ntmps14
  go_wp2_with fail
  go_ret2
  exact ⟨rfl, rfl⟩
theorem nil16 (w : World) : Calls Try.prog 16 #[.pointer none, .int .i64 0] w fun e w' => e = .returned (.tuple #[.int .i64 0, .int .i64 1]) ∧ w = w' := by
  go_enter Try.func16, Try.ntmps16
  go_wp2_with fail
  go_ret2
  exact ⟨rfl, rfl⟩
theorem nil23 (w : World) : Calls Try.prog 23 #[.pointer none] w fun e w' => e = .returned (.int .i64 0) ∧ w = w' := by
  go_enter Try.func23, Try.ntmps23
  go_wp2_with fail
  go_ret
  exact ⟨rfl, rfl⟩
theorem nil20 (w : World) : Calls Try.prog 20 #[.pointer none] w fun e w' => e = .returned (.slice none 0 0) ∧ w = w' := by
  go_enter Try.func20, Try.ntmps20
  go_wp2_with fail
  go_ret
  exact ⟨rfl, rfl⟩
theorem nil29 (w : World) : Calls Try.prog 29 #[.pointer none] w fun e w' => e = .returned (.int .i64 0) ∧ w = w' := by
  go_enter Try.func29, Try.ntmps29
  go_wp2_with fail
  go_ret
  exact ⟨rfl, rfl⟩
theorem nil30 (w : World) : Calls Try.prog 30 #[.pointer none] w fun e w' => e = .returned (.slice none 0 0) ∧ w = w' := by
  go_enter Try.func30, Try.ntmps30
  go_wp2_with fail
  refine (nil23 w).mono ?_; rintro e w' ⟨rfl, rfl⟩
  go_wp2_with fail
  go_ret
  exact ⟨rfl, rfl⟩
theorem Concat_nilr (b : Nat) (w : World) : Calls Try.prog 18 #[.pointer (some ⟨b, 0, none⟩), .pointer none] w fun e w' => e = .returned (.tuple #[.pointer none, .int .i64 1]) ∧ w = w' := by
  go_enter Try.func18, Try.ntmps18
  go_wp2_with fail
  go_ret2
  exact ⟨rfl, rfl⟩
theorem Concat_full {xs ys : List Int} {p q : Option Addr} {w : World} (h : TK w xs p) (h' : TK w ys q) (hn : 4096 < xs.length + ys.length) (hb : xs.length + ys.length ≤ 100000) :
    Calls Try.prog 18 #[.pointer p, .pointer q] w fun e w' => e = .returned (.tuple #[.pointer none, .int .i64 4]) ∧ w = w' := by
  have l1 := Len_tk h
  have l2 := Len_tk h'
  obtain ⟨b, rfl⟩ := h.nn
  obtain ⟨b', rfl⟩ := h'.nn
  generalize xs.length = L at *
  generalize ys.length = M at *
  have d1 : decide ((4096 : Int) < (L : Int) + (M : Int)) = true := by simp; omega
  have w1 : IntKind.i64.wrap ((L : Int) + (M : Int)) = (L : Int) + (M : Int) := wI2 (by omega) (by omega)
  clear h h' hn hb
  go_enter Try.func18, Try.ntmps18
  go_wp2_with fail
  refine l1.mono ?_; rintro e w2 ⟨rfl, rfl⟩
  go_wp2_with fail
  refine l2.mono ?_; rintro e w2 ⟨rfl, rfl⟩
  go_wp2_with fail
  go_ret2
  exact ⟨rfl, rfl⟩
theorem push_tk_bad {xs : List Int} {p : Option Addr} {w : World} (h : TK w xs p) (x : Int) (front : Bool) (hn : xs.length = 4096) :
    Calls Try.prog 47 #[.pointer p, .int .i64 x, .bool front] w fun e w' => e = .returned (.tuple #[.pointer none, .int .i64 (if keyB x = true then 4 else 1)]) ∧ w = w' := by
  obtain ⟨t, h1, _, h3⟩ := h
  cases hk : keyB x with
  | true => exact push_full x front h1 hk (by unfold Tr.len; rw [h3]; omega)
  | false => exact push_bad x front h1 hk
theorem small_zeros (n : Nat) : Tr.Small (List.replicate n 0) := by
  intro x hx
  rw [(List.mem_replicate.1 hx).2]
  omega
set_option maxRecDepth 100000 in
set_option maxHeartbeats 16000000 in
theorem Full_walk (x : Int) (n : Nat) (hn : n < 256) (w : World) : Calls Try.prog 6 #[.int .i64 x, .int .u8 n] w fun e w' => e = .returned (.bool true) ∧ Fr F0 w w' := by
  obtain ⟨E, hE⟩ : ∃ E : Int, E = if keyB x = true then 4 else 1 := ⟨_, rfl⟩
  have hpf := Lib.hid (fun (xs : List Int) (p : Option Addr) (W : World) (h : TK W xs p) (hl : xs.length = 4096) => PushFront_of (Q := fun e w' => e = .returned (.tuple #[.pointer none, .int .i64 E]) ∧ W = w') (fun _ _ h => ⟨none, E, h.1⟩) (by rw [hE]; exact push_tk_bad h x true hl))
  have hpb := Lib.hid (fun (xs : List Int) (p : Option Addr) (W : World) (h : TK W xs p) (hl : xs.length = 4096) => PushBack_of (Q := fun e w' => e = .returned (.tuple #[.pointer none, .int .i64 E]) ∧ W = w') (fun _ _ h => ⟨none, E, h.1⟩) (by rw [hE]; exact push_tk_bad h x false hl))
  have HE := Lib.hid hE
  obtain ⟨m0, hm0⟩ : ∃ m : Nat, m = 4096 := ⟨_, rfl⟩
  have hm0i : ((m0 : Nat) : Int) = 4096 := by omega
  have mk1 := run_mk E3 rfl m0 (by omega) (by omega)
  rw [hm0i] at mk1
  obtain ⟨k1, hk1⟩ : ∃ k, k = 1 + n := ⟨_, rfl⟩
  have hk1i : (1 : Int) + (n : Int) = (k1 : Int) := by omega
  have hk1b : k1 ≤ 256 := by omega
  have mk2 := run_mk E3 rfl k1 (by omega) (by omega)
  have wk : IntKind.i64.wrap ((1 : Int) + (n : Int)) = (k1 : Int) := by rw [wI2 (by omega) (by omega)]; omega
  obtain ⟨j0, hj0⟩ : ∃ j, j = m0 - k1 := ⟨_, rfl⟩
  have hj0i : (4096 : Int) - (k1 : Int) = (j0 : Int) := by omega
  have Hj0 : Hid (j0 + k1 = m0) := Lib.hid (by omega)
  have hj0b : j0 ≤ 4096 := by omega
  have wn : IntKind.i64.wrap (n : Int) = (n : Int) := wI2 (by omega) (by omega)
  have Hm0 := Lib.hid hm0
  have Hk1 := Lib.hid (And.intro hk1b (show 1 ≤ k1 by omega))
  have Mk1 := Lib.hid mk1
  have Mk2 := Lib.hid mk2
  have n0 : (0 : Int) ≤ (n : Int) := by omega
  clear hm0 hm0i hk1 hn hE mk1 mk2 hj0
  go_enter Try.func6, Try.ntmps6
  go_wp2_with fail
  refine (awake_any _).mono ?_
  rintro e w1 ⟨rfl, F1⟩
  replace F1 := Lib.hid F1
  go_wp2_with fail
  refine (nil24 w1).mono ?_; rintro e w' ⟨rfl, rfl⟩
  go_wp2_with fail
  refine (nil25 w1).mono ?_; rintro e w' ⟨rfl, rfl⟩
  go_wp2_with fail
  refine (nil26 w1).mono ?_; rintro e w' ⟨rfl, rfl⟩
  go_wp2_with fail
  refine (nil27 w1).mono ?_; rintro e w' ⟨rfl, rfl⟩
  go_wp2_with fail
  refine (nil13 w1).mono ?_; rintro e w' ⟨rfl, rfl⟩
  go_wp2_with fail
  refine (nil28 w1).mono ?_; rintro e w' ⟨rfl, rfl⟩
  go_wp2_with fail
  refine (nil18 w1).mono ?_; rintro e w' ⟨rfl, rfl⟩
  go_wp2_with fail
  refine (nil22 w1).mono ?_; rintro e w' ⟨rfl, rfl⟩
  go_wp2_with fail
  refine (nil14 w1).mono ?_; rintro e w' ⟨rfl, rfl⟩
  go_wp2_with fail
  refine (nil16 w1).mono ?_; rintro e w' ⟨rfl, rfl⟩
  go_wp2_with fail
  refine (nil23 w1).mono ?_; rintro e w' ⟨rfl, rfl⟩
  go_wp2_with fail
  refine (nil20 w1).mono ?_; rintro e w' ⟨rfl, rfl⟩
  go_wp2_with fail
  refine (nil29 w1).mono ?_; rintro e w' ⟨rfl, rfl⟩
  go_wp2_with fail
  refine (nil30 w1).mono ?_; rintro e w' ⟨rfl, rfl⟩
  have mk1 := Mk1.out
  have R1 : Rd (w1.alloc (.cells (Array.replicate m0 (.int .i64 0)) 3)) (some ⟨w1.heap.size, 0, none⟩) m0 (ints (List.replicate m0 0)) := by
    have h := (Own.made (w := w1) (B := 0) (T := 3) (z := .int .i64 0) m0 (Nat.zero_le _) (by have := Hm0.out; omega)).rd
    rwa [show List.replicate m0 (Value.int .i64 0) = ints (List.replicate m0 0) by simp] at h
  have H1 := Lib.hid (Make_tk R1 (Nat.le_refl m0) (small_zeros m0) (by have := Hm0.out; omega))
  replace F1 : Hid (Fr F0 w (w1.alloc (.cells (Array.replicate m0 (.int .i64 0)) 3))) := Lib.hid (F1.out.alloc _)
  clear R1
  go_wp2_with fail
  refine H1.out.mono ?_
  rintro e w2 ⟨bt, rfl, T1, F2⟩
  have T := Lib.hid T1
  have FW := Lib.hid (F1.out.trans0 F2)
  have mk2 := Mk2.out w2
  have R1 : Rd (w2.alloc (.cells (Array.replicate k1 (.int .i64 0)) 3)) (some ⟨w2.heap.size, 0, none⟩) k1 (ints (List.replicate k1 0)) := by
    have h := (Own.made (w := w2) (B := 0) (T := 3) (z := .int .i64 0) k1 (Nat.zero_le _) (by have := Hk1.out; omega)).rd
    rwa [show List.replicate k1 (Value.int .i64 0) = ints (List.replicate k1 0) by simp] at h
  have H2 := Lib.hid (Make_tk R1 (Nat.le_refl k1) (small_zeros k1) (by have := Hk1.out; omega))
  have A2 : Fr F0 w2 (w2.alloc (.cells (Array.replicate k1 (.int .i64 0)) 3)) := (Fr.refl _ _).alloc _
  replace T := Lib.hid (T.out.fr0 A2)
  replace FW := Lib.hid (FW.out.trans0 A2)
  clear mk1 T1 F1 F2 H1 R1 A2 Mk1
  go_wp2_with fail
  refine H2.out.mono ?_
  rintro e w3 ⟨bl, rfl, T1, F2⟩
  replace T := Lib.hid (T.out.fr0 F2)
  replace FW := Lib.hid (FW.out.trans0 F2)
  have TL := Lib.hid T1
  clear mk2 T1 F2 H2 Mk2 wn
  have hky := Key_any x w3
  have hE2 : (keyB x = true ∧ E = 4) ∨ (keyB x = false ∧ E = 1) := by
    have h := HE.out
    cases hk : keyB x with
    | true => rw [hk, if_pos rfl] at h; exact .inl ⟨rfl, h⟩
    | false => rw [hk, if_neg (by decide)] at h; exact .inr ⟨rfl, h⟩
  have hp1 := Lib.hid (hpf.out _ _ w3 T.out (by rw [List.length_replicate]; exact Hm0.out))
  have hp2 := Lib.hid (hpb.out _ _ w3 T.out (by rw [List.length_replicate]; exact Hm0.out))
  have hcf := Lib.hid (Concat_full T.out TL.out (by rw [List.length_replicate, List.length_replicate]; have := Hm0.out; have := Hk1.out; omega) (by rw [List.length_replicate, List.length_replicate]; have := Hm0.out; have := Hk1.out; omega))
  have hsp := Lib.hid (Split_tk T.out (small_zeros m0) (by rw [List.length_replicate]; have := Hm0.out; omega) (i := j0) (by rw [List.length_replicate]; have := Hj0.out; omega))
  clear hpf hpb HE
  rcases hE2 with ⟨hk, rfl⟩ | ⟨hk, rfl⟩
  all_goals
    rw [hk] at hky
    clear hk
    go_wp2_with fail
    refine hky.mono ?_; rintro e w' ⟨rfl, rfl⟩
    go_wp2_with fail
    refine hp1.out.mono ?_; rintro e w' ⟨rfl, rfl⟩
    go_wp2_with fail
    refine hp2.out.mono ?_; rintro e w' ⟨rfl, rfl⟩
    go_wp2_with fail
    refine hcf.out.mono ?_; rintro e w' ⟨rfl, rfl⟩
    go_wp2_with fail
    refine (Concat_nilr bt _).mono ?_; rintro e w' ⟨rfl, rfl⟩
    go_wp2_with fail
    refine hsp.out.mono ?_
    rintro e w4 ⟨bp, bq, rfl, Tp, _, F4⟩
    have hcc := Lib.hid (Concat_tk Tp (TL.out.fr0 F4) (Small.app.2 ⟨fun y hy => small_zeros m0 y (List.mem_of_mem_take hy), small_zeros k1⟩) (by rw [List.length_take, List.length_replicate, List.length_replicate]; have := Hm0.out; have := Hj0.out; omega))
    replace FW := Lib.hid (FW.out.trans0 F4)
    clear Tp F4
    go_wp2_with fail
    refine hcc.out.mono ?_
    rintro e w5 ⟨bz, rfl, Tz, F5⟩
    replace FW := Lib.hid (FW.out.trans0 F5)
    obtain ⟨t, h1, h2, h3⟩ := Tz
    have htl : t.len = m0 := by
      unfold Tr.len
      rw [h3, List.length_append, List.length_take, List.length_replicate, List.length_replicate]
      have := Hj0.out; omega
    have hm9 : ((m0 : Nat) : Int) = 4096 := by have := Hm0.out; omega
    have hLn := Len_any h1
    rw [htl, hm9] at hLn
    have hdp := Lib.hid (Depth_any h1)
    have hsh := Shape_any h1
    rw [htl] at hsh
    have Hsh := Lib.hid hsh
    have hdd := depth_ok h2
    rw [htl] at hdd
    have Hsd := Lib.hid (fun (d : Nat) (hd : d ≤ 2 * lg m0 + 2) (a : Option Addr) (m c : Nat) (W : World) (R : Rd W a m (ints (shp m0))) => (by
      have h := Shaped_any m0 d (by have := Hm0.out; omega) hd a m c W R
      rw [hm9] at h
      exact h : Calls Try.prog 32 #[.int .i64 4096, .int .i64 d, .slice a m c] W fun e w' => e = .returned (.bool true) ∧ W = w'))
    have Hdd := Lib.hid hdd
    clear h1 h2 h3 htl hm9 hsh hdd F5
    go_wp2_with fail
    refine hLn.mono ?_; rintro e w' ⟨rfl, rfl⟩
    go_wp2_with fail
    refine hdp.out.mono ?_; rintro e w' ⟨rfl, rfl⟩
    go_wp2_with fail
    refine Hsh.out.mono ?_
    rintro e w6 ⟨a6, m6, c6, hm6, rfl, R6, F6⟩
    clear hm6
    have hfin := Lib.hid (Hsd.out t.ht Hdd.out a6 m6 c6 w6 R6)
    replace FW := Lib.hid (FW.out.trans0 F6)
    clear R6 F6
    go_wp2_with fail
    refine hfin.out.mono ?_; rintro e w' ⟨rfl, rfl⟩
    go_wp2_with fail
    go_ret
    exact ⟨rfl, FW.out⟩
theorem Full_law (x n : Int) (w : World) (h5 : (Lit.int .u8 n).wf = true) : Calls Try.prog 6 #[.int .i64 x, .int .u8 n] w fun e w' => e = .returned (.bool true) ∧ Fr F0 w w' := by
  have h4 : 0 ≤ n ∧ n ≤ 255 := by
    simp only [Lit.wf, Bool.and_eq_true, decide_eq_true_eq] at h5
    have e1 : IntKind.u8.min = 0 := by decide
    have e2 : IntKind.u8.max = 255 := by decide
    rw [e1, e2] at h5
    exact h5
  obtain ⟨k, rfl⟩ := Int.eq_ofNat_of_zero_le h4.1
  exact Full_walk x k (by omega) w
end Go.Proofs.Ytdihajeccjdhkaa
