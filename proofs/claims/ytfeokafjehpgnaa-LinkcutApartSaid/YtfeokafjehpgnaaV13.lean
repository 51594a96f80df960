/- LinkcutApart: the walk. -/
import Derived.Test.YtfeokafjehpgnaaV5
import Derived.Test.YtfeokafjehpgnaaSlClone
namespace Go.Proofs.Ytfeokafjehpgnaa
open Go.RowKit
attribute [local go_sem ↓] Go.wp_at_zero Go.wp_at_succ
theorem Clone_all {a : Option Addr} {n c : Nat} {xs : List Int} {w : World} (hr : Rd w a n (ints xs)) (hn2 : n ≤ 1000000) :
    Calls Try.prog 35 #[.slice a n c] w fun e w' => ∃ a' c', e = .returned (.slice a' n c') ∧ Own w' w.heap.size 3 a' n c' (ints xs) ∧ Fr F0 w w' := by
  by_cases h0 : n = 0
  · subst h0
    have hx : xs = [] := by have := hr.len; simpa using this
    subst hx
    have hnil := fun (w : World) (a : Option Addr) (l c : Nat) => Lib.run_eql_slice_nil (P := Try.prog) w 22 3 a l c 0 0 Try.underlying22
    cases a with
    | none =>
      clear hr
      go_enter Try.func35, Try.ntmps35
      go_wp2_with fail
      go_ret
      exact ⟨none, 0, rfl, Own.nil _ _ _, Fr.refl _ _⟩
    | some ad =>
      have hO : Own (w.alloc (.cells (#[] : Array Value) 3)) w.heap.size 3 (some ⟨w.heap.size, 0, none⟩) 0 0 (ints []) := Own.lit [] 0 rfl (by omega) (by omega)
      have hF : Fr F0 w (w.alloc (.cells (#[] : Array Value) 3)) := (Fr.refl _ _).alloc _
      replace hO := Lib.hid hO
      have hR := Lib.hid (hr.fr0 hF)
      replace hF := Lib.hid hF
      clear hr
      go_enter Try.func35, Try.ntmps35
      go_wp2_with (at_builtin; refine wpAppRd E3 hO.out hR.out (oneCell_ints []) (by omega) (by omega) (by simp) 0 rfl rfl rfl ?_; intro a' c' w' own' fr' at')
      go_ret
      refine ⟨a', c', rfl, by simpa using own', hF.out.trans fr' (fun k hk hs => ?_)⟩
      have := (onBlk_some _ _ _ _).1 hs
      omega
  · obtain ⟨b, o, rfl, _⟩ := hr.cells (by omega)
    exact Clone_any b o n c xs w hr (by omega) hn2

theorem pair_nil (w : World) {v u : Int} :
    Calls Try.prog 40 #[.pointer none, .int .i64 v, .int .i64 u] w fun e w' => e = .returned (.int .i64 1) ∧ Fr F0 w w' := by
  go_enter Try.func40, Try.ntmps40
  go_wp2_with (go_at_call 47; refine (check_nil _ _ _ _).mono ?_; rintro e w1 ⟨rfl, G1⟩; replace G1 := Lib.hid G1)
  go_ret
  exact ⟨rfl, ((Fr.refl F0 w).alloc _).trans G1.out (fun _ _ h => h)⟩

theorem Root_nil (w : World) {v : Int} :
    Calls Try.prog 24 #[.pointer none, .int .i64 v] w fun e w' => e = .returned (.tuple #[.int .i64 0, .int .i64 1]) ∧ Fr F0 w w' := by
  go_enter Try.func24, Try.ntmps24
  go_wp2_with (go_at_call 47; refine (check_nil _ _ _ _).mono ?_; rintro e w1 ⟨rfl, G1⟩; replace G1 := Lib.hid G1)
  go_ret2
  exact ⟨rfl, ((Fr.refl F0 w).alloc _).trans G1.out (fun _ _ h => h)⟩

theorem Parent_nil (w : World) {v : Int} :
    Calls Try.prog 27 #[.pointer none, .int .i64 v] w fun e w' => e = .returned (.tuple #[.int .i64 0, .int .i64 1]) ∧ Fr F0 w w' := by
  go_enter Try.func27, Try.ntmps27
  go_wp2_with (go_at_call 47; refine (check_nil _ _ _ _).mono ?_; rintro e w1 ⟨rfl, G1⟩; replace G1 := Lib.hid G1)
  go_ret2
  exact ⟨rfl, ((Fr.refl F0 w).alloc _).trans G1.out (fun _ _ h => h)⟩

theorem Connected_nil (w : World) {v u : Int} :
    Calls Try.prog 22 #[.pointer none, .int .i64 v, .int .i64 u] w fun e w' => e = .returned (.tuple #[.bool false, .int .i64 1]) ∧ Fr F0 w w' := by
  go_enter Try.func22, Try.ntmps22
  go_wp2_with (go_at_call 47; refine (check_nil _ _ _ _).mono ?_; rintro e w1 ⟨rfl, G1⟩; replace G1 := Lib.hid G1)
  go_ret2
  exact ⟨rfl, ((Fr.refl F0 w).alloc _).trans G1.out (fun _ _ h => h)⟩

theorem Common_nil (w : World) {v u : Int} :
    Calls Try.prog 12 #[.pointer none, .int .i64 v, .int .i64 u] w fun e w' => e = .returned (.tuple #[.int .i64 0, .int .i64 1]) ∧ Fr F0 w w' := by
  go_enter Try.func12, Try.ntmps12
  go_wp2_with (go_at_call 40; refine (pair_nil _).mono ?_; rintro e w1 ⟨rfl, G1⟩; replace G1 := Lib.hid G1)
  go_ret2
  exact ⟨rfl, G1.out⟩

theorem Depth_nil (w : World) {v : Int} :
    Calls Try.prog 25 #[.pointer none, .int .i64 v] w fun e w' => e = .returned (.tuple #[.int .i64 0, .int .i64 1]) ∧ Fr F0 w w' := by
  go_enter Try.func25, Try.ntmps25
  go_wp2_with (go_at_call 47; refine (check_nil _ _ _ _).mono ?_; rintro e w1 ⟨rfl, G1⟩; replace G1 := Lib.hid G1)
  go_ret2
  exact ⟨rfl, ((Fr.refl F0 w).alloc _).trans G1.out (fun _ _ h => h)⟩

theorem Sum_nil (w : World) {v u : Int} :
    Calls Try.prog 13 #[.pointer none, .int .i64 v, .int .i64 u] w fun e w' => e = .returned (.tuple #[.int .i64 0, .int .i64 1]) ∧ Fr F0 w w' := by
  go_enter Try.func13, Try.ntmps13
  go_wp2_with (go_at_call 40; refine (pair_nil _).mono ?_; rintro e w1 ⟨rfl, G1⟩; replace G1 := Lib.hid G1)
  go_ret2
  exact ⟨rfl, G1.out⟩

theorem Least_nil (w : World) {v u : Int} :
    Calls Try.prog 14 #[.pointer none, .int .i64 v, .int .i64 u] w fun e w' => e = .returned (.tuple #[.int .i64 0, .int .i64 1]) ∧ Fr F0 w w' := by
  go_enter Try.func14, Try.ntmps14
  go_wp2_with (go_at_call 40; refine (pair_nil _).mono ?_; rintro e w1 ⟨rfl, G1⟩; replace G1 := Lib.hid G1)
  go_ret2
  exact ⟨rfl, G1.out⟩

theorem Link_nil (w : World) {v u : Int} :
    Calls Try.prog 28 #[.pointer none, .int .i64 v, .int .i64 u] w fun e w' => e = .returned (.int .i64 1) ∧ Fr F0 w w' := by
  go_enter Try.func28, Try.ntmps28
  go_wp2_with (go_at_call 47; refine (check_nil _ _ _ _).mono ?_; rintro e w1 ⟨rfl, G1⟩; replace G1 := Lib.hid G1)
  go_ret
  exact ⟨rfl, ((Fr.refl F0 w).alloc _).trans G1.out (fun _ _ h => h)⟩

theorem Cut_nil (w : World) {v : Int} :
    Calls Try.prog 29 #[.pointer none, .int .i64 v] w fun e w' => e = .returned (.int .i64 1) ∧ Fr F0 w w' := by
  go_enter Try.func29, Try.ntmps29
  go_wp2_with (go_at_call 47; refine (check_nil _ _ _ _).mono ?_; rintro e w1 ⟨rfl, G1⟩; replace G1 := Lib.hid G1)
  go_ret
  exact ⟨rfl, ((Fr.refl F0 w).alloc _).trans G1.out (fun _ _ h => h)⟩

theorem Evert_nil (w : World) {v : Int} :
    Calls Try.prog 23 #[.pointer none, .int .i64 v] w fun e w' => e = .returned (.int .i64 1) ∧ Fr F0 w w' := by
  go_enter Try.func23, Try.ntmps23
  go_wp2_with (go_at_call 47; refine (check_nil _ _ _ _).mono ?_; rintro e w1 ⟨rfl, G1⟩; replace G1 := Lib.hid G1)
  go_ret
  exact ⟨rfl, ((Fr.refl F0 w).alloc _).trans G1.out (fun _ _ h => h)⟩

theorem Set_nil (w : World) {v : Int} :
    Calls Try.prog 20 #[.pointer none, .int .i64 v, .int .i64 0] w fun e w' => e = .returned (.int .i64 1) ∧ Fr F0 w w' := by
  go_enter Try.func20, Try.ntmps20
  go_wp2_with fail
  go_ret
  exact ⟨rfl, Fr.refl _ _⟩


theorem fresh_pth : Pth (fun _ => 0) 1 1 [1] := ⟨[], [], [], 1, .root (by omega) rfl, .root (by omega) rfl, by simp, rfl⟩
theorem cell11 (w : World) (T : Nat) (k : Nat) (hk : k < 11) : (w.alloc (.cells #[.int .i64 1, .int .i64 1, .int .i64 1, .int .i64 1, .int .i64 1, .int .i64 1, .int .i64 1, .int .i64 1, .int .i64 1, .int .i64 1, .int .i64 1] T)).cell? ⟨w.heap.size, k, none⟩ = some (.int .i64 1) := by
  rw [World.cell?_alloc_new]
  match k, hk with
  | 0, _ | 1, _ | 2, _ | 3, _ | 4, _ | 5, _ | 6, _ | 7, _ | 8, _ | 9, _ | 10, _ => rfl

set_option maxRecDepth 100000 in
set_option maxHeartbeats 4000000 in
theorem Apart_zero (w : World) {a : Option Addr} {n c : Nat} {ws : List Int} (hp : Rd w a n (ints ws)) (hn : n = 0) :
    Calls Try.prog 8 #[.slice a n c] w fun e w' => e = .returned (.bool true) ∧ Fr F0 w w' := by
  have Hp := Lib.hid hp
  have hq : ((n : Int) == 0) = true := by simp [hn]
  have hq2 : ¬ (60 : Int) < n := by omega
  clear hn
  clear hp
  go_enter Try.func8, Try.ntmps8
  go_wp2_with (first
    | (go_at_call 9; refine (awake_any _).mono ?_; rintro e w0 ⟨rfl, G⟩; have F0' := Lib.hid G; have F1 := F0'; clear G F0')
    | (go_at_call 24; refine (Root_nil _).mono ?_; rintro e w2 ⟨rfl, G⟩; have F2 := Lib.hid (F1.out.trans G (fun _ _ h => h)); clear G F1)
    | (go_at_call 27; refine (Parent_nil _).mono ?_; rintro e w3 ⟨rfl, G⟩; have F3 := Lib.hid (F2.out.trans G (fun _ _ h => h)); clear G F2)
    | (go_at_call 22; refine (Connected_nil _).mono ?_; rintro e w4 ⟨rfl, G⟩; have F4 := Lib.hid (F3.out.trans G (fun _ _ h => h)); clear G F3)
    | (go_at_call 12; refine (Common_nil _).mono ?_; rintro e w5 ⟨rfl, G⟩; have F5 := Lib.hid (F4.out.trans G (fun _ _ h => h)); clear G F4)
    | (go_at_call 25; refine (Depth_nil _).mono ?_; rintro e w6 ⟨rfl, G⟩; have F6 := Lib.hid (F5.out.trans G (fun _ _ h => h)); clear G F5)
    | (go_at_call 13; refine (Sum_nil _).mono ?_; rintro e w7 ⟨rfl, G⟩; have F7 := Lib.hid (F6.out.trans G (fun _ _ h => h)); clear G F6)
    | (go_at_call 14; refine (Least_nil _).mono ?_; rintro e w8 ⟨rfl, G⟩; have F8 := Lib.hid (F7.out.trans G (fun _ _ h => h)); clear G F7)
    | (go_at_call 28; refine (Link_nil _).mono ?_; rintro e w9 ⟨rfl, G⟩; have F9 := Lib.hid (F8.out.trans G (fun _ _ h => h)); clear G F8)
    | (go_at_call 29; refine (Cut_nil _).mono ?_; rintro e w10 ⟨rfl, G⟩; have F10 := Lib.hid (F9.out.trans G (fun _ _ h => h)); clear G F9)
    | (go_at_call 23; refine (Evert_nil _).mono ?_; rintro e w11 ⟨rfl, G⟩; have F11 := Lib.hid (F10.out.trans G (fun _ _ h => h)); clear G F10)
    | (go_at_call 20; refine (Set_nil _).mono ?_; rintro e w12 ⟨rfl, G⟩; have F12 := Lib.hid (F11.out.trans G (fun _ _ h => h)); clear G F11)
    | (go_at_call 31; refine (Len_nil _).mono ?_; rintro e x1 ⟨rfl, rfl⟩)
    | (go_at_call 34; refine (Steps_nil _).mono ?_; rintro e x1 ⟨rfl, rfl⟩))
  obtain ⟨W, hW⟩ : ∃ W, W = w12.alloc (.cells #[.int .i64 1, .int .i64 1, .int .i64 1, .int .i64 1, .int .i64 1, .int .i64 1, .int .i64 1, .int .i64 1, .int .i64 1, .int .i64 1, .int .i64 1] 31) := ⟨_, rfl⟩
  have hc := Lib.hid (fun k (hk : k < 11) => (hW ▸ cell11 w12 31 k hk : W.cell? ⟨w12.heap.size, k, none⟩ = some (.int .i64 1)))
  have F13 := Lib.hid (hW ▸ F12.out.alloc _ : Fr F0 w W)
  rw [← hW]
  clear hW F12
  go_loop [77] (fun s => ∃ k : Nat, k ≤ 11 ∧ s = .int .i64 k) (fun s => 11 - (intOf s).toNat)
  case atStart => exact ⟨0, by omega, rfl⟩
  case round =>
    obtain ⟨k, hk, rfl⟩ := hrel
    by_cases hlt : k < 11
    · have y := hc.out k hlt
      go_wp2_with fail
      go_round
      case rel => exact ⟨k + 1, by omega, by go_num⟩
      case measure => simp [intOf]; omega
    · obtain rfl : k = 11 := by omega
      clear hlt
      have Hp' := Lib.hid (Hp.out.fr0 F13.out)
      go_wp2_with (first
        | (go_at_call 31; refine (Len_nil _).mono ?_; rintro e x1 ⟨rfl, rfl⟩)
        | (go_at_call 34; refine (Steps_nil _).mono ?_; rintro e x1 ⟨rfl, rfl⟩))
      go_ret
      exact ⟨rfl, F13.out⟩

set_option maxRecDepth 100000 in
set_option maxHeartbeats 4000000 in
theorem Apart_big (w : World) {a : Option Addr} {n c : Nat} {ws : List Int} (hp : Rd w a n (ints ws)) (hn : 60 < n) :
    Calls Try.prog 8 #[.slice a n c] w fun e w' => e = .returned (.bool true) ∧ Fr F0 w w' := by
  have Hp := Lib.hid hp
  have hq : (60 : Int) < n := by omega
  clear hn
  clear hp
  go_enter Try.func8, Try.ntmps8
  go_wp2_with (first
    | (go_at_call 9; refine (awake_any _).mono ?_; rintro e w0 ⟨rfl, G⟩; have F0' := Lib.hid G; have F1 := F0'; clear G F0')
    | (go_at_call 24; refine (Root_nil _).mono ?_; rintro e w2 ⟨rfl, G⟩; have F2 := Lib.hid (F1.out.trans G (fun _ _ h => h)); clear G F1)
    | (go_at_call 27; refine (Parent_nil _).mono ?_; rintro e w3 ⟨rfl, G⟩; have F3 := Lib.hid (F2.out.trans G (fun _ _ h => h)); clear G F2)
    | (go_at_call 22; refine (Connected_nil _).mono ?_; rintro e w4 ⟨rfl, G⟩; have F4 := Lib.hid (F3.out.trans G (fun _ _ h => h)); clear G F3)
    | (go_at_call 12; refine (Common_nil _).mono ?_; rintro e w5 ⟨rfl, G⟩; have F5 := Lib.hid (F4.out.trans G (fun _ _ h => h)); clear G F4)
    | (go_at_call 25; refine (Depth_nil _).mono ?_; rintro e w6 ⟨rfl, G⟩; have F6 := Lib.hid (F5.out.trans G (fun _ _ h => h)); clear G F5)
    | (go_at_call 13; refine (Sum_nil _).mono ?_; rintro e w7 ⟨rfl, G⟩; have F7 := Lib.hid (F6.out.trans G (fun _ _ h => h)); clear G F6)
    | (go_at_call 14; refine (Least_nil _).mono ?_; rintro e w8 ⟨rfl, G⟩; have F8 := Lib.hid (F7.out.trans G (fun _ _ h => h)); clear G F7)
    | (go_at_call 28; refine (Link_nil _).mono ?_; rintro e w9 ⟨rfl, G⟩; have F9 := Lib.hid (F8.out.trans G (fun _ _ h => h)); clear G F8)
    | (go_at_call 29; refine (Cut_nil _).mono ?_; rintro e w10 ⟨rfl, G⟩; have F10 := Lib.hid (F9.out.trans G (fun _ _ h => h)); clear G F9)
    | (go_at_call 23; refine (Evert_nil _).mono ?_; rintro e w11 ⟨rfl, G⟩; have F11 := Lib.hid (F10.out.trans G (fun _ _ h => h)); clear G F10)
    | (go_at_call 20; refine (Set_nil _).mono ?_; rintro e w12 ⟨rfl, G⟩; have F12 := Lib.hid (F11.out.trans G (fun _ _ h => h)); clear G F11)
    | (go_at_call 31; refine (Len_nil _).mono ?_; rintro e x1 ⟨rfl, rfl⟩)
    | (go_at_call 34; refine (Steps_nil _).mono ?_; rintro e x1 ⟨rfl, rfl⟩))
  obtain ⟨W, hW⟩ : ∃ W, W = w12.alloc (.cells #[.int .i64 1, .int .i64 1, .int .i64 1, .int .i64 1, .int .i64 1, .int .i64 1, .int .i64 1, .int .i64 1, .int .i64 1, .int .i64 1, .int .i64 1] 31) := ⟨_, rfl⟩
  have hc := Lib.hid (fun k (hk : k < 11) => (hW ▸ cell11 w12 31 k hk : W.cell? ⟨w12.heap.size, k, none⟩ = some (.int .i64 1)))
  have F13 := Lib.hid (hW ▸ F12.out.alloc _ : Fr F0 w W)
  rw [← hW]
  clear hW F12
  go_loop [77] (fun s => ∃ k : Nat, k ≤ 11 ∧ s = .int .i64 k) (fun s => 11 - (intOf s).toNat)
  case atStart => exact ⟨0, by omega, rfl⟩
  case round =>
    obtain ⟨k, hk, rfl⟩ := hrel
    by_cases hlt : k < 11
    · have y := hc.out k hlt
      go_wp2_with fail
      go_round
      case rel => exact ⟨k + 1, by omega, by go_num⟩
      case measure => simp [intOf]; omega
    · obtain rfl : k = 11 := by omega
      clear hlt
      have Hp' := Lib.hid (Hp.out.fr0 F13.out)
      go_wp2_with (first
        | (go_at_call 31; refine (Len_nil _).mono ?_; rintro e x1 ⟨rfl, rfl⟩)
        | (go_at_call 34; refine (Steps_nil _).mono ?_; rintro e x1 ⟨rfl, rfl⟩))
      go_ret
      exact ⟨rfl, F13.out⟩

set_option maxRecDepth 100000 in
set_option maxHeartbeats 4000000 in
theorem Apart_bad (w : World) {a : Option Addr} {n c : Nat} {ws : List Int} (hp : Rd w a n (ints ws)) (hn : 0 < n) (hm : n ≤ 60) (hb : ws.any badW = true) :
    Calls Try.prog 8 #[.slice a n c] w fun e w' => e = .returned (.bool true) ∧ Fr F0 w w' := by
  have Hp := Lib.hid hp
  have hq : ((n : Int) == 0) = false := by simp; omega
  have hq2 : ¬ (60 : Int) < n := by omega
  have HB := Lib.hid hb
  clear hb
  clear hp
  go_enter Try.func8, Try.ntmps8
  go_wp2_with (first
    | (go_at_call 9; refine (awake_any _).mono ?_; rintro e w0 ⟨rfl, G⟩; have F0' := Lib.hid G; have F1 := F0'; clear G F0')
    | (go_at_call 24; refine (Root_nil _).mono ?_; rintro e w2 ⟨rfl, G⟩; have F2 := Lib.hid (F1.out.trans G (fun _ _ h => h)); clear G F1)
    | (go_at_call 27; refine (Parent_nil _).mono ?_; rintro e w3 ⟨rfl, G⟩; have F3 := Lib.hid (F2.out.trans G (fun _ _ h => h)); clear G F2)
    | (go_at_call 22; refine (Connected_nil _).mono ?_; rintro e w4 ⟨rfl, G⟩; have F4 := Lib.hid (F3.out.trans G (fun _ _ h => h)); clear G F3)
    | (go_at_call 12; refine (Common_nil _).mono ?_; rintro e w5 ⟨rfl, G⟩; have F5 := Lib.hid (F4.out.trans G (fun _ _ h => h)); clear G F4)
    | (go_at_call 25; refine (Depth_nil _).mono ?_; rintro e w6 ⟨rfl, G⟩; have F6 := Lib.hid (F5.out.trans G (fun _ _ h => h)); clear G F5)
    | (go_at_call 13; refine (Sum_nil _).mono ?_; rintro e w7 ⟨rfl, G⟩; have F7 := Lib.hid (F6.out.trans G (fun _ _ h => h)); clear G F6)
    | (go_at_call 14; refine (Least_nil _).mono ?_; rintro e w8 ⟨rfl, G⟩; have F8 := Lib.hid (F7.out.trans G (fun _ _ h => h)); clear G F7)
    | (go_at_call 28; refine (Link_nil _).mono ?_; rintro e w9 ⟨rfl, G⟩; have F9 := Lib.hid (F8.out.trans G (fun _ _ h => h)); clear G F8)
    | (go_at_call 29; refine (Cut_nil _).mono ?_; rintro e w10 ⟨rfl, G⟩; have F10 := Lib.hid (F9.out.trans G (fun _ _ h => h)); clear G F9)
    | (go_at_call 23; refine (Evert_nil _).mono ?_; rintro e w11 ⟨rfl, G⟩; have F11 := Lib.hid (F10.out.trans G (fun _ _ h => h)); clear G F10)
    | (go_at_call 20; refine (Set_nil _).mono ?_; rintro e w12 ⟨rfl, G⟩; have F12 := Lib.hid (F11.out.trans G (fun _ _ h => h)); clear G F11)
    | (go_at_call 31; refine (Len_nil _).mono ?_; rintro e x1 ⟨rfl, rfl⟩)
    | (go_at_call 34; refine (Steps_nil _).mono ?_; rintro e x1 ⟨rfl, rfl⟩))
  obtain ⟨W, hW⟩ : ∃ W, W = w12.alloc (.cells #[.int .i64 1, .int .i64 1, .int .i64 1, .int .i64 1, .int .i64 1, .int .i64 1, .int .i64 1, .int .i64 1, .int .i64 1, .int .i64 1, .int .i64 1] 31) := ⟨_, rfl⟩
  have hc := Lib.hid (fun k (hk : k < 11) => (hW ▸ cell11 w12 31 k hk : W.cell? ⟨w12.heap.size, k, none⟩ = some (.int .i64 1)))
  have F13 := Lib.hid (hW ▸ F12.out.alloc _ : Fr F0 w W)
  rw [← hW]
  clear hW F12
  go_loop [77] (fun s => ∃ k : Nat, k ≤ 11 ∧ s = .int .i64 k) (fun s => 11 - (intOf s).toNat)
  case atStart => exact ⟨0, by omega, rfl⟩
  case round =>
    obtain ⟨k, hk, rfl⟩ := hrel
    by_cases hlt : k < 11
    · have y := hc.out k hlt
      go_wp2_with fail
      go_round
      case rel => exact ⟨k + 1, by omega, by go_num⟩
      case measure => simp [intOf]; omega
    · obtain rfl : k = 11 := by omega
      clear hlt
      have Hp' := Lib.hid (Hp.out.fr0 F13.out)
      go_wp2_with (first
        | (go_at_call 31; refine (Len_nil _).mono ?_; rintro e x1 ⟨rfl, rfl⟩)
        | (go_at_call 34; refine (Steps_nil _).mono ?_; rintro e x1 ⟨rfl, rfl⟩))
      refine (Clone_all Hp'.out (by omega)).mono ?_
      rintro e w20 ⟨a2, c2, rfl, O1, G⟩
      have HO := Lib.hid O1
      have F20 := Lib.hid (F13.out.trans G (fun _ _ h => h))
      have S20 := G.size
      have HG := Lib.hid G
      clear O1 G
      go_wp2_with (go_at_call 36; refine (New_arg _ HO.out.rd HB.out).mono ?_; rintro e w21 ⟨rfl, rfl⟩)
      go_ret
      exact ⟨rfl, F20.out⟩

set_option maxRecDepth 100000 in
set_option maxHeartbeats 4000000 in
theorem Apart_ok (w : World) {a : Option Addr} {n c : Nat} {ws : List Int} (hp : Rd w a n (ints ws)) (hn : 0 < n) (hm : n ≤ 60) (hb : ws.any badW = false) {y : Int} (hy : (ints ws)[0]? = some (.int .i64 y)) (hy1 : -1048576 ≤ y) (hy2 : y ≤ 1048576) (hw : (([1] : List Nat).map (wtN ws n)).sum = y) :
    Calls Try.prog 8 #[.slice a n c] w fun e w' => e = .returned (.bool true) ∧ Fr F0 w w' := by
  have Hp := Lib.hid hp
  have hq : ((n : Int) == 0) = false := by simp; omega
  have hq2 : ¬ (60 : Int) < n := by omega
  have HB := Lib.hid hb
  have HX := Lib.hid hy
  have HS := Lib.hid hw
  clear hb hy hw
  clear hp
  go_enter Try.func8, Try.ntmps8
  go_wp2_with (first
    | (go_at_call 9; refine (awake_any _).mono ?_; rintro e w0 ⟨rfl, G⟩; have F0' := Lib.hid G; have F1 := F0'; clear G F0')
    | (go_at_call 24; refine (Root_nil _).mono ?_; rintro e w2 ⟨rfl, G⟩; have F2 := Lib.hid (F1.out.trans G (fun _ _ h => h)); clear G F1)
    | (go_at_call 27; refine (Parent_nil _).mono ?_; rintro e w3 ⟨rfl, G⟩; have F3 := Lib.hid (F2.out.trans G (fun _ _ h => h)); clear G F2)
    | (go_at_call 22; refine (Connected_nil _).mono ?_; rintro e w4 ⟨rfl, G⟩; have F4 := Lib.hid (F3.out.trans G (fun _ _ h => h)); clear G F3)
    | (go_at_call 12; refine (Common_nil _).mono ?_; rintro e w5 ⟨rfl, G⟩; have F5 := Lib.hid (F4.out.trans G (fun _ _ h => h)); clear G F4)
    | (go_at_call 25; refine (Depth_nil _).mono ?_; rintro e w6 ⟨rfl, G⟩; have F6 := Lib.hid (F5.out.trans G (fun _ _ h => h)); clear G F5)
    | (go_at_call 13; refine (Sum_nil _).mono ?_; rintro e w7 ⟨rfl, G⟩; have F7 := Lib.hid (F6.out.trans G (fun _ _ h => h)); clear G F6)
    | (go_at_call 14; refine (Least_nil _).mono ?_; rintro e w8 ⟨rfl, G⟩; have F8 := Lib.hid (F7.out.trans G (fun _ _ h => h)); clear G F7)
    | (go_at_call 28; refine (Link_nil _).mono ?_; rintro e w9 ⟨rfl, G⟩; have F9 := Lib.hid (F8.out.trans G (fun _ _ h => h)); clear G F8)
    | (go_at_call 29; refine (Cut_nil _).mono ?_; rintro e w10 ⟨rfl, G⟩; have F10 := Lib.hid (F9.out.trans G (fun _ _ h => h)); clear G F9)
    | (go_at_call 23; refine (Evert_nil _).mono ?_; rintro e w11 ⟨rfl, G⟩; have F11 := Lib.hid (F10.out.trans G (fun _ _ h => h)); clear G F10)
    | (go_at_call 20; refine (Set_nil _).mono ?_; rintro e w12 ⟨rfl, G⟩; have F12 := Lib.hid (F11.out.trans G (fun _ _ h => h)); clear G F11)
    | (go_at_call 31; refine (Len_nil _).mono ?_; rintro e x1 ⟨rfl, rfl⟩)
    | (go_at_call 34; refine (Steps_nil _).mono ?_; rintro e x1 ⟨rfl, rfl⟩))
  obtain ⟨W, hW⟩ : ∃ W, W = w12.alloc (.cells #[.int .i64 1, .int .i64 1, .int .i64 1, .int .i64 1, .int .i64 1, .int .i64 1, .int .i64 1, .int .i64 1, .int .i64 1, .int .i64 1, .int .i64 1] 31) := ⟨_, rfl⟩
  have hc := Lib.hid (fun k (hk : k < 11) => (hW ▸ cell11 w12 31 k hk : W.cell? ⟨w12.heap.size, k, none⟩ = some (.int .i64 1)))
  have F13 := Lib.hid (hW ▸ F12.out.alloc _ : Fr F0 w W)
  rw [← hW]
  clear hW F12
  go_loop [77] (fun s => ∃ k : Nat, k ≤ 11 ∧ s = .int .i64 k) (fun s => 11 - (intOf s).toNat)
  case atStart => exact ⟨0, by omega, rfl⟩
  case round =>
    obtain ⟨k, hk, rfl⟩ := hrel
    by_cases hlt : k < 11
    · have y := hc.out k hlt
      go_wp2_with fail
      go_round
      case rel => exact ⟨k + 1, by omega, by go_num⟩
      case measure => simp [intOf]; omega
    · obtain rfl : k = 11 := by omega
      clear hlt
      have Hp' := Lib.hid (Hp.out.fr0 F13.out)
      go_wp2_with (first
        | (go_at_call 31; refine (Len_nil _).mono ?_; rintro e x1 ⟨rfl, rfl⟩)
        | (go_at_call 34; refine (Steps_nil _).mono ?_; rintro e x1 ⟨rfl, rfl⟩))
      refine (Clone_all Hp'.out (by omega)).mono ?_
      rintro e w20 ⟨a2, c2, rfl, O1, G⟩
      have HO := Lib.hid O1
      have F20 := Lib.hid (F13.out.trans G (fun _ _ h => h))
      have S20 := G.size
      have HG := Lib.hid G
      clear O1 G
      go_wp2_with (go_at_call 36; refine (New_ok _ HO.out.rd HB.out hm).mono ?_; rintro e w21 ⟨f, bb, rfl, L1, G, hf, hb2⟩; obtain ⟨g, hga, hg1, hg2, hgc, hgf⟩ := HO.out.at hn; subst hga; have y0 := G.cell (hgc 0 _ HX.out) id; have z0 := (G.frozen (p := ⟨g, 0, none⟩) hg2 id).trans (hgf 0); have HL := Lib.hid L1; have HF := Lib.hid (And.intro hf (And.intro hb2 (And.intro hg1 hg2))); have F21 := Lib.hid (F20.out.trans G (fun _ _ h => h)); have S21 := Lib.hid G.size; clear L1 G hf hb2 hg1 hg2 hgc hgf HO)
      have F22 : Hid (Fr F0 w (w21.setCell ⟨g, 0, none⟩ (.int .i64 (y + 1)))) := Lib.hid (F21.out.setCell (p := ⟨g, 0, none⟩) (fun (h : g < w.heap.size) => absurd F13.out.size (by have := HF.out.2.2.1; omega)) _)
      have HL2 : Hid (LF (w21.setCell ⟨g, 0, none⟩ (.int .i64 (y + 1))) f bb n 0 (fun _ => 0) (wtN ws n)) := Lib.hid (HL.out.fr ((Fr.refl (onB g) _).setB 0 _) (by have := HF.out; intro (e : f = g); omega) (by have := HF.out; intro (e : bb = g); omega))
      generalize hW2 : w21.setCell ⟨g, 0, none⟩ (.int .i64 (y + 1)) = W2 at *
      clear hW2 y0 z0
      refine (Sum_pth (v := 0) (u := 0) HL2.out (by omega) (by omega) hn hn fresh_pth HS.out).mono ?_
      rintro e w22 ⟨rfl, KK⟩
      obtain ⟨s', _, _, _, FF⟩ := KK
      have F23 := Lib.hid (F22.out.trans FF (fun q h0 h => by have := HF.out; have := F13.out.size; have := HG.out.size; rcases h with h | h <;> omega))
      clear FF
      obtain ⟨b0, o0, rfl, hcc⟩ := (Hp.out.fr0 F23.out).cells hn
      have y1 : w22.cell? ⟨b0, o0, none⟩ = some (.int .i64 y) := hcc 0 _ HX.out
      clear hcc
      go_wp2_with fail
      go_ret
      exact ⟨rfl, F23.out⟩

theorem Apart_law (a : Option Addr) (n c : Nat) (ws : List Int) (w : World) (h1 : ArgSl w a n c ws) :
    Calls Try.prog 8 #[.slice a n c] w fun e w' => e = .returned (.bool true) ∧ Fr F0 w w' := by
  by_cases h0 : n = 0
  · exact Apart_zero w h1.rd h0
  · by_cases h6 : 60 < n
    · exact Apart_big w h1.rd h6
    · cases hb : ws.any badW with
      | true => exact Apart_bad w h1.rd (by omega) (by omega) hb
      | false =>
        have hl : ws.length = n := by have := h1.rd.len; simpa using this
        obtain ⟨y, ys, rfl⟩ : ∃ y ys, ws = y :: ys := by
          cases ws with
          | nil => simp at hl; omega
          | cons y ys => exact ⟨y, ys, rfl⟩
        have hy := good_of hb y (by simp)
        exact Apart_ok w h1.rd (by omega) (by omega) hb (y := y) rfl hy.1 hy.2 (by
          show wtN (y :: ys) n 1 + 0 = y
          unfold wtN
          rw [if_neg (by omega), if_pos (by omega)]
          simp)

end Go.Proofs.Ytfeokafjehpgnaa
