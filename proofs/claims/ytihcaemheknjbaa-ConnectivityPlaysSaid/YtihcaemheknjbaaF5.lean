/- NewForest. -/
import Derived.Test.YtihcaemheknjbaaF4
namespace Go.Proofs.Ytihcaemheknjbaa
open Go.RowKit
attribute [local go_sem ↓] Go.wp_at_zero Go.wp_at_succ
def fv0 (ab an ap : Option Addr) (i n c1 c2 c3 : Nat) : List Value := [.slice ab i c1, .slice an i c2, .slice ap i c3, .int .i64 (n : Int), .slice none 0 0]
theorem A3.held {w0 wc : World} {x : Nat} {ab an ap ab' an' ap' : Option Addr} {i n n1 n2 n3 c1 c2 c3 d1 d2 d3 : Nat} {vb vn vp : List Value} (h : A3 w0 wc x (fv0 ab an ap i n c1 c2 c3) ab' an' ap' n1 n2 n3 d1 d2 d3 vb vn vp) : wc.cell? ⟨x, 0, none⟩ = some (.slice ab i c1) ∧ wc.cell? ⟨x, 1, none⟩ = some (.slice an i c2) ∧ wc.cell? ⟨x, 2, none⟩ = some (.slice ap i c3) :=
  ⟨h.kx.cell (i := 0) rfl, h.kx.cell (i := 1) rfl, h.kx.cell (i := 2) rfl⟩
def NF (w : World) (n : Nat) (e : Ending) (w' : World) : Prop := ∃ f, e = .returned (.tuple #[.pointer (some ⟨f, 0, none⟩), .int .i64 0]) ∧ Fo w' w.heap.size (fun k => w.heap.size ≤ k) f n ⟨List.range n, List.replicate n 1, List.range n, n⟩ [] ∧ Fr F0 w w'
set_option maxRecDepth 100000 in
set_option maxHeartbeats 8000000 in
theorem NewForest_ok (n : Nat) (w : World) (h1 : 1 ≤ n) (h2 : n ≤ 1000) : Calls Try.prog 40 #[.int .i64 n] w (NF w n) := by
  have d1 : decide ((n : Int) < 1) = false := decide_eq_false (by omega)
  have d2 : decide ((1000 : Int) < (n : Int)) = false := decide_eq_false (by omega)
  go_enter Try.func40, Try.ntmps40
  go_wp2_with fail
  clear d1 d2
  obtain ⟨x, hx⟩ : ∃ x, w.heap.size = x := ⟨_, rfl⟩
  have HX := Lib.hid hx
  rw [hx]
  clear hx
  go_loopw [16] (fun s16 wr => ∃ (i : Nat) (ab an ap : Option Addr) (c1 c2 c3 : Nat), i ≤ n ∧ s16 = .int .i64 i ∧ Hid (A3 w wr x (fv0 ab an ap i n c1 c2 c3) ab an ap i i i c1 c2 c3 (nv (List.range i)) (List.replicate i (Value.int .i64 1)) (nv (List.range i)))) (fun s16 _ => n - (intOf s16).toNat)
  case atStart =>
    refine ⟨0, none, none, none, 0, 0, 0, Nat.zero_le _, rfl, Lib.hid ⟨?_, Own.nil _ _ _, Own.nil _ _ _, Own.nil _ _ _, none_apart _, none_apart _, none_apart _, onBlk_none _, onBlk_none _, onBlk_none _, (Fr.refl _ _).alloc _, by rw [HX.out]; exact Nat.le_refl _⟩⟩
    rw [← HX.out]
    exact Blk.new _ _ _
  case round =>
    obtain ⟨i, ab, an, ap, c1, c2, c3, hi, rfl, H⟩ := hrel
    by_cases hlt : i < n
    · have hlt' : decide ((i : Int) < (n : Int)) = true := decide_eq_true (by omega)
      go_wp2_with fail
      refine wp_region_last 25 (fun w' : World => w'.cell? ⟨x, 0, none⟩ = some (.slice ab i c1) ∧ w'.cell? ⟨x, 1, none⟩ = some (.slice an i c2) ∧ w'.cell? ⟨x, 2, none⟩ = some (.slice ap i c3)) (by kernel_rfl) ?_
      obtain ⟨w1, hw1⟩ : ∃ w1, w1 = wr.drew := ⟨_, rfl⟩
      have A0 : Hid (A3 w w1 x (fv0 ab an ap i n c1 c2 c3) ab an ap i i i c1 c2 c3 (nv (List.range i)) (List.replicate i (Value.int .i64 1)) (nv (List.range i))) := Lib.hid (by rw [hw1]; exact H.out.drew)
      rw [← hw1]
      have hHeld : (fun w' : World => w'.cell? ⟨x, 0, none⟩ = some (.slice ab i c1) ∧ w'.cell? ⟨x, 1, none⟩ = some (.slice an i c2) ∧ w'.cell? ⟨x, 2, none⟩ = some (.slice ap i c3)) w1 := A0.out.held
      clear hw1
      refine anyP_takeF 0 (v := ?_) rfl (by kernel_rfl) (fun _ _ _ h => h) (Or.inl ⟨by rfl, ?_⟩) (.inr hHeld) ?_
      rotate_left 1
      · (intro w0 hSw; (try dsimp only at hSw); go_simp; (try (with_reducible rfl)))
      (try simp only [Act.put, List.setIfInBounds_toArray])
      refine anyP_takeF 1 (v := ?_) rfl (by kernel_rfl) (fun _ _ _ h => h) (Or.inl ⟨by rfl, ?_⟩) (.inr hHeld) ?_
      rotate_left 1
      · (intro w0 hSw; (try dsimp only at hSw); go_simp; (try (with_reducible rfl)))
      (try simp only [Act.put])
      refine anyP_takeF 2 (v := ?_) rfl (by kernel_rfl) (fun _ _ _ h => h) (Or.inl ⟨by rfl, ?_⟩) (.inr hHeld) ?_
      rotate_left 1
      · (intro w0 hSw; (try dsimp only at hSw); go_simp; (try (with_reducible rfl)))
      (try simp only [Act.put])
      refine anyP_takeF 3 (v := ?_) rfl (by kernel_rfl) (fun _ _ _ h => h) (Or.inl ⟨by rfl, ?_⟩) (.inr hHeld) ?_
      rotate_left 1
      · (intro w0 hSw; (try dsimp only at hSw); go_simp; (try (with_reducible rfl)))
      (try simp only [Act.put])
      refine anyP_takeF 4 (v := ?_) rfl (by kernel_rfl) (fun _ _ _ h => h) (Or.inl ⟨by rfl, ?_⟩) (.inr hHeld) ?_
      rotate_left 1
      · (intro w0 hSw; (try dsimp only at hSw); go_simp; (try (with_reducible rfl)))
      (try simp only [Act.put])
      refine anyP_takeF 5 (v := ?_) rfl (by kernel_rfl) (fun _ _ _ h => h) (Or.inl ⟨by rfl, ?_⟩) (.inr hHeld) ?_
      rotate_left 1
      · (intro w0 hSw; (try dsimp only at hSw); go_simp; (try (with_reducible rfl)))
      (try simp only [Act.put])
      refine anyP_take 6 (v := ?_) rfl rfl (by kernel_rfl) (fun _ _ _ h => h) (Or.inl ⟨by rfl, ?_⟩) hHeld ?_
      rotate_left 1
      · (intro w0 hSw; (try dsimp only at hSw); go_simp; (try (with_reducible rfl)))
      (try simp only [Act.put])
      refine anyP_takeF 7 (v := ?_) rfl (by kernel_rfl) (fun _ _ _ h => h) (Or.inl ⟨by rfl, ?_⟩) (.inr hHeld) ?_
      rotate_left 1
      · (intro w0 hSw; (try dsimp only at hSw); go_simp; (try (with_reducible rfl)))
      (try simp only [Act.put])
      refine anyP_takeF 10 (v := ?_) rfl (by kernel_rfl) (fun _ _ _ h => h) (Or.inl ⟨by rfl, ?_⟩) (.inr hHeld) ?_
      rotate_left 1
      · (intro w0 hSw; (try dsimp only at hSw); go_simp; (try (with_reducible rfl)))
      (try simp only [Act.put])
      refine anyP_takeF 11 (v := ?_) rfl (by kernel_rfl) (fun _ _ _ h => h) (Or.inl ⟨by rfl, ?_⟩) (.inr hHeld) ?_
      rotate_left 1
      · (intro w0 hSw; (try dsimp only at hSw); go_simp; (try (with_reducible rfl)))
      (try simp only [Act.put])
      refine anyP_takeF 12 (v := ?_) rfl (by kernel_rfl) (fun _ _ _ h => h) (Or.inl ⟨by rfl, ?_⟩) (.inr hHeld) ?_
      rotate_left 1
      · (intro w0 hSw; (try dsimp only at hSw); go_simp; (try (with_reducible rfl)))
      (try simp only [Act.put])
      refine anyP_take 13 (v := ?_) rfl rfl (by kernel_rfl) (fun _ _ _ h => h) (Or.inl ⟨by rfl, ?_⟩) hHeld ?_
      rotate_left 1
      · (intro w0 hSw; (try dsimp only at hSw); go_simp; (try (with_reducible rfl)))
      (try simp only [Act.put])
      refine anyP_takeF 16 (v := ?_) rfl (by kernel_rfl) (fun _ _ _ h => h) (Or.inl ⟨by rfl, ?_⟩) (.inr hHeld) ?_
      rotate_left 1
      · (intro w0 hSw; (try dsimp only at hSw); go_simp; (try (with_reducible rfl)))
      (try simp only [Act.put])
      refine anyP_takeF 17 (v := ?_) rfl (by kernel_rfl) (fun _ _ _ h => h) (Or.inl ⟨by rfl, ?_⟩) (.inr hHeld) ?_
      rotate_left 1
      · (intro w0 hSw; (try dsimp only at hSw); go_simp; (try (with_reducible rfl)))
      (try simp only [Act.put])
      refine anyP_takeF 18 (v := ?_) rfl (by kernel_rfl) (fun _ _ _ h => h) (Or.inl ⟨by rfl, ?_⟩) (.inr hHeld) ?_
      rotate_left 1
      · (intro w0 hSw; (try dsimp only at hSw); go_simp; (try (with_reducible rfl)))
      (try simp only [Act.put])
      refine anyP_take 19 (v := ?_) rfl rfl (by kernel_rfl) (fun _ _ _ h => h) (Or.inl ⟨by rfl, ?_⟩) hHeld ?_
      rotate_left 1
      · (intro w0 hSw; (try dsimp only at hSw); go_simp; (try (with_reducible rfl)))
      (try simp only [Act.put])
      refine anyP_takeF 20 (v := ?_) rfl (by kernel_rfl) (fun _ _ _ h => h) (Or.inl ⟨by rfl, ?_⟩) (.inr hHeld) ?_
      rotate_left 1
      · (intro w0 hSw; (try dsimp only at hSw); go_simp; (try (with_reducible rfl)))
      (try simp only [Act.put])
      refine with_tail (fun ops Q S => ∀ (l : Array Bool), l = #[true, true, true, true, true, true, true, true, true, true, true, true, true, true, true, true, true, true, true, true, true, true, true, false, false, false, false, false, false, false, false, false] → ∀ (g8 g14 g21 : Nat) (aB aN aP : Option Addr) (cB cN cP : Nat) (wc : World), Hid (A3 w wc x (fv0 ab an ap i n c1 c2 c3) aB aN aP (i + 1) (i + 1) (i + 1) cB cN cP (nv (List.range i) ++ [.int .i64 i]) (List.replicate i (Value.int .i64 1) ++ [.int .i64 1]) (nv (List.range i) ++ [.int .i64 i])) → anyP Try.prog .any ops Q S 25 9 l { tmps := #[.int .i64 n, undef, .pointer none, .int .i64 0, .pointer (some ⟨x, 0, none⟩), .int .i64 i, .int .i64 n, .bool false, .bool false, .int .i64 n, .bool false, .bool false, .int .i64 n, .agg #[.slice none 0 0, .slice none 0 0, .slice none 0 0, .int .i64 n, .slice none 0 0], .pointer (some ⟨x, 0, none⟩), .int .i64 n, .int .i64 i, .bool true, .int .i64 i, .pointer (some ⟨x, 0, none⟩), .pointer (some ⟨x, 0, none⟩), .pointer (some ⟨x, 0, none⟩), .pointer (some ⟨x, 0, none⟩), .pointer (some ⟨x, 0, none⟩), .pointer (some ⟨x, 0, none⟩), .slice ab i c1, .int .i64 i, .slice (some ⟨g8, 0, none⟩) 1 1, .slice aB (i + 1) cB, .pointer (some ⟨x, 0, none⟩), .pointer (some ⟨x, 0, none⟩), .pointer (some ⟨x, 1, none⟩), .slice an i c2, .slice (some ⟨g14, 0, none⟩) 1 1, .slice aN (i + 1) cN, .pointer (some ⟨x, 0, none⟩), .pointer (some ⟨x, 0, none⟩), .pointer (some ⟨x, 2, none⟩), .slice ap i c3, .int .i64 i, .slice (some ⟨g21, 0, none⟩) 1 1, .slice aP (i + 1) cP, u42, u43, u44, u45, u46, u47, u48, undef], defers := [] } wc) ?_ ?_
      · intro l hl g8 g14 g21 aB aN aP cB cN cP wc hA
        subst hl
        obtain ⟨r0, r1, r2⟩ := hA.out.held
        have z0 := hA.out.kx.free 0; have z1 := hA.out.kx.free 1; have z2 := hA.out.kx.free 2
        have hHeld2 : (fun w' : World => w'.cell? ⟨x, 0, none⟩ = some (.slice ab i c1) ∧ w'.cell? ⟨x, 1, none⟩ = some (.slice an i c2) ∧ w'.cell? ⟨x, 2, none⟩ = some (.slice ap i c3)) wc := hA.out.held
        refine anyP_one 23 (by kernel_rfl) rfl (fun K hK => ?_)
        replace hK := Lib.hid hK
        go_simp
        refine hK.out _ _ (.inr hHeld2) ?_
        clear hK K
        (try simp only [List.setIfInBounds_toArray, List.set_cons_zero, List.set_cons_succ])
        refine anyP_one 24 (by kernel_rfl) rfl (fun K hK => ?_)
        replace hK := Lib.hid hK
        go_simp
        refine hK.out _ _ (.inr hHeld2) ?_
        clear hK K
        (try simp only [List.setIfInBounds_toArray, List.set_cons_zero, List.set_cons_succ])
        refine anyP_one 25 (by kernel_rfl) rfl (fun K hK => ?_)
        replace hK := Lib.hid hK
        go_simp
        refine hK.out _ _ (.inl (by kernel_rfl)) ?_
        clear hK K
        (try simp only [List.setIfInBounds_toArray, List.set_cons_zero, List.set_cons_succ])
        refine anyP_one 26 (by kernel_rfl) rfl (fun K hK => ?_)
        replace hK := Lib.hid hK
        go_simp
        refine hK.out _ _ (.inl (by kernel_rfl)) ?_
        clear hK K
        (try simp only [List.setIfInBounds_toArray, List.set_cons_zero, List.set_cons_succ])
        refine anyP_one 27 (by kernel_rfl) rfl (fun K hK => ?_)
        replace hK := Lib.hid hK
        go_simp
        refine hK.out _ _ (.inl (by kernel_rfl)) ?_
        clear hK K
        (try simp only [List.setIfInBounds_toArray, List.set_cons_zero, List.set_cons_succ])
        refine anyP_one 28 (by kernel_rfl) rfl (fun K hK => ?_)
        replace hK := Lib.hid hK
        go_simp
        refine hK.out _ _ (.inl (by kernel_rfl)) ?_
        clear hK K
        (try simp only [List.setIfInBounds_toArray, List.set_cons_zero, List.set_cons_succ])
        refine anyP_one 29 (by kernel_rfl) rfl (fun K hK => ?_)
        replace hK := Lib.hid hK
        go_simp
        refine hK.out _ _ (.inl (by kernel_rfl)) ?_
        clear hK K
        (try simp only [List.setIfInBounds_toArray, List.set_cons_zero, List.set_cons_succ])
        refine anyP_one 30 (by kernel_rfl) rfl (fun K hK => ?_)
        replace hK := Lib.hid hK
        go_simp
        refine hK.out _ _ (.inl (by kernel_rfl)) ?_
        clear hK K
        (try simp only [List.setIfInBounds_toArray, List.set_cons_zero, List.set_cons_succ])
        refine anyP_one 31 (by kernel_rfl) rfl (fun K hK => ?_)
        replace hK := Lib.hid hK
        go_simp
        refine hK.out _ _ (.inl (by kernel_rfl)) ?_
        clear hK K
        (try simp only [List.setIfInBounds_toArray, List.set_cons_zero, List.set_cons_succ])
        refine anyP_done (by kernel_rfl) ?_ _
        refine NoPanic.normal ?_
        have C5 := Lib.hid (hA.out.store (.slice aB (i + 1) cB) (.slice aN (i + 1) cN) (.slice aP (i + 1) cP))
        clear hA hHeld2 r0 r1 r2 z0 z1 z2 H A0 hHeld
        go_wp2_with fail
        go_roundw
        case rel => exact ⟨i + 1, aB, aN, aP, cB, cN, cP, by omega, by go_num, Lib.hid (by have h := C5.out; have e : nv (List.range (i + 1)) = nv (List.range i) ++ [.int .i64 i] := (by rw [List.range_succ]; exact nv_app _ _); rw [e, show List.replicate (i + 1) (Value.int .i64 1) = List.replicate i (Value.int .i64 1) ++ [.int .i64 1] from List.replicate_succ']; exact h)⟩
        case measure => simp [intOf]; omega
      · intro tail
        refine anyP_more [8, 14, 21] (by kernel_rfl) (by decide) ?_
        intro j hj
        simp only [List.mem_cons, List.not_mem_nil, or_false] at hj
        rcases hj with rfl | rfl | rfl
        · refine ⟨_, rfl, fun K hK => ?_⟩
          replace hK := Lib.hid hK
          go_simp
          refine hK.out _ _ (.inr (A0.out.alloc _).held) ?_
          clear hK K
          (try simp only [Act.put, List.setIfInBounds_toArray, List.set_cons_zero, List.set_cons_succ])
          have L3 := Lib.hid (A0.out.lit (.int .i64 i))
          have A1 := Lib.hid (A0.out.alloc (.cells #[.int .i64 i] 3))
          obtain ⟨wy2, hwy2⟩ : ∃ wz, wz = w1.alloc (.cells #[.int .i64 i] 3) := ⟨_, rfl⟩
          obtain ⟨g4, hg4⟩ : ∃ g, g = w1.heap.size := ⟨_, rfl⟩
          rw [← hwy2] at L3 A1 ⊢
          rw [← hg4] at L3 ⊢
          clear hwy2 hg4
          refine anyP_more [9, 14, 21] (by kernel_rfl) (by decide) ?_
          intro j hj
          simp only [List.mem_cons, List.not_mem_nil, or_false] at hj
          rcases hj with rfl | rfl | rfl
          · refine ⟨_, rfl, fun K hK => ?_⟩
            replace hK := Lib.hid hK
            refine stepAppRd E3 (by rfl) (by rfl) (by rfl) (by rfl) A1.out.ob L3.out.rd (fun u hu => by simp at hu; subst hu; rfl) (by omega) (by omega) A1.out.size (i + 1) (by omega) ?_
            intro a7 c8 wy6 own' fr' at'
            refine hK.out _ _ (.inr (A1.out.appB own' fr' at').held) ?_
            clear hK K
            (try simp only [Act.put, List.setIfInBounds_toArray])
            have A5 := Lib.hid (A1.out.appB own' fr' at')
            clear own' fr' at'
            refine anyP_more [14, 21] (by kernel_rfl) (by decide) ?_
            intro j hj
            simp only [List.mem_cons, List.not_mem_nil, or_false] at hj
            rcases hj with rfl | rfl
            · refine ⟨_, rfl, fun K hK => ?_⟩
              replace hK := Lib.hid hK
              go_simp
              refine hK.out _ _ (.inr (A5.out.alloc _).held) ?_
              clear hK K
              (try simp only [Act.put, List.setIfInBounds_toArray, List.set_cons_zero, List.set_cons_succ])
              have L11 := Lib.hid (A5.out.lit (.int .i64 1))
              have A9 := Lib.hid (A5.out.alloc (.cells #[.int .i64 1] 3))
              obtain ⟨wy10, hwy10⟩ : ∃ wz, wz = wy6.alloc (.cells #[.int .i64 1] 3) := ⟨_, rfl⟩
              obtain ⟨g12, hg12⟩ : ∃ g, g = wy6.heap.size := ⟨_, rfl⟩
              rw [← hwy10] at L11 A9 ⊢
              rw [← hg12] at L11 ⊢
              clear hwy10 hg12
              refine anyP_more [15, 21] (by kernel_rfl) (by decide) ?_
              intro j hj
              simp only [List.mem_cons, List.not_mem_nil, or_false] at hj
              rcases hj with rfl | rfl
              · refine ⟨_, rfl, fun K hK => ?_⟩
                replace hK := Lib.hid hK
                refine stepAppRd E3 (by rfl) (by rfl) (by rfl) (by rfl) A9.out.on L11.out.rd (fun u hu => by simp at hu; subst hu; rfl) (by omega) (by omega) A9.out.size (i + 1) (by omega) ?_
                intro a15 c16 wy14 own' fr' at'
                refine hK.out _ _ (.inr (A9.out.appN own' fr' at').held) ?_
                clear hK K
                (try simp only [Act.put, List.setIfInBounds_toArray])
                have A13 := Lib.hid (A9.out.appN own' fr' at')
                clear own' fr' at'
                refine anyP_more [21] (by kernel_rfl) (by decide) ?_
                intro j hj
                simp only [List.mem_cons, List.not_mem_nil, or_false] at hj
                subst hj
                refine ⟨_, rfl, fun K hK => ?_⟩
                replace hK := Lib.hid hK
                go_simp
                refine hK.out _ _ (.inr (A13.out.alloc _).held) ?_
                clear hK K
                (try simp only [Act.put, List.setIfInBounds_toArray, List.set_cons_zero, List.set_cons_succ])
                have L19 := Lib.hid (A13.out.lit (.int .i64 i))
                have A17 := Lib.hid (A13.out.alloc (.cells #[.int .i64 i] 3))
                obtain ⟨wy18, hwy18⟩ : ∃ wz, wz = wy14.alloc (.cells #[.int .i64 i] 3) := ⟨_, rfl⟩
                obtain ⟨g20, hg20⟩ : ∃ g, g = wy14.heap.size := ⟨_, rfl⟩
                rw [← hwy18] at L19 A17 ⊢
                rw [← hg20] at L19 ⊢
                clear hwy18 hg20
                refine anyP_more [22] (by kernel_rfl) (by decide) ?_
                intro j hj
                simp only [List.mem_cons, List.not_mem_nil, or_false] at hj
                subst hj
                refine ⟨_, rfl, fun K hK => ?_⟩
                replace hK := Lib.hid hK
                refine stepAppRd E3 (by rfl) (by rfl) (by rfl) (by rfl) A17.out.op L19.out.rd (fun u hu => by simp at hu; subst hu; rfl) (by omega) (by omega) A17.out.size (i + 1) (by omega) ?_
                intro a23 c24 wy22 own' fr' at'
                refine hK.out _ _ (.inr (A17.out.appP own' fr' at').held) ?_
                clear hK K
                (try simp only [Act.put, List.setIfInBounds_toArray])
                have A21 := Lib.hid (A17.out.appP own' fr' at')
                clear own' fr' at'
                exact tail _ (by kernel_rfl) _ _ _ _ _ _ _ _ _ _ A21
              · refine ⟨_, rfl, fun K hK => ?_⟩
                replace hK := Lib.hid hK
                go_simp
                refine hK.out _ _ (.inr (A9.out.alloc _).held) ?_
                clear hK K
                (try simp only [Act.put, List.setIfInBounds_toArray, List.set_cons_zero, List.set_cons_succ])
                have L27 := Lib.hid (A9.out.lit (.int .i64 i))
                have A25 := Lib.hid (A9.out.alloc (.cells #[.int .i64 i] 3))
                have L29 := Lib.hid (L11.out.alloc (.cells #[.int .i64 i] 3))
                obtain ⟨wy26, hwy26⟩ : ∃ wz, wz = wy10.alloc (.cells #[.int .i64 i] 3) := ⟨_, rfl⟩
                obtain ⟨g28, hg28⟩ : ∃ g, g = wy10.heap.size := ⟨_, rfl⟩
                rw [← hwy26] at L27 A25 L29 ⊢
                rw [← hg28] at L27 ⊢
                clear hwy26 hg28
                refine anyP_more [15] (by kernel_rfl) (by decide) ?_
                intro j hj
                simp only [List.mem_cons, List.not_mem_nil, or_false] at hj
                subst hj
                refine ⟨_, rfl, fun K hK => ?_⟩
                replace hK := Lib.hid hK
                refine stepAppRd E3 (by rfl) (by rfl) (by rfl) (by rfl) A25.out.on L29.out.rd (fun u hu => by simp at hu; subst hu; rfl) (by omega) (by omega) A25.out.size (i + 1) (by omega) ?_
                intro a32 c33 wy31 own' fr' at'
                refine hK.out _ _ (.inr (A25.out.appN own' fr' at').held) ?_
                clear hK K
                (try simp only [Act.put, List.setIfInBounds_toArray])
                have A30 := Lib.hid (A25.out.appN own' fr' at')
                have L34 := Lib.hid (L27.out.appN fr' at')
                clear own' fr' at'
                refine anyP_more [22] (by kernel_rfl) (by decide) ?_
                intro j hj
                simp only [List.mem_cons, List.not_mem_nil, or_false] at hj
                subst hj
                refine ⟨_, rfl, fun K hK => ?_⟩
                replace hK := Lib.hid hK
                refine stepAppRd E3 (by rfl) (by rfl) (by rfl) (by rfl) A30.out.op L34.out.rd (fun u hu => by simp at hu; subst hu; rfl) (by omega) (by omega) A30.out.size (i + 1) (by omega) ?_
                intro a37 c38 wy36 own' fr' at'
                refine hK.out _ _ (.inr (A30.out.appP own' fr' at').held) ?_
                clear hK K
                (try simp only [Act.put])
                have A35 := Lib.hid (A30.out.appP own' fr' at')
                clear own' fr' at'
                exact tail _ (by kernel_rfl) _ _ _ _ _ _ _ _ _ _ A35
            · refine ⟨_, rfl, fun K hK => ?_⟩
              replace hK := Lib.hid hK
              go_simp
              refine hK.out _ _ (.inr (A5.out.alloc _).held) ?_
              clear hK K
              (try simp only [Act.put, List.setIfInBounds_toArray, List.set_cons_zero, List.set_cons_succ])
              have L41 := Lib.hid (A5.out.lit (.int .i64 i))
              have A39 := Lib.hid (A5.out.alloc (.cells #[.int .i64 i] 3))
              obtain ⟨wy40, hwy40⟩ : ∃ wz, wz = wy6.alloc (.cells #[.int .i64 i] 3) := ⟨_, rfl⟩
              obtain ⟨g42, hg42⟩ : ∃ g, g = wy6.heap.size := ⟨_, rfl⟩
              rw [← hwy40] at L41 A39 ⊢
              rw [← hg42] at L41 ⊢
              clear hwy40 hg42
              refine anyP_more [14] (by kernel_rfl) (by decide) ?_
              intro j hj
              simp only [List.mem_cons, List.not_mem_nil, or_false] at hj
              subst hj
              refine ⟨_, rfl, fun K hK => ?_⟩
              replace hK := Lib.hid hK
              go_simp
              refine hK.out _ _ (.inr (A39.out.alloc _).held) ?_
              clear hK K
              (try simp only [Act.put, List.setIfInBounds_toArray, List.set_cons_zero, List.set_cons_succ])
              have L45 := Lib.hid (A39.out.lit (.int .i64 1))
              have A43 := Lib.hid (A39.out.alloc (.cells #[.int .i64 1] 3))
              have L47 := Lib.hid (L41.out.alloc (.cells #[.int .i64 1] 3))
              obtain ⟨wy44, hwy44⟩ : ∃ wz, wz = wy40.alloc (.cells #[.int .i64 1] 3) := ⟨_, rfl⟩
              obtain ⟨g46, hg46⟩ : ∃ g, g = wy40.heap.size := ⟨_, rfl⟩
              rw [← hwy44] at L45 A43 L47 ⊢
              rw [← hg46] at L45 ⊢
              clear hwy44 hg46
              refine anyP_more [15] (by kernel_rfl) (by decide) ?_
              intro j hj
              simp only [List.mem_cons, List.not_mem_nil, or_false] at hj
              subst hj
              refine ⟨_, rfl, fun K hK => ?_⟩
              replace hK := Lib.hid hK
              refine stepAppRd E3 (by rfl) (by rfl) (by rfl) (by rfl) A43.out.on L45.out.rd (fun u hu => by simp at hu; subst hu; rfl) (by omega) (by omega) A43.out.size (i + 1) (by omega) ?_
              intro a50 c51 wy49 own' fr' at'
              refine hK.out _ _ (.inr (A43.out.appN own' fr' at').held) ?_
              clear hK K
              (try simp only [Act.put, List.setIfInBounds_toArray])
              have A48 := Lib.hid (A43.out.appN own' fr' at')
              have L52 := Lib.hid (L47.out.appN fr' at')
              clear own' fr' at'
              refine anyP_more [22] (by kernel_rfl) (by decide) ?_
              intro j hj
              simp only [List.mem_cons, List.not_mem_nil, or_false] at hj
              subst hj
              refine ⟨_, rfl, fun K hK => ?_⟩
              replace hK := Lib.hid hK
              refine stepAppRd E3 (by rfl) (by rfl) (by rfl) (by rfl) A48.out.op L52.out.rd (fun u hu => by simp at hu; subst hu; rfl) (by omega) (by omega) A48.out.size (i + 1) (by omega) ?_
              intro a55 c56 wy54 own' fr' at'
              refine hK.out _ _ (.inr (A48.out.appP own' fr' at').held) ?_
              clear hK K
              (try simp only [Act.put])
              have A53 := Lib.hid (A48.out.appP own' fr' at')
              clear own' fr' at'
              exact tail _ (by kernel_rfl) _ _ _ _ _ _ _ _ _ _ A53
          · refine ⟨_, rfl, fun K hK => ?_⟩
            replace hK := Lib.hid hK
            go_simp
            refine hK.out _ _ (.inr (A1.out.alloc _).held) ?_
            clear hK K
            (try simp only [Act.put, List.setIfInBounds_toArray, List.set_cons_zero, List.set_cons_succ])
            have L59 := Lib.hid (A1.out.lit (.int .i64 1))
            have A57 := Lib.hid (A1.out.alloc (.cells #[.int .i64 1] 3))
            have L61 := Lib.hid (L3.out.alloc (.cells #[.int .i64 1] 3))
            obtain ⟨wy58, hwy58⟩ : ∃ wz, wz = wy2.alloc (.cells #[.int .i64 1] 3) := ⟨_, rfl⟩
            obtain ⟨g60, hg60⟩ : ∃ g, g = wy2.heap.size := ⟨_, rfl⟩
            rw [← hwy58] at L59 A57 L61 ⊢
            rw [← hg60] at L59 ⊢
            clear hwy58 hg60
            refine anyP_more [9, 21] (by kernel_rfl) (by decide) ?_
            intro j hj
            simp only [List.mem_cons, List.not_mem_nil, or_false] at hj
            rcases hj with rfl | rfl
            · refine ⟨_, rfl, fun K hK => ?_⟩
              replace hK := Lib.hid hK
              refine stepAppRd E3 (by rfl) (by rfl) (by rfl) (by rfl) A57.out.ob L61.out.rd (fun u hu => by simp at hu; subst hu; rfl) (by omega) (by omega) A57.out.size (i + 1) (by omega) ?_
              intro a64 c65 wy63 own' fr' at'
              refine hK.out _ _ (.inr (A57.out.appB own' fr' at').held) ?_
              clear hK K
              (try simp only [Act.put, List.setIfInBounds_toArray])
              have A62 := Lib.hid (A57.out.appB own' fr' at')
              have L66 := Lib.hid (L59.out.appB fr' at')
              clear own' fr' at'
              refine anyP_more [15, 21] (by kernel_rfl) (by decide) ?_
              intro j hj
              simp only [List.mem_cons, List.not_mem_nil, or_false] at hj
              rcases hj with rfl | rfl
              · refine ⟨_, rfl, fun K hK => ?_⟩
                replace hK := Lib.hid hK
                refine stepAppRd E3 (by rfl) (by rfl) (by rfl) (by rfl) A62.out.on L66.out.rd (fun u hu => by simp at hu; subst hu; rfl) (by omega) (by omega) A62.out.size (i + 1) (by omega) ?_
                intro a69 c70 wy68 own' fr' at'
                refine hK.out _ _ (.inr (A62.out.appN own' fr' at').held) ?_
                clear hK K
                (try simp only [Act.put])
                have A67 := Lib.hid (A62.out.appN own' fr' at')
                clear own' fr' at'
                refine anyP_more [21] (by kernel_rfl) (by decide) ?_
                intro j hj
                simp only [List.mem_cons, List.not_mem_nil, or_false] at hj
                subst hj
                refine ⟨_, rfl, fun K hK => ?_⟩
                replace hK := Lib.hid hK
                go_simp
                refine hK.out _ _ (.inr (A67.out.alloc _).held) ?_
                clear hK K
                (try simp only [Act.put, List.setIfInBounds_toArray, List.set_cons_zero, List.set_cons_succ])
                have L73 := Lib.hid (A67.out.lit (.int .i64 i))
                have A71 := Lib.hid (A67.out.alloc (.cells #[.int .i64 i] 3))
                obtain ⟨wy72, hwy72⟩ : ∃ wz, wz = wy68.alloc (.cells #[.int .i64 i] 3) := ⟨_, rfl⟩
                obtain ⟨g74, hg74⟩ : ∃ g, g = wy68.heap.size := ⟨_, rfl⟩
                rw [← hwy72] at L73 A71 ⊢
                rw [← hg74] at L73 ⊢
                clear hwy72 hg74
                refine anyP_more [22] (by kernel_rfl) (by decide) ?_
                intro j hj
                simp only [List.mem_cons, List.not_mem_nil, or_false] at hj
                subst hj
                refine ⟨_, rfl, fun K hK => ?_⟩
                replace hK := Lib.hid hK
                refine stepAppRd E3 (by rfl) (by rfl) (by rfl) (by rfl) A71.out.op L73.out.rd (fun u hu => by simp at hu; subst hu; rfl) (by omega) (by omega) A71.out.size (i + 1) (by omega) ?_
                intro a77 c78 wy76 own' fr' at'
                refine hK.out _ _ (.inr (A71.out.appP own' fr' at').held) ?_
                clear hK K
                (try simp only [Act.put, List.setIfInBounds_toArray])
                have A75 := Lib.hid (A71.out.appP own' fr' at')
                clear own' fr' at'
                exact tail _ (by kernel_rfl) _ _ _ _ _ _ _ _ _ _ A75
              · refine ⟨_, rfl, fun K hK => ?_⟩
                replace hK := Lib.hid hK
                go_simp
                refine hK.out _ _ (.inr (A62.out.alloc _).held) ?_
                clear hK K
                (try simp only [Act.put, List.setIfInBounds_toArray, List.set_cons_zero, List.set_cons_succ])
                have L81 := Lib.hid (A62.out.lit (.int .i64 i))
                have A79 := Lib.hid (A62.out.alloc (.cells #[.int .i64 i] 3))
                have L83 := Lib.hid (L66.out.alloc (.cells #[.int .i64 i] 3))
                obtain ⟨wy80, hwy80⟩ : ∃ wz, wz = wy63.alloc (.cells #[.int .i64 i] 3) := ⟨_, rfl⟩
                obtain ⟨g82, hg82⟩ : ∃ g, g = wy63.heap.size := ⟨_, rfl⟩
                rw [← hwy80] at L81 A79 L83 ⊢
                rw [← hg82] at L81 ⊢
                clear hwy80 hg82
                refine anyP_more [15] (by kernel_rfl) (by decide) ?_
                intro j hj
                simp only [List.mem_cons, List.not_mem_nil, or_false] at hj
                subst hj
                refine ⟨_, rfl, fun K hK => ?_⟩
                replace hK := Lib.hid hK
                refine stepAppRd E3 (by rfl) (by rfl) (by rfl) (by rfl) A79.out.on L83.out.rd (fun u hu => by simp at hu; subst hu; rfl) (by omega) (by omega) A79.out.size (i + 1) (by omega) ?_
                intro a86 c87 wy85 own' fr' at'
                refine hK.out _ _ (.inr (A79.out.appN own' fr' at').held) ?_
                clear hK K
                (try simp only [Act.put, List.setIfInBounds_toArray])
                have A84 := Lib.hid (A79.out.appN own' fr' at')
                have L88 := Lib.hid (L81.out.appN fr' at')
                clear own' fr' at'
                refine anyP_more [22] (by kernel_rfl) (by decide) ?_
                intro j hj
                simp only [List.mem_cons, List.not_mem_nil, or_false] at hj
                subst hj
                refine ⟨_, rfl, fun K hK => ?_⟩
                replace hK := Lib.hid hK
                refine stepAppRd E3 (by rfl) (by rfl) (by rfl) (by rfl) A84.out.op L88.out.rd (fun u hu => by simp at hu; subst hu; rfl) (by omega) (by omega) A84.out.size (i + 1) (by omega) ?_
                intro a91 c92 wy90 own' fr' at'
                refine hK.out _ _ (.inr (A84.out.appP own' fr' at').held) ?_
                clear hK K
                (try simp only [Act.put])
                have A89 := Lib.hid (A84.out.appP own' fr' at')
                clear own' fr' at'
                exact tail _ (by kernel_rfl) _ _ _ _ _ _ _ _ _ _ A89
            · refine ⟨_, rfl, fun K hK => ?_⟩
              replace hK := Lib.hid hK
              go_simp
              refine hK.out _ _ (.inr (A57.out.alloc _).held) ?_
              clear hK K
              (try simp only [Act.put, List.setIfInBounds_toArray, List.set_cons_zero, List.set_cons_succ])
              have L95 := Lib.hid (A57.out.lit (.int .i64 i))
              have A93 := Lib.hid (A57.out.alloc (.cells #[.int .i64 i] 3))
              have L97 := Lib.hid (L61.out.alloc (.cells #[.int .i64 i] 3))
              have L98 := Lib.hid (L59.out.alloc (.cells #[.int .i64 i] 3))
              obtain ⟨wy94, hwy94⟩ : ∃ wz, wz = wy58.alloc (.cells #[.int .i64 i] 3) := ⟨_, rfl⟩
              obtain ⟨g96, hg96⟩ : ∃ g, g = wy58.heap.size := ⟨_, rfl⟩
              rw [← hwy94] at L95 A93 L97 L98 ⊢
              rw [← hg96] at L95 ⊢
              clear hwy94 hg96
              refine anyP_more [9] (by kernel_rfl) (by decide) ?_
              intro j hj
              simp only [List.mem_cons, List.not_mem_nil, or_false] at hj
              subst hj
              refine ⟨_, rfl, fun K hK => ?_⟩
              replace hK := Lib.hid hK
              refine stepAppRd E3 (by rfl) (by rfl) (by rfl) (by rfl) A93.out.ob L97.out.rd (fun u hu => by simp at hu; subst hu; rfl) (by omega) (by omega) A93.out.size (i + 1) (by omega) ?_
              intro a101 c102 wy100 own' fr' at'
              refine hK.out _ _ (.inr (A93.out.appB own' fr' at').held) ?_
              clear hK K
              (try simp only [Act.put, List.setIfInBounds_toArray])
              have A99 := Lib.hid (A93.out.appB own' fr' at')
              have L103 := Lib.hid (L98.out.appB fr' at')
              have L104 := Lib.hid (L95.out.appB fr' at')
              clear own' fr' at'
              refine anyP_more [15] (by kernel_rfl) (by decide) ?_
              intro j hj
              simp only [List.mem_cons, List.not_mem_nil, or_false] at hj
              subst hj
              refine ⟨_, rfl, fun K hK => ?_⟩
              replace hK := Lib.hid hK
              refine stepAppRd E3 (by rfl) (by rfl) (by rfl) (by rfl) A99.out.on L103.out.rd (fun u hu => by simp at hu; subst hu; rfl) (by omega) (by omega) A99.out.size (i + 1) (by omega) ?_
              intro a107 c108 wy106 own' fr' at'
              refine hK.out _ _ (.inr (A99.out.appN own' fr' at').held) ?_
              clear hK K
              (try simp only [Act.put])
              have A105 := Lib.hid (A99.out.appN own' fr' at')
              have L109 := Lib.hid (L104.out.appN fr' at')
              clear own' fr' at'
              refine anyP_more [22] (by kernel_rfl) (by decide) ?_
              intro j hj
              simp only [List.mem_cons, List.not_mem_nil, or_false] at hj
              subst hj
              refine ⟨_, rfl, fun K hK => ?_⟩
              replace hK := Lib.hid hK
              refine stepAppRd E3 (by rfl) (by rfl) (by rfl) (by rfl) A105.out.op L109.out.rd (fun u hu => by simp at hu; subst hu; rfl) (by omega) (by omega) A105.out.size (i + 1) (by omega) ?_
              intro a112 c113 wy111 own' fr' at'
              refine hK.out _ _ (.inr (A105.out.appP own' fr' at').held) ?_
              clear hK K
              (try simp only [Act.put])
              have A110 := Lib.hid (A105.out.appP own' fr' at')
              clear own' fr' at'
              exact tail _ (by kernel_rfl) _ _ _ _ _ _ _ _ _ _ A110
          · refine ⟨_, rfl, fun K hK => ?_⟩
            replace hK := Lib.hid hK
            go_simp
            refine hK.out _ _ (.inr (A1.out.alloc _).held) ?_
            clear hK K
            (try simp only [Act.put, List.setIfInBounds_toArray, List.set_cons_zero, List.set_cons_succ])
            have L116 := Lib.hid (A1.out.lit (.int .i64 i))
            have A114 := Lib.hid (A1.out.alloc (.cells #[.int .i64 i] 3))
            have L118 := Lib.hid (L3.out.alloc (.cells #[.int .i64 i] 3))
            obtain ⟨wy115, hwy115⟩ : ∃ wz, wz = wy2.alloc (.cells #[.int .i64 i] 3) := ⟨_, rfl⟩
            obtain ⟨g117, hg117⟩ : ∃ g, g = wy2.heap.size := ⟨_, rfl⟩
            rw [← hwy115] at L116 A114 L118 ⊢
            rw [← hg117] at L116 ⊢
            clear hwy115 hg117
            refine anyP_more [9, 14] (by kernel_rfl) (by decide) ?_
            intro j hj
            simp only [List.mem_cons, List.not_mem_nil, or_false] at hj
            rcases hj with rfl | rfl
            · refine ⟨_, rfl, fun K hK => ?_⟩
              replace hK := Lib.hid hK
              refine stepAppRd E3 (by rfl) (by rfl) (by rfl) (by rfl) A114.out.ob L118.out.rd (fun u hu => by simp at hu; subst hu; rfl) (by omega) (by omega) A114.out.size (i + 1) (by omega) ?_
              intro a121 c122 wy120 own' fr' at'
              refine hK.out _ _ (.inr (A114.out.appB own' fr' at').held) ?_
              clear hK K
              (try simp only [Act.put, List.setIfInBounds_toArray])
              have A119 := Lib.hid (A114.out.appB own' fr' at')
              have L123 := Lib.hid (L116.out.appB fr' at')
              clear own' fr' at'
              refine anyP_more [14] (by kernel_rfl) (by decide) ?_
              intro j hj
              simp only [List.mem_cons, List.not_mem_nil, or_false] at hj
              subst hj
              refine ⟨_, rfl, fun K hK => ?_⟩
              replace hK := Lib.hid hK
              go_simp
              refine hK.out _ _ (.inr (A119.out.alloc _).held) ?_
              clear hK K
              (try simp only [Act.put, List.setIfInBounds_toArray, List.set_cons_zero, List.set_cons_succ])
              have L126 := Lib.hid (A119.out.lit (.int .i64 1))
              have A124 := Lib.hid (A119.out.alloc (.cells #[.int .i64 1] 3))
              have L128 := Lib.hid (L123.out.alloc (.cells #[.int .i64 1] 3))
              obtain ⟨wy125, hwy125⟩ : ∃ wz, wz = wy120.alloc (.cells #[.int .i64 1] 3) := ⟨_, rfl⟩
              obtain ⟨g127, hg127⟩ : ∃ g, g = wy120.heap.size := ⟨_, rfl⟩
              rw [← hwy125] at L126 A124 L128 ⊢
              rw [← hg127] at L126 ⊢
              clear hwy125 hg127
              refine anyP_more [15] (by kernel_rfl) (by decide) ?_
              intro j hj
              simp only [List.mem_cons, List.not_mem_nil, or_false] at hj
              subst hj
              refine ⟨_, rfl, fun K hK => ?_⟩
              replace hK := Lib.hid hK
              refine stepAppRd E3 (by rfl) (by rfl) (by rfl) (by rfl) A124.out.on L126.out.rd (fun u hu => by simp at hu; subst hu; rfl) (by omega) (by omega) A124.out.size (i + 1) (by omega) ?_
              intro a131 c132 wy130 own' fr' at'
              refine hK.out _ _ (.inr (A124.out.appN own' fr' at').held) ?_
              clear hK K
              (try simp only [Act.put, List.setIfInBounds_toArray])
              have A129 := Lib.hid (A124.out.appN own' fr' at')
              have L133 := Lib.hid (L128.out.appN fr' at')
              clear own' fr' at'
              refine anyP_more [22] (by kernel_rfl) (by decide) ?_
              intro j hj
              simp only [List.mem_cons, List.not_mem_nil, or_false] at hj
              subst hj
              refine ⟨_, rfl, fun K hK => ?_⟩
              replace hK := Lib.hid hK
              refine stepAppRd E3 (by rfl) (by rfl) (by rfl) (by rfl) A129.out.op L133.out.rd (fun u hu => by simp at hu; subst hu; rfl) (by omega) (by omega) A129.out.size (i + 1) (by omega) ?_
              intro a136 c137 wy135 own' fr' at'
              refine hK.out _ _ (.inr (A129.out.appP own' fr' at').held) ?_
              clear hK K
              (try simp only [Act.put])
              have A134 := Lib.hid (A129.out.appP own' fr' at')
              clear own' fr' at'
              exact tail _ (by kernel_rfl) _ _ _ _ _ _ _ _ _ _ A134
            · refine ⟨_, rfl, fun K hK => ?_⟩
              replace hK := Lib.hid hK
              go_simp
              refine hK.out _ _ (.inr (A114.out.alloc _).held) ?_
              clear hK K
              (try simp only [Act.put, List.setIfInBounds_toArray, List.set_cons_zero, List.set_cons_succ])
              have L140 := Lib.hid (A114.out.lit (.int .i64 1))
              have A138 := Lib.hid (A114.out.alloc (.cells #[.int .i64 1] 3))
              have L142 := Lib.hid (L118.out.alloc (.cells #[.int .i64 1] 3))
              have L143 := Lib.hid (L116.out.alloc (.cells #[.int .i64 1] 3))
              obtain ⟨wy139, hwy139⟩ : ∃ wz, wz = wy115.alloc (.cells #[.int .i64 1] 3) := ⟨_, rfl⟩
              obtain ⟨g141, hg141⟩ : ∃ g, g = wy115.heap.size := ⟨_, rfl⟩
              rw [← hwy139] at L140 A138 L142 L143 ⊢
              rw [← hg141] at L140 ⊢
              clear hwy139 hg141
              refine anyP_more [9] (by kernel_rfl) (by decide) ?_
              intro j hj
              simp only [List.mem_cons, List.not_mem_nil, or_false] at hj
              subst hj
              refine ⟨_, rfl, fun K hK => ?_⟩
              replace hK := Lib.hid hK
              refine stepAppRd E3 (by rfl) (by rfl) (by rfl) (by rfl) A138.out.ob L142.out.rd (fun u hu => by simp at hu; subst hu; rfl) (by omega) (by omega) A138.out.size (i + 1) (by omega) ?_
              intro a146 c147 wy145 own' fr' at'
              refine hK.out _ _ (.inr (A138.out.appB own' fr' at').held) ?_
              clear hK K
              (try simp only [Act.put, List.setIfInBounds_toArray])
              have A144 := Lib.hid (A138.out.appB own' fr' at')
              have L148 := Lib.hid (L143.out.appB fr' at')
              have L149 := Lib.hid (L140.out.appB fr' at')
              clear own' fr' at'
              refine anyP_more [15] (by kernel_rfl) (by decide) ?_
              intro j hj
              simp only [List.mem_cons, List.not_mem_nil, or_false] at hj
              subst hj
              refine ⟨_, rfl, fun K hK => ?_⟩
              replace hK := Lib.hid hK
              refine stepAppRd E3 (by rfl) (by rfl) (by rfl) (by rfl) A144.out.on L149.out.rd (fun u hu => by simp at hu; subst hu; rfl) (by omega) (by omega) A144.out.size (i + 1) (by omega) ?_
              intro a152 c153 wy151 own' fr' at'
              refine hK.out _ _ (.inr (A144.out.appN own' fr' at').held) ?_
              clear hK K
              (try simp only [Act.put])
              have A150 := Lib.hid (A144.out.appN own' fr' at')
              have L154 := Lib.hid (L148.out.appN fr' at')
              clear own' fr' at'
              refine anyP_more [22] (by kernel_rfl) (by decide) ?_
              intro j hj
              simp only [List.mem_cons, List.not_mem_nil, or_false] at hj
              subst hj
              refine ⟨_, rfl, fun K hK => ?_⟩
              replace hK := Lib.hid hK
              refine stepAppRd E3 (by rfl) (by rfl) (by rfl) (by rfl) A150.out.op L154.out.rd (fun u hu => by simp at hu; subst hu; rfl) (by omega) (by omega) A150.out.size (i + 1) (by omega) ?_
              intro a157 c158 wy156 own' fr' at'
              refine hK.out _ _ (.inr (A150.out.appP own' fr' at').held) ?_
              clear hK K
              (try simp only [Act.put])
              have A155 := Lib.hid (A150.out.appP own' fr' at')
              clear own' fr' at'
              exact tail _ (by kernel_rfl) _ _ _ _ _ _ _ _ _ _ A155
        · refine ⟨_, rfl, fun K hK => ?_⟩
          replace hK := Lib.hid hK
          go_simp
          refine hK.out _ _ (.inr (A0.out.alloc _).held) ?_
          clear hK K
          (try simp only [Act.put, List.setIfInBounds_toArray, List.set_cons_zero, List.set_cons_succ])
          have L161 := Lib.hid (A0.out.lit (.int .i64 1))
          have A159 := Lib.hid (A0.out.alloc (.cells #[.int .i64 1] 3))
          obtain ⟨wy160, hwy160⟩ : ∃ wz, wz = w1.alloc (.cells #[.int .i64 1] 3) := ⟨_, rfl⟩
          obtain ⟨g162, hg162⟩ : ∃ g, g = w1.heap.size := ⟨_, rfl⟩
          rw [← hwy160] at L161 A159 ⊢
          rw [← hg162] at L161 ⊢
          clear hwy160 hg162
          refine anyP_more [8, 21] (by kernel_rfl) (by decide) ?_
          intro j hj
          simp only [List.mem_cons, List.not_mem_nil, or_false] at hj
          rcases hj with rfl | rfl
          · refine ⟨_, rfl, fun K hK => ?_⟩
            replace hK := Lib.hid hK
            go_simp
            refine hK.out _ _ (.inr (A159.out.alloc _).held) ?_
            clear hK K
            (try simp only [Act.put, List.setIfInBounds_toArray, List.set_cons_zero, List.set_cons_succ])
            have L165 := Lib.hid (A159.out.lit (.int .i64 i))
            have A163 := Lib.hid (A159.out.alloc (.cells #[.int .i64 i] 3))
            have L167 := Lib.hid (L161.out.alloc (.cells #[.int .i64 i] 3))
            obtain ⟨wy164, hwy164⟩ : ∃ wz, wz = wy160.alloc (.cells #[.int .i64 i] 3) := ⟨_, rfl⟩
            obtain ⟨g166, hg166⟩ : ∃ g, g = wy160.heap.size := ⟨_, rfl⟩
            rw [← hwy164] at L165 A163 L167 ⊢
            rw [← hg166] at L165 ⊢
            clear hwy164 hg166
            refine anyP_more [9, 21] (by kernel_rfl) (by decide) ?_
            intro j hj
            simp only [List.mem_cons, List.not_mem_nil, or_false] at hj
            rcases hj with rfl | rfl
            · refine ⟨_, rfl, fun K hK => ?_⟩
              replace hK := Lib.hid hK
              refine stepAppRd E3 (by rfl) (by rfl) (by rfl) (by rfl) A163.out.ob L165.out.rd (fun u hu => by simp at hu; subst hu; rfl) (by omega) (by omega) A163.out.size (i + 1) (by omega) ?_
              intro a170 c171 wy169 own' fr' at'
              refine hK.out _ _ (.inr (A163.out.appB own' fr' at').held) ?_
              clear hK K
              (try simp only [Act.put, List.setIfInBounds_toArray])
              have A168 := Lib.hid (A163.out.appB own' fr' at')
              have L172 := Lib.hid (L167.out.appB fr' at')
              clear own' fr' at'
              refine anyP_more [15, 21] (by kernel_rfl) (by decide) ?_
              intro j hj
              simp only [List.mem_cons, List.not_mem_nil, or_false] at hj
              rcases hj with rfl | rfl
              · refine ⟨_, rfl, fun K hK => ?_⟩
                replace hK := Lib.hid hK
                refine stepAppRd E3 (by rfl) (by rfl) (by rfl) (by rfl) A168.out.on L172.out.rd (fun u hu => by simp at hu; subst hu; rfl) (by omega) (by omega) A168.out.size (i + 1) (by omega) ?_
                intro a175 c176 wy174 own' fr' at'
                refine hK.out _ _ (.inr (A168.out.appN own' fr' at').held) ?_
                clear hK K
                (try simp only [Act.put])
                have A173 := Lib.hid (A168.out.appN own' fr' at')
                clear own' fr' at'
                refine anyP_more [21] (by kernel_rfl) (by decide) ?_
                intro j hj
                simp only [List.mem_cons, List.not_mem_nil, or_false] at hj
                subst hj
                refine ⟨_, rfl, fun K hK => ?_⟩
                replace hK := Lib.hid hK
                go_simp
                refine hK.out _ _ (.inr (A173.out.alloc _).held) ?_
                clear hK K
                (try simp only [Act.put, List.setIfInBounds_toArray, List.set_cons_zero, List.set_cons_succ])
                have L179 := Lib.hid (A173.out.lit (.int .i64 i))
                have A177 := Lib.hid (A173.out.alloc (.cells #[.int .i64 i] 3))
                obtain ⟨wy178, hwy178⟩ : ∃ wz, wz = wy174.alloc (.cells #[.int .i64 i] 3) := ⟨_, rfl⟩
                obtain ⟨g180, hg180⟩ : ∃ g, g = wy174.heap.size := ⟨_, rfl⟩
                rw [← hwy178] at L179 A177 ⊢
                rw [← hg180] at L179 ⊢
                clear hwy178 hg180
                refine anyP_more [22] (by kernel_rfl) (by decide) ?_
                intro j hj
                simp only [List.mem_cons, List.not_mem_nil, or_false] at hj
                subst hj
                refine ⟨_, rfl, fun K hK => ?_⟩
                replace hK := Lib.hid hK
                refine stepAppRd E3 (by rfl) (by rfl) (by rfl) (by rfl) A177.out.op L179.out.rd (fun u hu => by simp at hu; subst hu; rfl) (by omega) (by omega) A177.out.size (i + 1) (by omega) ?_
                intro a183 c184 wy182 own' fr' at'
                refine hK.out _ _ (.inr (A177.out.appP own' fr' at').held) ?_
                clear hK K
                (try simp only [Act.put, List.setIfInBounds_toArray])
                have A181 := Lib.hid (A177.out.appP own' fr' at')
                clear own' fr' at'
                exact tail _ (by kernel_rfl) _ _ _ _ _ _ _ _ _ _ A181
              · refine ⟨_, rfl, fun K hK => ?_⟩
                replace hK := Lib.hid hK
                go_simp
                refine hK.out _ _ (.inr (A168.out.alloc _).held) ?_
                clear hK K
                (try simp only [Act.put, List.setIfInBounds_toArray, List.set_cons_zero, List.set_cons_succ])
                have L187 := Lib.hid (A168.out.lit (.int .i64 i))
                have A185 := Lib.hid (A168.out.alloc (.cells #[.int .i64 i] 3))
                have L189 := Lib.hid (L172.out.alloc (.cells #[.int .i64 i] 3))
                obtain ⟨wy186, hwy186⟩ : ∃ wz, wz = wy169.alloc (.cells #[.int .i64 i] 3) := ⟨_, rfl⟩
                obtain ⟨g188, hg188⟩ : ∃ g, g = wy169.heap.size := ⟨_, rfl⟩
                rw [← hwy186] at L187 A185 L189 ⊢
                rw [← hg188] at L187 ⊢
                clear hwy186 hg188
                refine anyP_more [15] (by kernel_rfl) (by decide) ?_
                intro j hj
                simp only [List.mem_cons, List.not_mem_nil, or_false] at hj
                subst hj
                refine ⟨_, rfl, fun K hK => ?_⟩
                replace hK := Lib.hid hK
                refine stepAppRd E3 (by rfl) (by rfl) (by rfl) (by rfl) A185.out.on L189.out.rd (fun u hu => by simp at hu; subst hu; rfl) (by omega) (by omega) A185.out.size (i + 1) (by omega) ?_
                intro a192 c193 wy191 own' fr' at'
                refine hK.out _ _ (.inr (A185.out.appN own' fr' at').held) ?_
                clear hK K
                (try simp only [Act.put, List.setIfInBounds_toArray])
                have A190 := Lib.hid (A185.out.appN own' fr' at')
                have L194 := Lib.hid (L187.out.appN fr' at')
                clear own' fr' at'
                refine anyP_more [22] (by kernel_rfl) (by decide) ?_
                intro j hj
                simp only [List.mem_cons, List.not_mem_nil, or_false] at hj
                subst hj
                refine ⟨_, rfl, fun K hK => ?_⟩
                replace hK := Lib.hid hK
                refine stepAppRd E3 (by rfl) (by rfl) (by rfl) (by rfl) A190.out.op L194.out.rd (fun u hu => by simp at hu; subst hu; rfl) (by omega) (by omega) A190.out.size (i + 1) (by omega) ?_
                intro a197 c198 wy196 own' fr' at'
                refine hK.out _ _ (.inr (A190.out.appP own' fr' at').held) ?_
                clear hK K
                (try simp only [Act.put])
                have A195 := Lib.hid (A190.out.appP own' fr' at')
                clear own' fr' at'
                exact tail _ (by kernel_rfl) _ _ _ _ _ _ _ _ _ _ A195
            · refine ⟨_, rfl, fun K hK => ?_⟩
              replace hK := Lib.hid hK
              go_simp
              refine hK.out _ _ (.inr (A163.out.alloc _).held) ?_
              clear hK K
              (try simp only [Act.put, List.setIfInBounds_toArray, List.set_cons_zero, List.set_cons_succ])
              have L201 := Lib.hid (A163.out.lit (.int .i64 i))
              have A199 := Lib.hid (A163.out.alloc (.cells #[.int .i64 i] 3))
              have L203 := Lib.hid (L167.out.alloc (.cells #[.int .i64 i] 3))
              have L204 := Lib.hid (L165.out.alloc (.cells #[.int .i64 i] 3))
              obtain ⟨wy200, hwy200⟩ : ∃ wz, wz = wy164.alloc (.cells #[.int .i64 i] 3) := ⟨_, rfl⟩
              obtain ⟨g202, hg202⟩ : ∃ g, g = wy164.heap.size := ⟨_, rfl⟩
              rw [← hwy200] at L201 A199 L203 L204 ⊢
              rw [← hg202] at L201 ⊢
              clear hwy200 hg202
              refine anyP_more [9] (by kernel_rfl) (by decide) ?_
              intro j hj
              simp only [List.mem_cons, List.not_mem_nil, or_false] at hj
              subst hj
              refine ⟨_, rfl, fun K hK => ?_⟩
              replace hK := Lib.hid hK
              refine stepAppRd E3 (by rfl) (by rfl) (by rfl) (by rfl) A199.out.ob L204.out.rd (fun u hu => by simp at hu; subst hu; rfl) (by omega) (by omega) A199.out.size (i + 1) (by omega) ?_
              intro a207 c208 wy206 own' fr' at'
              refine hK.out _ _ (.inr (A199.out.appB own' fr' at').held) ?_
              clear hK K
              (try simp only [Act.put, List.setIfInBounds_toArray])
              have A205 := Lib.hid (A199.out.appB own' fr' at')
              have L209 := Lib.hid (L203.out.appB fr' at')
              have L210 := Lib.hid (L201.out.appB fr' at')
              clear own' fr' at'
              refine anyP_more [15] (by kernel_rfl) (by decide) ?_
              intro j hj
              simp only [List.mem_cons, List.not_mem_nil, or_false] at hj
              subst hj
              refine ⟨_, rfl, fun K hK => ?_⟩
              replace hK := Lib.hid hK
              refine stepAppRd E3 (by rfl) (by rfl) (by rfl) (by rfl) A205.out.on L209.out.rd (fun u hu => by simp at hu; subst hu; rfl) (by omega) (by omega) A205.out.size (i + 1) (by omega) ?_
              intro a213 c214 wy212 own' fr' at'
              refine hK.out _ _ (.inr (A205.out.appN own' fr' at').held) ?_
              clear hK K
              (try simp only [Act.put])
              have A211 := Lib.hid (A205.out.appN own' fr' at')
              have L215 := Lib.hid (L210.out.appN fr' at')
              clear own' fr' at'
              refine anyP_more [22] (by kernel_rfl) (by decide) ?_
              intro j hj
              simp only [List.mem_cons, List.not_mem_nil, or_false] at hj
              subst hj
              refine ⟨_, rfl, fun K hK => ?_⟩
              replace hK := Lib.hid hK
              refine stepAppRd E3 (by rfl) (by rfl) (by rfl) (by rfl) A211.out.op L215.out.rd (fun u hu => by simp at hu; subst hu; rfl) (by omega) (by omega) A211.out.size (i + 1) (by omega) ?_
              intro a218 c219 wy217 own' fr' at'
              refine hK.out _ _ (.inr (A211.out.appP own' fr' at').held) ?_
              clear hK K
              (try simp only [Act.put])
              have A216 := Lib.hid (A211.out.appP own' fr' at')
              clear own' fr' at'
              exact tail _ (by kernel_rfl) _ _ _ _ _ _ _ _ _ _ A216
          · refine ⟨_, rfl, fun K hK => ?_⟩
            replace hK := Lib.hid hK
            go_simp
            refine hK.out _ _ (.inr (A159.out.alloc _).held) ?_
            clear hK K
            (try simp only [Act.put, List.setIfInBounds_toArray, List.set_cons_zero, List.set_cons_succ])
            have L222 := Lib.hid (A159.out.lit (.int .i64 i))
            have A220 := Lib.hid (A159.out.alloc (.cells #[.int .i64 i] 3))
            have L224 := Lib.hid (L161.out.alloc (.cells #[.int .i64 i] 3))
            obtain ⟨wy221, hwy221⟩ : ∃ wz, wz = wy160.alloc (.cells #[.int .i64 i] 3) := ⟨_, rfl⟩
            obtain ⟨g223, hg223⟩ : ∃ g, g = wy160.heap.size := ⟨_, rfl⟩
            rw [← hwy221] at L222 A220 L224 ⊢
            rw [← hg223] at L222 ⊢
            clear hwy221 hg223
            refine anyP_more [8] (by kernel_rfl) (by decide) ?_
            intro j hj
            simp only [List.mem_cons, List.not_mem_nil, or_false] at hj
            subst hj
            refine ⟨_, rfl, fun K hK => ?_⟩
            replace hK := Lib.hid hK
            go_simp
            refine hK.out _ _ (.inr (A220.out.alloc _).held) ?_
            clear hK K
            (try simp only [Act.put, List.setIfInBounds_toArray, List.set_cons_zero, List.set_cons_succ])
            have L227 := Lib.hid (A220.out.lit (.int .i64 i))
            have A225 := Lib.hid (A220.out.alloc (.cells #[.int .i64 i] 3))
            have L229 := Lib.hid (L224.out.alloc (.cells #[.int .i64 i] 3))
            have L230 := Lib.hid (L222.out.alloc (.cells #[.int .i64 i] 3))
            obtain ⟨wy226, hwy226⟩ : ∃ wz, wz = wy221.alloc (.cells #[.int .i64 i] 3) := ⟨_, rfl⟩
            obtain ⟨g228, hg228⟩ : ∃ g, g = wy221.heap.size := ⟨_, rfl⟩
            rw [← hwy226] at L227 A225 L229 L230 ⊢
            rw [← hg228] at L227 ⊢
            clear hwy226 hg228
            refine anyP_more [9] (by kernel_rfl) (by decide) ?_
            intro j hj
            simp only [List.mem_cons, List.not_mem_nil, or_false] at hj
            subst hj
            refine ⟨_, rfl, fun K hK => ?_⟩
            replace hK := Lib.hid hK
            refine stepAppRd E3 (by rfl) (by rfl) (by rfl) (by rfl) A225.out.ob L227.out.rd (fun u hu => by simp at hu; subst hu; rfl) (by omega) (by omega) A225.out.size (i + 1) (by omega) ?_
            intro a233 c234 wy232 own' fr' at'
            refine hK.out _ _ (.inr (A225.out.appB own' fr' at').held) ?_
            clear hK K
            (try simp only [Act.put, List.setIfInBounds_toArray])
            have A231 := Lib.hid (A225.out.appB own' fr' at')
            have L235 := Lib.hid (L229.out.appB fr' at')
            have L236 := Lib.hid (L230.out.appB fr' at')
            clear own' fr' at'
            refine anyP_more [15] (by kernel_rfl) (by decide) ?_
            intro j hj
            simp only [List.mem_cons, List.not_mem_nil, or_false] at hj
            subst hj
            refine ⟨_, rfl, fun K hK => ?_⟩
            replace hK := Lib.hid hK
            refine stepAppRd E3 (by rfl) (by rfl) (by rfl) (by rfl) A231.out.on L235.out.rd (fun u hu => by simp at hu; subst hu; rfl) (by omega) (by omega) A231.out.size (i + 1) (by omega) ?_
            intro a239 c240 wy238 own' fr' at'
            refine hK.out _ _ (.inr (A231.out.appN own' fr' at').held) ?_
            clear hK K
            (try simp only [Act.put])
            have A237 := Lib.hid (A231.out.appN own' fr' at')
            have L241 := Lib.hid (L236.out.appN fr' at')
            clear own' fr' at'
            refine anyP_more [22] (by kernel_rfl) (by decide) ?_
            intro j hj
            simp only [List.mem_cons, List.not_mem_nil, or_false] at hj
            subst hj
            refine ⟨_, rfl, fun K hK => ?_⟩
            replace hK := Lib.hid hK
            refine stepAppRd E3 (by rfl) (by rfl) (by rfl) (by rfl) A237.out.op L241.out.rd (fun u hu => by simp at hu; subst hu; rfl) (by omega) (by omega) A237.out.size (i + 1) (by omega) ?_
            intro a244 c245 wy243 own' fr' at'
            refine hK.out _ _ (.inr (A237.out.appP own' fr' at').held) ?_
            clear hK K
            (try simp only [Act.put])
            have A242 := Lib.hid (A237.out.appP own' fr' at')
            clear own' fr' at'
            exact tail _ (by kernel_rfl) _ _ _ _ _ _ _ _ _ _ A242
        · refine ⟨_, rfl, fun K hK => ?_⟩
          replace hK := Lib.hid hK
          go_simp
          refine hK.out _ _ (.inr (A0.out.alloc _).held) ?_
          clear hK K
          (try simp only [Act.put, List.setIfInBounds_toArray, List.set_cons_zero, List.set_cons_succ])
          have L248 := Lib.hid (A0.out.lit (.int .i64 i))
          have A246 := Lib.hid (A0.out.alloc (.cells #[.int .i64 i] 3))
          obtain ⟨wy247, hwy247⟩ : ∃ wz, wz = w1.alloc (.cells #[.int .i64 i] 3) := ⟨_, rfl⟩
          obtain ⟨g249, hg249⟩ : ∃ g, g = w1.heap.size := ⟨_, rfl⟩
          rw [← hwy247] at L248 A246 ⊢
          rw [← hg249] at L248 ⊢
          clear hwy247 hg249
          refine anyP_more [8, 14] (by kernel_rfl) (by decide) ?_
          intro j hj
          simp only [List.mem_cons, List.not_mem_nil, or_false] at hj
          rcases hj with rfl | rfl
          · refine ⟨_, rfl, fun K hK => ?_⟩
            replace hK := Lib.hid hK
            go_simp
            refine hK.out _ _ (.inr (A246.out.alloc _).held) ?_
            clear hK K
            (try simp only [Act.put, List.setIfInBounds_toArray, List.set_cons_zero, List.set_cons_succ])
            have L252 := Lib.hid (A246.out.lit (.int .i64 i))
            have A250 := Lib.hid (A246.out.alloc (.cells #[.int .i64 i] 3))
            have L254 := Lib.hid (L248.out.alloc (.cells #[.int .i64 i] 3))
            obtain ⟨wy251, hwy251⟩ : ∃ wz, wz = wy247.alloc (.cells #[.int .i64 i] 3) := ⟨_, rfl⟩
            obtain ⟨g253, hg253⟩ : ∃ g, g = wy247.heap.size := ⟨_, rfl⟩
            rw [← hwy251] at L252 A250 L254 ⊢
            rw [← hg253] at L252 ⊢
            clear hwy251 hg253
            refine anyP_more [9, 14] (by kernel_rfl) (by decide) ?_
            intro j hj
            simp only [List.mem_cons, List.not_mem_nil, or_false] at hj
            rcases hj with rfl | rfl
            · refine ⟨_, rfl, fun K hK => ?_⟩
              replace hK := Lib.hid hK
              refine stepAppRd E3 (by rfl) (by rfl) (by rfl) (by rfl) A250.out.ob L252.out.rd (fun u hu => by simp at hu; subst hu; rfl) (by omega) (by omega) A250.out.size (i + 1) (by omega) ?_
              intro a257 c258 wy256 own' fr' at'
              refine hK.out _ _ (.inr (A250.out.appB own' fr' at').held) ?_
              clear hK K
              (try simp only [Act.put, List.setIfInBounds_toArray])
              have A255 := Lib.hid (A250.out.appB own' fr' at')
              have L259 := Lib.hid (L254.out.appB fr' at')
              clear own' fr' at'
              refine anyP_more [14] (by kernel_rfl) (by decide) ?_
              intro j hj
              simp only [List.mem_cons, List.not_mem_nil, or_false] at hj
              subst hj
              refine ⟨_, rfl, fun K hK => ?_⟩
              replace hK := Lib.hid hK
              go_simp
              refine hK.out _ _ (.inr (A255.out.alloc _).held) ?_
              clear hK K
              (try simp only [Act.put, List.setIfInBounds_toArray, List.set_cons_zero, List.set_cons_succ])
              have L262 := Lib.hid (A255.out.lit (.int .i64 1))
              have A260 := Lib.hid (A255.out.alloc (.cells #[.int .i64 1] 3))
              have L264 := Lib.hid (L259.out.alloc (.cells #[.int .i64 1] 3))
              obtain ⟨wy261, hwy261⟩ : ∃ wz, wz = wy256.alloc (.cells #[.int .i64 1] 3) := ⟨_, rfl⟩
              obtain ⟨g263, hg263⟩ : ∃ g, g = wy256.heap.size := ⟨_, rfl⟩
              rw [← hwy261] at L262 A260 L264 ⊢
              rw [← hg263] at L262 ⊢
              clear hwy261 hg263
              refine anyP_more [15] (by kernel_rfl) (by decide) ?_
              intro j hj
              simp only [List.mem_cons, List.not_mem_nil, or_false] at hj
              subst hj
              refine ⟨_, rfl, fun K hK => ?_⟩
              replace hK := Lib.hid hK
              refine stepAppRd E3 (by rfl) (by rfl) (by rfl) (by rfl) A260.out.on L262.out.rd (fun u hu => by simp at hu; subst hu; rfl) (by omega) (by omega) A260.out.size (i + 1) (by omega) ?_
              intro a267 c268 wy266 own' fr' at'
              refine hK.out _ _ (.inr (A260.out.appN own' fr' at').held) ?_
              clear hK K
              (try simp only [Act.put, List.setIfInBounds_toArray])
              have A265 := Lib.hid (A260.out.appN own' fr' at')
              have L269 := Lib.hid (L264.out.appN fr' at')
              clear own' fr' at'
              refine anyP_more [22] (by kernel_rfl) (by decide) ?_
              intro j hj
              simp only [List.mem_cons, List.not_mem_nil, or_false] at hj
              subst hj
              refine ⟨_, rfl, fun K hK => ?_⟩
              replace hK := Lib.hid hK
              refine stepAppRd E3 (by rfl) (by rfl) (by rfl) (by rfl) A265.out.op L269.out.rd (fun u hu => by simp at hu; subst hu; rfl) (by omega) (by omega) A265.out.size (i + 1) (by omega) ?_
              intro a272 c273 wy271 own' fr' at'
              refine hK.out _ _ (.inr (A265.out.appP own' fr' at').held) ?_
              clear hK K
              (try simp only [Act.put])
              have A270 := Lib.hid (A265.out.appP own' fr' at')
              clear own' fr' at'
              exact tail _ (by kernel_rfl) _ _ _ _ _ _ _ _ _ _ A270
            · refine ⟨_, rfl, fun K hK => ?_⟩
              replace hK := Lib.hid hK
              go_simp
              refine hK.out _ _ (.inr (A250.out.alloc _).held) ?_
              clear hK K
              (try simp only [Act.put, List.setIfInBounds_toArray, List.set_cons_zero, List.set_cons_succ])
              have L276 := Lib.hid (A250.out.lit (.int .i64 1))
              have A274 := Lib.hid (A250.out.alloc (.cells #[.int .i64 1] 3))
              have L278 := Lib.hid (L254.out.alloc (.cells #[.int .i64 1] 3))
              have L279 := Lib.hid (L252.out.alloc (.cells #[.int .i64 1] 3))
              obtain ⟨wy275, hwy275⟩ : ∃ wz, wz = wy251.alloc (.cells #[.int .i64 1] 3) := ⟨_, rfl⟩
              obtain ⟨g277, hg277⟩ : ∃ g, g = wy251.heap.size := ⟨_, rfl⟩
              rw [← hwy275] at L276 A274 L278 L279 ⊢
              rw [← hg277] at L276 ⊢
              clear hwy275 hg277
              refine anyP_more [9] (by kernel_rfl) (by decide) ?_
              intro j hj
              simp only [List.mem_cons, List.not_mem_nil, or_false] at hj
              subst hj
              refine ⟨_, rfl, fun K hK => ?_⟩
              replace hK := Lib.hid hK
              refine stepAppRd E3 (by rfl) (by rfl) (by rfl) (by rfl) A274.out.ob L279.out.rd (fun u hu => by simp at hu; subst hu; rfl) (by omega) (by omega) A274.out.size (i + 1) (by omega) ?_
              intro a282 c283 wy281 own' fr' at'
              refine hK.out _ _ (.inr (A274.out.appB own' fr' at').held) ?_
              clear hK K
              (try simp only [Act.put, List.setIfInBounds_toArray])
              have A280 := Lib.hid (A274.out.appB own' fr' at')
              have L284 := Lib.hid (L278.out.appB fr' at')
              have L285 := Lib.hid (L276.out.appB fr' at')
              clear own' fr' at'
              refine anyP_more [15] (by kernel_rfl) (by decide) ?_
              intro j hj
              simp only [List.mem_cons, List.not_mem_nil, or_false] at hj
              subst hj
              refine ⟨_, rfl, fun K hK => ?_⟩
              replace hK := Lib.hid hK
              refine stepAppRd E3 (by rfl) (by rfl) (by rfl) (by rfl) A280.out.on L285.out.rd (fun u hu => by simp at hu; subst hu; rfl) (by omega) (by omega) A280.out.size (i + 1) (by omega) ?_
              intro a288 c289 wy287 own' fr' at'
              refine hK.out _ _ (.inr (A280.out.appN own' fr' at').held) ?_
              clear hK K
              (try simp only [Act.put])
              have A286 := Lib.hid (A280.out.appN own' fr' at')
              have L290 := Lib.hid (L284.out.appN fr' at')
              clear own' fr' at'
              refine anyP_more [22] (by kernel_rfl) (by decide) ?_
              intro j hj
              simp only [List.mem_cons, List.not_mem_nil, or_false] at hj
              subst hj
              refine ⟨_, rfl, fun K hK => ?_⟩
              replace hK := Lib.hid hK
              refine stepAppRd E3 (by rfl) (by rfl) (by rfl) (by rfl) A286.out.op L290.out.rd (fun u hu => by simp at hu; subst hu; rfl) (by omega) (by omega) A286.out.size (i + 1) (by omega) ?_
              intro a293 c294 wy292 own' fr' at'
              refine hK.out _ _ (.inr (A286.out.appP own' fr' at').held) ?_
              clear hK K
              (try simp only [Act.put])
              have A291 := Lib.hid (A286.out.appP own' fr' at')
              clear own' fr' at'
              exact tail _ (by kernel_rfl) _ _ _ _ _ _ _ _ _ _ A291
          · refine ⟨_, rfl, fun K hK => ?_⟩
            replace hK := Lib.hid hK
            go_simp
            refine hK.out _ _ (.inr (A246.out.alloc _).held) ?_
            clear hK K
            (try simp only [Act.put, List.setIfInBounds_toArray, List.set_cons_zero, List.set_cons_succ])
            have L297 := Lib.hid (A246.out.lit (.int .i64 1))
            have A295 := Lib.hid (A246.out.alloc (.cells #[.int .i64 1] 3))
            have L299 := Lib.hid (L248.out.alloc (.cells #[.int .i64 1] 3))
            obtain ⟨wy296, hwy296⟩ : ∃ wz, wz = wy247.alloc (.cells #[.int .i64 1] 3) := ⟨_, rfl⟩
            obtain ⟨g298, hg298⟩ : ∃ g, g = wy247.heap.size := ⟨_, rfl⟩
            rw [← hwy296] at L297 A295 L299 ⊢
            rw [← hg298] at L297 ⊢
            clear hwy296 hg298
            refine anyP_more [8] (by kernel_rfl) (by decide) ?_
            intro j hj
            simp only [List.mem_cons, List.not_mem_nil, or_false] at hj
            subst hj
            refine ⟨_, rfl, fun K hK => ?_⟩
            replace hK := Lib.hid hK
            go_simp
            refine hK.out _ _ (.inr (A295.out.alloc _).held) ?_
            clear hK K
            (try simp only [Act.put, List.setIfInBounds_toArray, List.set_cons_zero, List.set_cons_succ])
            have L302 := Lib.hid (A295.out.lit (.int .i64 i))
            have A300 := Lib.hid (A295.out.alloc (.cells #[.int .i64 i] 3))
            have L304 := Lib.hid (L299.out.alloc (.cells #[.int .i64 i] 3))
            have L305 := Lib.hid (L297.out.alloc (.cells #[.int .i64 i] 3))
            obtain ⟨wy301, hwy301⟩ : ∃ wz, wz = wy296.alloc (.cells #[.int .i64 i] 3) := ⟨_, rfl⟩
            obtain ⟨g303, hg303⟩ : ∃ g, g = wy296.heap.size := ⟨_, rfl⟩
            rw [← hwy301] at L302 A300 L304 L305 ⊢
            rw [← hg303] at L302 ⊢
            clear hwy301 hg303
            refine anyP_more [9] (by kernel_rfl) (by decide) ?_
            intro j hj
            simp only [List.mem_cons, List.not_mem_nil, or_false] at hj
            subst hj
            refine ⟨_, rfl, fun K hK => ?_⟩
            replace hK := Lib.hid hK
            refine stepAppRd E3 (by rfl) (by rfl) (by rfl) (by rfl) A300.out.ob L302.out.rd (fun u hu => by simp at hu; subst hu; rfl) (by omega) (by omega) A300.out.size (i + 1) (by omega) ?_
            intro a308 c309 wy307 own' fr' at'
            refine hK.out _ _ (.inr (A300.out.appB own' fr' at').held) ?_
            clear hK K
            (try simp only [Act.put, List.setIfInBounds_toArray])
            have A306 := Lib.hid (A300.out.appB own' fr' at')
            have L310 := Lib.hid (L304.out.appB fr' at')
            have L311 := Lib.hid (L305.out.appB fr' at')
            clear own' fr' at'
            refine anyP_more [15] (by kernel_rfl) (by decide) ?_
            intro j hj
            simp only [List.mem_cons, List.not_mem_nil, or_false] at hj
            subst hj
            refine ⟨_, rfl, fun K hK => ?_⟩
            replace hK := Lib.hid hK
            refine stepAppRd E3 (by rfl) (by rfl) (by rfl) (by rfl) A306.out.on L311.out.rd (fun u hu => by simp at hu; subst hu; rfl) (by omega) (by omega) A306.out.size (i + 1) (by omega) ?_
            intro a314 c315 wy313 own' fr' at'
            refine hK.out _ _ (.inr (A306.out.appN own' fr' at').held) ?_
            clear hK K
            (try simp only [Act.put])
            have A312 := Lib.hid (A306.out.appN own' fr' at')
            have L316 := Lib.hid (L310.out.appN fr' at')
            clear own' fr' at'
            refine anyP_more [22] (by kernel_rfl) (by decide) ?_
            intro j hj
            simp only [List.mem_cons, List.not_mem_nil, or_false] at hj
            subst hj
            refine ⟨_, rfl, fun K hK => ?_⟩
            replace hK := Lib.hid hK
            refine stepAppRd E3 (by rfl) (by rfl) (by rfl) (by rfl) A312.out.op L316.out.rd (fun u hu => by simp at hu; subst hu; rfl) (by omega) (by omega) A312.out.size (i + 1) (by omega) ?_
            intro a319 c320 wy318 own' fr' at'
            refine hK.out _ _ (.inr (A312.out.appP own' fr' at').held) ?_
            clear hK K
            (try simp only [Act.put])
            have A317 := Lib.hid (A312.out.appP own' fr' at')
            clear own' fr' at'
            exact tail _ (by kernel_rfl) _ _ _ _ _ _ _ _ _ _ A317
    · obtain rfl : i = n := by omega
      have hlt' : decide ((i : Int) < (i : Int)) = false := decide_eq_false (by omega)
      go_wp2_with fail
      go_ret2
      have h := H.out
      have eL : nv (List.range i) = nv (List.range i) := rfl
      refine ⟨x, rfl, ⟨ab, an, ap, none, c1, c2, c3, 0, ⟨h.kx, ?_, ?_, ?_, OwnZ.nil _ _ _ _, h.bx, h.q1, h.q2, h.q3, onBlk_none _, h.p1, h.p2, apart_none _, h.p3, apart_none _, apart_none _⟩, ?_⟩, h.fr⟩
      · exact h.ob
      · have e : nv (List.replicate i 1) = List.replicate i (Value.int .i64 1) := by unfold nv; rw [List.map_replicate]; rfl
        show Own _ _ 3 an i c2 (nv (List.replicate i 1))
        rw [e]; exact h.on
      · exact h.op
      · intro j hj
        rcases hj with rfl | hj | hj | hj | hj
        · exact h.bx
        · exact (h.ob.blk j hj).1
        · exact (h.on.blk j hj).1
        · exact (h.op.blk j hj).1
        · exact absurd hj (onBlk_none _)
theorem NewForest_no (n : Int) (w : World) (h : n < 1 ∨ 1000 < n) : Calls Try.prog 40 #[.int .i64 n] w fun e w' => e = .returned (.tuple #[.pointer none, .int .i64 2]) ∧ w = w' := by
  by_cases h1 : n < 1
  · go_enter Try.func40, Try.ntmps40
    go_wp2_with fail
    go_ret2
    exact ⟨rfl, rfl⟩
  · have h2 : decide ((1000 : Int) < n) = true := decide_eq_true (by omega)
    go_enter Try.func40, Try.ntmps40
    go_wp2_with fail
    go_ret2
    exact ⟨rfl, rfl⟩
end Go.Proofs.Ytihcaemheknjbaa
