/- CacheSteps: the walk. -/
import Derived.Test.YtnlgjpcnnnilpaaN1
namespace Go.Proofs.Ytnlgjpcnnnilpaa
open Go.RowKit
attribute [local go_sem ↓] Go.wp_at_zero Go.wp_at_succ

/-- The cache holds K', the known list K; they lie apart. -/
def SM (w : World) (B x m mi : Nat) (K' K : List Int) (a1 : Option Addr) (n1 c1 : Nat) : Prop :=
  ∃ s bm gb gn gp cb cn cp BL NX PV f S, CX w B x m mi s K' bm gb gn gp cb cn cp BL NX PV f S ∧ Own w 0 3 a1 n1 c1 (ints K) ∧ ∀ k, onBlk a1 k → ¬ on5 x bm gb gn gp k
section
variable {w w' : World} {B x m mi : Nat} {K' K : List Int} {a1 : Option Addr} {n1 c1 : Nat}
theorem CX.lt {s : Nat} {bm gb gn gp cb cn cp : Nat} {BL : List Int} {NX PV : List Nat} {f : Int → Option Value} {S : List Nat} (h : CX w B x m mi s K bm gb gn gp cb cn cp BL NX PV f S) {k : Nat} (hk : on5 x bm gb gn gp k) : k < w.heap.size := by
  have n1 : ∀ g, onBlk (some ⟨g, 0, none⟩) g := fun g => (onBlk_some _ _ _ _).2 rfl
  rcases hk with rfl | rfl | rfl | rfl | rfl
  · exact lt_of_block h.cl.kx
  · exact h.mp.lt
  · exact (h.cl.ob.blk _ (n1 _)).2
  · exact (h.cl.on.blk _ (n1 _)).2
  · exact (h.cl.op.blk _ (n1 _)).2
theorem SM.fr0 (h : SM w B x m mi K' K a1 n1 c1) (F : Fr F0 w w') : SM w' B x m mi K' K a1 n1 c1 := by
  obtain ⟨s, bm, gb, gn, gp, cb, cn, cp, BL, NX, PV, f, S, h1, h2, h3⟩ := h
  exact ⟨s, bm, gb, gn, gp, cb, cn, cp, BL, NX, PV, f, S, h1.fr0 F, h2.fr0 F, h3⟩
theorem SM.own (h : SM w B x m mi K' K a1 n1 c1) : Own w 0 3 a1 n1 c1 (ints K) := by
  obtain ⟨s, bm, gb, gn, gp, cb, cn, cp, BL, NX, PV, f, S, h1, h2, h3⟩ := h
  exact h2
theorem SM.len (h : SM w B x m mi K K a1 n1 c1) : n1 ≤ m := by
  obtain ⟨s, bm, gb, gn, gp, cb, cn, cp, BL, NX, PV, f, S, h1, h2, h3⟩ := h
  have := h2.lens
  have := h1.rg.klen
  have := h1.hs
  omega
theorem SM.know (h : SM w B x m mi K' K a1 n1 c1) {a2 : Option Addr} {n2 c2 : Nat} (O : Own w' w.heap.size 3 a2 n2 c2 (ints K')) (F : Fr F0 w w') : SM w' B x m mi K' K' a2 n2 c2 := by
  obtain ⟨s, bm, gb, gn, gp, cb, cn, cp, BL, NX, PV, f, S, h1, h2, h3⟩ := h
  exact ⟨s, bm, gb, gn, gp, cb, cn, cp, BL, NX, PV, f, S, h1.fr0 F, O.mono (Nat.zero_le _), fun k hk h5 => by have := (O.blk k hk).1; have := h1.lt h5; omega⟩
theorem SM.touch (h : SM w B x m mi K K a1 n1 c1) {b : Int} (hb0 : 0 ≤ b) (hb1 : b ≤ 1048576) (hmi : mi ≤ 1000000) {K2 : List Int} {r : Bool} (ht : touchL K m b = (K2, r)) :
    Calls Try.prog 17 #[.pointer (some ⟨x, 0, none⟩), .int .i64 b] w fun e w' => e = .returned (.tuple #[.bool r, .int .i64 0]) ∧ SM w' B x m (if r then mi else mi + 1) K2 K a1 n1 c1 ∧ Fr (fun k => B ≤ k) w w' := by
  obtain ⟨s, bm, gb, gn, gp, cb, cn, cp, BL, NX, PV, f, S, h1, h2, h3⟩ := h
  refine (Touch_any h1 b hb0 hb1 hmi).mono ?_
  rintro e w' ⟨s', gb', gn', gp', cb', cn', cp', BL', NX', PV', f', S', rfl, h', F, hnw⟩
  rw [ht] at h' ⊢
  refine ⟨rfl, ⟨s', bm, gb', gn', gp', cb', cn', cp', BL', NX', PV', f', S', h', h2.fr F h3, fun k hk h5 => ?_⟩, F.mono (fun k _ hk => h1.ge hk)⟩
  have hkl := (h2.blk k hk).2
  have h3' := h3 k hk
  rcases h5 with h5 | h5 | h5
  · exact h3' (.inl h5)
  · exact h3' (.inr (.inl h5))
  · rcases hnw k h5 with h6 | h6
    · exact h3' (.inr (.inr h6))
    · omega
theorem SM.blocks (h : SM w B x m mi K' K a1 n1 c1) : Calls Try.prog 20 #[.pointer (some ⟨x, 0, none⟩)] w fun e w' => ∃ a s c, e = .returned (.slice a s c) ∧ Rd w' a s (ints K') ∧ Fr F0 w w' := by
  obtain ⟨s, bm, gb, gn, gp, cb, cn, cp, BL, NX, PV, f, S, h1, h2, h3⟩ := h
  exact (Blocks_any h1).mono fun e w' ⟨a, c, he, hr, F, _⟩ => ⟨a, s, c, he, hr, F⟩
theorem SM.misses (h : SM w B x m mi K' K a1 n1 c1) : Calls Try.prog 21 #[.pointer (some ⟨x, 0, none⟩)] w fun e w' => e = .returned (.int .i64 mi) ∧ w = w' := by
  obtain ⟨s, bm, gb, gn, gp, cb, cn, cp, BL, NX, PV, f, S, h1, h2, h3⟩ := h
  exact Misses_any h1
end
set_option maxRecDepth 100000 in
set_option maxHeartbeats 4000000 in
theorem Steps_walk (m : Int) (a : Option Addr) (n c : Nat) (l : List Int) (w : World) (hs : ArgSl w a n c l) :
    Calls Try.prog 4 #[.int .i64 m, .slice a n c] w fun e w' => e = .returned (.bool true) ∧ Fr F0 w w' := by
  have Hr := Lib.hid hs.rd
  have hmax := hs.rd.max
  clear hs
  by_cases h100 : 100 < n
  · go_enter Try.func4, Try.ntmps4
    go_wp2_with fail
    refine (awake_any _).mono ?_; rintro e w1 ⟨rfl, F1⟩
    go_wp2_with fail
    go_ret
    exact ⟨rfl, F1⟩
  · by_cases hmm : m < 1 ∨ 1000 < m
    · have hN := fun w => New_bad m w hmm
      have HN := Lib.hid hN
      rcases hmm with hm1 | hm2
      · clear hN
        go_enter Try.func4, Try.ntmps4
        go_wp2_with fail
        refine (awake_any _).mono ?_; rintro e w1 ⟨rfl, F1⟩
        go_wp2_with (refine (HN.out _).mono ?_; rintro e w2 ⟨rfl, rfl⟩)
        go_ret
        exact ⟨rfl, F1⟩
      · have hm3 : ¬ m < 1 := by omega
        clear hN
        go_enter Try.func4, Try.ntmps4
        go_wp2_with fail
        refine (awake_any _).mono ?_; rintro e w1 ⟨rfl, F1⟩
        go_wp2_with (refine (HN.out _).mono ?_; rintro e w2 ⟨rfl, rfl⟩)
        go_ret
        exact ⟨rfl, F1⟩
    · obtain ⟨m', rfl⟩ := Int.eq_ofNat_of_zero_le (show 0 ≤ m by omega)
      have hm1 : 1 ≤ m' := by omega
      have hm2 : m' ≤ 1000 := by omega
      clear hmm
      go_enter Try.func4, Try.ntmps4
      go_wp2_with fail
      refine (awake_any _).mono ?_; rintro e w1 ⟨rfl, F1⟩
      go_wp2_with fail
      refine (New_any m' _ hm1 hm2).mono ?_; rintro e w2 ⟨x, bm, gb, gn, gp, rfl, hX, F2⟩
      have hS0 : Hid (SM w2 w1.heap.size x m' 0 [] [] none 0 0) := Lib.hid ⟨0, bm, gb, gn, gp, 1, 1, 1, _, _, _, _, _, hX, Own.nil _ _ _, fun k hk => absurd hk (onBlk_none k)⟩
      have hw1 : Hid (w.heap.size ≤ w1.heap.size) := Lib.hid F1.size
      replace F1 := F1.trans0 F2
      clear hX F2
      go_wp2_with fail
      go_loopw [7, 8, 10, 11, 12, 13, 14, 48] (fun s7 s8 _ _ _ _ _ s48 wr => ∃ (k mi n1 c1 : Nat) (a1 : Option Addr) (K : List Int), k ≤ n ∧ s48 = .int .i64 k ∧ s8 = .int .i64 mi ∧ s7 = .slice a1 n1 c1 ∧ mi ≤ k ∧ Hid (SM wr w1.heap.size x m' mi K K a1 n1 c1) ∧ Fr F0 w wr) (fun _ _ _ _ _ _ _ s48 _ => n - (intOf s48).toNat)
      case atStart => exact ⟨0, 0, 0, 0, none, [], by omega, rfl, rfl, rfl, by omega, hS0, F1⟩
      case round =>
        clear F1 hS0
        obtain ⟨k, mi, n1, c1, a1, K, hk, rfl, rfl, rfl, hmi, hS, hF⟩ := hrel
        by_cases hlt : k < n
        · obtain ⟨b, o, y, hb, hy, d⟩ := (Hr.out.fr0 hF).ix hlt
          subst hb
          clear hy
          by_cases hy0 : 0 ≤ y
          · by_cases hy1 : y ≤ 1048576
            · obtain ⟨K2, r, ht⟩ : ∃ K2 r, touchL K m' y = (K2, r) := ⟨_, _, rfl⟩
              have hcall := hS.out.touch hy0 hy1 (by omega) ht
              have hcap := hS.out.own.cap
              have hlen := hS.out.len
              have Ht := Lib.hid ht
              clear ht
              cases r with
              | true =>
                go_wp2_with (refine hcall.mono ?_; rintro e w3 ⟨rfl, hS3, F3⟩; replace hS3 : Hid (SM w3 w1.heap.size x m' (mi) K2 K a1 n1 c1) := Lib.hid hS3; replace hF := hF.trans F3 (fun k hk h => by have h' : w1.heap.size ≤ k := h; have := hw1.out; omega); clear F3 hcall)
                refine (refTouch_any a1 n1 c1 m' K y _ hS3.out.own.rd hcap hm1 hlen (by omega)).mono ?_; rintro e w4 ⟨a2, n2, c2, rfl, O4, F4⟩
                rw [Ht.out] at O4 ⊢
                have hS4 := Lib.hid (hS3.out.know O4 F4)
                replace hF := hF.trans0 F4
                clear O4 F4 hS3
                go_wp2_with (first | (refine hS4.out.blocks.mono ?_; rintro e w5 ⟨a5, s5, c5, rfl, R5, F5⟩; replace R5 := Lib.hid R5; have hS5 := Lib.hid (hS4.out.fr0 F5); have hF5 := hF.trans0 F5; clear F5) | (refine (Equal_any _ _ _ _ _ _ _ _ _ R5.out hS5.out.own.rd).mono ?_; rintro e w6 ⟨rfl, q, rfl⟩; rw [show decide (K2 = K2) = true by simp]; have hS6 := Lib.hid (hS5.out.fr0 ((Fr.refl _ _).drewN q)); have hF6 := hF5.drewN q) | (refine hS6.out.misses.mono ?_; rintro e w7 ⟨rfl, rfl⟩))
                exact ⟨⟨k + 1, mi, n2, c2, a2, K2, by omega, by go_num, rfl, rfl, by omega, hS6, hF6⟩, by simp [intOf]; omega⟩
              | false =>
                go_wp2_with (refine hcall.mono ?_; rintro e w3 ⟨rfl, hS3, F3⟩; replace hS3 : Hid (SM w3 w1.heap.size x m' (mi + 1) K2 K a1 n1 c1) := Lib.hid hS3; replace hF := hF.trans F3 (fun k hk h => by have h' : w1.heap.size ≤ k := h; have := hw1.out; omega); clear F3 hcall)
                refine (refTouch_any a1 n1 c1 m' K y _ hS3.out.own.rd hcap hm1 hlen (by omega)).mono ?_; rintro e w4 ⟨a2, n2, c2, rfl, O4, F4⟩
                rw [Ht.out] at O4 ⊢
                have hS4 := Lib.hid (hS3.out.know O4 F4)
                replace hF := hF.trans0 F4
                clear O4 F4 hS3
                go_wp2_with (first | (refine hS4.out.blocks.mono ?_; rintro e w5 ⟨a5, s5, c5, rfl, R5, F5⟩; replace R5 := Lib.hid R5; have hS5 := Lib.hid (hS4.out.fr0 F5); have hF5 := hF.trans0 F5; clear F5) | (refine (Equal_any _ _ _ _ _ _ _ _ _ R5.out hS5.out.own.rd).mono ?_; rintro e w6 ⟨rfl, q, rfl⟩; rw [show decide (K2 = K2) = true by simp]; have hS6 := Lib.hid (hS5.out.fr0 ((Fr.refl _ _).drewN q)); have hF6 := hF5.drewN q) | (refine hS6.out.misses.mono ?_; rintro e w7 ⟨rfl, rfl⟩))
                exact ⟨⟨k + 1, mi + 1, n2, c2, a2, K2, by omega, by go_num, by go_num, rfl, by omega, hS6, hF6⟩, by simp [intOf]; omega⟩
            · have hcall := Touch_bad x y wr (.inr (by omega))
              go_wp2_with (first | (refine hcall.mono ?_; rintro e w3 ⟨rfl, rfl⟩) | (refine hS.out.blocks.mono ?_; rintro e w5 ⟨a5, s5, c5, rfl, R5, F5⟩; replace R5 := Lib.hid R5; have hS5 := Lib.hid (hS.out.fr0 F5); have hF5 := hF.trans0 F5; clear F5) | (refine (Equal_any _ _ _ _ _ _ _ _ _ R5.out hS5.out.own.rd).mono ?_; rintro e w6 ⟨rfl, q, rfl⟩; rw [show decide (K = K) = true by simp]; have hS6 := Lib.hid (hS5.out.fr0 ((Fr.refl _ _).drewN q)); have hF6 := hF5.drewN q) | (refine hS6.out.misses.mono ?_; rintro e w7 ⟨rfl, rfl⟩))
              exact ⟨⟨k + 1, mi, n1, c1, a1, K, by omega, by go_num, rfl, rfl, by omega, hS6, hF6⟩, by simp [intOf]; omega⟩
          · have hcall := Touch_bad x y wr (.inl (by omega))
            go_wp2_with (first | (refine hcall.mono ?_; rintro e w3 ⟨rfl, rfl⟩) | (refine hS.out.blocks.mono ?_; rintro e w5 ⟨a5, s5, c5, rfl, R5, F5⟩; replace R5 := Lib.hid R5; have hS5 := Lib.hid (hS.out.fr0 F5); have hF5 := hF.trans0 F5; clear F5) | (refine (Equal_any _ _ _ _ _ _ _ _ _ R5.out hS5.out.own.rd).mono ?_; rintro e w6 ⟨rfl, q, rfl⟩; rw [show decide (K = K) = true by simp]; have hS6 := Lib.hid (hS5.out.fr0 ((Fr.refl _ _).drewN q)); have hF6 := hF5.drewN q) | (refine hS6.out.misses.mono ?_; rintro e w7 ⟨rfl, rfl⟩))
            exact ⟨⟨k + 1, mi, n1, c1, a1, K, by omega, by go_num, rfl, rfl, by omega, hS6, hF6⟩, by simp [intOf]; omega⟩
        · obtain rfl : k = n := by omega
          go_wp2_with (first | (refine (Touch_nil _ _).mono ?_; rintro e w3 ⟨rfl, rfl⟩) | (refine (Blocks_nil _).mono ?_; rintro e w3 ⟨rfl, rfl⟩) | (refine (Misses_nil _).mono ?_; rintro e w3 ⟨rfl, rfl⟩))
          go_ret
          exact ⟨rfl, hF⟩
end Go.Proofs.Ytnlgjpcnnnilpaa
