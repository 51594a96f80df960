/- slices.Concat of two slices of pairs. -/
import Derived.Test.YtihcaemheknjbaaGrowL
import Derived.Test.YtihcaemheknjbaaF13
import Derived.Test.YtihcaemheknjbaaComAll
namespace Go.Proofs.Ytihcaemheknjbaa
open Go.RowKit
attribute [local go_sem ↓] Go.wp_at_zero Go.wp_at_succ
/-- 'append(s, x...)' in a plain region, elements of several cells. -/
theorem wpAppZRd {P : Program} {w : World} {t T : TypeId} {z : Value} {sz bytes : Nat} (E : ElemZ P t T z sz bytes) (hs0 : 0 < sz) {a : Option Addr} {n c B : Nat} {vs : List Value} (own : OwnZ w B T sz a n c vs)
    {b : Option Addr} {m cx : Nat} {us : List Value} (hr : RdZ w sz b m us) (h1 : ∀ u ∈ us, u.oneCell' = true)
    (hlen : (n + m) * bytes ≤ 140737488355328) (hmax : n + m ≤ 9223372036854775807) (hB : B ≤ w.heap.size) (k : Nat) (hk : n + m = k)
    {ops : Array Oper} {rest : List Oper} {act : Act} {Q : Exit → Act → World → Prop} {dst : Option Tmp} {ty : TypeId} {pos : String} {after : Array Edge} {s x : Operand}
    (hs : act.eval s = .slice a n c) (hx : act.eval x = .slice b m cx)
    (K : ∀ a' c' w', OwnZ w' B T sz a' k c' (vs ++ us) → Fr (onBlk a) w w' → (∀ k, onBlk a' k → onBlk a k ∨ w.heap.size ≤ k) → wpList P ops Q rest (act.put dst (.slice a' k c')) w') :
    wpList P ops Q ({ dst, op := .call { callee := .builtin .append, args := #[s, x], argTypes := #[t, t] }, type := ty, pos, after, guard := none } :: rest) act w := by
  subst hk
  refine wpList_plain rfl fun K' hK => ?_
  obtain ⟨a', c', w', hrun, g1, g2, g3⟩ := runAppZ E hs0 own hr h1 hlen hmax hB (cx := cx) ty
  unfold Oper.wp execOp
  simp only [resolve, invoke, builtin, Sem.run_bind, Sem.run_pure, Result.andThen_ok, List.map_toArray, List.map_cons, List.map_nil, hs, hx, hrun]
  exact hK _ _ (K a' c' w' g1 g2 g3)
theorem zeroCells_size (z : Array Value) (n : Nat) : (Builtin.zeroCells z n).size = n * z.size := by unfold Builtin.zeroCells; simp
theorem Grow_any (n : Nat) (w : World) (hn : n ≤ 10000) : Calls Try.prog 53 #[.slice none 0 0, .int .i64 (n : Int)] w fun e w' => ∃ a c, e = .returned (.slice a 0 c) ∧ OwnZ w' w.heap.size 62 2 a 0 c [] ∧ Fr F0 w w' := by
  by_cases h0 : n = 0
  · subst h0
    refine (Any8.slices_Grow_room growLay none 0 0 0 w (by omega) (by omega) (by omega) (by omega)).mono ?_
    rintro e w' ⟨rfl, rfl⟩
    exact ⟨none, 0, rfl, OwnZ.nil _ _ _ _, Fr.refl _ _⟩
  · obtain ⟨i0, hi, hz0, hz1, hz2⟩ := info_parts E62.2.1
    have hz3 := E62.2.2
    refine (Any8.slices_Grow_grow growLay i0 _ hi hz0 (by omega) none 0 0 n [] w (by omega) (by omega) (by rw [hz2]; omega) (by omega) (by simp) (fun _ => rfl) (fun a h => by cases h)).mono ?_
    rintro e w' ⟨rfl, rfl⟩
    have hG : n ≤ grownCap w (0 + n) 0 (growLay_ren.t 25) := by have := grownCap_ge w (0 + n) 0 (growLay_ren.t 25); omega
    have hG2 := grownCap_le_maxLen w (0 + n) 0 (growLay_ren.t 25) (by unfold maxLen; omega)
    generalize grownCap w (0 + n) 0 (growLay_ren.t 25) = G at hG hG2 ⊢
    refine ⟨_, _, rfl, ?_, (Fr.refl F0 w).drew.alloc _⟩
    refine ⟨rfl, .inr ⟨w.heap.size, G, _, rfl, Nat.le_refl _, heap_alloc_new _ _, Nat.zero_le _, hG2, ?_, by simp⟩⟩
    rw [Array.size_append, Array.size_append, zeroCells_size, zeroCells_size, hz3]
    simp
    omega
set_option maxRecDepth 100000 in
set_option maxHeartbeats 8000000 in
theorem Concat_any {w : World} {g : Nat} {a1 a2 : Option Addr} {m1 m2 c1 c2 : Nat} {v1 v2 : List Value} (k0 : w.cell? ⟨g, 0, none⟩ = some (.slice a1 m1 c1)) (k1 : w.cell? ⟨g, 1, none⟩ = some (.slice a2 m2 c2))
    (r1 : RdZ w 2 a1 m1 v1) (r2 : RdZ w 2 a2 m2 v2) (o1 : ∀ u ∈ v1, u.oneCell' = true) (o2 : ∀ u ∈ v2, u.oneCell' = true) (h1 : m1 ≤ 3000) (h2 : m2 ≤ 3000) :
    Calls Try.prog 37 #[.slice (some ⟨g, 0, none⟩) 2 2] w fun e w' => ∃ a c, e = .returned (.slice a (m1 + m2) c) ∧ RdZ w' 2 a (m1 + m2) (v1 ++ v2) ∧ Fr F0 w w' := by
  have HR := Lib.hid (And.intro r1 r2)
  have HO := Lib.hid (And.intro o1 o2)
  clear r1 r2 o1 o2
  have HG : Hid (∀ w, Calls Try.prog 53 #[.slice none 0 0, .int .i64 ((m1 : Int) + (m2 : Int))] w fun e w' => ∃ a c, e = .returned (.slice a 0 c) ∧ OwnZ w' w.heap.size 62 2 a 0 c [] ∧ Fr F0 w w') := Lib.hid (fun w => by have := Grow_any (m1 + m2) w (by omega); rw [show ((m1 + m2 : Nat) : Int) = (m1 : Int) + (m2 : Int) by omega] at this; exact this)
  go_enter Try.func37, Try.ntmps37
  go_wp2_with fail
  have e1 : wrap64 ((m1 : Int) + (m2 : Int)) = ((m1 + m2 : Nat) : Int) := by unfold wrap64; omega
  go_loop [3, 11] (fun s3 s11 => (s11 = .int .i64 0 ∧ s3 = .int .i64 0) ∨ (s11 = .int .i64 1 ∧ s3 = .int .i64 (m1 : Int)) ∨ (s11 = .int .i64 2 ∧ s3 = .int .i64 ((m1 + m2 : Nat) : Int))) (fun _ s11 => 2 - (intOf s11).toNat)
  case atStart => exact .inl ⟨rfl, rfl⟩
  case round =>
    rcases hrel with ⟨rfl, rfl⟩ | ⟨rfl, rfl⟩ | ⟨rfl, rfl⟩
    · go_wp2_with fail
      go_round
      case rel => exact .inr (.inl ⟨rfl, by go_num⟩)
      case measure => simp [intOf]
    · go_wp2_with fail
      go_round
      case rel => exact .inr (.inr ⟨rfl, by go_num⟩)
      case measure => simp [intOf]
    · go_wp2_with fail
      refine (HG.out w).mono ?_
      rintro e w1 ⟨a, c, rfl, hO, hF⟩
      have HS : Hid (OwnZ w1 w.heap.size 62 2 a 0 c [] ∧ Fr F0 w w1) := Lib.hid ⟨hO, hF⟩
      clear hO hF e1
      go_wp2_with fail
      go_loopw [6, 27] (fun s6 s27 wr => (∃ a' c', s27 = .int .i64 0 ∧ s6 = .slice a' 0 c' ∧ Hid (OwnZ wr w.heap.size 62 2 a' 0 c' [] ∧ Fr F0 w wr)) ∨ (∃ a' c', s27 = .int .i64 1 ∧ s6 = .slice a' m1 c' ∧ Hid (OwnZ wr w.heap.size 62 2 a' m1 c' v1 ∧ Fr F0 w wr)) ∨ (∃ a' c', s27 = .int .i64 2 ∧ s6 = .slice a' (m1 + m2) c' ∧ Hid (OwnZ wr w.heap.size 62 2 a' (m1 + m2) c' (v1 ++ v2) ∧ Fr F0 w wr))) (fun _ s27 _ => 2 - (intOf s27).toNat)
      case atStart => exact .inl ⟨a, c, rfl, rfl, HS⟩
      case round =>
        rcases hrel with ⟨a', c', rfl, rfl, H⟩ | ⟨a', c', rfl, rfl, H⟩ | ⟨a', c', rfl, rfl, H⟩
        · have q0 := H.out.2.cell k0 id
          have RR := Lib.hid (HR.out.1.fr0 H.out.2)
          go_wp2_with (at_builtin; refine wpAppZRd E62 (by omega) H.out.1 RR.out HO.out.1 (by omega) (by omega) H.out.2.size m1 (by omega) (by rfl) (by rfl) ?_; intro a9 c9 w9 own9 fr9 at9; have H9 : Hid (OwnZ w9 w.heap.size 62 2 a9 m1 c9 v1 ∧ Fr F0 w w9) := Lib.hid ⟨own9, H.out.2.trans fr9 (fun k hk hs => by have := (OwnZ.blk H.out.1 k hs).1; omega)⟩; clear own9 fr9 at9)
          go_roundw
          case rel => exact .inr (.inl ⟨_, _, rfl, rfl, H9⟩)
          case measure => simp [intOf]
        · have q1 := H.out.2.cell k1 id
          have RR := Lib.hid (HR.out.2.fr0 H.out.2)
          go_wp2_with (at_builtin; refine wpAppZRd E62 (by omega) H.out.1 RR.out HO.out.2 (by omega) (by omega) H.out.2.size (m1 + m2) (by omega) (by rfl) (by rfl) ?_; intro a9 c9 w9 own9 fr9 at9; have H9 : Hid (OwnZ w9 w.heap.size 62 2 a9 (m1 + m2) c9 (v1 ++ v2) ∧ Fr F0 w w9) := Lib.hid ⟨own9, H.out.2.trans fr9 (fun k hk hs => by have := (OwnZ.blk H.out.1 k hs).1; omega)⟩; clear own9 fr9 at9)
          go_roundw
          case rel => exact .inr (.inr ⟨_, _, rfl, rfl, H9⟩)
          case measure => simp [intOf]
        · go_wp2_with fail
          go_ret
          exact ⟨_, _, rfl, OwnZ.rd H.out.1, H.out.2⟩
end Go.Proofs.Ytihcaemheknjbaa
