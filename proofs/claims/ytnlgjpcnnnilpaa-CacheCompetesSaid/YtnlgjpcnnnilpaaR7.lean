/- Touch whole; New, Misses, Blocks; LRU. -/
import Derived.Test.YtnlgjpcnnnilpaaR6
namespace Go.Proofs.Ytnlgjpcnnnilpaa
open Go.RowKit
attribute [local go_sem ↓] Go.wp_at_zero Go.wp_at_succ

theorem Touch_any {w : World} {B x m mi s : Nat} {K : List Int} {bm gb gn gp cb cn cp : Nat} {BL : List Int} {NX PV : List Nat} {f : Int → Option Value} {S : List Nat} (h : CX w B x m mi s K bm gb gn gp cb cn cp BL NX PV f S)
    (b : Int) (hb0 : 0 ≤ b) (hb1 : b ≤ 1048576) (hmi : mi ≤ 1000000) :
    Calls Try.prog 17 #[.pointer (some ⟨x, 0, none⟩), .int .i64 b] w (TPost w B x m mi K b bm gb gn gp) := by
  by_cases hb : b ∈ K
  · exact Touch_hit h b hb0 hb1 hb
  · by_cases hs : s < m
    · exact Touch_room h b hb0 hb1 hb hs hmi
    · exact Touch_full h b hb0 hb1 hb hs hmi
theorem ring_nil : Ring 0 [-1] [0] [0] (fun _ => none) [] [] :=
  ⟨fun i => by simp; omega, List.nodup_nil, ⟨rfl, rfl, trivial⟩, rfl, List.nodup_nil, by simp, fun _ _ => rfl, rfl, rfl, rfl⟩
theorem new_facts (w : World) (m : Nat) (hm1 : 1 ≤ m) (hm : m ≤ 1000) :
    let W := ((((w.alloc (.map #[] 0)).alloc (.cells #[.int .i64 (-1)] 3)).alloc (.cells #[.int .i64 0] 3)).alloc (.cells #[.int .i64 0] 3)).alloc (.cells (cacheV m 0 w.heap.size (w.heap.size + 1) (w.heap.size + 1 + 1) (w.heap.size + 1 + 1 + 1) 1 1 1 0) 52)
    CX W w.heap.size (w.heap.size + 1 + 1 + 1 + 1) m 0 0 [] w.heap.size (w.heap.size + 1) (w.heap.size + 1 + 1) (w.heap.size + 1 + 1 + 1) 1 1 1 [-1] [0] [0] (fun _ => none) [] ∧ Fr F0 w W := by
  have M0 := MapV.made w 3
  have F0' : Fr F0 w (w.alloc (.map #[] 0)) := (Fr.refl _ _).alloc _
  have z0 := size_alloc w (.map #[] 0)
  generalize w.alloc (.map #[] 0) = w1 at *
  have O1 : Own (w1.alloc (.cells #[.int .i64 (-1)] 3)) w.heap.size 3 (some ⟨w1.heap.size, 0, none⟩) 1 1 (ints [-1]) := Own.lit (ints [-1]) 1 rfl (by omega) (by omega)
  have z1 := size_alloc w1 (.cells #[.int .i64 (-1)] 3)
  have F1 : Fr F0 w1 (w1.alloc (.cells #[.int .i64 (-1)] 3)) := (Fr.refl _ _).alloc _
  generalize w1.alloc (.cells #[.int .i64 (-1)] 3) = w2 at *
  have O2 : Own (w2.alloc (.cells #[.int .i64 0] 3)) w.heap.size 3 (some ⟨w2.heap.size, 0, none⟩) 1 1 (ints [0]) := Own.lit (ints [0]) 1 rfl (by omega) (by omega)
  have z2 := size_alloc w2 (.cells #[.int .i64 0] 3)
  have F2 : Fr F0 w2 (w2.alloc (.cells #[.int .i64 0] 3)) := (Fr.refl _ _).alloc _
  generalize w2.alloc (.cells #[.int .i64 0] 3) = w3 at *
  have O3 : Own (w3.alloc (.cells #[.int .i64 0] 3)) w.heap.size 3 (some ⟨w3.heap.size, 0, none⟩) 1 1 (ints [0]) := Own.lit (ints [0]) 1 rfl (by omega) (by omega)
  have z3 := size_alloc w3 (.cells #[.int .i64 0] 3)
  have F3 : Fr F0 w3 (w3.alloc (.cells #[.int .i64 0] 3)) := (Fr.refl _ _).alloc _
  generalize w3.alloc (.cells #[.int .i64 0] 3) = w4 at *
  rw [z0] at O1 z1
  rw [z1] at O2 z2
  rw [z2] at O3 z3
  obtain ⟨cv, hcv⟩ : ∃ cv, cv = cacheV m 0 w.heap.size (w.heap.size + 1) (w.heap.size + 1 + 1) (w.heap.size + 1 + 1 + 1) 1 1 1 0 := ⟨_, rfl⟩
  have F4 : Fr F0 w4 (w4.alloc (.cells cv 52)) := (Fr.refl _ _).alloc _
  have X := heap_alloc_new w4 (.cells cv 52)
  rw [z3] at X
  rw [hcv] at X F4
  refine ⟨⟨⟨X, (((O1.fr0 F2).fr0 F3).fr0 F4), ((O2.fr0 F3).fr0 F4), (O3.fr0 F4), ⟨by omega, by omega, by omega⟩, ⟨by omega, by omega, by omega⟩, by omega⟩, ((((M0.fr F1 id).fr F2 id).fr F3 id).fr F4 id), ring_nil, ⟨by omega, by omega, by omega, by omega⟩, Nat.le_refl _, by omega, hm1, hm, by simp⟩, (((F0'.trans0 F1).trans0 F2).trans0 F3).trans0 F4⟩
def NewPost (m : Nat) (w : World) (e : Ending) (w' : World) : Prop :=
  ∃ x bm gb gn gp, e = .returned (.tuple #[.pointer (some ⟨x, 0, none⟩), .int .i64 0]) ∧ CX w' w.heap.size x m 0 0 [] bm gb gn gp 1 1 1 [-1] [0] [0] (fun _ => none) [] ∧ Fr F0 w w'
set_option maxHeartbeats 1000000 in
theorem New_any (m : Nat) (w : World) (hm1 : 1 ≤ m) (hm : m ≤ 1000) :
    Calls Try.prog 16 #[.int .i64 m] w (NewPost m w) := by
  have hmm := @run_makeMap Try.prog
  have hN := new_facts w m hm1 hm
  have HN := Lib.hid hN
  clear hN
  go_enter Try.func16, Try.ntmps16
  go_wp2_with fail
  go_ret2
  exact ⟨_, _, _, _, _, rfl, HN.out⟩
theorem New_bad (m : Int) (w : World) (h : m < 1 ∨ 1000 < m) : Calls Try.prog 16 #[.int .i64 m] w fun e w' => e = .returned (.tuple #[.pointer none, .int .i64 2]) ∧ w = w' := by
  rcases h with h | h
  · go_enter Try.func16, Try.ntmps16
    go_wp2_with fail
    go_ret2
    exact ⟨rfl, rfl⟩
  · have h0 : ¬ m < 1 := by omega
    go_enter Try.func16, Try.ntmps16
    go_wp2_with fail
    go_ret2
    exact ⟨rfl, rfl⟩
theorem Misses_nil (w : World) : Calls Try.prog 21 #[.pointer none] w fun e w' => e = .returned (.int .i64 0) ∧ w = w' := by
  go_enter Try.func21, Try.ntmps21
  go_wp2_with fail
  go_ret
  exact ⟨rfl, rfl⟩
theorem Blocks_nil (w : World) : Calls Try.prog 20 #[.pointer none] w fun e w' => e = .returned (.slice none 0 0) ∧ w = w' := by
  go_enter Try.func20, Try.ntmps20
  go_wp2_with fail
  go_ret
  exact ⟨rfl, rfl⟩
section
variable {w : World} {B x m mi s : Nat} {K : List Int} {bm gb gn gp cb cn cp : Nat} {BL : List Int} {NX PV : List Nat} {f : Int → Option Value} {S : List Nat}
theorem CX.fr0 {w' : World} (h : CX w B x m mi s K bm gb gn gp cb cn cp BL NX PV f S) (F : Fr F0 w w') : CX w' B x m mi s K bm gb gn gp cb cn cp BL NX PV f S :=
  ⟨h.cl.fr0 F, h.mp.fr F id, h.rg, h.dm, h.bb, h.hs, h.hm1, h.hm, h.hK⟩
theorem Misses_any (h : CX w B x m mi s K bm gb gn gp cb cn cp BL NX PV f S) : Calls Try.prog 21 #[.pointer (some ⟨x, 0, none⟩)] w fun e w' => e = .returned (.int .i64 mi) ∧ w = w' := by
  obtain ⟨_, k1, _, _, _, _⟩ := six_cells h.cl.kx
  clear h
  go_enter Try.func21, Try.ntmps21
  go_wp2_with fail
  go_ret
  exact ⟨rfl, rfl⟩
theorem Lk.get {NX PV : List Nat} : ∀ {P : List Nat} {j a b : Nat}, Lk NX PV P → P[j]? = some a → P[j + 1]? = some b → NX[a]? = some b
  | [], j, a, b, _, h1, _ => by simp at h1
  | [_], j, a, b, _, _, h2 => by simp at h2
  | p :: q :: r, j, a, b, h, h1, h2 => by
    cases j with
    | zero =>
      simp at h1 h2
      subst h1; subst h2
      exact h.1
    | succ j => exact Lk.get h.2.2 (by simpa using h1) (by simpa using h2)
def lenV : Value → Nat
  | .slice _ n _ => n
  | _ => 0
set_option maxHeartbeats 1000000 in
theorem Blocks_any (h : CX w B x m mi s K bm gb gn gp cb cn cp BL NX PV f S) : Calls Try.prog 20 #[.pointer (some ⟨x, 0, none⟩)] w fun e w' => ∃ a c, e = .returned (.slice a s c) ∧ Rd w' a s (ints K) ∧ Fr F0 w w' ∧ (∀ k, onBlk a k → w.heap.size ≤ k) := by
  obtain ⟨_, _, _, k3, k4, _⟩ := six_cells h.cl.kx
  have hSl := h.rg.len
  have hnx : Hid (∀ j, j ≤ s → ∃ a b, (0 :: S)[j]? = some a ∧ (S ++ [0])[j]? = some b ∧ NX[a]? = some b ∧ (j < s → 1 ≤ b ∧ b ≤ s) ∧ (j = s → b = 0)) := Lib.hid (by
    intro j hj
    have e1 : (0 :: S)[j]? = some ((0 :: S)[j]'(by simp; omega)) := List.getElem?_eq_getElem _
    have e2 : (S ++ [0])[j]? = some ((S ++ [0])[j]'(by simp; omega)) := List.getElem?_eq_getElem _
    refine ⟨_, _, e1, e2, h.rg.lk.get (j := j) ?_ ?_, fun hjs => ?_, fun hjs => ?_⟩
    · show (0 :: S ++ [0])[j]? = _
      rw [List.getElem?_append_left (by simp; omega)]; exact e1
    · show (0 :: (S ++ [0]))[j + 1]? = _
      rw [List.getElem?_cons_succ]; exact e2
    · rw [List.getElem_append_left (by omega)]
      exact (h.rg.mem _).1 (List.getElem_mem _)
    · rw [List.getElem_append_right (by omega)]
      simp)
  have hkj : Hid (∀ j b, j < s → (S ++ [0])[j]? = some b → ∃ y, K[j]? = some y ∧ w.cell? ⟨gb, b, none⟩ = some (.int .i64 y)) := Lib.hid (by
    intro j b hj hb
    rw [List.getElem?_append_left (by omega)] at hb
    refine ⟨BL.getD b 0, by rw [h.rg.bk, List.getElem?_map, hb]; rfl, ?_⟩
    have hbm := (h.rg.mem b).1 (List.mem_of_getElem? hb)
    obtain ⟨b0, o0, hb0', hc0⟩ := h.cl.ob.rd.cells (by omega)
    injection hb0' with hb0'
    injection hb0' with g1 g2
    subst g1
    subst g2
    have := hc0 b (.int .i64 (BL.getD b 0)) (by rw [List.getElem?_map, List.getD_eq_getElem?_getD, List.getElem?_eq_getElem (by rw [h.rg.lb]; omega)]; rfl)
    rwa [Nat.zero_add] at this)
  have hnc : Hid (∀ a b : Nat, NX[a]? = some b → w.cell? ⟨gn, a, none⟩ = some (.int .i64 b)) := Lib.hid (fun a b hab => nat_cell h.cl.on hab)
  have hKl := h.rg.klen
  have hxl := lt_of_block h.cl.kx
  have hgl := (h.cl.on.blk gn ((onBlk_some _ _ _ _).2 rfl)).2
  have hsm := h.hs
  have hm := h.hm
  have HKl := Lib.hid hKl
  obtain ⟨v0, b0, e1, e2, e3, e4, e5⟩ := hnx.out 0 (by omega)
  simp at e1
  subst e1
  have c0 := hnc.out _ _ e3
  have hb0 : b0 ≤ s := by
    rcases Nat.eq_zero_or_pos s with h0 | h0
    · have := e5 h0.symm; omega
    · exact (e4 h0).2
  have E2 := Lib.hid e2
  have i0 : (0 : Int) < (s : Int) + 1 := by omega
  clear h hSl hKl e2 e3 e4 e5
  go_enter Try.func20, Try.ntmps20
  go_wp2_with fail
  go_loopw [3, 4] (fun s3 s4 wr => ∃ (j b c : Nat) (a : Option Addr), j ≤ s ∧ s4 = .int .i64 b ∧ Hid ((S ++ [0])[j]? = some b) ∧ s3 = .slice a j c ∧ Hid (Own wr w.heap.size 3 a j c (ints (K.take j))) ∧ Fr F0 w wr) (fun s3 _ _ => s - lenV s3)
  case atStart => exact ⟨0, b0, 0, none, by omega, rfl, E2, rfl, Lib.hid (by simpa using Own.nil _ _ _), Fr.refl _ _⟩
  case round =>
    obtain ⟨j, b, c, a, hj, rfl, hb, rfl, hO, hF⟩ := hrel
    by_cases hlt : j < s
    · obtain ⟨v1, b1, f1, f2, f3, f4, f5⟩ := hnx.out j hj
      rw [hb.out] at f2
      injection f2 with f2
      subst f2
      obtain ⟨hb1, hb2⟩ := f4 hlt
      obtain ⟨y, hy, hc⟩ := hkj.out j b hlt hb.out
      obtain ⟨v2, b2, g1, g2, g3, g4, g5⟩ := hnx.out (j + 1) (by omega)
      have ev : v2 = b := by
        rw [List.getElem?_cons_succ] at g1
        have := hb.out
        rw [List.getElem?_append_left (by rw [List.getElem?_eq_some_iff] at g1; exact g1.1), g1] at this
        injection this
      subst ev
      have d1 := hF.cell hc id
      have d2 := hF.cell (hnc.out _ _ g3) id
      have k3' := hF.cell k3 id
      have k4' := hF.cell k4 id
      have t1 : ((v2 : Int) != 0) = true := by simp; omega
      have t2 : (v2 != 0) = true := by simp; omega
      have i1 : (0 : Int) ≤ (v2 : Int) := by omega
      have i2 : (v2 : Int) < (s : Int) + 1 := by omega
      have hKt : Hid (K.take (j + 1) = K.take j ++ [y]) := Lib.hid (by rw [List.take_add_one, hy]; rfl)
      have G2 := Lib.hid g2
      have hbO := Lib.hid hO.out.blk
      clear f1 f3 f4 f5 hy hc g1 g2 g3 g4 g5
      go_wp2_with (at_builtin; refine wpAppAt E3 hO.out (by omega) (by omega) hF.size rfl rfl rfl ?_; intro a' c' w' own' fr' at'; have k4x := fr'.cell k4' (fun h => by have := (hbO.out _ h).1; simp at this; omega); have d2x := fr'.cell d2 (fun h => by have := (hbO.out _ h).1; simp at this; omega); have hF' := Lib.hid (hF.trans fr' (fun k hk h => absurd (hbO.out k h).1 (by omega))); have O' := Lib.hid own'; clear own' fr' at')
      go_roundw
      case rel => exact ⟨j + 1, b2, c', a', by omega, rfl, G2, rfl, Lib.hid (by rw [hKt.out]; have h := O'.out; simpa [ints] using h), hF'.out⟩
      case measure => simp [lenV]; omega
    · obtain rfl : j = s := by omega
      obtain ⟨v1, b1, f1, f2, f3, f4, f5⟩ := hnx.out j hj
      rw [hb.out] at f2
      injection f2 with f2
      subst f2
      have hz := f5 rfl
      subst hz
      have hfin : Hid (Own wr w.heap.size 3 a j c (ints K)) := Lib.hid (by have h := hO.out; rwa [List.take_of_length_le (by rw [HKl.out]; omega)] at h)
      clear f1 f3 f4 f5
      go_wp2_with fail
      go_ret
      exact ⟨a, c, rfl, hfin.out.rd, hF, fun k hk => (hfin.out.blk k hk).1⟩
end
end Go.Proofs.Ytnlgjpcnnnilpaa
