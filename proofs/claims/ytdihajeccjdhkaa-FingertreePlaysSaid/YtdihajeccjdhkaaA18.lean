/- slices.Grow of nil, slices.Concat. -/
import Derived.Test.YtdihajeccjdhkaaA17
import Derived.Lib.AppendZeros
namespace Go.Proofs.Ytdihajeccjdhkaa
open Go.RowKit
attribute [local go_sem ↓] Go.wp_at_zero Go.wp_at_succ
theorem cutA_none (c k : Nat) : cutA none c k = none := by unfold cutA; split <;> rfl
theorem zeroCells_size (n : Nat) : (Builtin.zeroCells (Value.int .i64 0).cells n).size = n := by
  unfold Builtin.zeroCells
  have h : (Value.int .i64 0).cells.size = 1 := rfl
  rw [Array.size_map, Array.size_range, h, Nat.mul_one]
set_option maxRecDepth 100000 in
theorem Grow_nil (n : Nat) (hn : n ≤ 100000) (w : World) : Calls Try.prog 45 #[.slice none 0 0, .int .i64 n] w fun e w' => ∃ a c, e = .returned (.slice a 0 c) ∧ Own w' w.heap.size 3 a 0 c [] ∧ Fr F0 w w' := by
  by_cases h0 : n = 0
  · subst h0
    go_enter Try.func45, Try.ntmps45
    go_wp2_with fail
    go_ret
    exact ⟨none, 0, rfl, Own.nil _ _ _, Fr.refl _ _⟩
  · obtain ⟨E1, E2, _⟩ := E3
    obtain ⟨i0, hi, hz0, hz1, hz2⟩ := info_parts E2
    obtain ⟨G, hG⟩ : ∃ G, G = grownCap w n 0 3 := ⟨_, rfl⟩
    have hGn : n ≤ G := by rw [hG]; exact grownCap_ge w n 0 3
    have hGm : G ≤ 9223372036854775807 := by rw [hG]; exact grownCap_le_maxLen w n 0 3 (by unfold maxLen; omega)
    have hrun : (Builtin.append_ #[22, 3] 22 #[.slice none 0 0, .int .i64 (n : Int)]).run Try.prog w = .ok (.slice (some ⟨w.heap.size, 0, none⟩) n G) (w.drew.alloc (.cells (Builtin.zeroCells (Value.int .i64 0).cells n ++ Builtin.zeroCells (Value.int .i64 0).cells (G - n)) 3)) := by
      rw [hG]
      exact Lib.run_append_nil_zeros (P := Try.prog) w 22 3 22 3 i0 (.int .i64 0) .i64 .i64 E1 Try.underlying3 hi hz0 n (by omega) (by omega) (by omega) (by rw [hz2]; omega)
    have hO : Own (w.drew.alloc (.cells (Builtin.zeroCells (Value.int .i64 0).cells n ++ Builtin.zeroCells (Value.int .i64 0).cells (G - n)) 3)) w.heap.size 3 (some ⟨w.heap.size, 0, none⟩) 0 G [] := by
      refine ⟨rfl, .inr ⟨w.heap.size, G, _, rfl, Nat.le_refl _, heap_alloc_new w.drew _, by omega, hGm, ?_, by simp⟩⟩
      rw [Array.size_append, zeroCells_size, zeroCells_size]
      omega
    have hFr : Fr F0 w (w.drew.alloc (.cells (Builtin.zeroCells (Value.int .i64 0).cells n ++ Builtin.zeroCells (Value.int .i64 0).cells (G - n)) 3)) := (Fr.refl F0 w).drew.alloc _
    have c1 : ∀ W, (Instr.sliceAt 22 (.slice none 0 0) none (some (.int .i64 0)) none).run Try.prog W = .ok (.slice none 0 0) W := fun W => by
      have h := run_cutHi E3 W none (n := 0) (c := 0) (k := 0) (Nat.le_refl _) (x := 0) rfl
      rwa [cutA_none] at h
    have c2 : ∀ (g : Nat) W, (Instr.sliceAt 22 (.slice (some ⟨g, 0, none⟩) n G) none (some (.int .i64 0)) none).run Try.prog W = .ok (.slice (some ⟨g, 0, none⟩) 0 G) W := fun g W => by
      have h := run_cutHi E3 W (some ⟨g, 0, none⟩) (n := n) (c := G) (k := 0) (Nat.zero_le _) (x := 0) rfl
      rw [cutA_some] at h
      simpa using h
    have hrunh := Lib.hid hrun
    have Hh := Lib.hid (And.intro hO hFr)
    have p0 : (0 : Int) < (n : Int) := by omega
    clear hrun hO hFr hG hGn hGm E1 E2 hi hz0 hz1 hz2
    go_enter Try.func45, Try.ntmps45
    go_wp2_with (at_builtin; refine Lib.wpList_append_run _ rfl _ _ _ _ rfl _ _ rfl rfl _ _ hrunh.out ?_)
    go_ret
    exact ⟨_, G, rfl, Hh.out.1, Hh.out.2⟩
/-- A slice of ints and what it reads as. -/
structure SlI where
  a : Option Addr
  n : Nat
  c : Nat
  xs : List Int
def SlI.val (r : SlI) : Value := .slice r.a r.n r.c
def cat (L : List SlI) : List Int := L.flatMap (·.xs)
theorem cat_snoc {L : List SlI} {k : Nat} {r : SlI} (h : L[k]? = some r) : cat (L.take (k + 1)) = cat (L.take k) ++ r.xs := by
  unfold cat; rw [List.take_add_one, h, List.flatMap_append]; simp
theorem cat_take_le (L : List SlI) (k : Nat) : (cat (L.take k)).length ≤ (cat L).length := by
  have h : cat L = cat (L.take k) ++ cat (L.drop k) := by
    unfold cat; rw [← List.flatMap_append, List.take_append_drop]
  rw [h, List.length_append]; omega
set_option maxHeartbeats 2000000 in
theorem SConcat_any {b : Option Addr} {k ck : Nat} {L : List SlI} {w : World} (hb : Rd w b k (L.map SlI.val)) (hr : ∀ r ∈ L, Rd w r.a r.n (ints r.xs)) (ht : (cat L).length ≤ 100000) :
    Calls Try.prog 21 #[.slice b k ck] w fun e w' => ∃ a m c, m = (cat L).length ∧ e = .returned (.slice a m c) ∧ Own w' w.heap.size 3 a m c (ints (cat L)) ∧ Fr F0 w w' := by
  have hkl : L.length = k := by simpa using hb.len
  have hmax := hb.max
  have Hb := Lib.hid hb
  have Hr := Lib.hid hr
  have Ht := Lib.hid ht
  have Hkl := Lib.hid hkl
  clear hb hr ht hkl
  go_enter Try.func21, Try.ntmps21
  go_wp2_with fail
  go_loop [3, 5, 11] (fun s3 _ s11 => ∃ (j n : Nat), j ≤ k ∧ n ≤ 100000 ∧ s11 = .int .i64 j ∧ s3 = .int .i64 n ∧ Hid (n = (cat (L.take j)).length)) (fun _ _ s11 => k - (intOf s11).toNat)
  case atStart => exact ⟨0, 0, by omega, by omega, rfl, rfl, Lib.hid rfl⟩
  case round =>
    obtain ⟨j, n, hj, hn, rfl, rfl, hs⟩ := hrel
    by_cases hlt : j < k
    · obtain ⟨r, hrk⟩ : ∃ r, L[j]? = some r := ⟨L[j]'(by have := Hkl.out; omega), List.getElem?_eq_getElem (by have := Hkl.out; omega)⟩
      obtain ⟨b1, o1, rfl, hc⟩ := Hb.out.cells (by omega)
      have d := hc j (.slice r.a r.n r.c) (by rw [List.getElem?_map, hrk]; rfl)
      have hrr := Hr.out r (List.mem_of_getElem? hrk)
      have hrl : r.xs.length = r.n := by simpa using hrr.len
      have e1 := cat_snoc hrk
      have e2 := cat_take_le L (j + 1)
      rw [e1, List.length_append, hrl] at e2
      have hb2 : n + r.n ≤ 100000 := by have := hs.out; have := Ht.out; omega
      have e : Hid (n + r.n = (cat (L.take (j + 1))).length) := Lib.hid (by rw [e1, List.length_append, hrl, hs.out])
      obtain ⟨ra, rn, rc, rx⟩ := r
      have i0 : (0 : Int) ≤ (j : Int) := by omega
      have i1 : (j : Int) < (k : Int) := by omega
      clear hc hrk hrr hrl e1 e2
      dsimp only at hb2 d
      go_wp2_with fail
      go_round
      case rel => exact ⟨j + 1, n + rn, by omega, hb2, by go_num, by go_num, e⟩
      case measure => simp [intOf]; omega
    · obtain rfl : j = k := by omega
      have e : Hid (n = (cat L).length) := Lib.hid (by have h := hs.out; rwa [List.take_of_length_le (by rw [Hkl.out]; omega)] at h)
      clear hs
      go_wp2_with fail
      refine (Grow_nil n hn w).mono ?_
      rintro e9 w1 ⟨a1, c1, rfl, O1, F1⟩
      have O1h := Lib.hid O1
      have F1h := Lib.hid F1
      have Hsz := Lib.hid F1.size
      clear O1 F1
      go_wp2_with fail
      go_loopw [6, 8, 27] (fun s6 _ s27 wr => ∃ (i m cm : Nat) (am : Option Addr), i ≤ j ∧ m ≤ 100000 ∧ s27 = .int .i64 i ∧ s6 = .slice am m cm ∧ Hid (m = (cat (L.take i)).length) ∧ Hid (Own wr w.heap.size 3 am m cm (ints (cat (L.take i)))) ∧ Hid (Fr F0 w wr)) (fun _ _ s27 _ => j - (intOf s27).toNat)
      case atStart => exact ⟨0, 0, c1, a1, by omega, by omega, rfl, rfl, Lib.hid rfl, O1h, F1h⟩
      case round =>
        clear O1h F1h Hsz
        obtain ⟨i, m, cm, am, hi, hm, rfl, rfl, hml, hO, hF⟩ := hrel
        by_cases hlt2 : i < j
        · obtain ⟨r, hrk⟩ : ∃ r, L[i]? = some r := ⟨L[i]'(by have := Hkl.out; omega), List.getElem?_eq_getElem (by have := Hkl.out; omega)⟩
          obtain ⟨b1, o1, hb1, hc⟩ := Hb.out.cells (by omega)
          have d0 := hc i (.slice r.a r.n r.c) (by rw [List.getElem?_map, hrk]; rfl)
          have d := hF.out.cell d0 id
          have hrr := (Hr.out r (List.mem_of_getElem? hrk)).fr0 hF.out
          have hrl : r.xs.length = r.n := by simpa using hrr.len
          have e1 := cat_snoc hrk
          have e2 := cat_take_le L (i + 1)
          rw [e1, List.length_append, hrl] at e2
          have hb2 : m + r.n ≤ 100000 := by have := hml.out; have := Ht.out; omega
          have E1 := Lib.hid e1
          have e' : Hid (m + r.n = (cat (L.take (i + 1))).length) := Lib.hid (by rw [e1, List.length_append, hrl, hml.out])
          obtain ⟨ra, rn, rc, rx⟩ := r
          dsimp only at hb2 d hrr
          have Hrr := Lib.hid hrr
          have i0 : (0 : Int) ≤ (i : Int) := by omega
          have i1 : (i : Int) < (j : Int) := by omega
          have hsz := hF.out.size
          have Hob := Lib.hid hO.out.blk
          subst hb1
          clear hc hrk hrr hrl e1 e2 d0
          go_wp2_with (at_builtin; refine wpAppRd E3 hO.out Hrr.out (oneCell_ints rx) (by omega) (by omega) hsz (m + rn) rfl rfl rfl ?_; intro a5 c5 w5 own5 fr5 at5)
          have O2 : Hid (Own w5 w.heap.size 3 a5 (m + rn) c5 (ints (cat (L.take (i + 1))))) := Lib.hid (by rw [E1.out]; simpa [ints] using own5)
          have F2 : Hid (Fr F0 w w5) := Lib.hid (hF.out.trans fr5 (fun q h1 h2 => by have := (Hob.out q h2).1; omega))
          clear own5 fr5 at5
          go_roundw
          case rel => exact ⟨i + 1, m + rn, c5, a5, by omega, hb2, by go_num, rfl, e', O2, F2⟩
          case measure => simp [intOf]; omega
        · obtain rfl : i = j := by omega
          have e5 : L.take i = L := List.take_of_length_le (by rw [Hkl.out]; omega)
          have O3 := hO.out
          have m3 := hml.out
          rw [e5] at O3 m3
          have H3 := Lib.hid (And.intro O3 m3)
          clear O3 m3 e5 hO hml
          go_wp2_with fail
          go_ret
          exact ⟨am, m, cm, H3.out.2, rfl, H3.out.1, hF.out⟩
end Go.Proofs.Ytdihajeccjdhkaa
