/- The reference's Blocks; treelayout's at. -/
import Derived.Test.YtdllpiekkbojgaaT1
namespace Go.Proofs.Ytdllpiekkbojgaa
open Go.RowKit Go.Maps

def getI (l : List Int) (x : Int) : Int := l.getD x.toNat 0

set_option maxHeartbeats 400000 in
theorem at_any (a1 a2 : Option Addr) (n m c1 c2 : Nat) (l p : List Int) (w : World) (hl : Rd w a1 n (ints l)) (hp : Rd w a2 m (ints p)) (hb : ∀ x ∈ p, 0 ≤ x ∧ x < n) (hm : m ≤ 1000000) :
    Calls Try.prog 40 #[.slice a1 n c1, .slice a2 m c2] w fun e w' => ∃ a c, e = .returned (.slice a m c) ∧
       Own w' w.heap.size 3 a m c (ints (p.map (getI l))) ∧ Fr F0 w w' := by
  have hpl : p.length = m := by simpa using hp.len
  have hll : l.length = n := by simpa using hl.len
  have Hpl := Lib.hid hpl
  have Hll := Lib.hid hll
  clear hpl hll
  have hl1 := hl.max
  go_enter Try.func40, Try.ntmps40
  go_wp2
  go_loopw [5, 10] (fun v i wr => ∃ (k : Nat) (a : Option Addr) (c : Nat), k ≤ m ∧ i = .int .i64 k ∧ v = .slice a k c ∧ Own wr w.heap.size 3 a k c (ints ((p.take k).map (getI l))) ∧ Fr F0 w wr)
   (fun _ i _ => m - (intOf i).toNat)
  case atStart => exact ⟨0, none, 0, Nat.zero_le _, rfl, rfl, Own.nil _ _ _, Fr.refl _ _⟩
  case round =>
    obtain ⟨k, a, c, hk, rfl, rfl, hown, hnx⟩ := hrel
    have hsz := hnx.size
    by_cases hlt : k < m
    · have hpl := Hpl.out
      obtain ⟨x, hx⟩ : ∃ x, p[k]? = some x := ⟨p[k], by simp [hpl, hlt]⟩
      have hb1 := hb x (List.mem_of_getElem? hx)
      have hll := Hll.out
      obtain ⟨y, hy⟩ : ∃ y, l[x.toNat]? = some y := ⟨l[x.toNat]'(by omega), by simp⟩
      obtain ⟨b1, o1, rfl, hc1⟩ := (hl.fr0 hnx).cells (by omega)
      obtain ⟨b2, o2, rfl, hc2⟩ := (hp.fr0 hnx).cells (by omega)
      have d2 := hc2 k (.int .i64 x) (by simp [hx])
      have d1 := hc1 x.toNat (.int .i64 y) (by simp [hy])
      have hfin : (p.take (k+1)).map (getI l) = (p.take k).map (getI l) ++ [y] := by
        rw [List.take_add_one, hx]; simp [hy, getI]
      have Hf := Lib.hid hfin
      clear hx hy hc1 hc2 hfin hpl hll
      go_wp2_with (at_builtin; refine wpApp1 E3 hown (by omega) (by omega) (by omega) rfl rfl rfl ?_; intro a' c' w' own' fr')
      go_roundw
      case rel => exact ⟨k+1, a', c', by omega, by go_num, rfl, by rw [Hf.out]; simpa using own', hnx.trans fr' (fun k hk hs => absurd (hown.blk _ hs).1 (by omega))⟩
      case measure => simp [intOf]; omega
    · have hkm : k = m := by omega
      subst hkm
      go_wp2
      go_ret
      refine ⟨a, c, rfl, ?_, hnx⟩
      rw [List.take_of_length_le (by have := Hpl.out; omega)] at hown
      exact hown

def lits (ys : List Int) : List Lit := ys.map (Lit.int .i64)
theorem any_lits (ys : List Int) (b : Int) : ((lits ys).any fun y => y.sameKey (.int .i64 b)) = decide (b ∈ ys) := by
  induction ys with
  | nil => rfl
  | cons y ys ih =>
    show ((Lit.int .i64 y).sameKey (.int .i64 b) || (lits ys).any _) = _
    rw [ih]
    by_cases h : y = b
    · subst h; simp [Lit.sameKey]
    · rw [sameKey_ne (by intro e; injection e; contradiction)]
      simp; intro e; exact absurd e.symm h
theorem addKey_lits (ys : List Int) (b : Int) : addKey (lits ys) (.int .i64 b) = lits (if b ∈ ys then ys else ys ++ [b]) := by
  unfold addKey
  rw [any_lits]
  by_cases h : b ∈ ys <;> simp [h, lits]
theorem mem_take_succ {ys : List Int} {j : Nat} {y b : Int} (h : ys[j]? = some y) : decide (b ∈ ys.take (j + 1)) = (decide (b ∈ ys.take j) || (y == b)) := by
  rw [List.take_add_one, h, Bool.eq_iff_iff]
  simp
  exact ⟨fun h => h.imp id Eq.symm, fun h => h.imp id Eq.symm⟩

set_option maxHeartbeats 1000000 in
theorem refBlocks_any (a1 a2 : Option Addr) (n m c1 c2 : Nat) (l p : List Int) (s : Int) (w : World) (hl : Rd w a1 n (ints l)) (hp : Rd w a2 m (ints p)) (hb : ∀ x ∈ p, 0 ≤ x ∧ x < n) (hm : m ≤ 1000000) (hs : 1 ≤ s) :
    Calls Try.prog 26 #[.slice a1 n c1, .slice a2 m c2, .int .i64 s] w fun e w' => e = .returned (.int .i64 (blocksN s (p.map (getI l)))) ∧ Fr F0 w w' := by
  have hpl : p.length = m := by simpa using hp.len
  have hll : l.length = n := by simpa using hl.len
  have Hpl := Lib.hid hpl
  have Hll := Lib.hid hll
  clear hpl hll
  have hl1 := hl.max
  have hs0 : (s == 0) = false := by simp; omega
  go_enter Try.func26, Try.ntmps26
  go_wp2_with fail
  go_loopw [7, 8] (fun v i wr => ∃ (k r : Nat) (a : Option Addr) (c : Nat) (ys : List Int), k ≤ m ∧ r ≤ k ∧ i = .int .i64 k ∧ v = .slice a r c ∧ Own wr w.heap.size 3 a r c (ints ys) ∧ Hid (lits ys = (keys s ((p.take k).map (getI l))).foldl addKey []) ∧ Fr F0 w wr)
   (fun _ i _ => m - (intOf i).toNat)
  case atStart => exact ⟨0, 0, none, 0, [], Nat.zero_le _, Nat.le_refl _, rfl, rfl, Own.nil _ _ _, Lib.hid rfl, Fr.refl _ _⟩
  case round =>
    obtain ⟨k, r, a, c, ys, hk, hr, rfl, rfl, hown, hys, hnx⟩ := hrel
    have hsz := hnx.size
    by_cases hlt : k < m
    · have hpl := Hpl.out
      obtain ⟨x, hx⟩ : ∃ x, p[k]? = some x := ⟨p[k], by simp [hpl, hlt]⟩
      have hb1 := hb x (List.mem_of_getElem? hx)
      have hll := Hll.out
      obtain ⟨y, hy⟩ : ∃ y, l[x.toNat]? = some y := ⟨l[x.toNat]'(by omega), by simp⟩
      obtain ⟨b1, o1, rfl, hc1⟩ := (hl.fr0 hnx).cells (by omega)
      obtain ⟨b2, o2, rfl, hc2⟩ := (hp.fr0 hnx).cells (by omega)
      have d2 := hc2 k (.int .i64 x) (by simp [hx])
      have d1 := hc1 x.toNat (.int .i64 y) (by simp [hy])
      obtain ⟨b, hb'⟩ : ∃ b, wrap64 (y.tdiv s) = b := ⟨_, rfl⟩
      have hfin : (keys s ((p.take (k + 1)).map (getI l))).foldl addKey [] = lits (if b ∈ ys then ys else ys ++ [b]) := by
        rw [List.take_add_one, hx, ← addKey_lits, hys.out]
        simp [keys, getI, hy, List.foldl_append, blk, hb']
      have Hf := Lib.hid hfin
      have hyl : ys.length = r := by simpa using hown.len
      have Hyl := Lib.hid hyl
      clear hx hy hc1 hc2 hfin hpl hll hyl
      obtain ⟨wo, rfl⟩ : ∃ wo : World, wo = wr := ⟨_, rfl⟩
      go_wp2_with fail
      go_loop [10, 11] (fun kn j => ∃ jj : Nat, jj ≤ r ∧ j = .int .i64 jj ∧ kn = .bool (decide (b ∈ ys.take jj))) (fun _ j => r - (intOf j).toNat)
      case atStart => exact ⟨0, by omega, rfl, by simp⟩
      case round =>
        obtain ⟨j, hj, rfl, rfl⟩ := hrel
        by_cases hlt2 : j < r
        · have hyl := Hyl.out
          obtain ⟨z, hz⟩ : ∃ z, ys[j]? = some z := ⟨ys[j], by simp⟩
          obtain ⟨g, rfl, _, _, hcg, _⟩ := hown.at (by omega)
          have d3 := hcg j (.int .i64 z) (by simp [hz])
          have hmem := mem_take_succ (b := b) hz
          have Hm := Lib.hid hmem
          clear hcg hz hmem hyl
          generalize decide (b ∈ ys.take j) = kn at *
          cases kn
          · go_wp2_with fail
            go_round
            case rel => exact ⟨j + 1, by omega, by go_num, by rw [Hm.out]; simp⟩
            case measure => simp [intOf]; omega
          · go_wp2_with fail
            go_round
            case rel => exact ⟨j + 1, by omega, by go_num, by rw [Hm.out]; simp⟩
            case measure => simp [intOf]; omega
        · have hjr : j = r := by omega
          subst hjr
          rw [List.take_of_length_le (by have := Hyl.out; omega)]
          by_cases hin : b ∈ ys
          · have hd : decide (b ∈ ys) = true := by simpa using hin
            rw [hd]
            have e := Hf.out
            rw [if_pos hin] at e
            have E := Lib.hid e
            clear e
            go_wp2_with fail
            go_roundw
            case rel => exact ⟨k + 1, j, a, c, ys, by omega, by omega, by go_num, rfl, hown, Lib.hid E.out.symm, hnx⟩
            case measure => simp [intOf]; omega
          · have hd : decide (b ∈ ys) = false := by simpa using hin
            rw [hd]
            have e := Hf.out
            rw [if_neg hin] at e
            have E := Lib.hid e
            clear e
            go_wp2_with (at_builtin; refine wpApp1 E3 hown (by omega) (by omega) (by omega) rfl rfl rfl ?_; intro a' c' w' own' fr')
            go_roundw
            case rel => exact ⟨k + 1, j + 1, a', c', ys ++ [b], by omega, by omega, by go_num, rfl, by simpa using own', Lib.hid E.out.symm, hnx.trans fr' (fun k hk hs => absurd (hown.blk _ hs).1 (by omega))⟩
            case measure => simp [intOf]; omega
    · have hkm : k = m := by omega
      subst hkm
      have e : blocksN s (p.map (getI l)) = r := by
        unfold blocksN
        have h := hys.out
        rw [List.take_of_length_le (by have := Hpl.out; omega)] at h
        rw [← h]
        simpa [lits] using hown.len
      have E := Lib.hid e
      clear e
      go_wp2_with fail
      go_ret
      rw [E.out]
      exact ⟨rfl, hnx⟩

end Go.Proofs.Ytdllpiekkbojgaa
