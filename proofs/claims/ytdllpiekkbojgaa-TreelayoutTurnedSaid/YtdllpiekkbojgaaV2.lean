/- The reference's Inverse. -/
import Derived.Test.YtdllpiekkbojgaaV1
namespace Go.Proofs.Ytdllpiekkbojgaa
open Go.RowKit Go.Maps

theorem E4 : Elem1 Try.prog 59 4 (.bool false) 1 := ⟨rfl, by kernel_rfl, rfl⟩
def isSet (x : Int) : Bool := decide (0 ≤ x)
abbrev bools (xs : List Int) : List Value := xs.map fun x => Value.bool (isSet x)
theorem ownb_facts {w : World} {B T g n c : Nat} {xs : List Int} (h : Own w B T (some ⟨g, 0, none⟩) n c (bools xs)) {v : Nat} (hv : v < n) :
    (∃ y, w.cell? ⟨g, v, none⟩ = some (.bool (isSet y)) ∧ xs[v]? = some y) ∧ w.frozen? ⟨g, v, none⟩ = false := by
  have hl : xs.length = n := by simpa using h.len
  obtain ⟨g', hg, _, _, hc, hf⟩ := h.at (by omega)
  injection hg with hg
  injection hg with hg
  subst hg
  exact ⟨⟨xs[v], hc v _ (by rw [List.getElem?_map, List.getElem?_eq_getElem (by omega)]; rfl), by simp⟩, hf v⟩

set_option maxHeartbeats 1000000 in
set_option maxRecDepth 100000 in
theorem refInverse_big (a : Option Addr) (n c : Nat) (l : List Int) (w : World) (hl : Rd w a n (ints l)) (hn : 65536 ≤ n) : Calls Try.prog 23 #[.slice a n c] w (InvPost w l n) := by
  have hll : l.length = n := by simpa using hl.len
  have H : Hid (invS l = none) := Lib.hid (by unfold invS; rw [if_pos (by omega)])
  have hb : decide (65535 < (n : Int)) = true := by simp; omega
  have hm := hl.max
  clear hll hn
  go_enter Try.func23, Try.ntmps23
  go_wp2_with fail
  go_ret2
  exact .inr ⟨rfl, H.out, Fr.refl _ _⟩

set_option maxHeartbeats 2000000 in
set_option maxRecDepth 100000 in
theorem refInverse_small (a : Option Addr) (n c : Nat) (l : List Int) (w : World) (hl : Rd w a n (ints l)) (hn : n ≤ 65535) :
    Calls Try.prog 23 #[.slice a n c] w (InvPost w l n) := by
  have hll : l.length = n := by simpa using hl.len
  have Hll := Lib.hid hll
  have His : Hid (invS l = invK l n) := Lib.hid (by unfold invS; rw [if_neg (by omega), hll])
  have hmk := run_mk E3 rfl n (by omega) (by omega)
  have hmk2 := run_mk E4 rfl n (by omega) (by omega)
  have hO1 : Own ((w.alloc (.cells (Array.replicate n (.int .i64 0)) 3)).alloc (.cells (Array.replicate n (.bool false)) 4)) w.heap.size 3 (some ⟨w.heap.size, 0, none⟩) n n (ints ((List.replicate l.length (-1)).map relu)) := by
    have h := (Own.made (w := w) (B := w.heap.size) (T := 3) (z := .int .i64 0) n (by omega) (by omega)).alloc (.cells (Array.replicate n (.bool false)) 4)
    rw [hll]; simpa [relu] using h
  have hO2 : Own ((w.alloc (.cells (Array.replicate n (.int .i64 0)) 3)).alloc (.cells (Array.replicate n (.bool false)) 4)) w.heap.size 4 (some ⟨w.heap.size + 1, 0, none⟩) n n (bools (List.replicate l.length (-1))) := by
    have h := Own.made (w := w.alloc (.cells (Array.replicate n (.int .i64 0)) 3)) (B := w.heap.size) (T := 4) (z := .bool false) n (by simp) (by omega)
    rw [hll]; simpa [isSet] using h
  replace hO1 := Lib.hid hO1
  replace hO2 := Lib.hid hO2
  have hb : decide (65535 < (n : Int)) = false := by simp; omega
  have Hn := Lib.hid hn
  clear hn hll
  go_enter Try.func23, Try.ntmps23
  go_wp2_with fail
  clear hmk hmk2
  have hn1 : n ≤ 1000000 := by have := Hn.out; omega
  go_loopw [6] (fun i wr => ∃ (k : Nat) (out : List Int), k ≤ n ∧ i = .int .i64 k ∧ Hid (invK l k = some out) ∧ Own wr w.heap.size 3 (some ⟨w.heap.size, 0, none⟩) n n (ints (out.map relu)) ∧
     Own wr w.heap.size 4 (some ⟨w.heap.size + 1, 0, none⟩) n n (bools out) ∧ Fr F0 w wr) (fun i _ => n - (intOf i).toNat)
  case atStart => exact ⟨0, _, Nat.zero_le _, rfl, Lib.hid rfl, hO1.out, hO2.out, ((Fr.refl _ _).alloc _).alloc _⟩
  case round =>
    obtain ⟨k, out, hk, rfl, hinv, hA, hB, hF⟩ := hrel
    have hol : out.length = n := by simpa using hA.lens
    by_cases hlt : k < n
    · have hll := Hll.out
      obtain ⟨x, hx⟩ : ∃ x, l[k]? = some x := ⟨l[k], by simp [hll, hlt]⟩
      have hstep := invK_step hinv.out hx
      obtain ⟨b1, o1, hb1, hc1⟩ := (hl.fr0 hF).cells (by omega)
      have hblk : b1 < w.heap.size := hl.lt (by omega) b1 (by rw [hb1, onBlk_some])
      subst hb1
      have d1 := hc1 k (.int .i64 x) (by simp [hx])
      by_cases hok : invOk out x
      · have h1 := hok.1
        have h2 : x < n := by have := hok.2.1; omega
        obtain ⟨⟨y0, hy0, _⟩, hz0⟩ := own_facts hA (v := x.toNat) (by omega)
        obtain ⟨⟨y, hy, hy2⟩, hz⟩ := ownb_facts hB (v := x.toNat) (by omega)
        have h3 : y < 0 := by have := hok.2.2; simpa [hy2] using this
        have h4 : isSet y = false := by simp [isSet]; omega
        rw [h4] at hy
        rw [if_pos hok] at hstep
        replace hstep := Lib.hid hstep
        replace hA := Lib.hid hA
        replace hB := Lib.hid hB
        replace hF := Lib.hid hF
        clear hc1 hx hll hok hol hy2 h4
        have hne : w.heap.size + 1 ≠ w.heap.size := by omega
        have hne2 : w.heap.size + 1 ≠ b1 := by omega
        go_wp2_with fail
        go_roundw
        case rel =>
          refine ⟨k + 1, _, by omega, by go_num, Lib.hid hstep.out, ?_, ?_, (hF.out.setCell (fun h => by simp at h; omega) _).setCell (fun h => by simp at h) _⟩
          · have h := (hA.out.other (p := ⟨w.heap.size + 1, x.toNat, none⟩) (by rw [onBlk_some]; simp) (.bool true)).set (i := x.toNat) (.int .i64 (k : Int))
            simpa [List.map_set, relu] using h
          · have h := (hB.out.set (i := x.toNat) (.bool true)).other (p := ⟨w.heap.size, x.toNat, none⟩) (by rw [onBlk_some]; simp) (.int .i64 (k : Int))
            have e : bools (out.set x.toNat (k : Int)) = (bools out).set x.toNat (.bool true) := by
              show List.map _ _ = _
              rw [List.map_set, show isSet (k : Int) = true by simp [isSet]]
            rw [e]; exact h
        case measure => simp [intOf]; omega
      · rw [if_neg hok] at hstep
        have hnone : invS l = none := by rw [His.out]; exact invK_none hstep n (by omega)
        replace hnone := Lib.hid hnone
        unfold invOk at hok
        by_cases h1 : x < 0
        · replace hA := Lib.hid hA
          replace hB := Lib.hid hB
          replace hF := Lib.hid hF
          clear hc1 hx hll hok hol hstep
          go_wp2_with fail
          go_ret2
          exact .inr ⟨rfl, hnone.out, hF.out⟩
        · by_cases h2 : (n : Int) ≤ x
          · replace hA := Lib.hid hA
            replace hB := Lib.hid hB
            replace hF := Lib.hid hF
            clear hc1 hx hll hok hol hstep
            go_wp2_with fail
            go_ret2
            exact .inr ⟨rfl, hnone.out, hF.out⟩
          · obtain ⟨⟨y, hy, hy2⟩, hz⟩ := ownb_facts hB (v := x.toNat) (by omega)
            have h3 : isSet y = true := by
              simp [hy2] at hok; simp [isSet]; omega
            rw [h3] at hy
            replace hA := Lib.hid hA
            replace hB := Lib.hid hB
            replace hF := Lib.hid hF
            clear hc1 hx hll hok hol hstep hy2 h3
            go_wp2_with fail
            go_ret2
            exact .inr ⟨rfl, hnone.out, hF.out⟩
    · obtain rfl : n = k := by omega
      have hfull : invK l l.length = some out := by rw [Hll.out]; exact hinv.out
      rw [map_relu (invK_all hfull)] at hA
      replace hfull := Lib.hid hfull
      replace hA := Lib.hid hA
      replace hB := Lib.hid hB
      replace hF := Lib.hid hF
      clear hol
      go_wp2_with fail
      go_ret2
      exact .inl ⟨_, _, out, rfl, by rw [His.out]; exact hinv.out, hA.out, hF.out⟩

theorem refInverse_any (a : Option Addr) (n c : Nat) (l : List Int) (w : World) (hl : Rd w a n (ints l)) : Calls Try.prog 23 #[.slice a n c] w (InvPost w l n) := by
  by_cases hn : n ≤ 65535
  · exact refInverse_small a n c l w hl hn
  · exact refInverse_big a n c l w hl (by omega)

end Go.Proofs.Ytdllpiekkbojgaa
