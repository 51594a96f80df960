/- The reference's Branch. -/
import Derived.Test.YtpmaoaogkjehcaaX6
namespace Go.Proofs.Ytpmaoaogkjehcaa
open Go.RowKit
attribute [local go_sem ↓] Go.wp_at_zero Go.wp_at_succ

theorem isB_in {P : List Int} {n : Nat} {p : Int} (h : P.length = n) : isB n p = decide (inB P p) := by
  unfold isB inB
  rw [Bool.eq_iff_iff]; simp [h]

def RbPost (a : Option Addr) (P : List Int) (p : Int) (w : World) (e : Ending) (w' : World) : Prop :=
  ∃ (a' : Option Addr) (n' c' : Nat), e = .returned (.tuple #[VA a' n' c', .int .i64 (branE P p).1, .int .i64 (branE P p).2]) ∧ Rd w' a' n' (ints (branP P p)) ∧ n' ≤ c' ∧ Fr F0 w w' ∧ (∀ k, onBlk a' k → onBlk a k ∨ w.heap.size ≤ k)
theorem ret3 {a b c d e f : Value} (h1 : a = d) (h2 : b = e) (h3 : c = f) : Ending.returned (.tuple #[a, b, c]) = .returned (.tuple #[d, e, f]) := by rw [h1, h2, h3]

set_option maxHeartbeats 1000000 in
theorem refBranch_any (a : Option Addr) (n c : Nat) (P : List Int) (w : World) (hr : Rd w a n (ints P)) (hc : n ≤ c) (hlP : P.length ≤ 1000) (p : Int) :
    Calls Try.prog 37 #[VA a n c, .int .i64 p] w (RbPost a P p w) := by
  have hpl : P.length = n := by simpa using hr.len
  have hm := hr.max
  have k1 : One ((boxW w a n c).alloc (.cells #[.slice none 0 0] 24)) w.heap.size 24 (.slice a n c) := (One.new 24 _).alloc _
  have k2 : One ((boxW w a n c).alloc (.cells #[.slice none 0 0] 24)) (w.heap.size + 1) 24 (.slice none 0 0) := by
    have h := One.new (w := boxW w a n c) 24 (.slice none 0 0)
    simpa using h
  have hF : Fr F0 w ((boxW w a n c).alloc (.cells #[.slice none 0 0] 24)) := ((Fr.refl _ _).alloc _).alloc _
  have kc := k1.cell
  have hn1 : n ≤ 1000 := by omega
  by_cases hin : inB P p
  · by_cases hl : n < 1000
    · have E : Hid (branE P p = ((P.length : Int), 0)) := Lib.hid (by unfold branE; rw [if_pos hin, if_pos (by omega)])
      have E3' : Hid (branP P p = P ++ [p]) := Lib.hid (by unfold branP; rw [if_pos ⟨hin, by omega⟩])
      have hz : decide ((1000 : Int) ≤ (n : Int)) = false := by simp; omega
      have hi : Hid (isB n p = true) := Lib.hid (by rw [isB_in hpl]; simpa using hin)
      have Hpl := Lib.hid hpl
      replace hn1 := Lib.hid hn1
      replace hl := Lib.hid hl
      replace hlP := Lib.hid hlP
      clear hpl hin
      go_enter Try.func37, Try.ntmps37
      go_wp2_with fail
      refine (Is_any a n c p _).mono ?_; rintro e w1 ⟨rfl, F1⟩
      rw [hi.out]
      replace k1 := k1.fr F1 id
      replace k2 := k2.fr F1 id
      replace hF := Lib.hid (hF.trans0 F1)
      have kc := k1.cell
      clear F1
      go_wp2_with fail
      have hpl := Hpl.out
      have hsz : Hid (w.heap.size ≤ w1.heap.size) := Lib.hid hF.out.size
      obtain ⟨b0, hb0⟩ : ∃ b0, b0 = w.heap.size := ⟨_, rfl⟩
      obtain ⟨b4, hb4⟩ : ∃ b4, b4 = w.heap.size + 1 := ⟨_, rfl⟩
      have h04 : b0 ≠ b4 := by omega
      have h40 : b4 ≠ b0 := by omega
      have hb4w : Hid (w.heap.size ≤ b4) := Lib.hid (by omega)
      rw [← hb4] at k2
      simp only [← hb4]
      rw [← hb0] at k1 kc
      simp only [← hb0]
      have kc4 := k2.cell
      have kf4 := k2.free
      clear hb0 hb4 hpl
      have FA : Hid (Fr F0 w1 ((w1.alloc (.cells (#[] : Array Value) 3))).drew) := Lib.hid ((Fr.refl _ _).alloc _).drew
      have FB : Hid (Fr F0 w1 (((w1.alloc (.cells (#[] : Array Value) 3)).alloc (.cells #[.int .i64 p] 3))).drew) := Lib.hid (((Fr.refl _ _).alloc _).alloc _).drew
      have FC : Hid (Fr F0 w1 (((w1.alloc (.cells #[.int .i64 p] 3)).alloc (.cells (#[] : Array Value) 3))).drew) := Lib.hid (((Fr.refl _ _).alloc _).alloc _).drew
      have hO0 : Own (w1.alloc (.cells (#[] : Array Value) 3)) w1.heap.size 3 (some ⟨w1.heap.size, 0, none⟩) 0 0 (ints []) := Own.lit [] 0 rfl (by omega) (by omega)
      have OA : Hid (Own ((w1.alloc (.cells (#[] : Array Value) 3))).drew w1.heap.size 3 (some ⟨w1.heap.size, 0, none⟩) 0 0 (ints [])) := Lib.hid (hO0.fr0 (Fr.refl _ _).drew)
      have OB : Hid (Own (((w1.alloc (.cells (#[] : Array Value) 3)).alloc (.cells #[.int .i64 p] 3))).drew w1.heap.size 3 (some ⟨w1.heap.size, 0, none⟩) 0 0 (ints [])) := Lib.hid (hO0.fr0 ((Fr.refl _ _).alloc _).drew)
      have OC : Hid (Own (((w1.alloc (.cells #[.int .i64 p] 3)).alloc (.cells (#[] : Array Value) 3))).drew w1.heap.size 3 (some ⟨w1.heap.size + 1, 0, none⟩) 0 0 (ints [])) := Lib.hid (by
        have h : Own ((w1.alloc (.cells #[.int .i64 p] 3)).alloc (.cells (#[] : Array Value) 3)) w1.heap.size 3 (some ⟨(w1.alloc (.cells #[.int .i64 p] 3)).heap.size, 0, none⟩) 0 0 (ints []) := Own.lit [] 0 rfl (by simp) (by omega)
        have h2 := h.fr0 (Fr.refl _ _).drew
        simpa using h2)
      have rA := Lib.hid ((hr.fr0 hF.out).fr0 FA.out)
      have rB := Lib.hid ((hr.fr0 hF.out).fr0 FB.out)
      have rC := Lib.hid ((hr.fr0 hF.out).fr0 FC.out)
      have n1 := World.new_ne w1 _ kc
      have n2 := World.new_ne w1 _ kc4
      have RB : Hid (Rd (((w1.alloc (.cells (#[] : Array Value) 3)).alloc (.cells #[.int .i64 p] 3))).drew (some ⟨w1.heap.size + 1, 0, none⟩) 1 (ints [p])) := Lib.hid (by
        have h := (Own.rd (Own.lit (w := w1.alloc (.cells (#[] : Array Value) 3)) (B := w1.heap.size) (T := 3) (ints [p]) 1 rfl (by simp) (by omega))).fr0 (Fr.refl F0 _).drew
        simpa using h)
      have RC : Hid (Rd (((w1.alloc (.cells #[.int .i64 p] 3)).alloc (.cells (#[] : Array Value) 3))).drew (some ⟨w1.heap.size, 0, none⟩) 1 (ints [p])) := Lib.hid (by
        have h := (Own.rd (Own.lit (w := w1) (B := w1.heap.size) (T := 3) (ints [p]) 1 rfl (by simp) (by omega))).fr0 (((Fr.refl F0 _).alloc (.cells (#[] : Array Value) 3)).drew)
        simpa using h)
      go_region_held3 (fun w' => w'.cell? ⟨b0, 0, none⟩ = some (.slice a n c)) (go_keep)
        (first | (refine stepAppRd E3 (by rfl) (by rfl) (by rfl) (by rfl) OA.out rA.out (oneCell_ints P) (by have := hn1.out; omega) (by have := hn1.out; omega) (by simp <;> omega) n (by omega) ?_; intro a6 c6 w6 own6 fr6 at6; have G6 : Fr F0 w1 w6 := FA.out.trans fr6 (fun k hk hs => absurd (OA.out.blk _ hs).1 (by omega)); have y0 := G6.cell kc id; have y1 := G6.cell kc4 id; have y2 := (G6.frozen k2.lt id).trans kf4; have m1 := World.new_ne w6 _ y0; have m2 := World.new_ne w6 _ y1; have O6 : Hid (Own (w6.alloc (.cells #[.int .i64 p] 3)) w1.heap.size 3 a6 n c6 (ints [] ++ ints P)) := Lib.hid (own6.alloc _); have R6 : Hid (Rd (w6.alloc (.cells #[.int .i64 p] 3)) (some ⟨w6.heap.size, 0, none⟩) 1 (ints [p])) := Lib.hid (Own.rd (Own.lit (w := w6) (B := w6.heap.size) (T := 3) (ints [p]) 1 rfl (by omega) (by omega))); have F6 : Hid (Fr F0 w1 (w6.alloc (.cells #[.int .i64 p] 3))) := Lib.hid (G6.alloc _); replace own6 := Lib.hid own6; replace G6 := Lib.hid G6; replace fr6 := Lib.hid fr6; replace at6 := Lib.hid at6) | (refine stepAppRd E3 (by rfl) (by rfl) (by rfl) (by rfl) OB.out rB.out (oneCell_ints P) (by have := hn1.out; omega) (by have := hn1.out; omega) (by simp <;> omega) n (by omega) ?_; intro a6 c6 w6 own6 fr6 at6; have G6 : Fr F0 w1 w6 := FB.out.trans fr6 (fun k hk hs => absurd (OB.out.blk _ hs).1 (by omega)); have y0 := G6.cell kc id; have y1 := G6.cell kc4 id; have y2 := (G6.frozen k2.lt id).trans kf4; have m1 := World.new_ne w6 _ y0; have m2 := World.new_ne w6 _ y1; have O6 : Hid (Own w6 w1.heap.size 3 a6 n c6 (ints [] ++ ints P)) := Lib.hid own6; have R6 : Hid (Rd w6 (some ⟨w1.heap.size + 1, 0, none⟩) 1 (ints [p])) := Lib.hid (RB.out.fr fr6 (fun k hk hs => by have h1 := (onBlk_some _ _ _ _).1 hk; have h2 := (onBlk_some _ _ _ _).1 hs; omega)); have F6 : Hid (Fr F0 w1 w6) := Lib.hid G6; replace own6 := Lib.hid own6; replace G6 := Lib.hid G6; replace fr6 := Lib.hid fr6; replace at6 := Lib.hid at6) | (refine stepAppRd E3 (by rfl) (by rfl) (by rfl) (by rfl) OC.out rC.out (oneCell_ints P) (by have := hn1.out; omega) (by have := hn1.out; omega) (by simp <;> omega) n (by omega) ?_; intro a6 c6 w6 own6 fr6 at6; have G6 : Fr F0 w1 w6 := FC.out.trans fr6 (fun k hk hs => absurd (OC.out.blk _ hs).1 (by omega)); have y0 := G6.cell kc id; have y1 := G6.cell kc4 id; have y2 := (G6.frozen k2.lt id).trans kf4; have m1 := World.new_ne w6 _ y0; have m2 := World.new_ne w6 _ y1; have O6 : Hid (Own w6 w1.heap.size 3 a6 n c6 (ints [] ++ ints P)) := Lib.hid own6; have R6 : Hid (Rd w6 (some ⟨w1.heap.size, 0, none⟩) 1 (ints [p])) := Lib.hid (RC.out.fr fr6 (fun k hk hs => by have h1 := (onBlk_some _ _ _ _).1 hk; have h2 := (onBlk_some _ _ _ _).1 hs; omega)); have F6 : Hid (Fr F0 w1 w6) := Lib.hid G6; replace own6 := Lib.hid own6; replace G6 := Lib.hid G6; replace fr6 := Lib.hid fr6; replace at6 := Lib.hid at6) | (refine stepAppRd E3 (by rfl) (by rfl) (by rfl) (by rfl) O6.out R6.out (oneCell_ints [p]) (by have := hn1.out; omega) (by have := hn1.out; omega) (by have := G6.out.size; simp <;> omega) (n + 1) (by omega) ?_; intro a7 c7 w7 own7 fr7 at7; have G7 : Fr F0 w1 w7 := F6.out.trans fr7 (fun k hk hs => absurd (O6.out.blk _ hs).1 (by omega)); have z0 := G7.cell kc id; have z1 := G7.cell kc4 id; have z2 := (G7.frozen k2.lt id).trans kf4; replace own7 := Lib.hid own7; replace G7 := Lib.hid G7; replace at7 := Lib.hid at7; replace fr7 := Lib.hid fr7))
      all_goals
        have hb4l := k2.lt
        have hn4 : Hid (¬ onBlk a7 b4) := Lib.hid (fun h => absurd (own7.out.blk _ h).1 (by omega))
        have t7 := own7.out.other (p := ⟨b4, 0, none⟩) hn4.out (.slice a7 (n + 1) c7)
        have tr : Hid (Rd (w7.setCell ⟨b4, 0, none⟩ (.slice a7 (n + 1) c7)) a7 (n + 1) (ints (P ++ [p]))) := Lib.hid (by have h := t7.rd; simpa using h)
        have tc : Hid (n + 1 ≤ c7) := Lib.hid t7.cap
        have tF : Hid (Fr F0 w (w7.setCell ⟨b4, 0, none⟩ (.slice a7 (n + 1) c7))) := Lib.hid ((hF.out.trans0 G7.out).setCell (p := ⟨b4, 0, none⟩) (fun h => absurd h (by have := hb4w.out; simp only; omega)) _)
        have ta : Hid (∀ k, onBlk a7 k → onBlk a k ∨ w.heap.size ≤ k) := Lib.hid (fun k hk => .inr (by have := (own7.out.blk k hk).1; have := hsz.out; omega))
        clear y0 y1 y2 m1 m2 z0
        have s1 := World.cell?_setCell_same _ _ (.slice a7 (n + 1) c7) z1
        clear t7
        go_wp2_with fail
        refine bodyPost_ret (v := .tuple #[VA a7 (n + 1) c7, .int .i64 n, .int .i64 0]) (by simp [results, Try.results37, go_sem, s1]) rfl ?_
        unfold RbPost
        exact ⟨a7, n + 1, c7, ret3 rfl (val_int (by rw [E.out, Hpl.out])) (val_int (congrArg Prod.snd E.out).symm), by rw [E3'.out]; exact tr.out, tc.out, tF.out, ta.out⟩
    · have E : Hid (branE P p = (0, 4)) := Lib.hid (by unfold branE; rw [if_pos hin, if_neg (by omega)])
      have E3' : Hid (branP P p = P) := Lib.hid (by unfold branP; rw [if_neg (fun h => hl (by omega))])
      have hz : decide ((1000 : Int) ≤ (n : Int)) = true := by simp; omega
      have hi : Hid (isB n p = true) := Lib.hid (by rw [isB_in hpl]; simpa using hin)
      replace hn1 := Lib.hid hn1
      replace hl := Lib.hid hl
      replace hlP := Lib.hid hlP
      clear hpl hin
      go_enter Try.func37, Try.ntmps37
      go_wp2_with fail
      refine (Is_any a n c p _).mono ?_; rintro e w1 ⟨rfl, F1⟩
      rw [hi.out]
      replace k1 := k1.fr F1 id
      replace k2 := k2.fr F1 id
      replace hF := hF.trans0 F1
      have kc := k1.cell
      have kc2 := k2.cell
      have kf2 := k2.free
      have kc3 := (k2.set (.slice a n c)).cell
      have hF2 : Fr F0 w (w1.setCell ⟨w.heap.size + 1, 0, none⟩ (.slice a n c)) := hF.setCell (p := ⟨w.heap.size + 1, 0, none⟩) (fun h => absurd h (by simp)) _
      have hrd := Lib.hid (hr.fr0 hF2)
      replace hF2 := Lib.hid hF2
      clear F1 hF
      go_wp2_with fail
      refine bodyPost_ret (v := .tuple #[VA a n c, .int .i64 0, .int .i64 4]) (by simp [results, Try.results37, go_sem, kc3]) rfl ?_
      unfold RbPost
      exact ⟨a, n, c, ret3 rfl (val_int (congrArg Prod.fst E.out).symm) (val_int (congrArg Prod.snd E.out).symm), by rw [E3'.out]; exact hrd.out, hc, hF2.out, fun k hk => .inl hk⟩
  · have E : Hid (branE P p = (0, 24)) := Lib.hid (by unfold branE; rw [if_neg hin])
    have E3' : Hid (branP P p = P) := Lib.hid (by unfold branP; rw [if_neg (fun h => hin h.1)])
    have hi : Hid (isB n p = false) := Lib.hid (by rw [isB_in hpl]; simpa using hin)
    replace hn1 := Lib.hid hn1
    replace hlP := Lib.hid hlP
    clear hpl hin
    go_enter Try.func37, Try.ntmps37
    go_wp2_with fail
    refine (Is_any a n c p _).mono ?_; rintro e w1 ⟨rfl, F1⟩
    rw [hi.out]
    replace k1 := k1.fr F1 id
    replace k2 := k2.fr F1 id
    replace hF := hF.trans0 F1
    have kc := k1.cell
    have kc2 := k2.cell
    have kf2 := k2.free
    have kc3 := (k2.set (.slice a n c)).cell
    have hF2 : Fr F0 w (w1.setCell ⟨w.heap.size + 1, 0, none⟩ (.slice a n c)) := hF.setCell (p := ⟨w.heap.size + 1, 0, none⟩) (fun h => absurd h (by simp)) _
    have hrd := Lib.hid (hr.fr0 hF2)
    replace hF2 := Lib.hid hF2
    clear F1 hF
    go_wp2_with fail
    refine bodyPost_ret (v := .tuple #[VA a n c, .int .i64 0, .int .i64 24]) (by simp [results, Try.results37, go_sem, kc3]) rfl ?_
    unfold RbPost
    exact ⟨a, n, c, ret3 rfl (val_int (congrArg Prod.fst E.out).symm) (val_int (congrArg Prod.snd E.out).symm), by rw [E3'.out]; exact hrd.out, hc, hF2.out, fun k hk => .inl hk⟩

end Go.Proofs.Ytpmaoaogkjehcaa
