/- Sets: List. -/
import Derived.Test.YtohblajdeicfeaaE18
namespace Go.Proofs.Ytohblajdeicfeaa
open Go.RowKit
attribute [local go_sem ↓] Go.wp_at_zero Go.wp_at_succ
def slLen : Value → Nat
  | .slice _ n _ => n
  | _ => 0
theorem ints_take {xs : List Int} {i : Nat} (h : i < xs.length) : ints (xs.take (i + 1)) = ints (xs.take i) ++ [.int .i64 xs[i]] := by
  unfold ints
  rw [← List.take_append_getElem h, List.map_append]
  rfl
def LsP (w : World) (s k rb : Nat) (st : Int) (xs : List Int) (N : Nat → Prop) (e : Ending) (w' : World) : Prop :=
  ∃ a c, e = .returned (.slice a xs.length c) ∧ Own w' w.heap.size 3 a xs.length c (ints xs) ∧ SR w' s k rb st xs N ∧ Fr (onB s) w w'
theorem steps_le {d i : Nat} {st u : Int} (hd : d ≤ 2) (h : u ≤ st + (i : Int) * (1 + 3 * (d : Int))) (hs : st ≤ 20) (hi : i ≤ 101) : u ≤ 727 := by
  have : (i : Int) * (1 + 3 * (d : Int)) ≤ 101 * 7 := by
    have h1 : (i : Int) * (1 + 3 * (d : Int)) ≤ (i : Int) * 7 := Int.mul_le_mul_of_nonneg_left (by omega) (by omega)
    omega
  omega
theorem steps_more {d i : Nat} {st u v : Int} (h : u ≤ st + (i : Int) * (1 + 3 * (d : Int))) (g : v ≤ u + 1 + 3 * (d : Int)) : v ≤ st + ((i + 1 : Nat) : Int) * (1 + 3 * (d : Int)) := by
  rw [show ((i + 1 : Nat) : Int) = (i : Int) + 1 by omega, Int.add_mul]
  omega
set_option maxHeartbeats 1000000 in
theorem List_any {w : World} {s k rb : Nat} {st : Int} {xs : List Int} {N : Nat → Prop} (R : SR w s k rb st xs N) (hl : xs.length ≤ 100) :
    Calls Try.prog 26 #[.pointer (some ⟨s, 0, none⟩)] w (LsP w s k rb st xs N) := by
  have y2 : w.cell? ⟨s, 2, none⟩ = some (.int .i64 st) := R.blk.cell (i := 2) rfl
  have y3 : w.cell? ⟨s, 3, none⟩ = some (.pointer (some ⟨rb, 0, none⟩)) := R.blk.cell (i := 3) rfl
  have HR := Lib.hid R
  have hd := dk_le k
  have hs0 := R.s0
  have hs1 := R.s1
  have hsl := R.lt s (.inr rfl)
  clear R
  go_enter Try.func26, Try.ntmps26
  go_wp2_with fail
  refine (next_any _ _ _ _ _ _ _ _ _ _ _ _ HR.out.tr HR.out.blk HR.out.nf (by omega) (by omega)).mono ?_
  rintro e w1 ⟨r, st1, rfl, hr, g1, g2, B1, F1⟩
  have hr' := nextI_of HR.out.so HR.out.pos hr
  rw [nextI_first HR.out.pos] at hr'
  have HB1 := Lib.hid B1
  have HF1 := Lib.hid F1
  have HRr := Lib.hid hr'
  clear B1 F1 hr hr' y2 y3
  go_wp2_with fail
  go_loopw [4, 5] (fun s4 s5 wr => ∃ (i : Nat) (r u : Int) (a : Option Addr) (c : Nat), i ≤ xs.length ∧ s4 = .slice a i c ∧ s5 = .int .i64 r ∧ Hid (r = (xs[i]?).getD (-1)) ∧ Hid (Own wr w.heap.size 3 a i c (ints (xs.take i))) ∧ Hid (Blk wr s 57 (stC k xs.length u rb)) ∧ Hid (Fr (onB s) w wr) ∧ 0 ≤ u ∧ Hid (u ≤ st + ((i + 1 : Nat) : Int) * (1 + 3 * (dk k : Int)))) (fun s4 _ _ => xs.length - slLen s4)
  case atStart => exact ⟨0, r, st1, none, 0, by omega, rfl, rfl, HRr, Lib.hid (Own.nil _ _ _), HB1, HF1, by omega, Lib.hid (by omega)⟩
  case round =>
    obtain ⟨i, r, u, a, c, hi, rfl, rfl, HR1, HO, HB, HF, hu0, HU⟩ := hrel
    clear HRr HB1 HF1
    have hu9 := steps_le hd HU.out hs1 (by omega)
    by_cases hlt : i < xs.length
    · have hxi : xs[i]? = some xs[i] := List.getElem?_eq_getElem hlt
      have hr : r = xs[i] := by rw [HR1.out, hxi]; rfl
      have h0 : 0 ≤ r := by rw [hr]; exact HR.out.pos _ (List.getElem_mem hlt)
      have HX := Lib.hid (And.intro hxi hr)
      clear hxi hr
      have y3 : wr.cell? ⟨s, 3, none⟩ = some (.pointer (some ⟨rb, 0, none⟩)) := HB.out.cell (i := 3) rfl
      have hsz := HF.out.size
      have hns : ∀ q, onBlk a q → q ≠ s := fun q hq e => by have := (HO.out.blk q hq).1; omega
      have HNS := Lib.hid hns
      clear hns
      go_wp2_with (at_builtin; refine wpAppAt E3 HO.out (by omega) (by omega) hsz rfl rfl rfl ?_; intro a2 c2 w2 own2 fr2 at2; have HB2 := Lib.hid (HB.out.fr fr2 (fun e => HNS.out s e rfl)); have y3' : w2.cell? ⟨s, 3, none⟩ = some (.pointer (some ⟨rb, 0, none⟩)) := HB2.out.cell (i := 3) rfl)
      have HF2 := Lib.hid (HF.out.trans fr2 (fun q hq e => by have := (HO.out.blk q e).1; omega))
      have HO2 := Lib.hid own2
      clear own2 fr2
      have HT2 := Lib.hid (HR.out.tr.fr HF2.out (fun q hq (e : q = s) => HR.out.nf (e ▸ hq)))
      refine (next_any _ _ _ _ _ _ _ _ _ _ _ _ HT2.out HB2.out HR.out.nf (by omega) (by omega)).mono ?_
      rintro e w3 ⟨r3, st3, rfl, hr3, q1, q2, B3, F3⟩
      have hr' := nextI_of HR.out.so HR.out.pos hr3
      rw [HX.out.2, nextI_at HR.out.so HX.out.1] at hr'
      have HB3 := Lib.hid B3
      have HF3 := Lib.hid (HF2.out.trans F3 (fun _ _ h => h))
      have hsz2 := HF2.out.size
      have HO3 := Lib.hid (HO2.out.fr F3 (fun q hq (e : q = s) => by have := (HO2.out.blk q hq).1; omega))
      have HR3 := Lib.hid hr'
      have HU3 := Lib.hid (steps_more HU.out q2)
      clear hr3 hr' B3 F3 q2
      go_wp2_with fail
      go_roundw
      case rel =>
        refine ⟨i + 1, r3, st3, a2, c2, by omega, rfl, rfl, HR3, ?_, HB3, HF3, by omega, HU3⟩
        have h := HO3.out
        rw [HX.out.2] at h
        rw [ints_take hlt]
        exact Lib.hid h
      case measure => simp [slLen]; omega
    · obtain rfl : i = xs.length := by omega
      have hr : r = -1 := by rw [HR1.out, List.getElem?_eq_none (by omega)]; rfl
      subst hr
      have z2 := HB.out.free 2
      have y2 : wr.cell? ⟨s, 2, none⟩ = some (.int .i64 u) := HB.out.cell (i := 2) rfl
      go_wp2_with fail
      go_ret
      have hg := (Fr.refl (onB s) wr).setB 2 (.int .i64 st)
      have ho := HO.out
      rw [List.take_length] at ho
      refine ⟨a, c, rfl, ho.fr hg (fun q hq (e : q = s) => by have := (HO.out.blk q hq).1; omega), ?_, HF.out.trans hg (fun _ _ h => h)⟩
      exact ⟨HR.out.k1, HR.out.k20, HB.out.set 2 _, (HR.out.tr.fr HF.out (fun q hq (e : q = s) => HR.out.nf (e ▸ hq))).fr hg (fun q hq (e : q = s) => HR.out.nf (e ▸ hq)), HR.out.nf, HR.out.so, HR.out.pos, hs0, hs1⟩
end Go.Proofs.Ytohblajdeicfeaa
