/- Sets: New, Insert, Delete, Contains, Len, Steps. -/
import Derived.Test.YtohblajdeicfeaaE16
namespace Go.Proofs.Ytohblajdeicfeaa
open Go.RowKit
attribute [local go_sem ↓] Go.wp_at_zero Go.wp_at_succ
theorem ret_bi {b b' : Bool} {i : Int} (h : b = b') : Ending.returned (.tuple #[.bool b, .int .i64 i]) = .returned (.tuple #[.bool b', .int .i64 i]) := by rw [h]
theorem New_bad (w : World) {k : Int} (h : k < 1 ∨ 20 < k) :
    Calls Try.prog 34 #[.int .i64 k] w fun e w' => e = .returned (.tuple #[.pointer none, .int .i64 2]) ∧ w = w' := by
  by_cases h1 : k < 1
  · clear h
    go_enter Try.func34, Try.ntmps34
    go_wp2_with fail
    go_ret2
    exact ⟨rfl, rfl⟩
  · have h2 : 20 < k := h.elim (fun e => absurd e h1) id
    clear h
    go_enter Try.func34, Try.ntmps34
    go_wp2_with fail
    go_ret2
    exact ⟨rfl, rfl⟩
theorem New_ok (w : World) {k : Nat} (h1 : 1 ≤ k) (h2 : k ≤ 20) :
    Calls Try.prog 34 #[.int .i64 k] w fun e w' => ∃ s rb N, e = .returned (.tuple #[.pointer (some ⟨s, 0, none⟩), .int .i64 0]) ∧ SR w' s k rb 0 [] N ∧ Fr F0 w w' ∧ w.heap.size ≤ s ∧ ∀ q, N q → w.heap.size ≤ q := by
  have g1 : ¬ (k : Int) < 1 := by omega
  have g2 : ¬ (20 : Int) < k := by omega
  go_enter Try.func34, Try.ntmps34
  go_wp2_with (go_at_call 47; refine (newTree_any _ _).mono ?_; rintro e w1 ⟨rfl, rfl⟩)
  go_ret2
  obtain ⟨w1, hw1⟩ : ∃ w1, w1 = w.alloc (.cells #[.int .i64 k, .int .i64 (-1), .int .i64 (-1), .int .u64 0, .pointer none, .map none] 71) := ⟨_, rfl⟩
  have hb : Blk w1 w.heap.size 71 (ndC k (-1) (-1) 0 none none) := by rw [hw1]; exact Blk.new w 71 _
  have hsz : w1.heap.size = w.heap.size + 1 := by rw [hw1]; exact size_alloc _ _
  have hf : Fr F0 w w1 := by rw [hw1]; exact (Fr.refl _ _).alloc _
  rw [← hw1]
  have hB := Blk.new w1 57 (stC k 0 0 w.heap.size)
  rw [hsz] at hB
  refine ⟨_, w.heap.size, fun q => q = w.heap.size, rfl, ⟨h1, h2, hB, ?_, fun (e : w.heap.size + 1 = w.heap.size) => by omega, List.Pairwise.nil, by simp, by omega, by omega⟩, hf.alloc _, by omega, fun q e => by omega⟩
  have hT : VT (dk k) w1 k w.heap.size (fun _ => False) (fun q => q = w.heap.size) := VT.fresh hb (dk_bits h2) h2 rfl (fun q e => by omega)
  exact (hT.ext (fun x => by simp)).fr ((Fr.refl F0 w1).alloc _) (fun _ _ => id)
/-- What an insertion leaves. -/
def InsP (w : World) (s k rb : Nat) (xs : List Int) (N : Nat → Prop) (x : Int) (e : Ending) (w' : World) : Prop :=
  ∃ st' N', e = .returned (.tuple #[.bool (decide (x ∉ xs)), .int .i64 0]) ∧ SR w' s k rb st' (insI xs x) N' ∧ 1 ≤ st' ∧ st' ≤ 1 + 6 * (dk k : Int) ∧ Fr (fun q => N q ∨ q = s) w w' ∧ ∀ q, N' q → N q ∨ w.heap.size ≤ q
def OutP (w : World) (e : Ending) (w' : World) : Prop := e = .returned (.tuple #[.bool false, .int .i64 2]) ∧ w = w'
theorem Insert_out {w : World} {s k rb : Nat} {st : Int} {xs : List Int} {N : Nat → Prop} (R : SR w s k rb st xs N) {x : Int} (hx : x < 0 ∨ ((2 ^ k : Nat) : Int) ≤ x) :
    Calls Try.prog 9 #[.pointer (some ⟨s, 0, none⟩), .int .i64 x] w (OutP w) := by
  have HO := Lib.hid (outside_any (x := x) R.blk R.k20)
  rw [decide_eq_true hx] at HO
  clear R hx
  go_enter Try.func9, Try.ntmps9
  go_wp2_with (go_at_call 35; refine (HO.out).mono ?_; rintro e w1 ⟨rfl, rfl⟩)
  go_ret2
  exact ⟨rfl, rfl⟩
theorem SR.zero {w : World} {s k rb : Nat} {st : Int} {xs : List Int} {N : Nat → Prop} (R : SR w s k rb st xs N) : SR (w.setCell ⟨s, 2, none⟩ (.int .i64 0)) s k rb 0 xs N :=
  { R with blk := R.blk.set 2 _, tr := R.tr.fr ((Fr.refl (onB s) w).setB 2 _) (fun q hq (e : q = s) => R.nf (e ▸ hq)), s0 := by omega, s1 := by omega }
theorem Insert_in {w : World} {s k rb : Nat} {st : Int} {xs : List Int} {N : Nat → Prop} (R : SR w s k rb st xs N) (x : Nat) (hx : x < 2 ^ k) (hl : xs.length ≤ 100000) :
    Calls Try.prog 9 #[.pointer (some ⟨s, 0, none⟩), .int .i64 x] w (InsP w s k rb xs N x) := by
  have HO := Lib.hid (outside_any (x := x) R.blk R.k20)
  rw [decide_eq_false (by omega)] at HO
  have HX := Lib.hid hx
  have z2 := R.blk.free 2
  have y2 := R.blk.cell (i := 2) rfl
  have y3 : w.cell? ⟨s, 3, none⟩ = some (.pointer (some ⟨rb, 0, none⟩)) := R.blk.cell (i := 3) rfl
  have HR := Lib.hid R.zero
  have HF := Lib.hid ((Fr.refl (onB s) w).setB 2 (.int .i64 0))
  have HN := Lib.hid R.lt
  have hd := dk_le k
  clear R hx
  go_enter Try.func9, Try.ntmps9
  go_wp2_with (go_at_call 35; refine (HO.out).mono ?_; rintro e w1 ⟨rfl, rfl⟩)
  clear y2 y3 z2
  generalize w.setCell ⟨s, 2, none⟩ (.int .i64 0) = w1 at *
  refine (insert_any _ _ _ _ _ _ _ _ _ _ _ _ HR.out.tr HX.out HR.out.blk HR.out.nf (by omega) (by omega) hd).mono ?_
  rintro e w2 ⟨r, st', rfl, hr, T2, g1, g2, B2, F2, _⟩
  have hT := Lib.hid T2
  have HB := Lib.hid B2
  have HF2 := Lib.hid F2
  have y1 : w2.cell? ⟨s, 1, none⟩ = some (.int .i64 xs.length) := B2.cell (i := 1) rfl
  have z1 := B2.free 1
  have hsz := F2.size
  have hsz1 := HF.out.size
  have HFF := Lib.hid ((HF.out.mono (S' := fun q => N q ∨ q = s) (fun q _ (e : q = s) => .inr e)).trans F2 (fun _ _ h => h))
  have hsN : ¬ Grw N w1 w2 s := fun e => e.elim HR.out.nf (fun e => by have := HN.out s (.inr rfl); omega)
  have HM := Lib.hid (show ∀ y : Nat, (memI xs y ∨ y = x) ↔ memI (insI xs x) y from fun y => by rw [show memI (insI xs x) y ↔ ((y : Int) ∈ xs ∨ (y : Int) = x) from mem_insI, show ((y : Int) = (x : Int)) ↔ y = x by omega])
  have HPos := Lib.hid (show ∀ y ∈ insI xs (x : Int), 0 ≤ y from fun y hy => (mem_insI.1 hy).elim (HR.out.pos y) (fun e => by omega))
  clear T2 B2 F2
  cases r with
  | false =>
    have hm : (x : Int) ∈ xs := Decidable.byContradiction fun e => by have := hr.2 e; cases this
    have hi := insI_has HR.out.so hm
    have HI := Lib.hid (And.intro hm hi)
    clear hr hm hi
    go_wp2_with fail
    go_ret2
    refine ⟨st', Grw N w1 w2, ret_bi (decide_eq_false (fun e => e HI.out.1)).symm, ?_, by omega, by omega, HFF.out, fun q hq => hq.elim .inl (fun e => .inr (by omega))⟩
    exact ⟨HR.out.k1, HR.out.k20, by rw [HI.out.2]; exact HB.out, hT.out.ext HM.out, hsN, insI_sorted HR.out.so _, HPos.out, by omega, by omega⟩
  | true =>
    have hm : (x : Int) ∉ xs := hr.1 rfl
    have hi := insI_len hm
    have HI := Lib.hid (And.intro hm hi)
    clear hr hm hi
    go_wp2_with fail
    go_ret2
    have hg := (Fr.refl (onB s) w2).setB 1 (.int .i64 ((xs.length : Int) + 1))
    refine ⟨st', Grw N w1 w2, ret_bi (decide_eq_true HI.out.1).symm, ?_, by omega, by omega, ?_, fun q hq => hq.elim .inl (fun e => .inr (by omega))⟩
    · refine ⟨HR.out.k1, HR.out.k20, ?_, (hT.out.ext HM.out).fr hg (fun q hq (e : q = s) => hsN (e ▸ hq)), hsN, insI_sorted HR.out.so _, HPos.out, by omega, by omega⟩
      rw [HI.out.2]
      exact HB.out.set 1 _
    · exact HFF.out.trans hg (fun q _ (e : q = s) => .inr e)
theorem Contains_out {w : World} {s k rb : Nat} {st : Int} {xs : List Int} {N : Nat → Prop} (R : SR w s k rb st xs N) {x : Int} (hx : x < 0 ∨ ((2 ^ k : Nat) : Int) ≤ x) :
    Calls Try.prog 11 #[.pointer (some ⟨s, 0, none⟩), .int .i64 x] w (OutP w) := by
  have HO := Lib.hid (outside_any (x := x) R.blk R.k20)
  rw [decide_eq_true hx] at HO
  clear R hx
  go_enter Try.func11, Try.ntmps11
  go_wp2_with (go_at_call 35; refine (HO.out).mono ?_; rintro e w1 ⟨rfl, rfl⟩)
  go_ret2
  exact ⟨rfl, rfl⟩
def ConP (w : World) (s k rb : Nat) (xs : List Int) (N : Nat → Prop) (x : Int) (e : Ending) (w' : World) : Prop :=
  ∃ st', e = .returned (.tuple #[.bool (decide (x ∈ xs)), .int .i64 0]) ∧ SR w' s k rb st' xs N ∧ 1 ≤ st' ∧ st' ≤ 1 + (dk k : Int) ∧ Fr (fun q => N q ∨ q = s) w w'
theorem Contains_in {w : World} {s k rb : Nat} {st : Int} {xs : List Int} {N : Nat → Prop} (R : SR w s k rb st xs N) (x : Nat) (hx : x < 2 ^ k) :
    Calls Try.prog 11 #[.pointer (some ⟨s, 0, none⟩), .int .i64 x] w (ConP w s k rb xs N x) := by
  have HO := Lib.hid (outside_any (x := x) R.blk R.k20)
  rw [decide_eq_false (by omega)] at HO
  have HX := Lib.hid hx
  have z2 := R.blk.free 2
  have y2 := R.blk.cell (i := 2) rfl
  have y3 : w.cell? ⟨s, 3, none⟩ = some (.pointer (some ⟨rb, 0, none⟩)) := R.blk.cell (i := 3) rfl
  have HR := Lib.hid R.zero
  have HF := Lib.hid ((Fr.refl (onB s) w).setB 2 (.int .i64 0))
  have hd := dk_le k
  clear R hx
  go_enter Try.func11, Try.ntmps11
  go_wp2_with (go_at_call 35; refine (HO.out).mono ?_; rintro e w1 ⟨rfl, rfl⟩)
  clear y2 y3 z2
  generalize w.setCell ⟨s, 2, none⟩ (.int .i64 0) = w1 at *
  refine (has_any HR.out.tr HX.out HR.out.blk HR.out.nf (by omega) (by omega)).mono ?_
  rintro e w2 ⟨r, st', rfl, hr, g1, g2, B2, F2⟩
  have HB := Lib.hid B2
  have HF2 := Lib.hid F2
  have HRr := Lib.hid hr
  clear B2 F2 hr
  go_wp2_with fail
  go_ret2
  refine ⟨st', ?_, ⟨HR.out.k1, HR.out.k20, HB.out, HR.out.tr.fr HF2.out (fun q hq (e : q = s) => HR.out.nf (e ▸ hq)), HR.out.nf, HR.out.so, HR.out.pos, by omega, by omega⟩, by omega, by omega, (HF.out.mono (S' := fun q => N q ∨ q = s) (fun q _ (e : q = s) => .inr e)).trans HF2.out (fun q _ (e : q = s) => .inr e)⟩
  cases r with
  | true => exact ret_bi (decide_eq_true (HRr.out.1 rfl)).symm
  | false => exact ret_bi (decide_eq_false (fun e => by have := HRr.out.2 e; cases this)).symm
theorem Delete_out {w : World} {s k rb : Nat} {st : Int} {xs : List Int} {N : Nat → Prop} (R : SR w s k rb st xs N) {x : Int} (hx : x < 0 ∨ ((2 ^ k : Nat) : Int) ≤ x) :
    Calls Try.prog 10 #[.pointer (some ⟨s, 0, none⟩), .int .i64 x] w (OutP w) := by
  have HO := Lib.hid (Contains_out R hx)
  clear R hx
  go_enter Try.func10, Try.ntmps10
  go_wp2_with (go_at_call 11; refine (HO.out).mono ?_; rintro e w1 ⟨rfl, rfl⟩)
  go_ret2
  exact ⟨rfl, rfl⟩
def DelP (w : World) (s k rb : Nat) (xs : List Int) (N : Nat → Prop) (x : Int) (e : Ending) (w' : World) : Prop :=
  ∃ st', e = .returned (.tuple #[.bool (decide (x ∈ xs)), .int .i64 0]) ∧ SR w' s k rb st' (delI xs x) N ∧ 1 ≤ st' ∧ st' ≤ 2 + 7 * (dk k : Int) ∧ Fr (fun q => N q ∨ q = s) w w'
theorem Delete_in {w : World} {s k rb : Nat} {st : Int} {xs : List Int} {N : Nat → Prop} (R : SR w s k rb st xs N) (x : Nat) (hx : x < 2 ^ k) (hl : xs.length ≤ 100000) :
    Calls Try.prog 10 #[.pointer (some ⟨s, 0, none⟩), .int .i64 x] w (DelP w s k rb xs N x) := by
  have HO := Lib.hid (Contains_in R x hx)
  have hd := dk_le k
  clear R hx
  by_cases hm : (x : Int) ∈ xs
  · rw [show ConP w s k rb xs N x = fun e w' => ConP w s k rb xs N x e w' from rfl] at HO
    have hdl : ∀ so : xs.Pairwise (· < ·), (delI xs x).length + 1 = xs.length := fun so => delI_len so hm
    have HM := Lib.hid (And.intro hm hdl)
    clear hm hdl
    go_enter Try.func10, Try.ntmps10
    go_wp2_with fail
    refine (HO.out).mono ?_
    rintro e w1 ⟨st1, rfl, R1, g1, g2, F1⟩
    rw [decide_eq_true HM.out.1]
    have HR := Lib.hid R1
    have HF := Lib.hid F1
    have y3 : w1.cell? ⟨s, 3, none⟩ = some (.pointer (some ⟨rb, 0, none⟩)) := R1.blk.cell (i := 3) rfl
    have hlen := HM.out.2 R1.so
    clear R1 F1 HO
    go_wp2_with fail
    refine (remove_any _ _ _ _ _ _ _ _ _ _ _ _ HR.out.tr HM.out.1 HR.out.blk HR.out.nf (by omega) (by omega) hd).mono ?_
    rintro e w2 ⟨st2, rfl, T2, q1, q2, B2, F2, _⟩
    have hT := Lib.hid T2
    have HB := Lib.hid B2
    have HF2 := Lib.hid (HF.out.trans F2 (fun _ _ h => h))
    have y1 : w2.cell? ⟨s, 1, none⟩ = some (.int .i64 xs.length) := B2.cell (i := 1) rfl
    have z1 := B2.free 1
    have HW := Lib.hid (show (xs.length : Int) - 1 = (((delI xs x).length : Nat) : Int) by omega)
    have hne : 1 ≤ xs.length := by omega
    clear T2 B2 F2 hlen
    go_wp2_with fail
    go_ret2
    rw [HW.out]
    have hg := (Fr.refl (onB s) w2).setB 1 (.int .i64 ((delI xs x).length : Nat))
    refine ⟨st2, ret_bi (decide_eq_true HM.out.1).symm, ?_, by omega, by omega, HF2.out.trans hg (fun q _ (e : q = s) => .inr e)⟩
    exact ⟨HR.out.k1, HR.out.k20, HB.out.set 1 _, (hT.out.ext (fun y => by rw [show memI (delI xs x) y ↔ ((y : Int) ∈ xs ∧ (y : Int) ≠ x) from mem_delI, show ((y : Int) ≠ (x : Int)) ↔ y ≠ x by omega])).fr hg (fun q hq (e : q = s) => HR.out.nf (e ▸ hq)), HR.out.nf, HR.out.so.filter _, fun y hy => HR.out.pos y (mem_delI.1 hy).1, by omega, by omega⟩
  · have HM := Lib.hid hm
    clear hm
    go_enter Try.func10, Try.ntmps10
    go_wp2_with fail
    refine (HO.out).mono ?_
    rintro e w1 ⟨st1, rfl, R1, g1, g2, F1⟩
    rw [decide_eq_false HM.out]
    go_wp2_with fail
    go_ret2
    exact ⟨st1, ret_bi (decide_eq_false HM.out).symm, by rw [delI_no HM.out]; exact R1, by omega, by omega, F1⟩
end Go.Proofs.Ytohblajdeicfeaa
