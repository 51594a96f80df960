/- The reference: weight, Is, Up, Root, with. -/
import Derived.Test.YtfeokafjehpgnaaU9
namespace Go.Proofs.Ytfeokafjehpgnaa
open Go.RowKit
attribute [local go_sem ↓] Go.wp_at_zero Go.wp_at_succ
/-- The parents (-1: none) and the weights, as lists. -/
def QL (n : Nat) (P : Nat → Nat) : List Int := (List.range n).map fun i => (P (i + 1) : Int) - 1
def WL (n : Nat) (wt : Nat → Int) : List Int := (List.range n).map fun i => wt (i + 1)
theorem QL_length (n : Nat) (P : Nat → Nat) : (QL n P).length = n := by simp [QL]
theorem WL_length (n : Nat) (wt : Nat → Int) : (WL n wt).length = n := by simp [WL]
theorem QL_get {n : Nat} {P : Nat → Nat} {i : Nat} (h : i < n) : (QL n P)[i]? = some ((P (i + 1) : Int) - 1) := by
  unfold QL; rw [List.getElem?_map, List.getElem?_range h]; rfl
theorem WL_get {n : Nat} {wt : Nat → Int} {i : Nat} (h : i < n) : (WL n wt)[i]? = some (wt (i + 1)) := by
  unfold WL; rw [List.getElem?_map, List.getElem?_range h]; rfl
/-- The reference's forest. -/
structure RS (w : World) (B n : Nat) (wt : Nat → Int) (P : Nat → Nat) (wa : Option Addr) (wc : Nat) (pa : Option Addr) (pc : Nat) : Prop where
  ws : Rd w wa n (ints (WL n wt))
  ps : Rd w pa n (ints (QL n P))
  wb : ∀ k, onBlk wa k → B ≤ k
  pb : ∀ k, onBlk pa k → B ≤ k
abbrev rv (n : Nat) (wa : Option Addr) (wc : Nat) (pa : Option Addr) (pc : Nat) : Value := .agg #[.slice wa n wc, .slice pa n pc]
section
variable {w w' : World} {B n : Nat} {wt : Nat → Int} {P : Nat → Nat} {wa pa : Option Addr} {wc pc : Nat}
theorem RS.fr {S : Nat → Prop} (h : RS w B n wt P wa wc pa pc) (F : Fr S w w') (hS : ∀ k, B ≤ k → ¬ S k) : RS w' B n wt P wa wc pa pc :=
  ⟨h.ws.fr F (fun k hk => hS k (h.wb k hk)), h.ps.fr F (fun k hk => hS k (h.pb k hk)), h.wb, h.pb⟩
theorem RS.fr0 (h : RS w B n wt P wa wc pa pc) (F : Fr F0 w w') : RS w' B n wt P wa wc pa pc := h.fr F (fun _ _ => id)
theorem refweight_any (w : World) (x : Int) : Calls Try.prog 56 #[.int .i64 x] w fun e w' => e = .returned (.bool (decide (-1048576 ≤ x) && decide (x ≤ 1048576))) ∧ w = w' := by
  by_cases h0 : -1048576 ≤ x
  · rw [decide_eq_true h0, Bool.true_and]
    go_enter Try.func56, Try.ntmps56
    go_wp2_with fail
    go_ret
    exact ⟨rfl, rfl⟩
  · rw [decide_eq_false h0, Bool.false_and]
    go_enter Try.func56, Try.ntmps56
    go_wp2_with fail
    go_ret
    exact ⟨rfl, rfl⟩
theorem refIs_any (h : RS w B n wt P wa wc pa pc) (x : Int) :
    Calls Try.prog 15 #[rv n wa wc pa pc, .int .i64 x] w fun e w' => e = .returned (.bool (!outB n x)) ∧ Fr F0 w w' := by
  by_cases h0 : x < 0
  · have e : outB n x = true := by simp [outB, h0]
    rw [e]
    go_enter Try.func15, Try.ntmps15
    go_wp2_with fail
    go_ret
    exact ⟨rfl, (Fr.refl _ _).alloc _⟩
  · have e : outB n x = decide ((n : Int) ≤ x) := by simp [outB, h0]
    rw [e]
    have E := Lib.hid e
    clear e h
    have hB := Blk.new w 28 [.slice wa n wc, .slice pa n pc]
    have b1 := hB.cell (i := 1) rfl
    clear hB
    go_enter Try.func15, Try.ntmps15
    go_wp2_with fail
    go_ret
    refine ⟨ret_bool ?_, (Fr.refl _ _).alloc _⟩
    by_cases h5 : (n : Int) ≤ x
    · rw [decide_eq_true h5, decide_eq_false (by omega)]; rfl
    · rw [decide_eq_false h5, decide_eq_true (by omega)]; rfl
/-- y is 0, or y's way from the root. -/
def Wy (P : Nat → Nat) (y : Nat) (l : List Nat) : Prop := y = 0 ∧ l = [] ∨ y ≠ 0 ∧ K.Way P y l
theorem Wy.step {y : Nat} {l : List Nat} (h : Wy P y l) (hy : y ≠ 0) : ∃ o, l = o ++ [y] ∧ Wy P (P y) o := by
  rcases h with ⟨e, _⟩ | ⟨_, h⟩
  · exact absurd e hy
  · obtain ⟨o, rfl⟩ := h.last
    refine ⟨o, rfl, ?_⟩
    have hp := h.parent
    by_cases ho : o = []
    · exact .inl ⟨hp.1 ho, ho⟩
    · exact .inr (hp.2 ho)
/-- Numbers of vertices. -/
def dn (l : List Nat) : List Int := l.map fun x : Nat => (x : Int) - 1
def lenS : Value → Nat
  | .slice _ n _ => n
  | _ => 0
theorem par_le (hp : K.Par P (vts n)) {y : Nat} (hy : y ≤ n) (y0 : y ≠ 0) : P y ≤ n := by
  rcases hp.up y (mem_vts.2 ⟨y0, hy⟩) with e | e
  · omega
  · exact (mem_vts.1 e).2
set_option maxRecDepth 100000 in
theorem Up_any (hp : K.Par P (vts n)) (h : RS w B n wt P wa wc pa pc) {y : Nat} (hy : y ≤ n) (hn : n ≤ 60) {l : List Nat} (hl : Wy P y l) :
    Calls Try.prog 33 #[rv n wa wc pa pc, .int .i64 ((y : Int) - 1)] w fun e w' => ∃ a c, e = .returned (.slice a l.length c) ∧ Own w' w.heap.size 3 a l.length c (ints (dn l.reverse)) ∧ Fr F0 w w' := by
  have hlen : l.length ≤ n := by
    rcases hl with ⟨_, e⟩ | ⟨y0, hw⟩
    · rw [e]; exact Nat.zero_le _
    · have := hw.len hp (mem_vts.2 ⟨y0, hy⟩)
      rwa [vts_length] at this
  have HR := Lib.hid h
  have HP := Lib.hid hp
  have HW := Lib.hid hl
  have hB := Lib.hid (Blk.new w 28 [.slice wa n wc, .slice pa n pc])
  clear h hp hl
  go_enter Try.func33, Try.ntmps33
  go_wp2_with fail
  go_loopw [5, 6] (fun s5 s6 wr => ∃ (z : Nat) (l1 l2 : List Nat) (a : Option Addr) (m c : Nat), m = l2.length ∧ Hid (l = l1 ++ l2 ∧ Wy P z l1 ∧ Own wr (w.heap.size + 1) 3 a m c (ints (dn l2.reverse)) ∧ Fr F0 w wr ∧ Blk wr w.heap.size 28 [.slice wa n wc, .slice pa n pc]) ∧ z ≤ n ∧ s6 = .int .i64 ((z : Int) - 1) ∧ s5 = .slice a m c)
    (fun s5 _ _ => 61 - lenS s5)
  case atStart =>
    exact ⟨y, l, [], none, 0, 0, rfl, Lib.hid ⟨by simp, HW.out, Own.nil _ _ _, (Fr.refl _ _).alloc _, hB.out⟩, hy, rfl, rfl⟩
  case round =>
    obtain ⟨z, l1, l2, a, m, c, hm, HH, hz, rfl, rfl⟩ := hrel
    have hm' := Lib.hid hm
    by_cases z0 : z = 0
    · subst z0
      have e1 : l1 = [] := by
        rcases HH.out.2.1 with ⟨_, e⟩ | ⟨e, _⟩
        · exact e
        · exact absurd rfl e
      have e2 : l = l2 := by have := HH.out.1; rwa [e1] at this
      have e0 : ((0 : Nat) : Int) - 1 = -1 := by omega
      rw [e0]
      subst e2
      subst hm
      go_wp2_with fail
      go_ret
      exact ⟨a, c, rfl, HH.out.2.2.1.mono (by omega), HH.out.2.2.2.1⟩
    · obtain ⟨z, rfl⟩ : ∃ k, z = k + 1 := ⟨z - 1, by omega⟩
      have e0 : (((z + 1 : Nat) : Int)) - 1 = (z : Nat) := by omega
      rw [e0]
      obtain ⟨o, ho, hw'⟩ := HH.out.2.1.step z0
      have hpl := par_le HP.out hz z0
      have hlt : (z : Int) < (n : Int) := by omega
      have hm60 : m + 1 ≤ 60 := by
        have h1 := HH.out.1
        rw [ho] at h1
        have := congrArg List.length h1
        simp at this
        omega
      have HWy := Lib.hid (And.intro ho hw')
      have b1 := HH.out.2.2.2.2.cell (i := 1) rfl
      obtain ⟨pb, po, rfl, hc⟩ := HR.out.ps.cells (by omega)
      have d := (HH.out.2.2.2.1).cell (hc z _ (by unfold ints; rw [List.getElem?_map, QL_get (by omega)]; rfl)) id
      have hsz : w.heap.size + 1 ≤ wr.heap.size := by have := HH.out.2.2.2.2.lt; omega
      clear hc ho hw' z0 hm
      generalize hpz : P (z + 1) = p at *
      have HPZ := Lib.hid hpz
      clear hpz
      go_wp2_with (at_builtin; refine wpAppAt E3 HH.out.2.2.1 (by omega) (by omega) hsz (u := .int .i64 (z : Nat)) rfl rfl rfl ?_; intro a5 c5 w5 own5 fr5 at5; have hne : ¬ onBlk a w.heap.size := (fun e => by have := (HH.out.2.2.1.blk _ e).1; omega); have b5 := (HH.out.2.2.2.2.fr fr5 hne).cell (i := 1) rfl; have hnp : ¬ onBlk a pb := (fun e => by have h1 := (HH.out.2.2.1.blk _ e).1; have h2 := HR.out.ps.lt (by omega) pb ((onBlk_some _ _ _ _).2 rfl); omega); have d5 := fr5.cell d hnp; have HB5 := Lib.hid (HH.out.2.2.2.2.fr fr5 hne); replace own5 := Lib.hid own5; replace fr5 := Lib.hid fr5; clear b1 d)
      go_roundw
      case rel =>
        have FF : Fr F0 w w5 := ⟨fr5.out.os.trans HH.out.2.2.2.1.os, fr5.out.tape.trans HH.out.2.2.2.1.tape, fr5.out.output.trans HH.out.2.2.2.1.output, Nat.le_trans HH.out.2.2.2.1.size fr5.out.size, fun i hi hn => (fr5.out.block i (Nat.lt_of_lt_of_le hi HH.out.2.2.2.1.size) (fun e => by have := (HH.out.2.2.1.blk _ e).1; omega)).trans (HH.out.2.2.2.1.block i hi hn)⟩
        refine ⟨p, o, (z + 1) :: l2, a5, m + 1, c5, by rw [hm'.out]; rfl, Lib.hid ⟨?_, HPZ.out ▸ HWy.out.2, ?_, FF, HB5.out⟩, by omega, rfl, rfl⟩
        · rw [HH.out.1, HWy.out.1]; simp
        · have := own5.out
          have e3 : ints (dn ((z + 1) :: l2).reverse) = ints (dn l2.reverse) ++ [.int .i64 (z : Nat)] := by
            unfold ints dn
            simp
          rw [e3]
          exact this
      case measure => simp [lenS]; omega
end
end Go.Proofs.Ytfeokafjehpgnaa
