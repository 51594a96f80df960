/- The reference: Insert, Delete. -/
import Derived.Test.YtohblajdeicfeaaE20
import Derived.Test.YtohblajdeicfeaaCom6
import Derived.Test.YtohblajdeicfeaaCom9
namespace Go.Proofs.Ytohblajdeicfeaa
open Go.RowKit
attribute [local go_sem ↓] Go.wp_at_zero Go.wp_at_succ
theorem insI_split {xs : List Int} {x : Int} (hx : x ∉ xs) {i : Nat} (h1 : ∀ y ∈ xs.take i, y < x) (h2 : ∀ y, xs[i]? = some y → x < y) : insI xs x = xs.take i ++ x :: xs.drop i := by
  induction xs generalizing i with
  | nil => simp [insI]
  | cons a l ih =>
    cases i with
    | zero =>
      have := h2 a rfl
      simp only [insI]
      rw [if_pos this]; rfl
    | succ i =>
      have ha := h1 a (by simp)
      simp only [insI]
      rw [if_neg (by omega), if_neg (by omega), ih (i := i) (fun e => hx (List.mem_cons.2 (.inr e))) (fun y hy => h1 y (by simp [hy])) (fun y hy => h2 y (by simpa using hy))]
      rfl
/-- A list that the reference gives. -/
def RfP (a : Option Addr) (ys : List Int) (w : World) (e : Ending) (w' : World) : Prop :=
  ∃ a' n' c', e = .returned (.slice a' n' c') ∧ Rd w' a' n' (ints ys) ∧ n' ≤ c' ∧ (∀ q, onBlk a' q → onBlk a q ∨ (w.heap.size ≤ q ∧ q < w'.heap.size)) ∧ Fr F0 w w'
set_option maxHeartbeats 1000000 in
theorem refInsert_any (a : Option Addr) (n c : Nat) (xs : List Int) (x : Int) (w : World) (hr : Rd w a n (ints xs)) (hc : n ≤ c) (so : xs.Pairwise (· < ·)) (hmax : n ≤ 100000) :
    Calls Try.prog 18 #[.slice a n c, .int .i64 x] w (RfP a (insI xs x) w) := by
  have hn : xs.length = n := by simpa using hr.len
  have hH := Has_any a n c xs x w hr (by omega)
  by_cases hx : x ∈ xs
  · rw [decide_eq_true hx] at hH
    have HH := Lib.hid hH
    have HR := Lib.hid hr
    have HX := Lib.hid hx
    clear hH hr hx
    go_enter Try.func18, Try.ntmps18
    go_wp2_with (go_at_call 17; refine (HH.out).mono ?_; rintro e w1 ⟨rfl, rfl⟩)
    go_ret
    exact ⟨a, n, c, rfl, by rw [insI_has so HX.out]; exact HR.out, hc, fun q hq => .inl hq, Fr.refl _ _⟩
  · rw [decide_eq_false hx] at hH
    have HH := Lib.hid hH
    have HR := Lib.hid hr
    have HN := Lib.hid hn
    have HX := Lib.hid hx
    clear hH hr hn hx
    go_enter Try.func18, Try.ntmps18
    go_wp2_with (go_at_call 17; refine (HH.out).mono ?_; rintro e w1 ⟨rfl, rfl⟩)
    go_loopw [5] (fun s5 wr => ∃ i : Nat, i ≤ n ∧ s5 = .int .i64 i ∧ Hid (∀ y ∈ xs.take i, y < x) ∧ w = wr) (fun s5 _ => n - (intOf s5).toNat)
    case atStart => exact ⟨0, by omega, rfl, Lib.hid (by simp), rfl⟩
    case round =>
      obtain ⟨i, hi, rfl, HI, rfl⟩ := hrel
      by_cases hlt : i < n ∧ ∀ v, xs[i]? = some v → v < x
      · obtain ⟨hin, hv⟩ := hlt
        obtain ⟨b, o, v, ea, hv', hcell⟩ := HR.out.ix hin
        subst ea
        have hvx := hv v hv'
        have hil : i < xs.length := by have := HN.out; omega
        have Hno := Lib.hid (show ∀ y ∈ xs.take (i + 1), y < x by
          rw [← List.take_append_getElem hil]
          intro y hy
          rcases List.mem_append.1 hy with hy | hy
          · exact HI.out y hy
          · have e := List.mem_singleton.1 hy
            rw [e]
            rw [List.getElem?_eq_getElem hil] at hv'
            injection hv' with hv'
            omega)
        clear hv hv'
        go_wp2_with fail
        go_roundw
        case rel => exact ⟨i + 1, by omega, by go_num, Hno, trivial⟩
        case measure => simp [intOf]; omega
      · have Hsp := Lib.hid (insI_split HX.out HI.out (fun y hy => by
          have hne : y ≠ x := fun e => HX.out (e ▸ List.mem_of_getElem? hy)
          have hiy : i < n := by rw [← HN.out]; exact (List.getElem?_eq_some_iff.1 hy).1
          have : ¬ y < x := fun e => hlt ⟨hiy, fun v hv => by rw [hy] at hv; injection hv with hv; omega⟩
          omega))
        obtain ⟨m, hm⟩ : ∃ m, n = i + m := ⟨n - i, by omega⟩
        have r1 : Hid (Rd w (cutA a c 0) i (ints (xs.take i))) := Lib.hid (by have h := HR.out.cutHi hc (k := i) hi; simpa [ints] using h)
        have r2 : Hid (Rd w (cutA a c i) m (ints (xs.drop i))) := Lib.hid (by have h := HR.out.cut hc (k := i) (r := m) hm; simpa [ints] using h)
        have s1 : ∀ w, (Instr.sliceAt 23 (.slice a n c) none (some (.int .i64 i)) none).run Try.prog w = .ok (.slice (cutA a c 0) i c) w := fun w => run_cutHi E3 w a (by omega) rfl
        have s2 : ∀ w, (Instr.sliceAt 23 (.slice a n c) (some (.int .i64 i)) none none).run Try.prog w = .ok (.slice (cutA a c i) m (c - i)) w := fun w => run_cutLo E3 w a hm rfl
        have OA : Hid (Own (w.alloc (.cells (#[] : Array Value) 3)) w.heap.size 3 (some ⟨w.heap.size, 0, none⟩) 0 0 (ints [])) := Lib.hid (Own.lit [] 0 rfl (by omega) (by omega))
        have FA : Hid (Fr F0 w (w.alloc (.cells (#[] : Array Value) 3))) := Lib.hid ((Fr.refl _ _).alloc _)
        have e1 : Hid (0 + i = i) := Lib.hid (by omega)
        have e2 : Hid (i + 1 + m = n + 1) := Lib.hid (by omega)
        have Hm := Lib.hid hm
        have hmn : m ≤ n := by omega
        clear hm
        have hend := Lib.hid hlt
        clear hlt
        by_cases hin : i < n
        · obtain ⟨b, o, v, ea, hv', hcell⟩ := HR.out.ix hin
          have hvx : ¬ v < x := fun e => hend.out ⟨hin, fun u hu => by rw [hv'] at hu; injection hu with hu; omega⟩
          clear hv'
          subst ea
          go_wp2_with (first
            | (at_builtin; refine wpAppRd E3 OA.out (r1.out.fr0 FA.out) (oneCell_ints _) (by omega) (by omega) (by have := FA.out.size; omega) i e1.out rfl rfl ?_; intro a2 c2 w2 own2 fr2 at2; have O2 := Lib.hid own2; have F2 := Lib.hid (FA.out.trans fr2 (fun k hk hs => absurd (OA.out.blk _ hs).1 (by omega))); clear OA FA own2 fr2)
            | (at_builtin; refine wpAppAt E3 O2.out (by omega) (by omega) F2.out.size rfl rfl rfl ?_; intro a3 c3 w3 own3 fr3 at3; have O3 := Lib.hid own3; have F3 := Lib.hid (F2.out.trans fr3 (fun k hk hs => absurd (O2.out.blk _ hs).1 (by omega))); clear O2 F2 own3 fr3)
            | (at_builtin; refine wpAppRd E3 O3.out (r2.out.fr0 F3.out) (oneCell_ints _) (by omega) (by omega) F3.out.size (n + 1) e2.out rfl rfl ?_; intro a4 c4 w4 own4 fr4 at4; have O4 := Lib.hid own4; have F4 := Lib.hid (F3.out.trans fr4 (fun k hk hs => absurd (O3.out.blk _ hs).1 (by omega))); clear O3 F3 own4 fr4))
          go_ret
          refine ⟨a4, n + 1, c4, rfl, ?_, O4.out.cap, fun q hq => .inr (O4.out.blk q hq), F4.out⟩
          rw [Hsp.out]
          have h := O4.out.rd
          simpa [ints] using h
        · go_wp2_with (first
            | (at_builtin; refine wpAppRd E3 OA.out (r1.out.fr0 FA.out) (oneCell_ints _) (by omega) (by omega) (by have := FA.out.size; omega) i e1.out rfl rfl ?_; intro a2 c2 w2 own2 fr2 at2; have O2 := Lib.hid own2; have F2 := Lib.hid (FA.out.trans fr2 (fun k hk hs => absurd (OA.out.blk _ hs).1 (by omega))); clear OA FA own2 fr2)
            | (at_builtin; refine wpAppAt E3 O2.out (by omega) (by omega) F2.out.size rfl rfl rfl ?_; intro a3 c3 w3 own3 fr3 at3; have O3 := Lib.hid own3; have F3 := Lib.hid (F2.out.trans fr3 (fun k hk hs => absurd (O2.out.blk _ hs).1 (by omega))); clear O2 F2 own3 fr3)
            | (at_builtin; refine wpAppRd E3 O3.out (r2.out.fr0 F3.out) (oneCell_ints _) (by omega) (by omega) F3.out.size (n + 1) e2.out rfl rfl ?_; intro a4 c4 w4 own4 fr4 at4; have O4 := Lib.hid own4; have F4 := Lib.hid (F3.out.trans fr4 (fun k hk hs => absurd (O3.out.blk _ hs).1 (by omega))); clear O3 F3 own4 fr4))
          go_ret
          refine ⟨a4, n + 1, c4, rfl, ?_, O4.out.cap, fun q hq => .inr (O4.out.blk q hq), F4.out⟩
          rw [Hsp.out]
          have h := O4.out.rd
          simpa [ints] using h
end Go.Proofs.Ytohblajdeicfeaa
