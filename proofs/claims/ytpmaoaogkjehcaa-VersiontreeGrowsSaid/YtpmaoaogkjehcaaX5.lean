/- The reference's Ancestor and Common; Tree. -/
import Derived.Test.YtpmaoaogkjehcaaX3
import Derived.Test.YtpmaoaogkjehcaaX4
namespace Go.Proofs.Ytpmaoaogkjehcaa
open Go.RowKit

set_option maxHeartbeats 1000000 in
theorem refAncestor_any (a : Option Addr) (n c : Nat) (P : List Int) (w : World) (hr : Rd w a n (ints P)) (hv : validB P = true) (u : Int) (b : Nat) (hb : b < P.length) :
    Calls Try.prog 28 #[VA a n c, .int .i64 u, .int .i64 b] w fun e w' => e = .returned (.bool (decide (u ∈ chain P b))) ∧ Fr F0 w w' := by
  have hpl : P.length = n := by simpa using hr.len
  have hF : Fr F0 w (boxW w a n c) := (Fr.refl _ _).alloc _
  have hone : One (boxW w a n c) w.heap.size 24 (.slice a n c) := One.new 24 _
  have hr2 := hr.fr0 hF
  have hc := hone.cell
  have hn1 := (valid_len hv).2.1
  have hbn : b < n := by omega
  rw [hpl] at hn1
  have Hpl := Lib.hid hpl
  replace hv := Lib.hid hv
  replace hF := Lib.hid hF
  clear hpl
  go_enter Try.func28, Try.ntmps28
  go_wp2_with fail
  go_loop [7] (fun k => ∃ x : Int, -1 ≤ x ∧ x < n ∧ k = .int .i64 x ∧ Hid (u ∈ chain P b ↔ u ∈ chain P x)) (fun k => (intOf k + 1).toNat)
  case atStart => exact ⟨b, by omega, by omega, rfl, Lib.hid Iff.rfl⟩
  case round =>
    obtain ⟨x, hx0, hx1, rfl, hI⟩ := hrel
    by_cases h0 : 0 ≤ x
    · obtain ⟨y, rfl⟩ := Int.eq_ofNat_of_zero_le h0
      have hyn : y < n := by omega
      obtain ⟨g, o, z, hab, hz, hcell⟩ := hr2.ix hyn
      have ez : P.getD y 0 = z := by simp [hz]
      have e4 := chain_pos hv.out (x := y) (by have := Hpl.out; omega)
      have e5 := valid_par hv.out (x := y) (by have := Hpl.out; omega)
      rw [ez] at e4 e5
      obtain ⟨e5, e6, _⟩ := e5
      by_cases hu : (y : Int) = u
      · have E : Hid (decide (u ∈ chain P b) = true) := Lib.hid (by rw [decide_eq_true_eq, hI.out, e4]; simp [hu])
        have hb2 : ((y : Int) == u) = true := by simpa using hu
        replace hu := Lib.hid hu
        subst hab
        clear e4 ez hz
        go_wp2_with fail
        go_ret
        exact ⟨ret_bool E.out.symm, hF.out⟩
      · have hb2 : ((y : Int) == u) = false := by simpa using hu
        have hI2 : Hid (u ∈ chain P b ↔ u ∈ chain P z) := Lib.hid (by rw [hI.out, e4]; simp; exact fun h => absurd h.symm hu)
        subst hab
        clear e4 ez hz hu
        go_wp2_with fail
        go_round
        case rel => exact ⟨z, by omega, by omega, rfl, hI2⟩
        case measure => simp [intOf]; omega
    · have E : Hid (decide (u ∈ chain P b) = false) := Lib.hid (by rw [decide_eq_false_iff_not, hI.out, chain_neg P (by omega)]; simp)
      go_wp2_with fail
      go_ret
      exact ⟨ret_bool E.out.symm, hF.out⟩

theorem mem_chain {P : List Int} (hv : validB P = true) {m b : Nat} (hb : b < P.length) : ((m : Int) ∈ chain P b) ↔ m ∈ chN P b := by
  rw [chain_chN hv b hb, List.mem_map]
  constructor
  · rintro ⟨y, hy, he⟩
    have : y = m := Int.ofNat_inj.1 he
    rw [← this]; exact hy
  · intro h; exact ⟨m, h, rfl⟩
theorem root_mem {P : List Int} (hv : validB P = true) {x : Nat} (hx : x < P.length) : 0 ∈ chN P x := (mem_chain hv hx).1 (chain_root hv x hx)

set_option maxHeartbeats 1000000 in
theorem refCommon_any (a : Option Addr) (n c : Nat) (P : List Int) (w : World) (hr : Rd w a n (ints P)) (hv : validB P = true) (u b : Nat) (hu : u < P.length) (hb : b < P.length) :
    Calls Try.prog 29 #[VA a n c, .int .i64 u, .int .i64 b] w fun e w' => e = .returned (.int .i64 (comV P u b)) ∧ Fr F0 w w' := by
  have hpl : P.length = n := by simpa using hr.len
  have hF : Fr F0 w (boxW w a n c) := (Fr.refl _ _).alloc _
  have hone : One (boxW w a n c) w.heap.size 24 (.slice a n c) := One.new 24 _
  have hn1 := (valid_len hv).2.1
  have hun : u < n := by omega
  rw [hpl] at hn1
  have Hpl := Lib.hid hpl
  replace hv := Lib.hid hv
  clear hpl
  go_enter Try.func29, Try.ntmps29
  go_wp2_with fail
  go_loopw [7] (fun k wr => ∃ m : Nat, m < n ∧ k = .int .i64 m ∧ Hid ((chN P u).find? (fun x => decide (x ∈ chN P b)) = (chN P m).find? (fun x => decide (x ∈ chN P b))) ∧ One wr w.heap.size 24 (.slice a n c) ∧ Fr F0 w wr) (fun k _ => (intOf k).toNat)
  case atStart => exact ⟨u, hun, rfl, Lib.hid rfl, hone, hF⟩
  case round =>
    obtain ⟨m, hm, rfl, hI, hone1, hF1⟩ := hrel
    have hmP : m < P.length := by rw [Hpl.out]; exact hm
    have hc1 := hone1.cell
    by_cases hin : m ∈ chN P b
    · have E : Hid (comV P u b = m) := Lib.hid (by
        unfold comV
        obtain ⟨l, hl⟩ := chN_ne hv.out hmP
        rw [hI.out, hl]
        simp [hin])
      have D : Hid (decide ((m : Int) ∈ chain P b) = true) := Lib.hid (by simpa [mem_chain hv.out hb] using hin)
      clear hin
      go_wp2_with fail
      refine (refAncestor_any a n c P _ (hr.fr0 hF1) hv.out m b hb).mono ?_; rintro e w1 ⟨rfl, F1⟩
      rw [D.out]
      replace hF1 := Lib.hid (hF1.trans0 F1)
      clear F1
      go_wp2_with fail
      go_ret
      exact ⟨ret_int (by rw [E.out]), hF1.out⟩
    · have D : Hid (decide ((m : Int) ∈ chain P b) = false) := Lib.hid (by simpa [mem_chain hv.out hb] using hin)
      have hm0 : 0 < m := by
        rcases Nat.eq_zero_or_pos m with h | h
        · subst h; exact absurd (root_mem hv.out hb) hin
        · exact h
      have hI2 : Hid ((chN P u).find? (fun x => decide (x ∈ chN P b)) = (chN P (par P m)).find? (fun x => decide (x ∈ chN P b))) := Lib.hid (by
        rw [hI.out, chN_pos hv.out hmP hm0]; simp [hin])
      obtain ⟨hp1, hp2⟩ := par_lt hv.out hmP hm0
      have hz : P[m]? = some (par P m : Int) := by rw [← hp2]; simp [hmP]
      replace hz := Lib.hid hz
      clear hin hp2
      go_wp2_with fail
      refine (refAncestor_any a n c P _ (hr.fr0 hF1) hv.out m b hb).mono ?_; rintro e w1 ⟨rfl, F1⟩
      rw [D.out]
      replace hF1 := hF1.trans0 F1
      replace hone1 := hone1.fr F1 id
      have hc1 := hone1.cell
      obtain ⟨g', o', z', hab', hz', hcell⟩ := (hr.fr0 hF1).ix hm
      rw [hz.out] at hz'
      injection hz' with hz'
      subst hz'
      subst hab'
      clear F1 hz
      go_wp2_with fail
      go_roundw
      case rel => exact ⟨par P m, by omega, rfl, hI2, hone1, hF1⟩
      case measure => simp [intOf]; omega

set_option maxHeartbeats 1000000 in
theorem Tree_any (w : World) (B x : Nat) (sa : Option Addr) (c : Nat) (P : List Int) (h : IX w B x sa c P) (hl : P.length ≤ 1000) :
    Calls Try.prog 27 #[.pointer (some ⟨x, 0, none⟩)] w fun e w' => ∃ a' c', e = .returned (VA a' P.length c') ∧ Own w' w.heap.size 3 a' P.length c' (ints P) ∧ Fr F0 w w' := by
  have h2 := (h.one.alloc (.cells #[.slice none 0 0] 24)).alloc (.cells #[.slice none 0 0] 24)
  have hc := h2.cell
  go_enter Try.func27, Try.ntmps27
  go_wp2_with fail
  have hF2 : Fr F0 w ((w.alloc (.cells #[.slice none 0 0] 24)).alloc (.cells #[.slice none 0 0] 24)) := ((Fr.refl _ _).alloc _).alloc _
  have r1 : One ((w.alloc (.cells #[.slice none 0 0] 24)).alloc (.cells #[.slice none 0 0] 24)) w.heap.size 24 (.slice none 0 0) := (One.new (w := w) 24 _).alloc _
  have r2 : One ((w.alloc (.cells #[.slice none 0 0] 24)).alloc (.cells #[.slice none 0 0] 24)) (w.heap.size + 1) 24 (.slice none 0 0) := by
    have h := One.new (w := w.alloc (.cells #[.slice none 0 0] 24)) 24 (.slice none 0 0)
    simpa using h
  clear h2 hc
  obtain ⟨b1, hb1⟩ : ∃ b1, b1 = w.heap.size := ⟨_, rfl⟩
  rw [← hb1] at r1 r2
  simp only [← hb1]
  have hm := h.own.max
  have Hb1 := Lib.hid hb1
  clear hb1
  go_loopw [5, 14] (fun _ i wr => ∃ (k : Nat) (a1 : Option Addr) (c1 : Nat), k ≤ P.length ∧ i = .int .i64 k ∧ Fr F0 w wr ∧ One wr b1 24 (.slice none 0 0) ∧ One wr (b1 + 1) 24 (.slice a1 k c1) ∧ Own wr (b1 + 2) 3 a1 k c1 (ints (P.take k))) (fun _ i _ => P.length - (intOf i).toNat)
  case atStart => exact ⟨0, none, 0, by omega, rfl, hF2, r1, r2, Own.nil _ _ _⟩
  case round =>
    obtain ⟨k, a1, c1, hk, rfl, hF, r1, r2, hown⟩ := hrel
    by_cases hlt : k < P.length
    · have HX := h.fr0 hF
      obtain ⟨g, rfl, d1, d2, d3⟩ := HX.at hlt
      obtain ⟨p, hp⟩ : ∃ p, p = P.getD k 0 := ⟨_, rfl⟩
      rw [← hp] at d1
      have l1 := ldTri g (k * 3) _ _ _ wr d1 d2 d3
      have ht : Hid (P.take k ++ [p] = P.take (k + 1)) := Lib.hid (by rw [List.take_succ_eq_append_getElem hlt, hp]; simp [hlt])
      have hxl := r2.lt
      have q1 := r1.alloc (.cells #[.int .i64 p, .int .i64 (dep P k), .int .i64 (jmp P k)] 68)
      have q2 := r2.alloc (.cells #[.int .i64 p, .int .i64 (dep P k), .int .i64 (jmp P k)] 68)
      have qF := hF.alloc (.cells #[.int .i64 p, .int .i64 (dep P k), .int .i64 (jmp P k)] 68)
      have qo := hown.alloc (.cells #[.int .i64 p, .int .i64 (dep P k), .int .i64 (jmp P k)] 68)
      have c2 := q2.cell
      have bO := Lib.hid hown.blk
      have hn1 : Hid (¬ onBlk a1 b1) := Lib.hid (fun hh => absurd (bO.out _ hh).1 (by omega))
      have hn2 : Hid (¬ onBlk a1 (b1 + 1)) := Lib.hid (fun hh => absurd (bO.out _ hh).1 (by omega))
      clear hp HX h l1
      go_wp2_with (at_builtin; refine wpAppAt E3 qo (by omega) (by omega) (by simp; omega) rfl rfl (by first | rfl | (show Value.slice (some ⟨wr.heap.size + 1, 0, none⟩) 1 1 = _; simp)) ?_; intro a' c' w' own' fr' at'; have s1 := q1.fr fr' hn1.out; have s2 := q2.fr fr' hn2.out; have sF : Fr F0 w w' := qF.trans fr' (fun k hk hs => absurd (bO.out _ hs).1 (by have := Hb1.out; omega)); have s2c := s2.cell; have s2f := s2.free)
      have t2 := s2.set (.slice a' (k + 1) c')
      have t1 := s1.other (p := ⟨b1 + 1, 0, none⟩) (by show b1 ≠ b1 + 1; omega) (.slice a' (k + 1) c')
      have tF : Fr F0 w (w'.setCell ⟨b1 + 1, 0, none⟩ (.slice a' (k + 1) c')) := sF.setCell (p := ⟨b1 + 1, 0, none⟩) (fun hh => absurd hh (by have := Hb1.out; simp only; omega)) _
      have tO := own'.other (p := ⟨b1 + 1, 0, none⟩) (fun hh => absurd (own'.blk _ hh).1 (by simp only; omega)) (.slice a' (k + 1) c')
      go_roundw
      case rel => exact ⟨k + 1, a', c', by omega, by go_num, tF, t1, t2, by rw [← ht.out]; simpa using tO⟩
      case measure => simp [intOf]; omega
    · obtain rfl : k = P.length := by omega
      have ht : Hid (P.take P.length = P) := Lib.hid (List.take_of_length_le (by omega))
      have c1' := r1.cell
      have c2' := r2.cell
      have f1' := r1.free
      have t1 := r1.set (.slice a1 P.length c1)
      have t1c := t1.cell
      have hn1 : ¬ onBlk a1 b1 := fun hh => absurd (hown.blk _ hh).1 (by omega)
      have tO := Lib.hid (hown.other (p := ⟨b1, 0, none⟩) hn1 (.slice a1 P.length c1))
      have tF := Lib.hid (hF.setCell (p := ⟨b1, 0, none⟩) (fun hh => absurd hh (by have := Hb1.out; simp only; omega)) (.slice a1 P.length c1))
      clear hn1 hown hF
      go_wp2_with fail
      refine bodyPost_ret (v := VA a1 P.length c1) (by simp [results, Try.results27, go_sem, t1c]) rfl ⟨a1, c1, rfl, ?_, tF.out⟩
      have h3 := tO.out
      rw [ht.out] at h3
      exact h3.mono (by have := Hb1.out; omega)
theorem Tree_nil (w : World) :
    Calls Try.prog 27 #[.pointer none] w fun e w' => e = .returned (VA none 0 0) ∧ Fr F0 w w' := by
  have r1 : One ((w.alloc (.cells #[.slice none 0 0] 24))) w.heap.size 24 (.slice none 0 0) := One.new (w := w) 24 _
  have c1 := r1.cell
  have f1 := r1.free
  have tF := Lib.hid ((Fr.refl F0 w).alloc (.cells #[.slice none 0 0] 24))
  go_enter Try.func27, Try.ntmps27
  go_wp2_with fail
  refine bodyPost_ret (v := VA none 0 0) (by simp [results, Try.results27, go_sem]) rfl ⟨rfl, tF.out⟩

end Go.Proofs.Ytpmaoaogkjehcaa
