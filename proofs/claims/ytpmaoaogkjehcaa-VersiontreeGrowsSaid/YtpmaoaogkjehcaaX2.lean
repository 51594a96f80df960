/- The index: New, Len, check, Depth, up, Ancestor. -/
import Derived.Test.YtpmaoaogkjehcaaX1
import Derived.Test.YtpmaoaogkjehcaaCom4
import Derived.Test.YtpmaoaogkjehcaaSlContains
namespace Go.Proofs.Ytpmaoaogkjehcaa
open Go.RowKit

theorem EZ : ElemZ Try.prog 62 68 (.agg #[.int .i64 0, .int .i64 0, .int .i64 0]) 3 24 := ⟨rfl, by kernel_rfl, rfl⟩

/-- An index at x whose versions lie at a. -/
structure IX (w : World) (B x : Nat) (a : Option Addr) (c : Nat) (P : List Int) : Prop where
  one : One w x 64 (.slice a P.length c)
  own : OwnZ w B 68 3 a P.length c (tri (mkV P))
  off : ¬ onBlk a x
  from' : B ≤ x
theorem IX.fr {w w' : World} {B x : Nat} {a : Option Addr} {c : Nat} {P : List Int} (h : IX w B x a c P) {S : Nat → Prop} (f : Fr S w w') (h1 : ¬ S x) (h2 : ∀ k, onBlk a k → ¬ S k) : IX w' B x a c P :=
  ⟨h.one.fr f h1, h.own.fr f h2, h.off, h.from'⟩
theorem IX.fr0 {w w' : World} {B x : Nat} {a : Option Addr} {c : Nat} {P : List Int} (h : IX w B x a c P) (f : Fr F0 w w') : IX w' B x a c P := h.fr f id (fun _ _ => id)
theorem IX.alloc {w : World} {B x : Nat} {a : Option Addr} {c : Nat} {P : List Int} (h : IX w B x a c P) (o : Obj) : IX (w.alloc o) B x a c P := h.fr0 ((Fr.refl _ _).alloc o)
theorem IX.mono {w : World} {B B' x : Nat} {a : Option Addr} {c : Nat} {P : List Int} (h : IX w B x a c P) (hB : B' ≤ B) : IX w B' x a c P := ⟨h.one, h.own.mono hB, h.off, by have := h.from'; omega⟩
/-- The cells of a version. -/
theorem IX.at {w : World} {B x : Nat} {a : Option Addr} {c : Nat} {P : List Int} (h : IX w B x a c P) {i : Nat} (hi : i < P.length) :
    ∃ g, a = some ⟨g, 0, none⟩ ∧ w.cell? ⟨g, i * 3, none⟩ = some (.int .i64 (P.getD i 0)) ∧ w.cell? ⟨g, i * 3 + 1, none⟩ = some (.int .i64 (dep P i)) ∧ w.cell? ⟨g, i * 3 + 2, none⟩ = some (.int .i64 (jmp P i)) := by
  obtain ⟨g, hg, _, _, hc, _⟩ := h.own.at (by omega)
  obtain ⟨h1, h2, h3⟩ := tri_get _ _ _ (mkV_get P hi)
  exact ⟨g, hg, hc _ _ h1, hc _ _ h2, hc _ _ h3⟩

theorem New_any (w : World) : Calls Try.prog 34 #[] w fun e w' => ∃ x a c, e = .returned (.pointer (some ⟨x, 0, none⟩)) ∧ IX w' w.heap.size x a c [-1] ∧ Fr F0 w w' := by
  go_enter Try.func34, Try.ntmps34
  go_wp2_with fail
  go_ret
  have hO : OwnZ (w.alloc (.cells (tri (mkV [-1])).toArray 68)) w.heap.size 68 3 (some ⟨w.heap.size, 0, none⟩) 1 1 (tri (mkV [-1])) := OwnZ.lit _ 1 (by rw [mkV_start]; rfl) (by omega) (by omega)
  refine ⟨w.heap.size + 1, some ⟨w.heap.size, 0, none⟩, 1, rfl, ⟨?_, ?_, ?_, by omega⟩, ((Fr.refl _ _).alloc _).alloc _⟩
  · have h := One.new (w := w.alloc (.cells (tri (mkV [-1])).toArray 68)) 64 (.slice (some ⟨w.heap.size, 0, none⟩) 1 1)
    simpa [mkV_start, tri] using h
  · have h := hO.alloc (.cells #[.slice (some ⟨w.heap.size, 0, none⟩) 1 1] 64)
    simpa [mkV_start, tri] using h
  · rw [onBlk_some]; omega

theorem Len_any (w : World) (B x : Nat) (a : Option Addr) (c : Nat) (P : List Int) (h : IX w B x a c P) :
    Calls Try.prog 22 #[.pointer (some ⟨x, 0, none⟩)] w fun e w' => e = .returned (.int .i64 P.length) ∧ w = w' := by
  have hc := h.one.cell
  have hm := h.own.max
  go_enter Try.func22, Try.ntmps22
  go_wp2_with fail
  go_ret
  exact ⟨rfl, rfl⟩
theorem Len_nil (w : World) : Calls Try.prog 22 #[.pointer none] w fun e w' => e = .returned (.int .i64 0) ∧ w = w' := by
  go_enter Try.func22, Try.ntmps22
  go_wp2_with fail
  go_ret
  exact ⟨rfl, rfl⟩

/-- Out of range. -/
def outB (n : Nat) (v : Int) : Bool := decide (v < 0) || decide ((n : Int) ≤ v)
theorem check1_any (w : World) (B x q : Nat) (a : Option Addr) (c : Nat) (P : List Int) (h : IX w B x a c P) (hq : One w q 35 (.pointer (some ⟨x, 0, none⟩))) (v : Int) :
    Calls Try.prog 43 #[.int .i64 v, .pointer (some ⟨q, 0, none⟩)] w fun e w' => e = .returned (.bool (outB P.length v)) ∧ w = w' := by
  have hc := h.one.cell
  have hm := h.own.max
  have hqc := hq.cell
  by_cases h0 : v < 0
  · have E : Hid (outB P.length v = true) := Lib.hid (by unfold outB; simp [h0])
    go_enter Try.func43, Try.ntmps43
    go_wp2_with fail
    go_ret
    exact ⟨ret_bool E.out.symm, rfl⟩
  · have hd : decide (v < 0) = false := by simp; omega
    have E : Hid (outB P.length v = decide ((P.length : Int) ≤ v)) := Lib.hid (by unfold outB; rw [hd]; rfl)
    go_enter Try.func43, Try.ntmps43
    go_wp2_with fail
    go_ret
    exact ⟨ret_bool E.out.symm, rfl⟩

def checkI (n : Nat) (l : List Int) : Int := if l.any (outB n) = true then 24 else 0
set_option maxHeartbeats 1000000 in
theorem checkI_any (w : World) (B x : Nat) (a : Option Addr) (c : Nat) (P : List Int) (h : IX w B x a c P) (la : Option Addr) (ln lc : Nat) (l : List Int) (hl : Rd w la ln (ints l)) :
    Calls Try.prog 38 #[.pointer (some ⟨x, 0, none⟩), .slice la ln lc] w fun e w' => e = .returned (.int .i64 (checkI P.length l)) ∧ Fr F0 w w' := by
  have hq : One (w.alloc (.cells #[.pointer (some ⟨x, 0, none⟩)] 35)) w.heap.size 35 (.pointer (some ⟨x, 0, none⟩)) := One.new _ _
  have hF : Fr F0 w (w.alloc (.cells #[.pointer (some ⟨x, 0, none⟩)] 35)) := (Fr.refl _ _).alloc _
  have hqc := hq.cell
  have HX := Lib.hid (h.fr0 hF)
  replace hF := Lib.hid hF
  replace hq := Lib.hid hq
  cases hany : l.any (outB P.length)
  · have E : Hid (checkI P.length l = 0) := Lib.hid (by unfold checkI; rw [hany]; rfl)
    replace hany := Lib.hid hany
    go_enter Try.func38, Try.ntmps38
    go_wp2_with fail
    refine (ContainsFunc_cl _ (outB P.length) la ln lc l _ (hl.fr0 hF.out) (fun v => check1_any _ B x w.heap.size a c P HX.out hq.out v)).mono ?_; rintro e w' ⟨rfl, rfl⟩
    rw [hany.out]
    go_wp2_with fail
    go_ret
    exact ⟨ret_int E.out.symm, hF.out⟩
  · have E : Hid (checkI P.length l = 24) := Lib.hid (by unfold checkI; rw [hany]; rfl)
    replace hany := Lib.hid hany
    go_enter Try.func38, Try.ntmps38
    go_wp2_with fail
    refine (ContainsFunc_cl _ (outB P.length) la ln lc l _ (hl.fr0 hF.out) (fun v => check1_any _ B x w.heap.size a c P HX.out hq.out v)).mono ?_; rintro e w' ⟨rfl, rfl⟩
    rw [hany.out]
    go_wp2_with fail
    go_ret
    exact ⟨ret_int E.out.symm, hF.out⟩
theorem checkI_nil (w : World) (v : Value) :
    Calls Try.prog 38 #[.pointer none, v] w fun e w' => e = .returned (.int .i64 1) ∧ Fr F0 w w' := by
  have hq : One (w.alloc (.cells #[.pointer none] 35)) w.heap.size 35 (.pointer none) := One.new _ _
  have hqc := hq.cell
  go_enter Try.func38, Try.ntmps38
  go_wp2_with fail
  go_ret
  exact ⟨rfl, (Fr.refl _ _).alloc _⟩

/-- 'up' from m0 to depth d. -/
theorem up_any (w : World) (B x : Nat) (a : Option Addr) (c : Nat) (P : List Int) (h : IX w B x a c P) (hv : validB P = true) (b d : Nat) (hb : b < P.length) :
    Calls Try.prog 39 #[.pointer (some ⟨x, 0, none⟩), .int .i64 b, .int .i64 d] w fun e w' => e = .returned (.int .i64 (upV P b d)) ∧ Fr F0 w w' := by
  have hc := h.one.cell
  have hm := h.own.max
  have Hv := Lib.hid hv
  have hlen := (valid_len hv).2.1
  clear hv
  go_enter Try.func39, Try.ntmps39
  go_wp2_with fail
  go_loopw [1] (fun i wr => ∃ (m : Nat) (q : Nat), m < P.length ∧ i = .int .i64 m ∧ Hid (m ∈ chN P b ∧ (d ≤ dep P m ∨ m = b)) ∧ wr = w.drewN q) (fun i _ => (intOf i).toNat)
  case atStart => exact ⟨b, 0, hb, rfl, Lib.hid ⟨chN_self Hv.out hb, .inr rfl⟩, rfl⟩
  case round =>
    obtain ⟨m, q, hm1, rfl, hmem, rfl⟩ := hrel
    obtain ⟨g, rfl, c1, c2, c3⟩ := h.at hm1
    have hd1 := dep_le Hv.out m hm1
    have hj := jmp_dep Hv.out hm1
    obtain ⟨hj1, hj2⟩ := hj
    obtain ⟨g', hg, d1, d2, d3⟩ := h.at hj2
    injection hg with hg
    injection hg with hg
    subst hg
    clear d1 d3
    have hdj := dep_le Hv.out _ hj2
    by_cases hlt : d < dep P m
    · have hm0 : 0 < m := by omega
      have hp := par_lt Hv.out hm1 hm0
      have hdp := dep_pos Hv.out hm1 hm0
      obtain ⟨hp1, hp2⟩ := hp
      rw [hp2] at c1
      have Hj := (J_le (dep P m)).2 (by omega)
      have hjl : jmp P m < m := by
        have h1 := (chN_lt Hv.out hm1 (jmp_mem Hv.out hm1)).1
        rcases Nat.lt_or_ge (jmp P m) m with h2 | h2
        · exact h2
        · exfalso; have : jmp P m = m := by omega
          rw [this] at hj1; omega
      have mp : Hid (par P m ∈ chN P b) := Lib.hid (chN_trans Hv.out hb hmem.out.1 (by rw [chN_pos Hv.out hm1 hm0]; simp [chN_self Hv.out (x := par P m) (by omega)]))
      have mj : Hid (jmp P m ∈ chN P b) := Lib.hid (chN_trans Hv.out hb hmem.out.1 (jmp_mem Hv.out hm1))
      replace hj1 := Lib.hid hj1
      replace hp2 := Lib.hid hp2
      replace hdp := Lib.hid hdp
      by_cases hge : d ≤ dep P (jmp P m)
      · go_wp2_with fail
        go_quiet (fail)
        go_wp2_with fail
        go_roundw
        case rel => exact ⟨jmp P m, _, hj2, rfl, Lib.hid ⟨mj.out, .inl hge⟩, rfl⟩
        case measure => simp [intOf]; omega
      · go_wp2_with fail
        go_quiet (fail)
        go_wp2_with fail
        go_roundw
        case rel => exact ⟨par P m, _, by omega, rfl, Lib.hid ⟨mp.out, .inl (by have := hdp.out; omega)⟩, rfl⟩
        case measure => simp [intOf]; omega
    · have E : Hid (upV P b d = m) := Lib.hid (by
        obtain ⟨g1, g2⟩ := hmem.out
        have m1 := mem_anc Hv.out hb g1
        unfold upV
        rcases g2 with g2 | g2
        · have : dep P m = d := by omega
          split
          · rw [← this]; exact m1.2.1
          · exact (chN_eq Hv.out hb g1 (by omega)).symm
        · subst g2
          rw [if_neg hlt])
      replace hj1 := Lib.hid hj1
      go_wp2_with fail
      go_ret
      exact ⟨ret_int (by rw [E.out]), (Fr.refl _ _).drewN _⟩


theorem ret2 {a b c d : Value} (h1 : a = c) (h2 : b = d) : Ending.returned (.tuple #[a, b]) = .returned (.tuple #[c, d]) := by rw [h1, h2]
theorem val_int {a b : Int} (h : a = b) : Value.int .i64 a = .int .i64 b := by rw [h]
theorem val_bool {a b : Bool} (h : a = b) : Value.bool a = .bool b := by rw [h]
theorem checkI_in {n : Nat} {l : List Int} (h : ∀ v ∈ l, 0 ≤ v ∧ v < n) : checkI n l = 0 := by
  unfold checkI
  rw [if_neg]
  simp only [List.any_eq_true, not_exists]
  rintro v ⟨hv, ho⟩
  have := h v hv
  simp [outB] at ho
  omega
theorem checkI_out {n : Nat} {l : List Int} {v : Int} (hm : v ∈ l) (h : ¬ (0 ≤ v ∧ v < n)) : checkI n l = 24 := by
  unfold checkI
  rw [if_pos]
  rw [List.any_eq_true]
  exact ⟨v, hm, by simp [outB]; omega⟩

def depE (P : List Int) (v : Int) : Int × Int := if 0 ≤ v ∧ v < P.length then ((dep P v.toNat : Int), 0) else (0, 24)
theorem Depth_any (w : World) (B x : Nat) (a : Option Addr) (c : Nat) (P : List Int) (h : IX w B x a c P) (v : Int) :
    Calls Try.prog 26 #[.pointer (some ⟨x, 0, none⟩), .int .i64 v] w fun e w' => e = .returned (.tuple #[.int .i64 (depE P v).1, .int .i64 (depE P v).2]) ∧ Fr F0 w w' := by
  have hO : Own (w.alloc (.cells #[.int .i64 v] 3)) w.heap.size 3 (some ⟨w.heap.size, 0, none⟩) 1 1 (ints [v]) := by
    simpa using Own.lit (w := w) (B := w.heap.size) (T := 3) (ints [v]) 1 rfl (by simp) (by omega)
  have hF : Fr F0 w (w.alloc (.cells #[.int .i64 v] 3)) := (Fr.refl _ _).alloc _
  have HX := h.fr0 hF
  have hRd := hO.rd
  clear hO
  by_cases hin : 0 ≤ v ∧ v < P.length
  · have E : Hid (depE P v = ((dep P v.toNat : Int), 0)) := Lib.hid (by unfold depE; rw [if_pos hin])
    have E2 : Hid (checkI P.length [v] = 0) := Lib.hid (checkI_in (by simpa using hin))
    obtain ⟨h0, h1⟩ := hin
    obtain ⟨m, rfl⟩ := Int.eq_ofNat_of_zero_le h0
    have hm : m < P.length := by omega
    go_enter Try.func26, Try.ntmps26
    go_wp2_with fail
    refine (checkI_any _ B x a c P HX _ _ _ _ hRd).mono ?_; rintro e w1 ⟨rfl, F1⟩
    rw [E2.out]
    replace HX := HX.fr0 F1
    replace hF := Lib.hid (hF.trans0 F1)
    have hc := HX.one.cell
    have hmx := HX.own.max
    obtain ⟨g, rfl, c1, c2, c3⟩ := HX.at hm
    clear F1
    go_wp2_with fail
    go_ret2
    exact ⟨ret2 (val_int (congrArg Prod.fst E.out).symm) (val_int (congrArg Prod.snd E.out).symm), hF.out⟩
  · have E : Hid (depE P v = (0, 24)) := Lib.hid (by unfold depE; rw [if_neg hin])
    have E2 : Hid (checkI P.length [v] = 24) := Lib.hid (checkI_out (v := v) (by simp) hin)
    clear hin
    go_enter Try.func26, Try.ntmps26
    go_wp2_with fail
    refine (checkI_any _ B x a c P HX _ _ _ _ hRd).mono ?_; rintro e w1 ⟨rfl, F1⟩
    rw [E2.out]
    replace hF := Lib.hid (hF.trans0 F1)
    clear F1
    go_wp2_with fail
    go_ret2
    exact ⟨ret2 (val_int (congrArg Prod.fst E.out).symm) (val_int (congrArg Prod.snd E.out).symm), hF.out⟩

def inB (P : List Int) (v : Int) : Prop := 0 ≤ v ∧ v < P.length
instance (P : List Int) (v : Int) : Decidable (inB P v) := by unfold inB; infer_instance
def ancE (P : List Int) (a b : Int) : Bool × Int := if inB P a ∧ inB P b then (decide (a.toNat ∈ chN P b.toNat), 0) else (false, 24)
theorem Ancestor_any (w : World) (B x : Nat) (sa : Option Addr) (c : Nat) (P : List Int) (h : IX w B x sa c P) (hv : validB P = true) (a b : Int) :
    Calls Try.prog 24 #[.pointer (some ⟨x, 0, none⟩), .int .i64 a, .int .i64 b] w fun e w' => e = .returned (.tuple #[.bool (ancE P a b).1, .int .i64 (ancE P a b).2]) ∧ Fr F0 w w' := by
  have hO : Own (w.alloc (.cells #[.int .i64 a, .int .i64 b] 3)) w.heap.size 3 (some ⟨w.heap.size, 0, none⟩) 2 2 (ints [a, b]) := by
    simpa using Own.lit (w := w) (B := w.heap.size) (T := 3) (ints [a, b]) 2 rfl (by simp) (by omega)
  have hF : Fr F0 w (w.alloc (.cells #[.int .i64 a, .int .i64 b] 3)) := (Fr.refl _ _).alloc _
  have HX := h.fr0 hF
  have hRd := hO.rd
  replace hv := Lib.hid hv
  clear hO
  by_cases hin : inB P a ∧ inB P b
  · have E2 : Hid (checkI P.length [a, b] = 0) := Lib.hid (checkI_in (by intro v hm; simp at hm; rcases hm with rfl | rfl <;> first | exact hin.1 | exact hin.2))
    have E : Hid (ancE P a b = (decide (a.toNat ∈ chN P b.toNat), 0)) := Lib.hid (by unfold ancE; rw [if_pos hin])
    obtain ⟨⟨h0, h1⟩, h2, h3⟩ := hin
    obtain ⟨m, rfl⟩ := Int.eq_ofNat_of_zero_le h0
    obtain ⟨k, rfl⟩ := Int.eq_ofNat_of_zero_le h2
    have hm : m < P.length := by omega
    have hk : k < P.length := by omega
    have E3 := Lib.hid (upV_anc hv.out (a := m) (b := k) hk)
    go_enter Try.func24, Try.ntmps24
    go_wp2_with fail
    refine (checkI_any _ B x sa c P HX _ _ _ _ hRd).mono ?_; rintro e w1 ⟨rfl, F1⟩
    rw [E2.out]
    replace HX := HX.fr0 F1
    replace hF := Lib.hid (hF.trans0 F1)
    have hc := HX.one.cell
    have hmx := HX.own.max
    obtain ⟨g, rfl, c1, c2, c3⟩ := HX.at hm
    clear F1
    go_wp2_with fail
    refine (up_any _ B x _ c P HX hv.out k (dep P m) hk).mono ?_; rintro e w2 ⟨rfl, F2⟩
    replace hF := Lib.hid (hF.out.trans0 F2)
    clear F2
    go_wp2_with fail
    go_ret2
    refine ⟨ret2 (val_bool ?_) (val_int (congrArg Prod.snd E.out).symm), hF.out⟩
    rw [E.out]
    have h := E3.out
    rw [Bool.eq_iff_iff]
    simp [h, Int.ofNat_inj]
  · have E : Hid (ancE P a b = (false, 24)) := Lib.hid (by unfold ancE; rw [if_neg hin])
    have E2 : Hid (checkI P.length [a, b] = 24) := Lib.hid (by
      by_cases h1 : inB P a
      · exact checkI_out (v := b) (by simp) (fun h2 => hin ⟨h1, h2⟩)
      · exact checkI_out (v := a) (by simp) h1)
    clear hin
    go_enter Try.func24, Try.ntmps24
    go_wp2_with fail
    refine (checkI_any _ B x sa c P HX _ _ _ _ hRd).mono ?_; rintro e w1 ⟨rfl, F1⟩
    rw [E2.out]
    replace hF := Lib.hid (hF.trans0 F1)
    clear F1
    go_wp2_with fail
    go_ret2
    exact ⟨ret2 (val_bool (congrArg Prod.fst E.out).symm) (val_int (congrArg Prod.snd E.out).symm), hF.out⟩

end Go.Proofs.Ytpmaoaogkjehcaa
