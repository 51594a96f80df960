/- slices.ContainsFunc over items. -/
import Derived.Test.YtdphademoeofkaaS22
namespace Go.Proofs.Ytdphademoeofkaa
open Go.RowKit
theorem own_any37 (x : It) {w : World} {kb : Nat} {k : Int} (h : One w kb 3 (.int .i64 k)) : Calls Try.prog 37 #[x.agg, .pointer (some ⟨kb, 0, none⟩)] w fun e w' => e = .returned (.bool (x.own == k)) ∧ Fr F0 w w' := by
  have h0 : (w.alloc (.cells #[.int .i64 x.own, .int .i64 x.now, .bool x.inn] 44)).cell? ⟨kb, 0, none⟩ = some (.int .i64 k) := (h.alloc _).cell
  clear h
  unfold It.agg
  go_enter Try.func37, Try.ntmps37
  go_wp2_with fail
  go_ret
  exact ⟨rfl, (Fr.refl _ _).alloc _⟩
theorem own_any39 (x : It) {w : World} {kb : Nat} {k : Int} (h : One w kb 3 (.int .i64 k)) : Calls Try.prog 39 #[x.agg, .pointer (some ⟨kb, 0, none⟩)] w fun e w' => e = .returned (.bool (x.own == k)) ∧ Fr F0 w w' := by
  have h0 : (w.alloc (.cells #[.int .i64 x.own, .int .i64 x.now, .bool x.inn] 44)).cell? ⟨kb, 0, none⟩ = some (.int .i64 k) := (h.alloc _).cell
  clear h
  unfold It.agg
  go_enter Try.func39, Try.ntmps39
  go_wp2_with fail
  go_ret
  exact ⟨rfl, (Fr.refl _ _).alloc _⟩
def idxI (f : It → Bool) (l : List It) : Int := if l.any f then ((l.findIdx f : Nat) : Int) else -1
set_option maxHeartbeats 1000000 in
theorem IndexI36 (f : It → Bool) (a : Option Addr) (c : Nat) (l : List It) (w : World) (hp : Ks w a c l) (hn : l.length ≤ 100000)
    (hf : ∀ x w1, Fr F0 w w1 → Calls Try.prog 36 #[x.agg] w1 fun e w' => e = .returned (.bool (f x)) ∧ Fr F0 w1 w') :
    Calls Try.prog 50 #[.slice a l.length c, .func (.func 36) #[] #[]] w fun e w' => e = .returned (.int .i64 (idxI f l)) ∧ Fr F0 w w' := by
  obtain ⟨m, hm⟩ : ∃ m, m = l.length := ⟨_, rfl⟩
  have Hm := Lib.hid hm
  have HP := Lib.hid hp
  have HF := Lib.hid hf
  rw [← hm]
  rw [← hm] at hn
  clear hf hp hm
  go_enter Try.func50, Try.ntmps50
  go_wp2_with fail
  go_loopw [8] (fun i wr => ∃ k : Nat, k ≤ m ∧ i = .int .i64 k ∧ (l.take k).any f = false ∧ Fr F0 w wr) (fun i _ => m - (intOf i).toNat)
  case atStart => exact ⟨0, by omega, rfl, by simp, Fr.refl _ _⟩
  case round =>
    obtain ⟨k, hk, rfl, hno, hF⟩ := hrel
    replace hno := Lib.hid hno
    replace hF := Lib.hid hF
    by_cases hlt : k < m
    · obtain ⟨x, hx⟩ : ∃ x, l[k]? = some x := ⟨l[k]'(by rw [← Hm.out]; exact hlt), by simp⟩
      obtain ⟨g, rfl, hg, x0, x1, x2, _⟩ := Ks.at (HP.out.fr0 hF.out) hx
      have Hx := Lib.hid hx
      clear hx
      go_wp2_with fail
      refine (HF.out x _ hF.out).mono ?_
      rintro e w' ⟨rfl, F2⟩
      replace hF := Lib.hid (hF.out.trans0 F2)
      clear F2 x0 x1 x2
      cases hfx : f x
      · have Hfx := Lib.hid hfx
        clear hfx
        go_wp2_with fail
        go_round
        case rel => exact ⟨k + 1, by omega, by go_num, by rw [List.take_add_one, Hx.out, List.any_append, hno.out]; simpa using Hfx.out, hF.out⟩
        case measure => simp [intOf]; omega
      · have e : idxI f l = k := by
          have hx := Hx.out
          have hpl := Hm.out
          have hany : l.any f = true := List.any_eq_true.2 ⟨x, List.mem_of_getElem? hx, hfx⟩
          unfold idxI
          rw [if_pos hany]
          have h1 : l.findIdx f = k := by
            rw [List.findIdx_eq (by omega)]
            refine ⟨?_, fun j hj => ?_⟩
            · rw [List.getElem?_eq_getElem (by omega)] at hx
              injection hx with hx
              rw [hx]; exact hfx
            · have := hno.out
              rw [List.any_eq_false] at this
              have h2 := this (l[j]'(by omega)) (List.mem_take_iff_getElem.2 ⟨j, by omega, rfl⟩)
              simpa using h2
          rw [h1]
        have E := Lib.hid e
        clear hfx e
        go_wp2_with fail
        go_ret
        rw [E.out]
        exact ⟨rfl, hF.out⟩
    · obtain rfl : m = k := by omega
      have e : idxI f l = -1 := by
        have h := hno.out
        rw [List.take_of_length_le (by rw [Hm.out]; omega)] at h
        unfold idxI; rw [h]; rfl
      have E := Lib.hid e
      clear e
      go_wp2_with fail
      go_ret
      rw [E.out]
      exact ⟨rfl, hF.out⟩
theorem ContainsI36 (f : It → Bool) (a : Option Addr) (c : Nat) (l : List It) (w : World) (hp : Ks w a c l) (hn : l.length ≤ 100000)
    (hf : ∀ x w1, Fr F0 w w1 → Calls Try.prog 36 #[x.agg] w1 fun e w' => e = .returned (.bool (f x)) ∧ Fr F0 w1 w') :
    Calls Try.prog 35 #[.slice a l.length c, .func (.func 36) #[] #[]] w fun e w' => e = .returned (.bool (l.any f)) ∧ Fr F0 w w' := by
  have e : decide (0 ≤ idxI f l) = l.any f := by
    unfold idxI; cases l.any f <;> simp
  have E := Lib.hid e
  have H := Lib.hid (IndexI36 f a c l w hp hn hf)
  clear e hp hf
  generalize l.length = m at *
  go_enter Try.func35, Try.ntmps35
  go_wp2_with fail
  refine H.out.mono ?_
  rintro e w' ⟨rfl, F1⟩
  go_wp2_with fail
  go_ret
  rw [← E.out]
  exact ⟨rfl, F1⟩
set_option maxHeartbeats 1000000 in
theorem IndexI37 (f : It → Bool) (p : Option Addr) (a : Option Addr) (c : Nat) (l : List It) (w : World) (hp : Ks w a c l) (hn : l.length ≤ 100000)
    (hf : ∀ x w1, Fr F0 w w1 → Calls Try.prog 37 #[x.agg, .pointer p] w1 fun e w' => e = .returned (.bool (f x)) ∧ Fr F0 w1 w') :
    Calls Try.prog 50 #[.slice a l.length c, .func (.func 37) #[] #[.pointer p]] w fun e w' => e = .returned (.int .i64 (idxI f l)) ∧ Fr F0 w w' := by
  obtain ⟨m, hm⟩ : ∃ m, m = l.length := ⟨_, rfl⟩
  have Hm := Lib.hid hm
  have HP := Lib.hid hp
  have HF := Lib.hid hf
  rw [← hm]
  rw [← hm] at hn
  clear hf hp hm
  go_enter Try.func50, Try.ntmps50
  go_wp2_with fail
  go_loopw [8] (fun i wr => ∃ k : Nat, k ≤ m ∧ i = .int .i64 k ∧ (l.take k).any f = false ∧ Fr F0 w wr) (fun i _ => m - (intOf i).toNat)
  case atStart => exact ⟨0, by omega, rfl, by simp, Fr.refl _ _⟩
  case round =>
    obtain ⟨k, hk, rfl, hno, hF⟩ := hrel
    replace hno := Lib.hid hno
    replace hF := Lib.hid hF
    by_cases hlt : k < m
    · obtain ⟨x, hx⟩ : ∃ x, l[k]? = some x := ⟨l[k]'(by rw [← Hm.out]; exact hlt), by simp⟩
      obtain ⟨g, rfl, hg, x0, x1, x2, _⟩ := Ks.at (HP.out.fr0 hF.out) hx
      have Hx := Lib.hid hx
      clear hx
      go_wp2_with fail
      refine (HF.out x _ hF.out).mono ?_
      rintro e w' ⟨rfl, F2⟩
      replace hF := Lib.hid (hF.out.trans0 F2)
      clear F2 x0 x1 x2
      cases hfx : f x
      · have Hfx := Lib.hid hfx
        clear hfx
        go_wp2_with fail
        go_round
        case rel => exact ⟨k + 1, by omega, by go_num, by rw [List.take_add_one, Hx.out, List.any_append, hno.out]; simpa using Hfx.out, hF.out⟩
        case measure => simp [intOf]; omega
      · have e : idxI f l = k := by
          have hx := Hx.out
          have hpl := Hm.out
          have hany : l.any f = true := List.any_eq_true.2 ⟨x, List.mem_of_getElem? hx, hfx⟩
          unfold idxI
          rw [if_pos hany]
          have h1 : l.findIdx f = k := by
            rw [List.findIdx_eq (by omega)]
            refine ⟨?_, fun j hj => ?_⟩
            · rw [List.getElem?_eq_getElem (by omega)] at hx
              injection hx with hx
              rw [hx]; exact hfx
            · have := hno.out
              rw [List.any_eq_false] at this
              have h2 := this (l[j]'(by omega)) (List.mem_take_iff_getElem.2 ⟨j, by omega, rfl⟩)
              simpa using h2
          rw [h1]
        have E := Lib.hid e
        clear hfx e
        go_wp2_with fail
        go_ret
        rw [E.out]
        exact ⟨rfl, hF.out⟩
    · obtain rfl : m = k := by omega
      have e : idxI f l = -1 := by
        have h := hno.out
        rw [List.take_of_length_le (by rw [Hm.out]; omega)] at h
        unfold idxI; rw [h]; rfl
      have E := Lib.hid e
      clear e
      go_wp2_with fail
      go_ret
      rw [E.out]
      exact ⟨rfl, hF.out⟩
theorem ContainsI37 (f : It → Bool) (p : Option Addr) (a : Option Addr) (c : Nat) (l : List It) (w : World) (hp : Ks w a c l) (hn : l.length ≤ 100000)
    (hf : ∀ x w1, Fr F0 w w1 → Calls Try.prog 37 #[x.agg, .pointer p] w1 fun e w' => e = .returned (.bool (f x)) ∧ Fr F0 w1 w') :
    Calls Try.prog 35 #[.slice a l.length c, .func (.func 37) #[] #[.pointer p]] w fun e w' => e = .returned (.bool (l.any f)) ∧ Fr F0 w w' := by
  have e : decide (0 ≤ idxI f l) = l.any f := by
    unfold idxI; cases l.any f <;> simp
  have E := Lib.hid e
  have H := Lib.hid (IndexI37 f p a c l w hp hn hf)
  clear e hp hf
  generalize l.length = m at *
  go_enter Try.func35, Try.ntmps35
  go_wp2_with fail
  refine H.out.mono ?_
  rintro e w' ⟨rfl, F1⟩
  go_wp2_with fail
  go_ret
  rw [← E.out]
  exact ⟨rfl, F1⟩
set_option maxHeartbeats 1000000 in
theorem IndexI39 (f : It → Bool) (p : Option Addr) (a : Option Addr) (c : Nat) (l : List It) (w : World) (hp : Ks w a c l) (hn : l.length ≤ 100000)
    (hf : ∀ x w1, Fr F0 w w1 → Calls Try.prog 39 #[x.agg, .pointer p] w1 fun e w' => e = .returned (.bool (f x)) ∧ Fr F0 w1 w') :
    Calls Try.prog 50 #[.slice a l.length c, .func (.func 39) #[] #[.pointer p]] w fun e w' => e = .returned (.int .i64 (idxI f l)) ∧ Fr F0 w w' := by
  obtain ⟨m, hm⟩ : ∃ m, m = l.length := ⟨_, rfl⟩
  have Hm := Lib.hid hm
  have HP := Lib.hid hp
  have HF := Lib.hid hf
  rw [← hm]
  rw [← hm] at hn
  clear hf hp hm
  go_enter Try.func50, Try.ntmps50
  go_wp2_with fail
  go_loopw [8] (fun i wr => ∃ k : Nat, k ≤ m ∧ i = .int .i64 k ∧ (l.take k).any f = false ∧ Fr F0 w wr) (fun i _ => m - (intOf i).toNat)
  case atStart => exact ⟨0, by omega, rfl, by simp, Fr.refl _ _⟩
  case round =>
    obtain ⟨k, hk, rfl, hno, hF⟩ := hrel
    replace hno := Lib.hid hno
    replace hF := Lib.hid hF
    by_cases hlt : k < m
    · obtain ⟨x, hx⟩ : ∃ x, l[k]? = some x := ⟨l[k]'(by rw [← Hm.out]; exact hlt), by simp⟩
      obtain ⟨g, rfl, hg, x0, x1, x2, _⟩ := Ks.at (HP.out.fr0 hF.out) hx
      have Hx := Lib.hid hx
      clear hx
      go_wp2_with fail
      refine (HF.out x _ hF.out).mono ?_
      rintro e w' ⟨rfl, F2⟩
      replace hF := Lib.hid (hF.out.trans0 F2)
      clear F2 x0 x1 x2
      cases hfx : f x
      · have Hfx := Lib.hid hfx
        clear hfx
        go_wp2_with fail
        go_round
        case rel => exact ⟨k + 1, by omega, by go_num, by rw [List.take_add_one, Hx.out, List.any_append, hno.out]; simpa using Hfx.out, hF.out⟩
        case measure => simp [intOf]; omega
      · have e : idxI f l = k := by
          have hx := Hx.out
          have hpl := Hm.out
          have hany : l.any f = true := List.any_eq_true.2 ⟨x, List.mem_of_getElem? hx, hfx⟩
          unfold idxI
          rw [if_pos hany]
          have h1 : l.findIdx f = k := by
            rw [List.findIdx_eq (by omega)]
            refine ⟨?_, fun j hj => ?_⟩
            · rw [List.getElem?_eq_getElem (by omega)] at hx
              injection hx with hx
              rw [hx]; exact hfx
            · have := hno.out
              rw [List.any_eq_false] at this
              have h2 := this (l[j]'(by omega)) (List.mem_take_iff_getElem.2 ⟨j, by omega, rfl⟩)
              simpa using h2
          rw [h1]
        have E := Lib.hid e
        clear hfx e
        go_wp2_with fail
        go_ret
        rw [E.out]
        exact ⟨rfl, hF.out⟩
    · obtain rfl : m = k := by omega
      have e : idxI f l = -1 := by
        have h := hno.out
        rw [List.take_of_length_le (by rw [Hm.out]; omega)] at h
        unfold idxI; rw [h]; rfl
      have E := Lib.hid e
      clear e
      go_wp2_with fail
      go_ret
      rw [E.out]
      exact ⟨rfl, hF.out⟩
theorem ContainsI39 (f : It → Bool) (p : Option Addr) (a : Option Addr) (c : Nat) (l : List It) (w : World) (hp : Ks w a c l) (hn : l.length ≤ 100000)
    (hf : ∀ x w1, Fr F0 w w1 → Calls Try.prog 39 #[x.agg, .pointer p] w1 fun e w' => e = .returned (.bool (f x)) ∧ Fr F0 w1 w') :
    Calls Try.prog 35 #[.slice a l.length c, .func (.func 39) #[] #[.pointer p]] w fun e w' => e = .returned (.bool (l.any f)) ∧ Fr F0 w w' := by
  have e : decide (0 ≤ idxI f l) = l.any f := by
    unfold idxI; cases l.any f <;> simp
  have E := Lib.hid e
  have H := Lib.hid (IndexI39 f p a c l w hp hn hf)
  clear e hp hf
  generalize l.length = m at *
  go_enter Try.func35, Try.ntmps35
  go_wp2_with fail
  refine H.out.mono ?_
  rintro e w' ⟨rfl, F1⟩
  go_wp2_with fail
  go_ret
  rw [← E.out]
  exact ⟨rfl, F1⟩
/-- Some item is in the heap. -/
theorem someIn {w : World} {a : Option Addr} {c : Nat} {l : List It} (hp : Ks w a c l) (hn : l.length ≤ 100000) : Calls Try.prog 35 #[.slice a l.length c, .func (.func 36) #[] #[]] w fun e w' => e = .returned (.bool (l.any It.inn)) ∧ Fr F0 w w' :=
  ContainsI36 It.inn a c l w hp hn fun x w1 _ => in_any x w1
/-- A key is an own key. -/
theorem hasKey37 {w : World} {a : Option Addr} {c : Nat} {l : List It} {kb : Nat} {k : Int} (hp : Ks w a c l) (hn : l.length ≤ 100000) (h : One w kb 3 (.int .i64 k)) : Calls Try.prog 35 #[.slice a l.length c, .func (.func 37) #[] #[.pointer (some ⟨kb, 0, none⟩)]] w fun e w' => e = .returned (.bool (l.any fun x => x.own == k)) ∧ Fr F0 w w' :=
  ContainsI37 (fun x => x.own == k) _ a c l w hp hn fun x _ f => own_any37 x (h.fr f id)
theorem hasKey39 {w : World} {a : Option Addr} {c : Nat} {l : List It} {kb : Nat} {k : Int} (hp : Ks w a c l) (hn : l.length ≤ 100000) (h : One w kb 3 (.int .i64 k)) : Calls Try.prog 35 #[.slice a l.length c, .func (.func 39) #[] #[.pointer (some ⟨kb, 0, none⟩)]] w fun e w' => e = .returned (.bool (l.any fun x => x.own == k)) ∧ Fr F0 w w' :=
  ContainsI39 (fun x => x.own == k) _ a c l w hp hn fun x _ f => own_any39 x (h.fr f id)
theorem any_own {l : List It} {k : Int} (h : k ∈ l.map It.own) : (l.any fun x => x.own == k) = true := by
  obtain ⟨x, hx, e⟩ := List.mem_map.1 h
  exact List.any_eq_true.2 ⟨x, hx, by simpa using e⟩
end Go.Proofs.Ytdphademoeofkaa
