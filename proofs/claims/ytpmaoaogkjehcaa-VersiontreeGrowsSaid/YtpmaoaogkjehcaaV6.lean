/- The reference's Euler tour. -/
import Derived.Test.YtpmaoaogkjehcaaV5
import Derived.Test.YtpmaoaogkjehcaaCom4
namespace Go.Proofs.Ytpmaoaogkjehcaa
open Go.RowKit

abbrev nats (l : List Nat) : List Int := l.map Int.ofNat
/-- What an entry of the reference's stack still gives. -/
def dec (P : List Int) (s : Int) : List Nat := if s < 0 then [(-1 - s).toNat] else tour P s.toNat
def unw (P : List Int) (st : List Int) : List Nat := st.reverse.flatMap (dec P)
theorem unw_snoc (P : List Int) (st : List Int) (s : Int) : unw P (st ++ [s]) = dec P s ++ unw P st := by
  simp [unw]
theorem unw_app (P : List Int) (st r : List Int) : unw P (st ++ r) = unw P r ++ unw P st := by
  simp [unw]
theorem dec_pos {P : List Int} (hv : validB P = true) {s : Int} (hs : s < P.length) : 1 ≤ (dec P s).length := by
  unfold dec
  by_cases h : s < 0
  · simp [h]
  · rw [if_neg h, tour_eq hv (by omega)]; simp
theorem unw_len {P : List Int} (hv : validB P = true) : ∀ (st : List Int), (∀ s ∈ st, s < P.length) → st.length ≤ (unw P st).length := by
  intro st
  unfold unw
  generalize hr : st.reverse = r
  have : st.length = r.length := by rw [← hr]; simp
  rw [this]
  have hm : ∀ s, s ∈ st ↔ s ∈ r := by intro s; rw [← hr]; simp
  simp only [hm]
  clear hm this hr st
  induction r with
  | nil => intro _; simp
  | cons s r ih =>
    intro h
    have := ih (fun s hs => h s (by simp [hs]))
    have := dec_pos hv (h s (by simp))
    simp only [List.flatMap_cons, List.length_append, List.length_cons]; omega
theorem flatMap_map' {α β γ : Type} (g : α → β) (f : β → List γ) (l : List α) : (l.map g).flatMap f = l.flatMap (fun x => f (g x)) := by
  induction l with
  | nil => rfl
  | cons x l ih => rw [List.map_cons, List.flatMap_cons, List.flatMap_cons, ih]
theorem unw_kids (P : List Int) (n y : Nat) : unw P (kids P y n).reverse = (kN P n y).flatMap (tour P) := by
  unfold unw
  rw [List.reverse_reverse, kids_kN, flatMap_map']
  apply flatMap_congr'
  intro c _
  unfold dec
  rw [if_neg (by simp)]
  rfl
theorem unw_enter {P : List Int} (hv : validB P = true) {y : Nat} (hy : y < P.length) (st : List Int) :
    unw P (st ++ [(y : Int)]) = y :: unw P (st ++ [-1 - (y : Int)] ++ (kids P y P.length).reverse) := by
  rw [unw_snoc, unw_app, unw_snoc, unw_kids]
  have e1 : dec P (y : Int) = tour P y := by unfold dec; rw [if_neg (by omega)]; rfl
  have e2 : dec P (-1 - (y : Int)) = [y] := by unfold dec; rw [if_pos (by omega)]; congr 1; omega
  rw [e1, e2, tour_eq hv hy]
  simp
theorem take_snoc {xs : List Int} {m : Nat} {x : Int} (h : xs[m]? = some x) (hl : xs.length = m + 1) : xs = xs.take m ++ [x] := by
  rw [List.getElem?_eq_some_iff] at h
  obtain ⟨h1, rfl⟩ := h
  rw [List.take_append_getElem h1, List.take_of_length_le (by omega)]

set_option maxHeartbeats 2000000 in
theorem refEuler_any (a : Option Addr) (n c : Nat) (P : List Int) (w : World) (hr : Rd w a n (ints P)) (hv : validB P = true) :
    Calls Try.prog 17 #[VA a n c] w fun e w' => ∃ a' m c', e = .returned (.slice a' m c') ∧ Own w' w.heap.size 3 a' m c' (ints (nats (tour P 0))) ∧ Fr F0 w w' := by
  have hpl : P.length = n := by simpa using hr.len
  have hF : Fr F0 w (boxW w a n c) := (Fr.refl _ _).alloc _
  have hone : One (boxW w a n c) w.heap.size 24 (.slice a n c) := One.new 24 _
  have hone2 := hone.alloc (.cells #[.int .i64 0] 3)
  have hF2 := hF.alloc (.cells #[.int .i64 0] 3)
  have hO0 : Own ((boxW w a n c).alloc (.cells #[.int .i64 0] 3)) (w.heap.size + 1) 3 (some ⟨w.heap.size + 1, 0, none⟩) 1 1 (ints [0]) := by
    have h := Own.lit (w := boxW w a n c) (B := w.heap.size + 1) (T := 3) (ints [0]) 1 rfl (by simp) (by omega)
    simpa using h
  have hl := valid_len hv
  have htl := tour_len hv
  have hn1 : 1 ≤ n ∧ n ≤ 1000 := by omega
  obtain ⟨hn0, hn1⟩ := hn1
  rw [hpl] at htl
  have Hpl := Lib.hid hpl
  replace hv := Lib.hid hv
  have htl := Lib.hid htl
  clear hpl hl hone hF
  replace hO0 := Lib.hid hO0
  replace hone2 := Lib.hid hone2
  replace hF2 := Lib.hid hF2
  go_enter Try.func17, Try.ntmps17
  go_wp2_with fail
  go_loopw [3, 4] (fun x s wr => ∃ (a1 : Option Addr) (m1 c1 : Nat) (st : List Int) (a2 : Option Addr) (m2 c2 : Nat) (xs : List Int), x = .slice a1 m1 c1 ∧ s = .slice a2 m2 c2 ∧
    m2 + (unw P st).length = n * 2 ∧ Hid (nats (tour P 0) = xs ++ nats (unw P st)) ∧ Hid (∀ s ∈ st, -(n : Int) ≤ s ∧ s < n) ∧ Own wr (w.heap.size + 1) 3 a1 m1 c1 (ints st) ∧ Own wr (w.heap.size + 1) 3 a2 m2 c2 (ints xs) ∧ Hid (Apart a1 a2) ∧ One wr w.heap.size 24 (.slice a n c) ∧ Fr F0 w wr) (fun _ s _ => n * 2 - (match s with | .slice _ m _ => m | _ => 0))
  case atStart =>
    refine ⟨_, 1, 1, [0], none, 0, 0, [], rfl, rfl, ?_, Lib.hid ?_, Lib.hid ?_, by simpa using hO0.out, Own.nil _ _ _, Lib.hid (apart_none _), hone2.out, hF2.out⟩
    · simp [unw, dec, htl.out]
    · simp [unw, dec]
    · intro s hs; simp at hs; omega
  case round =>
    obtain ⟨a1, m1, c1, st, a2, m2, c2, xs, rfl, rfl, hlen, hu, hst, hS, hO, hap, hone, hF⟩ := hrel
    have hsz := hF.size
    have hsz1 := hone.lt
    by_cases hm : m1 = 0
    · have hst0 : st = [] := List.length_eq_zero_iff.1 (by have := hS.lens; omega)
      subst hst0
      have hx : Hid (nats (tour P 0) = xs) := Lib.hid (by rw [hu.out]; simp [unw])
      replace hO := Lib.hid hO
      clear hS hu hst
      subst hm
      go_wp2_with fail
      go_ret
      refine ⟨_, _, _, rfl, ?_, hF⟩
      rw [show ints (nats (tour P 0)) = ints xs by rw [hx.out]]
      exact hO.out.mono (by omega)
    · obtain ⟨m, rfl⟩ : ∃ m, m1 = m + 1 := ⟨m1 - 1, by omega⟩
      have hsl := hS.lens
      have hcap := hS.cap
      replace hcap : m ≤ c1 := by omega
      obtain ⟨b, o, z, hab, hz, hcell⟩ := hS.rd.ix (i := m) (by omega)
      have hzb := hst.out z (List.mem_of_getElem? hz)
      obtain ⟨hz1, hz2⟩ := hzb
      have esn := take_snoc hz hsl
      have hule := unw_len hv.out st (fun s hs => by have := (hst.out s hs).2; rw [Hpl.out]; omega)
      have hS1 := hS.take (k := m) (by omega)
      rw [← List.map_take] at hS1
      obtain ⟨st1, hst1⟩ : ∃ st1, st1 = st.take m := ⟨_, rfl⟩
      rw [← hst1] at esn hS1
      have hst2 : Hid (∀ s ∈ st1, -(n : Int) ≤ s ∧ s < n) := Lib.hid (fun s hs => hst.out s (by rw [hst1] at hs; exact List.mem_of_mem_take hs))
      have bO := Lib.hid hO.blk
      have bS := Lib.hid hS.blk
      have hnw1 : Hid (¬ onBlk a1 w.heap.size) := Lib.hid (fun h => absurd (bS.out _ h).1 (by omega))
      have hnw2 : Hid (¬ onBlk a2 w.heap.size) := Lib.hid (fun h => absurd (bO.out _ h).1 (by omega))
      subst esn
      subst hab
      replace hule := hule
      clear hz hst hm hst1 hS
      by_cases hz0 : z < 0
      · have e1 : unw P (st1 ++ [z]) = (-1 - z).toNat :: unw P st1 := by rw [unw_snoc, dec, if_pos hz0]; rfl
        rw [e1] at hlen hu hule
        simp only [List.length_cons] at hlen hule
        have hu2 : Hid (nats (tour P 0) = (xs ++ [-1 - z]) ++ nats (unw P st1)) := Lib.hid (by
          rw [hu.out]; simp; omega)
        clear hu e1
        go_wp2_with (at_builtin; refine wpAppAt E3 hO (by omega) (by omega) (by omega) rfl rfl rfl ?_; intro a' c' w' hO2 fr' at'; have hS2 := hS1.fr fr' hap.out; have hap2 : Hid (Apart (some ⟨b, o, none⟩) a') := Lib.hid (hap.out.symm.app at' (fun k h => (bS.out k h).2)).symm; have hone2 := hone.fr fr' hnw2.out; have hF2 : Fr F0 w w' := hF.trans fr' (fun k hk hs => absurd (bO.out _ hs).1 (by omega)))
        go_roundw
        case rel => exact ⟨_, m, c1, st1, a', m2 + 1, c', xs ++ [-1 - z], rfl, rfl, by omega, hu2, hst2, hS2, by simpa using hO2, hap2, hone2, hF2⟩
        case measure => simp; omega
      · obtain ⟨y, rfl⟩ := Int.eq_ofNat_of_zero_le (show 0 ≤ z by omega)
        have e1 := unw_enter hv.out (y := y) (by rw [Hpl.out]; omega) st1
        rw [Hpl.out] at e1
        rw [e1] at hlen hu hule
        simp only [List.length_cons] at hlen hule
        have hu2 : Hid (nats (tour P 0) = (xs ++ [(y : Int)]) ++ nats (unw P (st1 ++ [-1 - (y : Int)] ++ (kids P y n).reverse))) := Lib.hid (by
          rw [hu.out]; simp)
        clear hu e1
        go_wp2_with (at_builtin; first
          | (refine wpAppAt E3 hO (by omega) (by omega) (by omega) rfl rfl rfl ?_; intro a' c' w' hO2 fr' at'; have hS2 := hS1.fr fr' hap.out; have hap2 : Hid (Apart (some ⟨b, o, none⟩) a') := Lib.hid (hap.out.symm.app at' (fun k h => (bS.out k h).2)).symm; have hone2 := hone.fr fr' hnw2.out; have hF2 : Fr F0 w w' := hF.trans fr' (fun k hk hs => absurd (bO.out _ hs).1 (by omega)); have hl2 := hone2.lt; have bO2 := Lib.hid hO2.blk)
          | (refine wpAppAt E3 hS2 (by omega) (by omega) (by omega) rfl rfl rfl ?_; intro a'' c'' w'' hS3 fr'' at''; have hO3 := hO2.fr fr'' hap2.out.symm; have hap3 : Hid (Apart a'' a') := Lib.hid (hap2.out.app at'' (fun k h => (bO2.out k h).2)); have hone3 := hone2.fr fr'' hnw1.out; have hF3 : Fr F0 w w'' := hF2.trans fr'' (fun k hk hs => absurd (bS.out _ hs).1 (by omega)); have hl3 := hone3.lt; have hc3 := hone3.cell))
        refine (refChildren_any a n c P y _ (hr.fr0 hF3) hn1).mono ?_; rintro e w5 ⟨a3, q, c3, rfl, hK, F5⟩
        have hql := hK.lens
        have hqn := kids_len P y n
        have bS3 := Lib.hid hS3.blk
        have hapK : Hid (Apart a'' a3) := Lib.hid (fun k h1 h2 => absurd (bS3.out k h1).2 (by have := (hK.blk k h2).1; omega))
        have hKr := hK.rd
        replace hS3 := hS3.fr0 F5
        replace hO3 := hO3.fr0 F5
        replace hone3 := hone3.fr F5 id
        replace hF3 := hF3.trans0 F5
        have hq2 : q ≤ 1000 := by omega
        obtain ⟨kl, hkl⟩ : ∃ kl, kl = kids P y n := ⟨_, rfl⟩
        rw [← hkl] at hu2 hlen hql hKr hule
        have hkb : Hid (∀ s ∈ kl, -(n : Int) ≤ s ∧ s < n) := Lib.hid (by
          intro s hs
          rw [hkl, kids_kN] at hs
          obtain ⟨x, hx, rfl⟩ := List.mem_map.1 hs
          have := (mem_kN hx).1
          constructor <;> simp <;> omega)
        clear hK hkl hqn hc3 fr' fr'' at' at'' hS1 hS2 hO2 hone2 hF2 hone hF hO hcell F5
        go_wp2_with fail
        go_loopw [7, 3] (fun x s wr2 => ∃ (x1 : Int) (a4 : Option Addr) (j p c4 : Nat), -1 ≤ x1 ∧ (j : Int) + x1 + 1 = q ∧ p = m + 1 + j ∧ x = .int .i64 x1 ∧ s = .slice a4 p c4 ∧
          Own wr2 (w.heap.size + 1) 3 a4 p c4 (ints (st1 ++ [-1 - (y : Int)] ++ kl.reverse.take j)) ∧ Hid (Apart a4 a') ∧ Own wr2 (w.heap.size + 1) 3 a' (m2 + 1) c' (ints (xs ++ [(y : Int)])) ∧ Rd wr2 a3 q (ints kl) ∧ Hid (Apart a4 a3) ∧ One wr2 w.heap.size 24 (.slice a n c) ∧ Fr F0 w wr2) (fun x _ _ => (intOf x + 1).toNat)
        case atStart => exact ⟨(q : Int) - 1, a'', 0, m + 1, c'', by omega, by omega, by omega, by go_num, rfl, by simpa using hS3, hap3, by simpa using hO3, hKr, hapK, hone3, hF3⟩
        case round =>
          obtain ⟨x1, a4, j, p, c4, hx1, hj, hp, rfl, rfl, hS4, hap4, hO4, hK4, hapK4, hone4, hF4⟩ := hrel
          have hsz4 := hF4.size
          have hl4 := hone4.lt
          by_cases hlt : 0 ≤ x1
          · obtain ⟨i, rfl⟩ := Int.eq_ofNat_of_zero_le hlt
            obtain ⟨b5, o5, z5, hab5, hz5, hcell5⟩ := hK4.ix (i := i) (by omega)
            have hs := Lib.hid (take_rev_succ (j := j) hz5 (by omega))
            have bS4 := Lib.hid hS4.blk
            have hnw4 : Hid (¬ onBlk a4 w.heap.size) := Lib.hid (fun h => absurd (bS4.out _ h).1 (by omega))
            have bO4 := Lib.hid hO4.blk
            have bK4 := Lib.hid (hK4.lt (by omega))
            subst hab5
            subst hp
            clear hz5
            go_wp2_with (at_builtin; refine wpAppAt E3 hS4 (by omega) (by omega) (by omega) rfl rfl rfl ?_; intro a6 c6 w6 hS6 fr6 at6; have hO6 := hO4.fr fr6 hap4.out.symm; have hK6 := hK4.fr fr6 hapK4.out.symm; have hap6 : Hid (Apart a6 a') := Lib.hid (hap4.out.app at6 (fun k h => (bO4.out k h).2)); have hapK6 : Hid (Apart a6 (some ⟨b5, o5, none⟩)) := Lib.hid (hapK4.out.app at6 bK4.out); have hone6 := hone4.fr fr6 hnw4.out; have hF6 : Fr F0 w w6 := hF4.trans fr6 (fun k hk hs => absurd (bS4.out _ hs).1 (by omega)))
            go_roundw
            case rel => exact ⟨(i : Int) - 1, a6, j + 1, m + 1 + j + 1, c6, by omega, by omega, by omega, by go_num, rfl, by rw [hs.out]; simpa using hS6, hap6, hO6, hK6, hapK6, hone6, hF6⟩
            case measure => simp [intOf] <;> omega
          · have hjk : kl.reverse.take j = kl.reverse := List.take_of_length_le (by simp; omega)
            have hpk : p = m + 1 + kl.length := by omega
            have hst3 : Hid (∀ s ∈ st1 ++ [-1 - (y : Int)] ++ kl.reverse, -(n : Int) ≤ s ∧ s < n) := Lib.hid (by
              intro s hs
              simp only [List.mem_append, List.mem_singleton, List.mem_reverse] at hs
              rcases hs with (hs | rfl) | hs
              · exact hst2.out s hs
              · constructor <;> omega
              · exact hkb.out s hs)
            rw [hjk] at hS4
            clear hjk
            go_wp2_with fail
            go_roundw
            case rel => exact ⟨a4, p, c4, st1 ++ [-1 - (y : Int)] ++ kl.reverse, a', m2 + 1, c', xs ++ [(y : Int)], rfl, rfl, by omega, hu2, hst3, hS4, hO4, hap4, hone4, hF4⟩
            case measure => simp; omega

end Go.Proofs.Ytpmaoaogkjehcaa
