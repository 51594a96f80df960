/- Paths and children. -/
import Derived.Test.YtpmaoaogkjehcaaV2
namespace Go.Proofs.Ytpmaoaogkjehcaa
open Go.RowKit

theorem valid_len {P : List Int} (h : validB P = true) : 1 ≤ P.length ∧ P.length ≤ 1000 ∧ P.getD 0 0 = -1 := by
  simp [validB] at h; simpa using ⟨by omega, h.1.1.2, h.1.2⟩
theorem valid_par {P : List Int} (h : validB P = true) {x : Nat} (hx : x < P.length) : -1 ≤ P.getD x 0 ∧ P.getD x 0 < x ∧ (0 < x → 0 ≤ P.getD x 0) := by
  cases x with
  | zero => have := (valid_len h).2.2; omega
  | succ x =>
    simp only [validB, validK, Bool.and_eq_true, List.all_eq_true, List.mem_range, decide_eq_true_eq] at h
    have := h.2 x (by omega)
    refine ⟨by omega, by omega, fun _ => this.1⟩

theorem getI_ix (P : List Int) (y : Nat) : getI P (y : Int) = P.getD y 0 := rfl
/-- The versions upwards from x. -/
def upL (P : List Int) : Nat → Int → List Int
  | 0, _ => []
  | f + 1, x => if 0 ≤ x then x :: upL P f (getI P x) else []
theorem upL_neg (P : List Int) (f : Nat) {x : Int} (h : x < 0) : upL P f x = [] := by
  cases f with
  | zero => rfl
  | succ f => rw [upL, if_neg (by omega)]
theorem upL_fuel {P : List Int} (h : validB P = true) : ∀ (f f' : Nat) (x : Int), x < P.length → x < f → x < f' → upL P f x = upL P f' x := by
  intro f
  induction f with
  | zero => intro f' x _ h1 _; rw [upL_neg _ _ (by omega), upL_neg _ _ (by omega)]
  | succ f ih =>
    intro f' x hx h1 h2
    by_cases h0 : 0 ≤ x
    · cases f' with
      | zero => omega
      | succ f' =>
        obtain ⟨y, rfl⟩ := Int.eq_ofNat_of_zero_le h0
        have := valid_par h (x := y) (by omega)
        rw [upL, upL, if_pos h0, if_pos h0, ih f' (getI P y) (by rw [getI_ix]; omega) (by rw [getI_ix]; omega) (by rw [getI_ix]; omega)]
    · rw [upL_neg _ _ (by omega), upL_neg _ _ (by omega)]
def chain (P : List Int) (x : Int) : List Int := upL P (x.toNat + 1) x
theorem chain_neg (P : List Int) {x : Int} (h : x < 0) : chain P x = [] := upL_neg _ _ h
theorem chain_pos {P : List Int} (h : validB P = true) {x : Nat} (hx : x < P.length) : chain P x = (x : Int) :: chain P (P.getD x 0) := by
  have := valid_par h hx
  unfold chain
  rw [upL, if_pos (by omega), upL_fuel h _ ((P.getD x 0).toNat + 1) (getI P x) (by rw [getI_ix]; omega) (by rw [getI_ix]; omega) (by rw [getI_ix]; omega), getI_ix]
/-- The children of v among the first k. -/
def kids (P : List Int) (v : Int) (k : Nat) : List Int := (List.range k).filterMap fun i => if P.getD i 0 = v then some (i : Int) else none
theorem kids_succ (P : List Int) (v : Int) (k : Nat) : kids P v (k + 1) = kids P v k ++ (if P.getD k 0 = v then [(k : Int)] else []) := by
  unfold kids
  rw [List.range_succ, List.filterMap_append]
  congr 1
  by_cases h : P.getD k 0 = v
  · simp only [List.filterMap_cons, List.filterMap_nil, h, if_true]
  · simp only [List.filterMap_cons, List.filterMap_nil, h, if_false]
theorem kids_len (P : List Int) (v : Int) (k : Nat) : (kids P v k).length ≤ k := by
  have := List.length_filterMap_le (fun i => if P.getD i 0 = v then some (i : Int) else none) (List.range k)
  simpa [kids] using this

theorem checkE_ok {P : List Int} {v : Int} (h : checkE P v = 0) : validB P = true ∧ 0 ≤ v ∧ v < P.length := by
  unfold checkE at h
  split at h
  · omega
  · split at h
    · omega
    · rename_i h1 h2
      simp [isB] at h1 h2
      exact ⟨h1, by omega, by omega⟩

set_option maxHeartbeats 1000000 in
theorem Path_any (a : Option Addr) (n c : Nat) (P : List Int) (v : Int) (w : World) (hr : Rd w a n (ints P)) (hc : n ≤ c) :
    Calls Try.prog 11 #[VA a n c, .int .i64 v] w fun e w' => ∃ a' m c', e = .returned (.tuple #[.slice a' m c', .int .i64 (checkE P v)]) ∧ Own w' w.heap.size 3 a' m c' (ints (if checkE P v = 0 then (chain P v).reverse else [])) ∧ Fr F0 w w' := by
  have hpl : P.length = n := by simpa using hr.len
  have hF : Fr F0 w (boxW w a n c) := (Fr.refl _ _).alloc _
  have hone : One (boxW w a n c) w.heap.size 24 (.slice a n c) := One.new 24 _
  by_cases hE : checkE P v = 0
  · obtain ⟨hv, hv0, hv1⟩ := checkE_ok hE
    obtain ⟨k0, rfl⟩ := Int.eq_ofNat_of_zero_le hv0
    have hl := (valid_len hv).2.1
    have Hpl := Lib.hid hpl
    replace hv := Lib.hid hv
    have hk0 : k0 < n := by omega
    have hn1 : n ≤ 1000 := by omega
    have HE := Lib.hid hE
    clear hpl hE hv0 hv1 hl
    go_enter Try.func11, Try.ntmps11
    go_wp2_with fail
    refine (check_any a n c P _ _ (hr.fr0 hF) hc).mono ?_; rintro e w1 ⟨rfl, F1⟩
    rw [HE.out]
    replace hone := hone.fr F1 id
    replace hF := hF.trans0 F1
    clear F1
    go_wp2_with fail
    go_loopw [1, 7] (fun x s wr => ∃ (x1 : Int) (a1 : Option Addr) (m c1 : Nat) (xs : List Int), -1 ≤ x1 ∧ x1 < n ∧ m + (x1 + 1).toNat ≤ 1000 ∧ x = .int .i64 x1 ∧ s = .slice a1 m c1 ∧ Own wr (w.heap.size + 1) 3 a1 m c1 (ints xs) ∧ Hid (chain P k0 = xs ++ chain P x1) ∧ One wr w.heap.size 24 (.slice a n c) ∧ Fr F0 w wr) (fun x _ _ => (intOf x + 1).toNat)
    case atStart => exact ⟨k0, none, 0, 0, [], by omega, by omega, by omega, rfl, rfl, Own.nil _ _ _, Lib.hid rfl, hone, hF⟩
    case round =>
      obtain ⟨x1, a1, m, c1, xs, hx0, hx1, hm, rfl, rfl, hown, hu, hone1, hF1⟩ := hrel
      have hsz := hF1.size
      have hsz1 := hone1.lt
      by_cases hlt : 0 ≤ x1
      · obtain ⟨y, rfl⟩ := Int.eq_ofNat_of_zero_le hlt
        have hyn : y < n := by omega
        have e4 := Lib.hid (chain_pos hv.out (x := y) (by have := Hpl.out; omega))
        have e5 := valid_par hv.out (x := y) (by have := Hpl.out; omega)
        obtain ⟨b, o, z, hab, hz, hcell⟩ := (hr.fr0 hF1).ix hyn
        have ez : P.getD y 0 = z := by simp [hz]
        rw [ez] at e4 e5
        obtain ⟨e5, e6, _⟩ := e5
        replace hu := hu.out
        rw [e4.out] at hu
        replace hu := Lib.hid hu
        have hcell1 := hone1.cell
        have hb1 := hr.lt (by omega) b ⟨o, none, hab⟩
        have hnb : Hid (¬ onBlk a1 b) := Lib.hid (fun h => absurd (hown.blk _ h).1 (by omega))
        have hnw : Hid (¬ onBlk a1 w.heap.size) := Lib.hid (fun h => absurd (hown.blk _ h).1 (by omega))
        subst hab
        clear hz ez e4
        go_wp2_with (at_builtin; refine wpApp1 E3 hown (by omega) (by omega) (by omega) rfl rfl rfl ?_; intro a' c' w' own' fr'; have hone2 := hone1.fr fr' hnw.out; have hF2 : Fr F0 w w' := hF1.trans fr' (fun k hk hs => absurd (hown.blk _ hs).1 (by omega)); have hcell3 := hone2.cell; have hcell4 := fr'.cell hcell hnb.out)
        go_roundw
        case rel => exact ⟨z, a', m + 1, c', xs ++ [(y : Int)], by omega, by omega, by omega, rfl, rfl, by simpa using own', Lib.hid (by rw [hu.out]; simp), hone2, hF2⟩
        case measure => simp [intOf]; omega
      · have h0 : x1 = -1 := by omega
        subst h0
        go_wp2_with fail
        refine (Reverse_any _ _ _ _ _ _ hown).mono ?_; rintro e w2 ⟨rfl, hO2, F2⟩
        replace hO2 := Lib.hid hO2
        replace F2 := Lib.hid F2
        go_wp2_with fail
        go_ret2
        refine ⟨_, _, _, rfl, ?_, hF1.trans F2.out (fun k hk hs => absurd (hown.blk _ hs).1 (by omega))⟩
        rw [hu.out, chain_neg P (by omega), List.append_nil, ← List.map_reverse]
        exact hO2.out.mono (by omega)
  · obtain ⟨q, hq⟩ : ∃ q, q = checkE P v := ⟨_, rfl⟩
    have hq0 : q ≠ 0 := by omega
    have hz : (q != 0) = true := by simpa using hq0
    rw [← hq]
    have Hq := Lib.hid hq
    replace hq0 := Lib.hid hq0
    clear hq hE hpl
    go_enter Try.func11, Try.ntmps11
    go_wp2_with fail
    refine (check_any a n c P _ _ (hr.fr0 hF) hc).mono ?_; rintro e w1 ⟨rfl, F1⟩
    rw [← Hq.out]
    go_wp2_with fail
    go_ret2
    refine ⟨_, _, _, rfl, ?_, hF.trans0 F1⟩
    exact Own.nil _ _ _

end Go.Proofs.Ytpmaoaogkjehcaa
