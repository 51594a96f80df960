/- The reference's Check. -/
import Derived.Test.YtglonedhcljdoaaC2
namespace Go.Proofs.Ytglonedhcljdoaa
open Go.RowKit

def badAt (xs : List Int) (k : Nat) : Bool := (decide (xs.getD k 0 < -1048576) || decide (1048576 < xs.getD k 0)) || (decide (0 < k) && decide (xs.getD k 0 < xs.getD (k - 1) 0))
def badR (xs : List Int) : Bool := (List.range xs.length).any (badAt xs)
theorem badR_false {xs : List Int} : badR xs = false ↔ ∀ k, k < xs.length → badAt xs k = false := by
  unfold badR
  rw [List.any_eq_false]
  simp
theorem badR_true {xs : List Int} {k : Nat} (hk : k < xs.length) (h : badAt xs k = true) : badR xs = true := by
  unfold badR
  exact List.any_eq_true.2 ⟨k, by simpa using hk, h⟩
theorem sort_le {xs : List Int} (h : sortB xs = true) : ∀ (j i : Nat), i ≤ j → j < xs.length → xs.getD i 0 ≤ xs.getD j 0 := by
  intro j
  induction j with
  | zero => intro i h1 h2; have : i = 0 := by omega
            subst this; omega
  | succ j ih =>
    intro i h1 h2
    by_cases he : i = j + 1
    · subst he; omega
    · have h3 := ih i (by omega) (by omega)
      have h4 := sortK_iff.1 h j (by omega) h2
      omega
theorem badR_badB (xs : List Int) : badR xs = badB xs := by
  cases hs : sortB xs with
  | false =>
    have e : badB xs = true := by unfold badB; rw [hs]; rfl
    rw [e]
    have hns : ¬ ∀ i, 0 ≤ i → i + 1 < xs.length → xs.getD i 0 ≤ xs.getD (i + 1) 0 := fun h => by have := sortK_iff.2 h; unfold sortB at hs; rw [this] at hs; cases hs
    simp only [Classical.not_forall] at hns
    obtain ⟨i, _, h1, h2⟩ := hns
    refine badR_true (k := i + 1) h1 ?_
    unfold badAt
    rw [show i + 1 - 1 = i by omega, show decide (xs.getD (i + 1) 0 < xs.getD i 0) = true by simpa using h2, show decide (0 < i + 1) = true by simp]
    simp
  | true =>
    by_cases h0 : xs.length = 0
    · have : xs = [] := List.length_eq_zero_iff.1 h0
      subst this; rfl
    · have e : badB xs = (decide (xs.getD 0 0 < -1048576) || decide (1048576 < xs.getD (xs.length - 1) 0)) := by
        unfold badB; rw [hs, show decide (0 < xs.length) = true by simp; omega]; simp
      rw [e]
      by_cases h1 : xs.getD 0 0 < -1048576
      · rw [badR_true (k := 0) (by omega) (by unfold badAt; rw [show decide (xs.getD 0 0 < -1048576) = true by simpa using h1]; simp)]
        rw [show decide (xs.getD 0 0 < -1048576) = true by simpa using h1]; rfl
      · by_cases h2 : 1048576 < xs.getD (xs.length - 1) 0
        · rw [badR_true (k := xs.length - 1) (by omega) (by unfold badAt; rw [show decide (1048576 < xs.getD (xs.length - 1) 0) = true by simpa using h2]; simp)]
          rw [show decide (1048576 < xs.getD (xs.length - 1) 0) = true by simpa using h2]; simp
        · rw [show decide (xs.getD 0 0 < -1048576) = false by simpa using h1, show decide (1048576 < xs.getD (xs.length - 1) 0) = false by simpa using h2]
          simp only [Bool.or_self]
          rw [badR_false]
          intro k hk
          have g1 := sort_le hs k 0 (by omega) hk
          have g2 := sort_le hs (xs.length - 1) k (by omega) (by omega)
          unfold badAt
          rw [show decide (xs.getD k 0 < -1048576) = false from decide_eq_false (by omega), show decide (1048576 < xs.getD k 0) = false from decide_eq_false (by omega)]
          simp only [Bool.or_self, Bool.false_or, Bool.and_eq_false_iff]
          by_cases hk0 : 0 < k
          · right
            have g3 := sort_le hs k (k - 1) (by omega) hk
            exact decide_eq_false (by omega)
          · left; exact decide_eq_false (by omega)
/-- The error of catalogs. -/
def checkC (L : List (List Int)) : Int := if 32 < L.length then 4 else if L.any longB = true then 4 else if L = [] then 1 else if L.any badB = true then 1 else 0

set_option maxHeartbeats 4000000 in
theorem refCheck_any (a : Option Addr) (n c : Nat) (R : List RowV) (w : World) (hr : ArgRows w a n c R) :
    Calls Try.prog 10 #[.slice a n c] w fun e w' => e = .returned (.int .i64 (checkC (catL R))) ∧ Fr F0 w w' := by
  have hpl := hr.len
  have hm := hr.rd.max
  have hcl : (catL R).length = n := by simpa [catL] using hpl
  by_cases h32 : 32 < n
  · have E : Hid (checkC (catL R) = 4) := Lib.hid (by unfold checkC; rw [if_pos (by omega)])
    clear hcl hpl
    go_enter Try.func10, Try.ntmps10
    go_wp2_with fail
    go_ret
    exact ⟨ret_int E.out.symm, Fr.refl _ _⟩
  · have Hcl := Lib.hid hcl
    have Hpl := Lib.hid hpl
    have H32 := Lib.hid h32
    have hz : decide ((32 : Int) < (n : Int)) = false := by simp; omega
    clear hcl hpl h32
    go_enter Try.func10, Try.ntmps10
    go_wp2_with fail
    go_loop [3] (fun i => ∃ k : Nat, k ≤ n ∧ i = .int .i64 k ∧ Hid (((catL R).take k).any longB = false)) (fun i => n - (intOf i).toNat)
    case atStart => exact ⟨0, by omega, rfl, Lib.hid (by simp)⟩
    case round =>
      obtain ⟨k, hk, rfl, hno⟩ := hrel
      by_cases hlt : k < n
      · obtain ⟨b, o, r, hb, hrk, d⟩ := hr.ix hlt
        have hrl := hr.rlen hrk
        have hrm := (hr.row k r hrk).max
        have hx : (catL R)[k]? = some r.xs := by simp [catL, hrk]
        obtain ⟨ra, rn, rc, rxs⟩ := r
        simp only [RowV.val] at *
        have Hx := Lib.hid hx
        have Hrl := Lib.hid hrl
        subst hb
        clear hx hrk hrl
        by_cases hlong : 1000 < rn
        · have hd : decide ((1000 : Int) < (rn : Int)) = true := by simp; omega
          have E : Hid (checkC (catL R) = 4) := Lib.hid (by
            unfold checkC
            rw [if_neg (by have := Hcl.out; have := H32.out; omega), if_pos]
            exact List.any_eq_true.2 ⟨rxs, List.mem_of_getElem? Hx.out, by unfold longB; rw [Hrl.out]; simpa using hlong⟩)
          replace hlong := Lib.hid hlong
          go_wp2_with fail
          go_ret
          exact ⟨ret_int E.out.symm, Fr.refl _ _⟩
        · have hd : decide ((1000 : Int) < (rn : Int)) = false := by simp; omega
          have hno2 : Hid (((catL R).take (k + 1)).any longB = false) := Lib.hid (by
            rw [List.take_add_one, Hx.out, List.any_append, hno.out]
            simp [longB, Hrl.out]; omega)
          replace hlong := Lib.hid hlong
          go_wp2_with fail
          go_round
          case rel => exact ⟨k + 1, by omega, by go_num, hno2⟩
          case measure => simp [intOf]; omega
      · obtain rfl : k = n := by omega
        have hnl : Hid ((catL R).any longB = false) := Lib.hid (by
          have h := hno.out
          rwa [List.take_of_length_le (by have := Hcl.out; omega)] at h)
        by_cases h0 : k = 0
        · have E : Hid (checkC (catL R) = 1) := Lib.hid (by
            have hc := Hcl.out
            unfold checkC
            rw [if_neg (by omega), if_neg (by rw [hnl.out]; simp), if_pos (List.length_eq_zero_iff.1 (by omega))])
          subst h0
          go_wp2_with fail
          go_ret
          exact ⟨ret_int E.out.symm, Fr.refl _ _⟩
        · have hz0 : ((k : Int) == 0) = false := by simp; omega
          have hne : Hid (catL R ≠ []) := Lib.hid (fun h => by have := Hcl.out; rw [h] at this; simp at this; omega)
          replace h0 := Lib.hid h0
          go_wp2_with fail
          go_loopw [4, 5] (fun i _ wr => ∃ p : Nat, p ≤ k ∧ i = .int .i64 p ∧ Hid (((catL R).take p).any badB = false) ∧ Fr F0 w wr) (fun i _ _ => k - (intOf i).toNat)
          case atStart => exact ⟨0, by omega, rfl, Lib.hid (by simp), Fr.refl _ _⟩
          case round =>
            obtain ⟨p, hp, rfl, hnb, hF⟩ := hrel
            by_cases hlt : p < k
            · obtain ⟨b, o, r, hb, hrk, d⟩ := hr.ix hlt
              have hrl := hr.rlen hrk
              have hrow := hr.row p r hrk
              have hrm := hrow.max
              have hx : (catL R)[p]? = some r.xs := by simp [catL, hrk]
              obtain ⟨ra, rn, rc, rxs⟩ := r
              simp only [RowV.val] at *
              have Hx := Lib.hid hx
              have Hrl := Lib.hid hrl
              have i1 : (0 : Int) ≤ (p : Int) := by omega
              have i2 : (p : Int) < (k : Int) := by omega
              subst hb
              have hd := hF.cell d id
              obtain ⟨wo, hwo⟩ : ∃ wo : World, wo = wr := ⟨_, rfl⟩
              clear hx hrk hrl hwo wo
              go_wp2_with fail
              go_loopw [5] (fun j wr => ∃ q : Nat, q ≤ rn ∧ j = .int .i64 q ∧ Hid (∀ i, i < q → badAt rxs i = false) ∧ Fr F0 w wr) (fun j _ => rn - (intOf j).toNat)
              case atStart => exact ⟨0, by omega, rfl, Lib.hid (fun i h => by omega), hF⟩
              case round =>
                obtain ⟨q, hq, rfl, hok, hF⟩ := hrel
                have hd := hF.cell d id
                by_cases hql : q < rn
                · obtain ⟨g, u, x, hg, hxq, hcx⟩ := (hrow.fr0 hF).ix hql
                  have gx : rxs.getD q 0 = x := by simp [hxq]
                  have j1 : (0 : Int) ≤ (q : Int) := by omega
                  have j2 : (q : Int) < (rn : Int) := by omega
                  subst hg
                  by_cases h1 : x < -1048576
                  · have e1 : decide (x < -1048576) = true := by simpa using h1
                    have E : Hid (checkC (catL R) = 1) := Lib.hid (by
                      unfold checkC
                      rw [if_neg (by have := Hcl.out; have := H32.out; omega), if_neg (by rw [hnl.out]; simp), if_neg hne.out, if_pos]
                      exact List.any_eq_true.2 ⟨rxs, List.mem_of_getElem? Hx.out, by rw [← badR_badB]; exact badR_true (k := q) (by rw [Hrl.out]; exact hql) (by unfold badAt; rw [gx, e1]; simp)⟩)
                    replace h1 := Lib.hid h1
                    clear gx hxq
                    go_wp2_with fail
                    go_quiet (fail)
                    go_wp2_with fail
                    go_ret
                    exact ⟨ret_int E.out.symm, hF.drewN _⟩
                  · have e1 : decide (x < -1048576) = false := by simpa using h1
                    by_cases h2 : 1048576 < x
                    · have e2 : decide (1048576 < x) = true := by simpa using h2
                      have E : Hid (checkC (catL R) = 1) := Lib.hid (by
                        unfold checkC
                        rw [if_neg (by have := Hcl.out; have := H32.out; omega), if_neg (by rw [hnl.out]; simp), if_neg hne.out, if_pos]
                        exact List.any_eq_true.2 ⟨rxs, List.mem_of_getElem? Hx.out, by rw [← badR_badB]; exact badR_true (k := q) (by rw [Hrl.out]; exact hql) (by unfold badAt; rw [gx, e2]; simp)⟩)
                      replace h1 := Lib.hid h1
                      replace h2 := Lib.hid h2
                      clear gx hxq
                      go_wp2_with fail
                      go_quiet (fail)
                      go_wp2_with fail
                      go_ret
                      exact ⟨ret_int E.out.symm, hF.drewN _⟩
                    · have e2 : decide (1048576 < x) = false := by simpa using h2
                      by_cases h3 : 0 < q
                      · obtain ⟨m, hm1⟩ : ∃ m : Nat, q = m + 1 := ⟨q - 1, by omega⟩
                        obtain ⟨g', u', y, hg', hyq, hcy⟩ := (hrow.fr0 hF).ix (i := m) (by omega)
                        injection hg' with hg'
                        injection hg' with z1 z2
                        subst z1 z2
                        have gy : rxs.getD (q - 1) 0 = y := by rw [hm1]; simp [hyq]
                        have e3 : decide ((0 : Int) < (q : Int)) = true := by simp; omega
                        have t1 : ((q : Int) - 1).toNat = m := by omega
                        have t2 : (0 : Int) ≤ (q : Int) - 1 := by omega
                        have t3 : (1 : Int) ≤ (q : Int) := by omega
                        have t4 : (q : Int) - 1 < (rn : Int) := by omega
                        have w1 : IntKind.i64.wrap ((q : Int) - 1) = (q : Int) - 1 := IntWalk.i64_in _ (by omega)
                        by_cases h4 : x < y
                        · have e4 : decide (x < y) = true := by simpa using h4
                          have E : Hid (checkC (catL R) = 1) := Lib.hid (by
                            unfold checkC
                            rw [if_neg (by have := Hcl.out; have := H32.out; omega), if_neg (by rw [hnl.out]; simp), if_neg hne.out, if_pos]
                            exact List.any_eq_true.2 ⟨rxs, List.mem_of_getElem? Hx.out, by rw [← badR_badB]; exact badR_true (k := q) (by rw [Hrl.out]; exact hql) (by unfold badAt; rw [gx, gy, e4, show decide (0 < q) = true by simpa using h3]; simp)⟩)
                          replace h1 := Lib.hid h1
                          replace h2 := Lib.hid h2
                          replace h4 := Lib.hid h4
                          clear gx hxq gy hyq hm1
                          go_wp2_with fail
                          go_quiet (fail)
                          clear w1
                          go_wp2_with fail
                          go_ret
                          exact ⟨ret_int E.out.symm, hF.drewN _⟩
                        · have e4 : decide (x < y) = false := by simpa using h4
                          have hok2 : Hid (∀ i, i < q + 1 → badAt rxs i = false) := Lib.hid (fun i hi => by
                            by_cases hiq : i = q
                            · rw [hiq]; unfold badAt; rw [gx, gy, e1, e2, e4]; simp
                            · exact hok.out i (by omega))
                          replace h1 := Lib.hid h1
                          replace h2 := Lib.hid h2
                          replace h4 := Lib.hid h4
                          clear gx hxq gy hyq hm1
                          go_wp2_with fail
                          go_quiet (fail)
                          clear w1
                          go_wp2_with fail
                          go_roundw
                          case rel => exact ⟨q + 1, by omega, by go_num, hok2, hF.drewN _⟩
                          case measure => simp [intOf]; omega
                      · have e3 : decide ((0 : Int) < (q : Int)) = false := by simp; omega
                        have e3' : decide (0 < q) = false := by simp; omega
                        have hok2 : Hid (∀ i, i < q + 1 → badAt rxs i = false) := Lib.hid (fun i hi => by
                          by_cases hiq : i = q
                          · rw [hiq]; unfold badAt; rw [gx, e1, e2, show decide (0 < q) = false by simpa using h3]; simp
                          · exact hok.out i (by omega))
                        replace h1 := Lib.hid h1
                        replace h2 := Lib.hid h2
                        replace h3 := Lib.hid h3
                        clear gx hxq
                        go_wp2_with fail
                        go_quiet (fail)
                        go_wp2_with fail
                        go_roundw
                        case rel => exact ⟨q + 1, by omega, by go_num, hok2, hF.drewN _⟩
                        case measure => simp [intOf]; omega
                · obtain rfl : q = rn := by omega
                  have hnb2 : Hid (((catL R).take (p + 1)).any badB = false) := Lib.hid (by
                    rw [List.take_add_one, Hx.out, List.any_append, hnb.out]
                    simp only [Option.toList_some, List.any_cons, List.any_nil, Bool.or_false, Bool.false_or]
                    rw [← badR_badB, badR_false]
                    intro i hi
                    exact hok.out i (by rw [Hrl.out] at hi; exact hi))
                  go_wp2_with fail
                  go_roundw
                  case rel => exact ⟨p + 1, by omega, by go_num, hnb2, hF⟩
                  case measure => simp [intOf]; omega
            · obtain rfl : p = k := by omega
              have E : Hid (checkC (catL R) = 0) := Lib.hid (by
                have h := hnb.out
                rw [List.take_of_length_le (by have := Hcl.out; omega)] at h
                unfold checkC
                rw [if_neg (by have := Hcl.out; have := H32.out; omega), if_neg (by rw [hnl.out]; simp), if_neg hne.out, if_neg (by rw [h]; simp)])
              go_wp2_with fail
              go_ret
              exact ⟨ret_int E.out.symm, hF⟩

end Go.Proofs.Ytglonedhcljdoaa
