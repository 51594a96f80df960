/- Sums of lengths, ranks, the bound of a search, small inputs; equality of rows. -/
import Derived.Test.YtglonedhcljdoaaC5
import Derived.Test.YtglonedhcljdoaaSlEqual
namespace Go.Proofs.Ytglonedhcljdoaa
open Go.RowKit

def tot (L : List (List Int)) : Nat := (L.map List.length).sum
theorem tot_take {L : List (List Int)} {k : Nat} {l : List Int} (h : L[k]? = some l) : tot (L.take (k + 1)) = tot (L.take k) + l.length := by
  unfold tot; rw [List.take_add_one, h]; simp
theorem tot_le {L : List (List Int)} {m : Nat} (h : ∀ l ∈ L, l.length ≤ m) : tot L ≤ L.length * m := by
  unfold tot
  induction L with
  | nil => simp
  | cons l L ih =>
    have h1 := h l (by simp)
    have h2 := ih (fun l hl => h l (by simp [hl]))
    simp only [List.map_cons, List.sum_cons, List.length_cons, Nat.succ_mul]; omega
set_option maxHeartbeats 1000000 in
theorem Total_any (a : Option Addr) (n c : Nat) (R : List RowV) (w : World) (hr : RowsRd w a n R) (hn : n ≤ 1000) (hlen : ∀ l ∈ catL R, l.length ≤ 2000) :
    Calls Try.prog 20 #[.slice a n c] w fun e w' => e = .returned (.int .i64 (tot (catL R))) ∧ w = w' := by
  have hcl : (catL R).length = n := by simpa [catL] using hr.len
  have Hcl := Lib.hid hcl
  have Hlen := Lib.hid hlen
  clear hcl hlen
  go_enter Try.func20, Try.ntmps20
  go_wp2_with fail
  go_loop [3, 4] (fun s i => ∃ (k t : Nat), k ≤ n ∧ i = .int .i64 k ∧ s = .int .i64 t ∧ t ≤ k * 2000 ∧ Hid (t = tot ((catL R).take k))) (fun _ i => n - (intOf i).toNat)
  case atStart => exact ⟨0, 0, by omega, rfl, rfl, by omega, Lib.hid (by simp [tot])⟩
  case round =>
    obtain ⟨k, t, hk, rfl, rfl, ht, hT⟩ := hrel
    by_cases hlt : k < n
    · obtain ⟨b, o, r, hb, hrk, d⟩ := hr.ix hlt
      have hx : (catL R)[k]? = some r.xs := by simp [catL, hrk]
      have hrl : r.xs.length = r.n := by simpa using (hr.row k r hrk).len
      have h1 := Hlen.out r.xs (List.mem_of_getElem? hx)
      have hT2 : Hid (t + r.n = tot ((catL R).take (k + 1))) := Lib.hid (by rw [tot_take hx, ← hT.out, hrl])
      have hrn : r.n ≤ 2000 := by omega
      obtain ⟨ra, rn, rc, rxs⟩ := r
      simp only [RowV.val] at *
      subst hb
      clear hx hrk hrl h1
      go_wp2_with fail
      go_round
      case rel => exact ⟨k + 1, t + rn, by omega, by go_num, by go_num, by omega, hT2⟩
      case measure => simp [intOf]; omega
    · obtain rfl : k = n := by omega
      have e : Hid (t = tot (catL R)) := Lib.hid (by
        have h := hT.out
        rwa [List.take_of_length_le (by have := Hcl.out; omega)] at h)
      go_wp2_with fail
      go_ret
      exact ⟨ret_int (by rw [e.out]), rfl⟩
theorem rk_take {xs : List Int} {k : Nat} {x : Int} (h : xs[k]? = some x) (key : Int) : rk (xs.take (k + 1)) key = rk (xs.take k) key + if x < key then 1 else 0 := by
  unfold rk; rw [List.take_add_one, h, List.countP_append]; simp
set_option maxHeartbeats 1000000 in
theorem Rank_any (a : Option Addr) (n c : Nat) (xs : List Int) (key : Int) (w : World) (hr : Rd w a n (ints xs)) :
    Calls Try.prog 13 #[.slice a n c, .int .i64 key] w fun e w' => e = .returned (.int .i64 (rk xs key)) ∧ w = w' := by
  have hxl : xs.length = n := by simpa using hr.len
  have hm := hr.max
  have Hxl := Lib.hid hxl
  clear hxl
  go_enter Try.func13, Try.ntmps13
  go_wp2_with fail
  go_loop [5, 6] (fun s i => ∃ (k t : Nat), k ≤ n ∧ i = .int .i64 k ∧ s = .int .i64 t ∧ t ≤ k ∧ Hid (t = rk (xs.take k) key)) (fun _ i => n - (intOf i).toNat)
  case atStart => exact ⟨0, 0, by omega, rfl, rfl, by omega, Lib.hid (by simp [rk])⟩
  case round =>
    obtain ⟨k, t, hk, rfl, rfl, ht, hT⟩ := hrel
    by_cases hlt : k < n
    · obtain ⟨b, o, x, hb, hx, d⟩ := hr.ix hlt
      have e := rk_take hx key
      subst hb
      by_cases hlt2 : x < key
      · rw [if_pos hlt2] at e
        have hT2 : Hid (t + 1 = rk (xs.take (k + 1)) key) := Lib.hid (by rw [e, ← hT.out])
        clear e hx
        go_wp2_with fail
        go_round
        case rel => exact ⟨k + 1, t + 1, by omega, by go_num, by go_num, by omega, hT2⟩
        case measure => simp [intOf]; omega
      · rw [if_neg hlt2] at e
        have hT2 : Hid (t = rk (xs.take (k + 1)) key) := Lib.hid (by rw [e, ← hT.out]; rfl)
        clear e hx
        go_wp2_with fail
        go_round
        case rel => exact ⟨k + 1, t, by omega, by go_num, rfl, by omega, hT2⟩
        case measure => simp [intOf]; omega
    · obtain rfl : k = n := by omega
      have e : Hid (t = rk xs key) := Lib.hid (by
        have h := hT.out
        rwa [List.take_of_length_le (by have := Hxl.out; omega)] at h)
      go_wp2_with fail
      go_ret
      exact ⟨ret_int (by rw [e.out]), rfl⟩

def BdPost (L : List (List Int)) (n : Nat) (w : World) (e : Ending) (w' : World) : Prop := ∃ K : Nat, e = .returned (.int .i64 ((K : Int) + n - 1)) ∧ (kx L 0).length + 1 ≤ 2 ^ K ∧ K ≤ 4000 ∧ Fr F0 w w'
theorem rl_kx {L : List (List Int)} {R : List RowV} (h : catL R = (augK L).map keyL) {q : Nat} {r : RowV} (hr : R[q]? = some r) : r.xs = kx L q := by
  have hl : q < L.length := by
    have h1 := (List.getElem?_eq_some_iff.1 hr).1
    have := congrArg List.length h
    simp [catL, augK_len] at this; omega
  have h1 : (catL R)[q]? = some r.xs := by simp [catL, hr]
  rw [h, ← kx_all] at h1
  simp [hl] at h1
  exact h1.symm
set_option maxHeartbeats 1000000 in
theorem refBound_any (a : Option Addr) (n c : Nat) (R : List RowV) (w : World) (hr : ArgRows w a n c R) (hn : n ≤ 1000) (hn0 : 0 < n) (hlen : ∀ l ∈ catL R, l.length ≤ 1000) :
    Calls Try.prog 15 #[.slice a n c] w (BdPost (catL R) n w) := by
  have Hlen := Lib.hid hlen
  have hkl := kx_len hlen 0
  clear hlen
  go_enter Try.func15, Try.ntmps15
  go_wp2_with fail
  refine (refLists_any a n c R w hr hn Hlen.out).mono ?_; rintro e w1 ⟨a1, c1, R1, rfl, hRR, hEq, hF⟩
  obtain ⟨b, o, r, hb, hrk, d⟩ := hRR.ix hn0
  have hrx := rl_kx hEq hrk
  have hrl : r.xs.length = r.n := by simpa using (hRR.row 0 r hrk).len
  rw [hrx] at hrl
  obtain ⟨m, hm⟩ : ∃ m, m = (kx (catL R) 0).length := ⟨_, rfl⟩
  rw [← hm] at hrl hkl
  have Hm := Lib.hid hm
  obtain ⟨ra, rn, rc, rxs⟩ := r
  simp only [RowV.val, Nat.add_zero] at *
  subst hrl
  subst hb
  replace hF := Lib.hid hF
  clear hrx hrk hm hRR hEq
  go_wp2_with fail
  go_loop [4, 5] (fun k p => ∃ (K q : Nat), k = .int .i64 K ∧ p = .int .i64 q ∧ Hid (q = 2 ^ K) ∧ q ≤ 4002 ∧ K + 1 ≤ q) (fun k p => 4002 - (intOf p).toNat)
  case atStart => exact ⟨0, 1, rfl, rfl, Lib.hid rfl, by omega, by omega⟩
  case round =>
    obtain ⟨K, q, rfl, rfl, hq, hq2, hKq⟩ := hrel
    by_cases hlt : q < m + 1
    · have hlt' : (q : Int) < (m : Int) + 1 := by omega
      go_wp2_with fail
      go_round
      case rel => exact ⟨K + 1, q * 2, by go_num, by go_num, Lib.hid (by rw [hq.out, Nat.pow_succ]), by omega, by omega⟩
      case measure => simp [intOf]; omega
    · have hlt' : ¬ (q : Int) < (m : Int) + 1 := by omega
      have hK : K ≤ 4000 ∨ K ≤ 4001 := by omega
      have hres : Hid ((kx (catL R) 0).length + 1 ≤ 2 ^ K) := Lib.hid (by rw [← Hm.out, ← hq.out]; omega)
      have hK2 : Hid (K ≤ 4000) := Lib.hid (by
        have h1 := hq.out
        rcases Nat.lt_or_ge 12 K with h2 | h2
        · have : 2 ^ 13 ≤ 2 ^ K := Nat.pow_le_pow_right (by omega) h2
          omega
        · omega)
      have hK3 : K ≤ 4002 := by omega
      clear hK
      go_wp2_with fail
      go_ret
      exact ⟨K, rfl, hres.out, hK2.out, hF.out⟩

def smallF : List (List Int) → Nat → Bool
  | [], t => decide (t ≤ 300)
  | l :: r, t => if 1005 < l.length then false else if 1000 < l.length then true else smallF r (t + l.length)
def smallB (L : List (List Int)) : Bool := if 40 < L.length then false else smallF L 0
theorem smallF_tot {L : List (List Int)} (h : L.any longB = false) : ∀ t, smallF L t = decide (t + tot L ≤ 300) := by
  induction L with
  | nil => intro t; simp [smallF, tot]
  | cons l r ih =>
    intro t
    rw [List.any_cons, Bool.or_eq_false_iff] at h
    have h1 : l.length ≤ 1000 := by have := h.1; unfold longB at this; simpa using this
    rw [smallF, if_neg (by omega), if_neg (by omega), ih h.2]
    have : tot (l :: r) = l.length + tot r := by simp [tot]
    rw [this, Nat.add_assoc]
set_option maxHeartbeats 1000000 in
theorem small_any (a : Option Addr) (n c : Nat) (R : List RowV) (w : World) (hr : ArgRows w a n c R) :
    Calls Try.prog 8 #[.slice a n c] w fun e w' => e = .returned (.bool (smallB (catL R))) ∧ w = w' := by
  have hcl : (catL R).length = n := by simpa [catL] using hr.len
  have hm := hr.rd.max
  by_cases h40 : 40 < n
  · have E : Hid (smallB (catL R) = false) := Lib.hid (by unfold smallB; rw [if_pos (by omega)])
    clear hcl
    go_enter Try.func8, Try.ntmps8
    go_wp2_with fail
    go_ret
    exact ⟨ret_bool E.out.symm, rfl⟩
  · have E : Hid (smallB (catL R) = smallF (catL R) 0) := Lib.hid (by unfold smallB; rw [if_neg (by omega)])
    have Hcl := Lib.hid hcl
    clear hcl
    go_enter Try.func8, Try.ntmps8
    go_wp2_with fail
    go_loop [3, 5, 11] (fun s _ i => ∃ (k t : Nat), k ≤ n ∧ i = .int .i64 k ∧ s = .int .i64 t ∧ t ≤ k * 1000 ∧ Hid (smallF (catL R) 0 = smallF ((catL R).drop k) t)) (fun _ _ i => n - (intOf i).toNat)
    case atStart => exact ⟨0, 0, by omega, rfl, rfl, by omega, Lib.hid rfl⟩
    case round =>
      obtain ⟨k, t, hk, rfl, rfl, ht, hT⟩ := hrel
      by_cases hlt : k < n
      · obtain ⟨b, o, r, hb, hrk, d⟩ := hr.rows.ix hlt
        have hx : (catL R)[k]? = some r.xs := by simp [catL, hrk]
        have hrl := hr.rlen hrk
        have hrm := (hr.row k r hrk).max
        have ed : (catL R).drop k = r.xs :: (catL R).drop (k + 1) := by
          have hl := (List.getElem?_eq_some_iff.1 hx).1
          rw [List.drop_eq_getElem_cons hl, (List.getElem?_eq_some_iff.1 hx).2]
        have eT := hT.out
        rw [ed, smallF, hrl] at eT
        obtain ⟨ra, rn, rc, rxs⟩ := r
        simp only [RowV.val] at *
        subst hb
        clear hx hrk hrl ed
        by_cases h1 : 1005 < rn
        · rw [if_pos h1] at eT
          have ET := Lib.hid eT
          have d1 : decide ((1005 : Int) < (rn : Int)) = true := by simp; omega
          replace h1 := Lib.hid h1
          clear eT
          go_wp2_with fail
          go_ret
          exact ⟨ret_bool (by rw [E.out, ET.out]), rfl⟩
        · rw [if_neg h1] at eT
          have d1 : decide ((1005 : Int) < (rn : Int)) = false := by simp; omega
          by_cases h2 : 1000 < rn
          · rw [if_pos h2] at eT
            have ET := Lib.hid eT
            have d2 : decide ((1000 : Int) < (rn : Int)) = true := by simp; omega
            replace h1 := Lib.hid h1
            replace h2 := Lib.hid h2
            clear eT
            go_wp2_with fail
            go_ret
            exact ⟨ret_bool (by rw [E.out, ET.out]), rfl⟩
          · rw [if_neg h2] at eT
            have ET := Lib.hid eT
            have d2 : decide ((1000 : Int) < (rn : Int)) = false := by simp; omega
            have hrn : (rn : Int) ≤ 1001 := by omega
            have hrn2 : Hid (rn ≤ 1000) := Lib.hid (by omega)
            replace h1 := Lib.hid h1
            replace h2 := Lib.hid h2
            clear eT
            go_wp2_with fail
            go_round
            case rel => exact ⟨k + 1, t + rn, by omega, by go_num, by go_num, by have := hrn2.out; omega, ET⟩
            case measure => simp [intOf]; omega
      · obtain rfl : k = n := by omega
        have ET : Hid (smallF (catL R) 0 = decide ((t : Int) ≤ 300)) := Lib.hid (by
          rw [hT.out, List.drop_eq_nil_of_le (by have := Hcl.out; omega), smallF, Bool.eq_iff_iff]; simp; omega)
        go_wp2_with fail
        go_ret
        exact ⟨ret_bool (by rw [E.out, ET.out]), rfl⟩

set_option maxHeartbeats 1000000 in
theorem EqualFunc_any (a1 a2 : Option Addr) (n c1 c2 : Nat) (R1 R2 : List RowV) (w : World) (h1 : RowsRd w a1 n R1) (h2 : RowsRd w a2 n R2) (he : catL R1 = catL R2) :
    Calls Try.prog 21 #[.slice a1 n c1, .slice a2 n c2, .func (.func 22) #[] #[]] w fun e w' => e = .returned (.bool true) ∧ Fr F0 w w' := by
  have hm := h1.rd.max
  have hne : (((n : Nat) : Int) != (n : Int)) = false := by simp
  have He := Lib.hid he
  clear he
  go_enter Try.func21, Try.ntmps21
  go_wp2_with fail
  go_loopw [17] (fun i wr => ∃ k : Nat, k ≤ n ∧ i = .int .i64 k ∧ Fr F0 w wr) (fun i _ => n - (intOf i).toNat)
  case atStart => exact ⟨0, by omega, rfl, Fr.refl _ _⟩
  case round =>
    obtain ⟨k, hk, rfl, hF⟩ := hrel
    by_cases hlt : k < n
    · obtain ⟨b, o, r, hb, hrk, d⟩ := (h1.fr0 hF).ix hlt
      obtain ⟨b2, o2, r2, hb2, hrk2, d2⟩ := (h2.fr0 hF).ix hlt
      have q1 := (h1.fr0 hF).row k r hrk
      have q2 := (h2.fr0 hF).row k r2 hrk2
      have hx : r.xs = r2.xs := by
        have e1 : (catL R1)[k]? = some r.xs := by simp [catL, hrk]
        have e2 : (catL R2)[k]? = some r2.xs := by simp [catL, hrk2]
        rw [He.out, e2] at e1
        injection e1 with e1; exact e1.symm
      rw [← hx] at q2
      obtain ⟨ra, rn, rc, rxs⟩ := r
      obtain ⟨sa, sn, sc, sxs⟩ := r2
      simp only [RowV.val] at *
      subst hb
      subst hb2
      clear hx hrk hrk2
      go_wp2_with fail
      refine (Equal_any _ _ _ _ _ _ _ _ _ q1 q2).mono ?_; rintro e w5 ⟨rfl, q, rfl⟩
      rw [show decide (rxs = rxs) = true by simp]
      replace hF := hF.drewN q
      go_wp2_with fail
      go_roundw
      case rel => exact ⟨k + 1, by omega, by go_num, hF⟩
      case measure => simp [intOf]; omega
    · go_wp2_with fail
      go_ret
      exact ⟨rfl, hF⟩

end Go.Proofs.Ytglonedhcljdoaa
