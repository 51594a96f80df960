/- Common texts of this seat, one behind another. -/
import Derived.Test.YtkmnnfflibamnaaG345
import Derived.BigQuiet
/- Buffer trees: small functions of the reference. -/
namespace Go.Proofs.Ytkmnnfflibamnaa
open Go.RowKit
attribute [local go_sem ↓] Go.wp_at_zero Go.wp_at_succ
theorem E58 : ElemZ Try.prog 48 58 (.agg #[.int .i64 0, .int .i64 0, .bool false]) 3 24 := ⟨by kernel_rfl, by kernel_rfl, rfl⟩
theorem Sizes_any (b m : Int) (w : World) : Calls Try.prog 11 #[.int .i64 b, .int .i64 m] w fun e w' => e = .returned (.bool (szB b m)) ∧ w = w' := by
  obtain ⟨r, hr⟩ : ∃ r, r = szB b m := ⟨_, rfl⟩
  rw [← hr]
  unfold szB at hr
  by_cases c1 : 1 ≤ b
  · by_cases c2 : b ≤ 64
    · have hw : IntKind.i64.wrap (2 * b) = 2 * b := wI (by omega) (by omega)
      by_cases c3 : 2 * b ≤ m
      · by_cases c4 : m ≤ 1000
        · simp only [c1, c2, c3, c4, decide_true, Bool.and_self] at hr
          subst hr
          go_enter Try.func11, Try.ntmps11
          go_wp2_with fail
          go_ret
          exact ⟨rfl, rfl⟩
        · simp only [c1, c2, c3, c4, decide_true, decide_false, Bool.and_self, Bool.and_false] at hr
          subst hr
          go_enter Try.func11, Try.ntmps11
          go_wp2_with fail
          go_ret
          exact ⟨rfl, rfl⟩
      · simp only [c1, c2, c3, decide_true, decide_false, Bool.and_self, Bool.and_false, Bool.false_and] at hr
        subst hr
        go_enter Try.func11, Try.ntmps11
        go_wp2_with fail
        go_ret
        exact ⟨rfl, rfl⟩
    · simp only [c1, c2, decide_true, decide_false, Bool.and_false, Bool.false_and] at hr
      subst hr
      go_enter Try.func11, Try.ntmps11
      go_wp2_with fail
      go_ret
      exact ⟨rfl, rfl⟩
  · simp only [c1, decide_false, Bool.false_and] at hr
    subst hr
    go_enter Try.func11, Try.ntmps11
    go_wp2_with fail
    go_ret
    exact ⟨rfl, rfl⟩
theorem Count_any (b n : Nat) (w : World) (hb : 1 ≤ b ∧ b ≤ 64) (hn : n ≤ 1000000) : Calls Try.prog 19 #[.int .i64 (n : Int), .int .i64 (b : Int)] w fun e w' => e = .returned (.int .i64 (cntN b n : Int)) ∧ w = w' := by
  have hb0 : (b : Int) ≠ 0 := by omega
  go_enter Try.func19, Try.ntmps19
  go_wp2_with fail
  go_ret
  refine ⟨congrArg (fun z : Int => Ending.returned (Value.int .i64 z)) (?_ : ((n : Int) + (b : Int) - 1) / (b : Int) = (cntN b n : Int)), rfl⟩
  unfold cntN
  rw [Int.natCast_ediv]
  congr 1
  omega
theorem Fan_any (b m : Nat) (w : World) (hb : 1 ≤ b ∧ b ≤ 64) (hm : 2 * b ≤ m ∧ m ≤ 1000) : Calls Try.prog 46 #[.int .i64 (b : Int), .int .i64 (m : Int)] w fun e w' => e = .returned (.int .i64 (fanN b m : Int)) ∧ w = w' := by
  have hb0 : (b : Int) ≠ 0 := by omega
  have h1 : ((m : Int) / (b : Int)) = ((m / b : Nat) : Int) := (Int.natCast_ediv m b).symm
  have h2 : 2 ≤ m / b := (Nat.le_div_iff_mul_le (by omega)).2 (by omega)
  have h3 : m / b ≤ m := Nat.div_le_self _ _
  obtain ⟨q, hq⟩ : ∃ q, q = m / b := ⟨_, rfl⟩
  have hf : fanN b m = max 2 (q - 1) := by unfold fanN; rw [hq]
  rw [← hq] at h1 h2 h3
  rw [hf]
  have e1 : wrap64 (q : Int) = (q : Int) := by unfold wrap64; omega
  have e2 : wrap64 ((q : Int) - 1) = (q : Int) - 1 := by unfold wrap64; omega
  clear hq hf
  by_cases c : q < 3
  · have hq2 : (q : Int) - 1 < 2 := by omega
    go_enter Try.func46, Try.ntmps46
    go_wp2_with fail
    go_ret
    exact ⟨congrArg (fun z : Int => Ending.returned (Value.int .i64 z)) (by omega : (2 : Int) = ((max 2 (q - 1) : Nat) : Int)), rfl⟩
  · have hq2 : ¬ (q : Int) - 1 < 2 := by omega
    go_enter Try.func46, Try.ntmps46
    go_wp2_with fail
    go_ret
    exact ⟨congrArg (fun z : Int => Ending.returned (Value.int .i64 z)) (by omega : (q : Int) - 1 = ((max 2 (q - 1) : Nat) : Int)), rfl⟩
theorem rkey_any (k : Int) (w : World) : Calls Try.prog 74 #[.int .i64 k] w fun e w' => e = .returned (.bool (decide (-1048576 ≤ k) && decide (k ≤ 1048576))) ∧ w = w' := by
  obtain ⟨r, hr⟩ : ∃ r, r = (decide (-1048576 ≤ k) && decide (k ≤ 1048576)) := ⟨_, rfl⟩
  rw [← hr]
  by_cases c1 : -1048576 ≤ k
  · by_cases c2 : k ≤ 1048576
    · simp only [c1, c2, decide_true, Bool.and_self] at hr
      subst hr
      go_enter Try.func74, Try.ntmps74
      go_wp2_with fail
      go_ret
      exact ⟨rfl, rfl⟩
    · simp only [c1, c2, decide_true, decide_false, Bool.and_false] at hr
      subst hr
      go_enter Try.func74, Try.ntmps74
      go_wp2_with fail
      go_ret
      exact ⟨rfl, rfl⟩
  · simp only [c1, decide_false, Bool.false_and] at hr
    subst hr
    go_enter Try.func74, Try.ntmps74
    go_wp2_with fail
    go_ret
    exact ⟨rfl, rfl⟩
/-- The index of a key; -1 if it is not there. -/
def hasI (l : List En) (k : Int) : Int := if (lk l k).isSome then ((l.findIdx (fun e => e.1 == k) : Nat) : Int) else -1
theorem hasI_hit {l : List En} {k : Int} {i : Nat} {x : En} (hx : l[i]? = some x) (hk : x.1 = k) (hpre : ∀ j y, j < i → l[j]? = some y → y.1 ≠ k) : hasI l k = (i : Int) ∧ lk l k = some x := by
  obtain ⟨hi, hxi⟩ := List.getElem?_eq_some_iff.1 hx
  have h1 : l.findIdx (fun e => e.1 == k) = i := by
    rw [List.findIdx_eq hi]
    refine ⟨by rw [hxi]; simpa using hk, fun j hj => ?_⟩
    have := hpre j (l[j]'(by omega)) hj (List.getElem?_eq_getElem _)
    simpa using this
  have h2 : lk l k = some x := by
    unfold lk
    rw [List.find?_eq_some_iff_getElem]
    refine ⟨by simpa using hk, i, hi, hxi, fun j hj => ?_⟩
    have := hpre j (l[j]'(by omega)) hj (List.getElem?_eq_getElem _)
    simpa using this
  refine ⟨?_, h2⟩
  unfold hasI
  rw [h2, if_pos (by rfl), h1]
theorem has_any {w : World} {a : Option Addr} {n c : Nat} {l : List En} (k : Int) (h : RdZ w 3 a n (ents l)) (hn : n ≤ 1000000) :
    Calls Try.prog 75 #[.slice a n c, .int .i64 k] w fun e w' => e = .returned (.int .i64 (hasI l k)) ∧ w = w' := by
  have hl : l.length = n := by have := h.len; rw [ents_len] at this; omega
  have HR := Lib.hid h
  have Hl := Lib.hid hl
  clear h hl
  go_enter Try.func75, Try.ntmps75
  go_wp2_with fail
  go_loop [5] (fun s5 => ∃ i : Nat, i ≤ n ∧ s5 = .int .i64 (i : Int) ∧ Hid (∀ j y, j < i → l[j]? = some y → y.1 ≠ k)) (fun s5 => n - (intOf s5).toNat)
  case atStart => exact ⟨0, Nat.zero_le _, rfl, Lib.hid (fun j y h => absurd h (Nat.not_lt_zero _))⟩
  case round =>
    obtain ⟨i, hi, rfl, H⟩ := hrel
    by_cases hlt : i < n
    · have hlt' : (i : Int) < (n : Int) := by omega
      obtain ⟨x, hx⟩ : ∃ x, l[i]? = some x := ⟨_, List.getElem?_eq_getElem (by have := Hl.out; omega)⟩
      obtain ⟨b, o, rfl, d0, d1, d2⟩ := HR.out.ent hx
      have HX := Lib.hid hx
      obtain ⟨x1, x2, x3⟩ := x
      dsimp only at d0 d1 d2
      clear hx
      by_cases hk : x1 = k
      · have hh := (hasI_hit HX.out hk H.out).1
        have HH := Lib.hid hh
        have hkb : (x1 == k) = true := by simpa using hk
        clear hh
        go_wp2_with fail
        go_ret
        rw [HH.out]
        exact ⟨rfl, rfl⟩
      · have hkb : (x1 == k) = false := by simpa using hk
        go_wp2_with fail
        go_round
        case rel => exact ⟨i + 1, by omega, by go_num, Lib.hid (fun j y hj hy => by
          rcases Nat.lt_or_ge j i with c | c
          · exact H.out j y c hy
          · have : j = i := by omega
            subst this
            have h1 := HX.out
            rw [hy] at h1; injection h1 with h1; subst h1; exact hk)⟩
        case measure => simp [intOf]; omega
    · obtain rfl : n = i := by omega
      have hnone : lk l k = none := lk_none.2 (fun e he => by
        obtain ⟨j, hj⟩ := List.getElem?_of_mem he
        have := (List.getElem?_eq_some_iff.1 hj).1
        exact H.out j e (by have := Hl.out; omega) hj)
      have hh : hasI l k = -1 := by unfold hasI; rw [hnone]; rfl
      have HH := Lib.hid hh
      clear hh hnone
      go_wp2_with fail
      go_ret
      rw [HH.out]
      exact ⟨rfl, rfl⟩
end Go.Proofs.Ytkmnnfflibamnaa
/- Buffer trees: drop and put of the reference. -/
namespace Go.Proofs.Ytkmnnfflibamnaa
open Go.RowKit
attribute [local go_sem ↓] Go.wp_at_zero Go.wp_at_succ
/-- A list of entries that the call has made. -/
def EnR (w : World) (l : List En) (e : Ending) (w' : World) : Prop := ∃ a c, e = .returned (.slice a l.length c) ∧ OwnZ w' w.heap.size 58 3 a l.length c (ents l) ∧ Fr F0 w w'
set_option maxRecDepth 100000 in
set_option maxHeartbeats 4000000 in
theorem drop_any {w : World} {a : Option Addr} {n c : Nat} {l : List En} (h : RdZ w 3 a n (ents l)) (hn : n ≤ 100000000) :
    Calls Try.prog 54 #[.slice a n c] w (EnR w (drp l)) := by
  have hl : l.length = n := by have := h.len; rw [ents_len] at this; omega
  have HR := Lib.hid h
  have Hl := Lib.hid hl
  clear h hl
  go_enter Try.func54, Try.ntmps54
  go_wp2_with fail
  go_loopw [3, 4] (fun s3 s4 wr => ∃ (i k : Nat) (a' : Option Addr) (c' : Nat), i ≤ n ∧ k ≤ i ∧ s4 = .int .i64 (i : Int) ∧ s3 = .slice a' k c' ∧ Hid (k = (drp (l.take i)).length ∧ OwnZ wr w.heap.size 58 3 a' k c' (ents (drp (l.take i))) ∧ Fr F0 w wr)) (fun _ s4 _ => n - (intOf s4).toNat)
  case atStart =>
    have e : ents (drp (l.take 0)) = [] := by simp [drp, ents]
    have o : OwnZ w w.heap.size 58 3 none 0 0 (ents (drp (l.take 0))) := by rw [e]; exact OwnZ.nil _ _ _ _
    exact ⟨0, 0, none, 0, Nat.zero_le _, Nat.le_refl _, rfl, rfl, Lib.hid ⟨by simp [drp], o, Fr.refl _ _⟩⟩
  case round =>
    obtain ⟨i, k, a', c', hi, hki, rfl, rfl, H⟩ := hrel
    by_cases hlt : i < n
    · have hlt' : (i : Int) < (n : Int) := by omega
      obtain ⟨x, hx⟩ : ∃ x, l[i]? = some x := ⟨_, List.getElem?_eq_getElem (by have := Hl.out; omega)⟩
      obtain ⟨b, o, rfl, d0, d1, d2⟩ := (HR.out.fr0 H.out.2.2).ent hx
      have hd := drp_snoc l i x hx
      obtain ⟨x1, x2, x3⟩ := x
      dsimp only at d0 d1 d2 hd
      have HD := Lib.hid hd
      clear hx hd
      cases x3
      · go_wp2_with (at_builtin; refine wpAppZAt E58 (by omega) H.out.2.1 (us := [.int .i64 x1, .int .i64 x2, .bool false]) rfl (fun u hu => by simp at hu; rcases hu with rfl | rfl | rfl <;> rfl) (by omega) (by omega) H.out.2.2.size (by rfl) (by rfl) ?_; intro a9 c9 w9 own9 fr9 at9; have H9 : Hid (k + 1 = (drp (l.take (i + 1))).length ∧ OwnZ w9 w.heap.size 58 3 a9 (k + 1) c9 (ents (drp (l.take (i + 1)))) ∧ Fr F0 w w9) := Lib.hid ⟨by rw [HD.out, if_neg (by simp), List.length_append, ← H.out.1]; rfl, by rw [HD.out, if_neg (by simp), ents_app]; exact own9, H.out.2.2.trans fr9 (fun k hk hs => by have := (OwnZ.blk H.out.2.1 k hs).1; omega)⟩; clear own9 fr9 at9)
        go_roundw
        case rel => exact ⟨i + 1, k + 1, a9, c9, by omega, by omega, by go_num, rfl, H9⟩
        case measure => simp [intOf]; omega
      · have H9 : Hid (k = (drp (l.take (i + 1))).length ∧ OwnZ wr w.heap.size 58 3 a' k c' (ents (drp (l.take (i + 1)))) ∧ Fr F0 w wr) := Lib.hid (by rw [HD.out, if_pos rfl]; exact H.out)
        go_wp2_with fail
        go_roundw
        case rel => exact ⟨i + 1, k, a', c', by omega, by omega, by go_num, rfl, H9⟩
        case measure => simp [intOf]; omega
    · obtain rfl : n = i := by omega
      go_wp2_with fail
      go_ret
      have hH := H.out
      rw [List.take_of_length_le (by rw [Hl.out]; exact Nat.le_refl _)] at hH
      obtain ⟨q1, q2, q3⟩ := hH
      subst q1
      exact ⟨a', c', rfl, q2, q3⟩
/-- put: an entry in place of the one with its key. -/
theorem ins_split {l : List En} {e : En} {k : Nat} (hk : k ≤ l.length) (hlo : ∀ j y, j < k → l[j]? = some y → y.1 < e.1) (hhi : ∀ y, l[k]? = some y → ¬ y.1 < e.1) :
    ins l e = l.take k ++ [e] ++ (match l[k]? with | some y => if y.1 = e.1 then l.drop (k + 1) else l.drop k | none => []) := by
  induction l generalizing k with
  | nil =>
    have : k = 0 := by simpa using hk
    subst this
    rfl
  | cons x l ih =>
    cases k with
    | zero =>
      have := hhi x rfl
      unfold ins
      rw [if_neg this]
      show _ = [] ++ [e] ++ (if x.1 = e.1 then l else x :: l)
      split <;> rfl
    | succ k =>
      have := hlo 0 x (by omega) rfl
      unfold ins
      rw [if_pos this, ih (k := k) (by simpa using hk) (fun j y hj hy => hlo (j + 1) y (by omega) (by simpa using hy)) (fun y hy => hhi y (by simpa using hy))]
      simp
end Go.Proofs.Ytkmnnfflibamnaa
