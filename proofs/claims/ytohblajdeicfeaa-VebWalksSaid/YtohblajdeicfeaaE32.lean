/- slices.IsSorted, slices.Contains; two sets side by side. -/
import Derived.Test.YtohblajdeicfeaaE26
import Derived.Test.YtohblajdeicfeaaSlIndex
import Derived.BigQuiet
namespace Go.Proofs.Ytohblajdeicfeaa
open Go.RowKit
attribute [local go_sem ↓] Go.wp_at_zero Go.wp_at_succ
theorem isNaN_any (w : World) (x : Int) : Calls Try.prog 54 #[.int .i64 x] w fun e w' => e = .returned (.bool false) ∧ w = w' := by
  have h : ((x : Int) != x) = false := by simp
  go_enter Try.func54, Try.ntmps54
  go_wp2_with fail
  go_ret
  exact ⟨by simp, rfl⟩
theorem Less_any (w : World) (x y : Int) : Calls Try.prog 45 #[.int .i64 x, .int .i64 y] w fun e w' => e = .returned (.bool (decide (x < y))) ∧ w = w' := by
  go_enter Try.func45, Try.ntmps45
  go_wp2_with (go_at_call 54; refine (isNaN_any _ _).mono ?_; rintro e w1 ⟨rfl, rfl⟩)
  go_ret
  exact ⟨rfl, rfl⟩
theorem Sorted_any (a : Option Addr) (n c : Nat) (xs : List Int) (w : World) (hr : Rd w a n (ints xs)) (so : xs.Pairwise (· < ·)) (hmax : n ≤ 1000000) :
    Calls Try.prog 31 #[.slice a n c] w fun e w' => e = .returned (.bool true) ∧ ∃ q, w' = w.drewN q := by
  have hn : xs.length = n := by simpa using hr.len
  have HR := Lib.hid hr
  have HN := Lib.hid hn
  have HS := Lib.hid so
  clear hr hn so
  go_enter Try.func31, Try.ntmps31
  go_wp2_with fail
  go_loopw [3] (fun s3 wr => ∃ (i : Nat) (v : Int), i ≤ n ∧ s3 = .int .i64 v ∧ v = (i : Int) - 1 ∧ ∃ q, wr = w.drewN q) (fun s3 _ => ((intOf s3) + 1).toNat)
  case atStart => exact ⟨n, (n : Int) - 1, by omega, rfl, rfl, 0, rfl⟩
  case round =>
    obtain ⟨i, j, hi, rfl, hj, q, rfl⟩ := hrel
    by_cases hlt : 1 < i
    · obtain ⟨i, rfl⟩ : ∃ m, i = m + 2 := ⟨i - 2, by omega⟩
      obtain ⟨m, hm⟩ : ∃ m, m = i + 1 := ⟨_, rfl⟩
      obtain rfl : j = (m : Int) := by omega
      have hmi : (m : Int) - 1 = (i : Int) := by omega
      have hmn : m < n := by omega
      have hwr : IntKind.i64.wrap (i : Int) = (i : Int) := IntWalk.i64_in _ (by omega)
      clear hj
      obtain ⟨b, o, v, ea, hv, hc⟩ := HR.out.ix hmn
      obtain ⟨b', o', u, ea', hu, hc'⟩ := HR.out.ix (show i < n by omega)
      rw [ea] at ea'
      injection ea' with ea'
      injection ea' with e1 e2 _
      subst e1
      subst e2
      subst ea
      have hvu : ¬ v < u := by
        obtain ⟨h1, rfl⟩ := List.getElem?_eq_some_iff.1 hv
        obtain ⟨h2, rfl⟩ := List.getElem?_eq_some_iff.1 hu
        have := List.pairwise_iff_getElem.1 HS.out i m h2 h1 (by omega)
        omega
      obtain ⟨wq, hwq⟩ : ∃ wq, w.drewN q = wq := ⟨_, rfl⟩
      have hL : ∀ m, Calls Try.prog 45 #[.int .i64 v, .int .i64 u] (wq.drewN m) fun e w' => e = .returned (.bool false) ∧ wq.drewN m = w' := fun m => by
        have := Less_any (wq.drewN m) v u
        rwa [decide_eq_false hvu] at this
      have HL := Lib.hid hL
      have hcq : wq.cell? ⟨b, o + m, none⟩ = some (.int .i64 v) := by rw [← hwq]; exact hc
      have hcq' : wq.cell? ⟨b, o + i, none⟩ = some (.int .i64 u) := by rw [← hwq]; exact hc'
      rw [hwq]
      have Hwq := Lib.hid hwq
      clear hc hc' hwq
      have hm0 : 0 < m := by omega
      have hi0 : i < n := by omega
      have Hm := Lib.hid hm
      clear hv hu hL hm hlt
      go_wp2_with fail
      go_quiet ((go_at_call 45; exact qsame HL.out _))
      go_wp2_with fail
      go_roundw
      case rel => exact ⟨m, (i : Int), by omega, rfl, by omega, _, by rw [← Hwq.out]; exact World.drewN_drewN _ _ _⟩
      case measure => simp [intOf] <;> omega
    · have hjj : j ≤ 0 := by omega
      clear hj
      go_wp2_with fail
      go_ret
      exact ⟨rfl, q, rfl⟩
theorem idx_mem (xs : List Int) (x : Int) : decide (0 ≤ idxI xs x) = decide (x ∈ xs) := by
  unfold idxI
  by_cases h : x ∈ xs
  · rw [if_pos (List.any_eq_true.2 ⟨x, h, by simp⟩), decide_eq_true h]
    simp
  · rw [if_neg (fun e => by obtain ⟨y, hy, e⟩ := List.any_eq_true.1 e; exact h ((by simpa using e : y = x) ▸ hy)), decide_eq_false h]
    rfl
theorem ContainsI_any (a : Option Addr) (n c : Nat) (xs : List Int) (x : Int) (w : World) (hr : Rd w a n (ints xs)) :
    Calls Try.prog 29 #[.slice a n c, .int .i64 x] w fun e w' => e = .returned (.bool (decide (x ∈ xs))) ∧ w = w' := by
  have H := Lib.hid (Index_any a n c xs x w hr)
  have HM := Lib.hid (idx_mem xs x)
  clear hr
  generalize idxI xs x = j at *
  go_enter Try.func29, Try.ntmps29
  go_wp2_with (go_at_call 44; refine (H.out).mono ?_; rintro e w1 ⟨rfl, rfl⟩)
  go_ret
  exact ⟨ret_bool HM.out, rfl⟩
theorem mem_swap {l : List Int} {i j : Nat} {x y : Int} (hi : l[i]? = some x) (hj : l[j]? = some y) (z : Int) : z ∈ (l.set i y).set j x ↔ z ∈ l := by
  obtain ⟨h1, rfl⟩ := List.getElem?_eq_some_iff.1 hi
  obtain ⟨h2, rfl⟩ := List.getElem?_eq_some_iff.1 hj
  simp only [List.mem_iff_getElem?]
  constructor
  · rintro ⟨k, hk⟩
    rw [List.getElem?_set] at hk
    split at hk
    · split at hk
      · exact ⟨i, by rw [List.getElem?_eq_getElem h1]; exact hk⟩
      · cases hk
    · rw [List.getElem?_set] at hk
      split at hk
      · exact ⟨j, by rw [List.getElem?_eq_getElem h2]; first | exact hk | (split at hk; exact hk; cases hk)⟩
      · exact ⟨k, hk⟩
  · rintro ⟨k, hk⟩
    by_cases e1 : k = j
    · subst e1
      by_cases e2 : i = k
      · subst e2
        exact ⟨i, by simp [h1]; simpa [h1] using hk⟩
      · refine ⟨i, ?_⟩
        rw [List.getElem?_set, if_neg (fun e => e2 e.symm), List.getElem?_set, if_pos rfl, if_pos h1, ← hk, List.getElem?_eq_getElem h2]
    · by_cases e2 : k = i
      · subst e2
        refine ⟨j, ?_⟩
        rw [List.getElem?_set, if_pos rfl, if_pos (by simpa using h2), ← hk, List.getElem?_eq_getElem h1]
      · refine ⟨k, ?_⟩
        rw [List.getElem?_set, if_neg (fun e => e1 e.symm), List.getElem?_set, if_neg (fun e => e2 e.symm)]
        exact hk
theorem sorted_ext : ∀ {xs ys : List Int}, xs.Pairwise (· < ·) → ys.Pairwise (· < ·) → (∀ z, z ∈ xs ↔ z ∈ ys) → xs = ys
  | [], [], _, _, _ => rfl
  | [], b :: l, _, _, h => absurd ((h b).2 (List.mem_cons.2 (.inl rfl))) (by simp)
  | a :: l, [], _, _, h => absurd ((h a).1 (List.mem_cons.2 (.inl rfl))) (by simp)
  | a :: l, b :: m, h1, h2, h => by
    obtain ⟨p1, p2⟩ := List.pairwise_cons.1 h1
    obtain ⟨q1, q2⟩ := List.pairwise_cons.1 h2
    have ha := (h a).1 (List.mem_cons.2 (.inl rfl))
    have hb := (h b).2 (List.mem_cons.2 (.inl rfl))
    have e : a = b := by
      rcases List.mem_cons.1 ha with e | e
      · exact e
      · rcases List.mem_cons.1 hb with g | g
        · exact g.symm
        · have := p1 b g; have := q1 a e; omega
    subst e
    congr 1
    refine sorted_ext p2 q2 fun z => ⟨fun hz => ?_, fun hz => ?_⟩
    · rcases List.mem_cons.1 ((h z).1 (List.mem_cons.2 (.inr hz))) with e | e
      · have := p1 z hz; omega
      · exact e
    · rcases List.mem_cons.1 ((h z).2 (List.mem_cons.2 (.inr hz))) with e | e
      · have := q1 z hz; omega
      · exact e
theorem prevI_at {xs : List Int} (so : xs.Pairwise (· < ·)) {i : Nat} {x : Int} (h : xs.reverse[i]? = some x) : prevI xs x = xs.reverse[i + 1]? := by
  have so' : xs.reverse.Pairwise (· > ·) := List.pairwise_reverse.2 so
  unfold prevI
  generalize xs.reverse = l at *
  induction l generalizing i with
  | nil => simp at h
  | cons b l ih =>
    obtain ⟨q1, q2⟩ := List.pairwise_cons.1 so'
    rw [List.find?_cons]
    cases i with
    | zero =>
      simp at h
      subst h
      rw [show decide (b < b) = false by simp]
      cases l with
      | nil => rfl
      | cons c l =>
        have := q1 c (List.mem_cons.2 (.inl rfl))
        rw [List.find?_cons, show decide (c < b) = true from decide_eq_true this]
        rfl
    | succ i =>
      simp at h
      have hm := q1 x (List.mem_of_getElem? h)
      rw [show decide (b < x) = false by simp; omega]
      simpa using ih h q2
end Go.Proofs.Ytohblajdeicfeaa
