/- Sets: what is asked of them. -/
import Derived.Test.YtohblajdeicfeaaE17
import Derived.Test.YtohblajdeicfeaaCom4
namespace Go.Proofs.Ytohblajdeicfeaa
open Go.RowKit
attribute [local go_sem ↓] Go.wp_at_zero Go.wp_at_succ
def nextI (xs : List Int) (x : Int) : Option Int := xs.find? (fun y => decide (x < y))
def prevI (xs : List Int) (x : Int) : Option Int := xs.reverse.find? (fun y => decide (y < x))
theorem nextI_of {xs : List Int} (so : xs.Pairwise (· < ·)) (hp : ∀ x ∈ xs, 0 ≤ x) {x r : Int} (h : NxtOf (memI xs) x r) : r = (nextI xs x).getD (-1) := by
  rcases h with ⟨rfl, h⟩ | ⟨a, rfl, h1, h2, h3⟩
  · have : nextI xs x = none := by
      unfold nextI
      rw [List.find?_eq_none]
      intro y hy
      have h0 := hp y hy
      have := h y.toNat (by show ((y.toNat : Nat) : Int) ∈ xs; rwa [Int.toNat_of_nonneg h0])
      simp
      omega
    rw [this]; rfl
  · have key : ∀ l : List Int, l.Pairwise (· < ·) → (∀ y ∈ l, y ∈ xs) → (a : Int) ∈ l → nextI l x = some (a : Int) := by
      intro l hl hs ha
      induction l with
      | nil => cases ha
      | cons b l ih =>
        obtain ⟨q1, q2⟩ := List.pairwise_cons.1 hl
        unfold nextI
        rw [List.find?_cons]
        by_cases hb : x < b
        · rw [show decide (x < b) = true from decide_eq_true hb]
          have h0 := hp b (hs b (List.mem_cons.2 (.inl rfl)))
          have h4 := h3 b.toNat (by show ((b.toNat : Nat) : Int) ∈ xs; rw [Int.toNat_of_nonneg h0]; exact hs b (List.mem_cons.2 (.inl rfl))) (by omega)
          rcases List.mem_cons.1 ha with e | e
          · rw [e]
          · have := q1 _ e; omega
        · rw [show decide (x < b) = false from decide_eq_false hb]
          rcases List.mem_cons.1 ha with e | e
          · omega
          · exact ih q2 (fun y hy => hs y (List.mem_cons.2 (.inr hy))) e
    rw [key xs so (fun _ h => h) h1]; rfl
theorem prevI_of {xs : List Int} (so : xs.Pairwise (· < ·)) (hp : ∀ x ∈ xs, 0 ≤ x) {x r : Int} (h : PrvOf (memI xs) x r) : r = (prevI xs x).getD (-1) := by
  have so' : xs.reverse.Pairwise (· > ·) := List.pairwise_reverse.2 so
  rcases h with ⟨rfl, h⟩ | ⟨a, rfl, h1, h2, h3⟩
  · have : prevI xs x = none := by
      unfold prevI
      rw [List.find?_eq_none]
      intro y hy
      rw [List.mem_reverse] at hy
      have h0 := hp y hy
      have := h y.toNat (by show ((y.toNat : Nat) : Int) ∈ xs; rwa [Int.toNat_of_nonneg h0])
      simp
      omega
    rw [this]; rfl
  · have key : ∀ l : List Int, l.Pairwise (· > ·) → (∀ y ∈ l, y ∈ xs) → (a : Int) ∈ l → l.find? (fun y => decide (y < x)) = some (a : Int) := by
      intro l hl hs ha
      induction l with
      | nil => cases ha
      | cons b l ih =>
        obtain ⟨q1, q2⟩ := List.pairwise_cons.1 hl
        rw [List.find?_cons]
        by_cases hb : b < x
        · rw [show decide (b < x) = true from decide_eq_true hb]
          have h0 := hp b (hs b (List.mem_cons.2 (.inl rfl)))
          have h4 := h3 b.toNat (by show ((b.toNat : Nat) : Int) ∈ xs; rw [Int.toNat_of_nonneg h0]; exact hs b (List.mem_cons.2 (.inl rfl))) (by omega)
          rcases List.mem_cons.1 ha with e | e
          · rw [e]
          · have := q1 _ e; omega
        · rw [show decide (b < x) = false from decide_eq_false hb]
          rcases List.mem_cons.1 ha with e | e
          · omega
          · exact ih q2 (fun y hy => hs y (List.mem_cons.2 (.inr hy))) e
    unfold prevI
    rw [key xs.reverse so' (fun _ h => List.mem_reverse.1 h) (List.mem_reverse.2 h1)]; rfl
theorem nextI_at {xs : List Int} (so : xs.Pairwise (· < ·)) {i : Nat} {x : Int} (h : xs[i]? = some x) : nextI xs x = xs[i + 1]? := by
  induction xs generalizing i with
  | nil => simp at h
  | cons b l ih =>
    obtain ⟨q1, q2⟩ := List.pairwise_cons.1 so
    unfold nextI
    rw [List.find?_cons]
    cases i with
    | zero =>
      simp at h
      subst h
      rw [show decide (b < b) = false by simp]
      cases l with
      | nil => rfl
      | cons c l =>
        have := q1 c (List.mem_cons.2 (.inl rfl))
        rw [List.find?_cons, show decide (b < c) = true from decide_eq_true this]
        rfl
    | succ i =>
      simp at h
      have hm := q1 x (List.mem_of_getElem? h)
      rw [show decide (x < b) = false by simp; omega]
      simpa [nextI] using ih q2 h
theorem nextI_first {xs : List Int} (hp : ∀ x ∈ xs, 0 ≤ x) : nextI xs (-1) = xs[0]? := by
  cases xs with
  | nil => rfl
  | cons b l =>
    have := hp b (List.mem_cons.2 (.inl rfl))
    unfold nextI
    rw [List.find?_cons, show decide ((-1 : Int) < b) = true by simp; omega]
    rfl
theorem ends_first {xs : List Int} (so : xs.Pairwise (· < ·)) (hp : ∀ x ∈ xs, 0 ≤ x) {mn mx : Int} (h : Ends (memI xs) mn mx) (hn : xs ≠ []) : xs[0]? = some mn ∧ xs[xs.length - 1]? = some mx := by
  have hin : ∀ y ∈ xs, memI xs y.toNat := fun y hy => by show ((y.toNat : Nat) : Int) ∈ xs; rwa [Int.toNat_of_nonneg (hp y hy)]
  rcases h with ⟨h, _, _⟩ | ⟨a, z, rfl, rfl, h1, h2, h3⟩
  · obtain ⟨y, hy⟩ := List.exists_mem_of_ne_nil xs hn
    exact absurd (hin y hy) (h _)
  · have hl : 0 < xs.length := List.length_pos_iff.2 hn
    have hget : ∀ i j : Nat, i < j → ∀ u v : Int, xs[i]? = some u → xs[j]? = some v → u < v := by
      intro i j hij u v hu hv
      obtain ⟨hi, rfl⟩ := List.getElem?_eq_some_iff.1 hu
      obtain ⟨hj, rfl⟩ := List.getElem?_eq_some_iff.1 hv
      exact List.pairwise_iff_getElem.1 so i j hi hj hij
    have hle : ∀ y ∈ xs, (a : Int) ≤ y ∧ y ≤ z := fun y hy => by have := h3 _ (hin y hy); have := hp y hy; omega
    constructor
    · obtain ⟨i, hi⟩ := List.mem_iff_getElem?.1 h1
      have e0 : xs[0]? = some xs[0] := List.getElem?_eq_getElem hl
      by_cases e : i = 0
      · subst e; exact hi
      · have := hget 0 i (by omega) _ _ e0 hi
        have := hle xs[0] (List.getElem_mem hl)
        omega
    · obtain ⟨i, hi⟩ := List.mem_iff_getElem?.1 h2
      have hl' : xs.length - 1 < xs.length := by omega
      have e0 : xs[xs.length - 1]? = some xs[xs.length - 1] := List.getElem?_eq_getElem hl'
      by_cases e : i = xs.length - 1
      · subst e; exact hi
      · obtain ⟨hi', _⟩ := List.getElem?_eq_some_iff.1 hi
        have := hget i _ (by omega) _ _ hi e0
        have := hle _ (List.getElem_mem hl')
        omega
variable {w : World} {s k rb : Nat} {st : Int} {xs : List Int} {N : Nat → Prop}
theorem Len_any (R : SR w s k rb st xs N) : Calls Try.prog 22 #[.pointer (some ⟨s, 0, none⟩)] w fun e w' => e = .returned (.int .i64 (xs.length : Int)) ∧ w = w' := by
  have y1 := R.blk.cell (i := 1) rfl
  clear R
  go_enter Try.func22, Try.ntmps22
  go_wp2_with fail
  go_ret
  exact ⟨rfl, rfl⟩
theorem Steps_any (R : SR w s k rb st xs N) : Calls Try.prog 14 #[.pointer (some ⟨s, 0, none⟩)] w fun e w' => e = .returned (.int .i64 st) ∧ w = w' := by
  have y2 := R.blk.cell (i := 2) rfl
  clear R
  go_enter Try.func14, Try.ntmps14
  go_wp2_with fail
  go_ret
  exact ⟨rfl, rfl⟩
theorem end_none (last : Bool) (R : SR w s k rb st [] N) : Calls Try.prog 43 #[.pointer (some ⟨s, 0, none⟩), .bool last] w fun e w' => e = .returned (.tuple #[.int .i64 0, .int .i64 14]) ∧ w = w' := by
  have y1 : w.cell? ⟨s, 1, none⟩ = some (.int .i64 0) := R.blk.cell (i := 1) rfl
  clear R
  go_enter Try.func43, Try.ntmps43
  go_wp2_with fail
  go_ret2
  exact ⟨rfl, rfl⟩
theorem end_min (R : SR w s k rb st xs N) {m : Int} (h : xs[0]? = some m) : Calls Try.prog 43 #[.pointer (some ⟨s, 0, none⟩), .bool false] w fun e w' => e = .returned (.tuple #[.int .i64 m, .int .i64 0]) ∧ w = w' := by
  have hn : xs ≠ [] := fun e => by subst e; cases h
  have hl : 0 < xs.length := List.length_pos_iff.2 hn
  obtain ⟨mn, mx, set, sp, mp, B, E⟩ := R.tr.node
  have he := (ends_first R.so R.pos E hn).1
  rw [h] at he
  injection he with he
  subst he
  have y1 : w.cell? ⟨s, 1, none⟩ = some (.int .i64 xs.length) := R.blk.cell (i := 1) rfl
  have y3 : w.cell? ⟨s, 3, none⟩ = some (.pointer (some ⟨rb, 0, none⟩)) := R.blk.cell (i := 3) rfl
  have x1 : w.cell? ⟨rb, 1, none⟩ = some (.int .i64 m) := B.cell (i := 1) rfl
  have q : ((xs.length : Int) == 0) = false := by simp; omega
  clear R B E h hn
  go_enter Try.func43, Try.ntmps43
  go_wp2_with fail
  go_ret2
  exact ⟨rfl, rfl⟩
theorem end_max (R : SR w s k rb st xs N) {m : Int} (h : xs[xs.length - 1]? = some m) : Calls Try.prog 43 #[.pointer (some ⟨s, 0, none⟩), .bool true] w fun e w' => e = .returned (.tuple #[.int .i64 m, .int .i64 0]) ∧ w = w' := by
  have hn : xs ≠ [] := fun e => by subst e; cases h
  have hl : 0 < xs.length := List.length_pos_iff.2 hn
  obtain ⟨mn, mx, set, sp, mp, B, E⟩ := R.tr.node
  have he := (ends_first R.so R.pos E hn).2
  rw [h] at he
  injection he with he
  subst he
  have y1 : w.cell? ⟨s, 1, none⟩ = some (.int .i64 xs.length) := R.blk.cell (i := 1) rfl
  have y3 : w.cell? ⟨s, 3, none⟩ = some (.pointer (some ⟨rb, 0, none⟩)) := R.blk.cell (i := 3) rfl
  have x1 : w.cell? ⟨rb, 2, none⟩ = some (.int .i64 m) := B.cell (i := 2) rfl
  have q : ((xs.length : Int) == 0) = false := by simp; omega
  clear R B E h hn
  go_enter Try.func43, Try.ntmps43
  go_wp2_with fail
  go_ret2
  exact ⟨rfl, rfl⟩
theorem Min_none (R : SR w s k rb st [] N) : Calls Try.prog 23 #[.pointer (some ⟨s, 0, none⟩)] w fun e w' => e = .returned (.tuple #[.int .i64 0, .int .i64 14]) ∧ w = w' := by
  have H := Lib.hid (end_none false R)
  go_enter Try.func23, Try.ntmps23
  go_wp2_with (go_at_call 43; refine (H.out).mono ?_; rintro e w1 ⟨rfl, rfl⟩)
  go_ret2
  exact ⟨rfl, rfl⟩
theorem Max_none (R : SR w s k rb st [] N) : Calls Try.prog 24 #[.pointer (some ⟨s, 0, none⟩)] w fun e w' => e = .returned (.tuple #[.int .i64 0, .int .i64 14]) ∧ w = w' := by
  have H := Lib.hid (end_none true R)
  go_enter Try.func24, Try.ntmps24
  go_wp2_with (go_at_call 43; refine (H.out).mono ?_; rintro e w1 ⟨rfl, rfl⟩)
  go_ret2
  exact ⟨rfl, rfl⟩
theorem Min_any (R : SR w s k rb st xs N) {m : Int} (h : xs[0]? = some m) : Calls Try.prog 23 #[.pointer (some ⟨s, 0, none⟩)] w fun e w' => e = .returned (.tuple #[.int .i64 m, .int .i64 0]) ∧ w = w' := by
  have H := Lib.hid (end_min R h)
  go_enter Try.func23, Try.ntmps23
  go_wp2_with (go_at_call 43; refine (H.out).mono ?_; rintro e w1 ⟨rfl, rfl⟩)
  go_ret2
  exact ⟨rfl, rfl⟩
theorem Max_any (R : SR w s k rb st xs N) {m : Int} (h : xs[xs.length - 1]? = some m) : Calls Try.prog 24 #[.pointer (some ⟨s, 0, none⟩)] w fun e w' => e = .returned (.tuple #[.int .i64 m, .int .i64 0]) ∧ w = w' := by
  have H := Lib.hid (end_max R h)
  go_enter Try.func24, Try.ntmps24
  go_wp2_with (go_at_call 43; refine (H.out).mono ?_; rintro e w1 ⟨rfl, rfl⟩)
  go_ret2
  exact ⟨rfl, rfl⟩
def AskP (w : World) (s k rb : Nat) (xs : List Int) (N : Nat → Prop) (o : Option Int) (e : Ending) (w' : World) : Prop :=
  ∃ st', e = .returned (.tuple #[.int .i64 (o.getD 0), .int .i64 (if o.isSome then 0 else 12)]) ∧ SR w' s k rb st' xs N ∧ 1 ≤ st' ∧ st' ≤ 1 + 3 * (dk k : Int) ∧ Fr (onB s) w w'
theorem nextI_nat (hp : ∀ x ∈ xs, 0 ≤ x) {x v : Int} (h : nextI xs x = some v) : ∃ n : Nat, v = n := ⟨v.toNat, by have := hp v (List.mem_of_find?_eq_some h); omega⟩
theorem prevI_nat (hp : ∀ x ∈ xs, 0 ≤ x) {x v : Int} (h : prevI xs x = some v) : ∃ n : Nat, v = n := ⟨v.toNat, by have := hp v (List.mem_reverse.1 (List.mem_of_find?_eq_some h)); omega⟩
theorem Next_any (R : SR w s k rb st xs N) (x : Int) : Calls Try.prog 12 #[.pointer (some ⟨s, 0, none⟩), .int .i64 x] w (AskP w s k rb xs N (nextI xs x)) := by
  obtain ⟨o, ho⟩ : ∃ o, nextI xs x = o := ⟨_, rfl⟩
  rw [ho]
  have z2 := R.blk.free 2
  have y2 := R.blk.cell (i := 2) rfl
  have y3 : w.cell? ⟨s, 3, none⟩ = some (.pointer (some ⟨rb, 0, none⟩)) := R.blk.cell (i := 3) rfl
  have HR := Lib.hid R.zero
  have HF := Lib.hid ((Fr.refl (onB s) w).setB 2 (.int .i64 0))
  have hd := dk_le k
  clear R
  go_enter Try.func12, Try.ntmps12
  go_wp2_with fail
  clear y2 y3 z2
  generalize w.setCell ⟨s, 2, none⟩ (.int .i64 0) = w1 at *
  refine (next_any _ _ _ _ _ _ _ _ _ _ _ _ HR.out.tr HR.out.blk HR.out.nf (by omega) (by omega)).mono ?_
  rintro e w2 ⟨r, st', rfl, hr, g1, g2, B2, F2⟩
  have hr' := nextI_of HR.out.so HR.out.pos hr
  have HB := Lib.hid B2
  have HF2 := Lib.hid F2
  have hRes := Lib.hid (show SR w2 s k rb st' xs N from ⟨HR.out.k1, HR.out.k20, HB.out, HR.out.tr.fr HF2.out (fun q hq (e : q = s) => HR.out.nf (e ▸ hq)), HR.out.nf, HR.out.so, HR.out.pos, by omega, by omega⟩)
  clear B2 F2 hr
  rw [ho] at hr'
  cases o with
  | none =>
    simp only [Option.getD_none] at hr'
    subst hr'
    go_wp2_with (go_at_call 39; refine (found_none _).mono ?_; rintro e w3 ⟨rfl, rfl⟩)
    go_ret2
    exact ⟨st', rfl, hRes.out, by omega, by omega, HF.out.trans HF2.out (fun _ _ h => h)⟩
  | some v =>
    obtain ⟨v, rfl⟩ := nextI_nat HR.out.pos ho
    simp only [Option.getD_some] at hr'
    subst hr'
    go_wp2_with (go_at_call 39; refine (found_some _ v).mono ?_; rintro e w3 ⟨rfl, rfl⟩)
    go_ret2
    exact ⟨st', rfl, hRes.out, by omega, by omega, HF.out.trans HF2.out (fun _ _ h => h)⟩
theorem Prev_any (R : SR w s k rb st xs N) (x : Int) : Calls Try.prog 13 #[.pointer (some ⟨s, 0, none⟩), .int .i64 x] w (AskP w s k rb xs N (prevI xs x)) := by
  obtain ⟨o, ho⟩ : ∃ o, prevI xs x = o := ⟨_, rfl⟩
  rw [ho]
  have z2 := R.blk.free 2
  have y2 := R.blk.cell (i := 2) rfl
  have y3 : w.cell? ⟨s, 3, none⟩ = some (.pointer (some ⟨rb, 0, none⟩)) := R.blk.cell (i := 3) rfl
  have HR := Lib.hid R.zero
  have HF := Lib.hid ((Fr.refl (onB s) w).setB 2 (.int .i64 0))
  have hd := dk_le k
  clear R
  go_enter Try.func13, Try.ntmps13
  go_wp2_with fail
  clear y2 y3 z2
  generalize w.setCell ⟨s, 2, none⟩ (.int .i64 0) = w1 at *
  refine (prev_any _ _ _ _ _ _ _ _ _ _ _ _ HR.out.tr HR.out.blk HR.out.nf (by omega) (by omega)).mono ?_
  rintro e w2 ⟨r, st', rfl, hr, g1, g2, B2, F2⟩
  have hr' := prevI_of HR.out.so HR.out.pos hr
  have HB := Lib.hid B2
  have HF2 := Lib.hid F2
  have hRes := Lib.hid (show SR w2 s k rb st' xs N from ⟨HR.out.k1, HR.out.k20, HB.out, HR.out.tr.fr HF2.out (fun q hq (e : q = s) => HR.out.nf (e ▸ hq)), HR.out.nf, HR.out.so, HR.out.pos, by omega, by omega⟩)
  clear B2 F2 hr
  rw [ho] at hr'
  cases o with
  | none =>
    simp only [Option.getD_none] at hr'
    subst hr'
    go_wp2_with (go_at_call 39; refine (found_none _).mono ?_; rintro e w3 ⟨rfl, rfl⟩)
    go_ret2
    exact ⟨st', rfl, hRes.out, by omega, by omega, HF.out.trans HF2.out (fun _ _ h => h)⟩
  | some v =>
    obtain ⟨v, rfl⟩ := prevI_nat HR.out.pos ho
    simp only [Option.getD_some] at hr'
    subst hr'
    go_wp2_with (go_at_call 39; refine (found_some _ v).mono ?_; rintro e w3 ⟨rfl, rfl⟩)
    go_ret2
    exact ⟨st', rfl, hRes.out, by omega, by omega, HF.out.trans HF2.out (fun _ _ h => h)⟩
end Go.Proofs.Ytohblajdeicfeaa
