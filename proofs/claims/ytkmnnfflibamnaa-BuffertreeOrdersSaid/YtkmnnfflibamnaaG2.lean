/- Buffer trees: the binary search. -/
import Derived.Test.YtkmnnfflibamnaaG1
import Derived.Test.YtkmnnfflibamnaaHs
namespace Go.Proofs.Ytkmnnfflibamnaa
open Go.RowKit
attribute [local go_sem ↓] Go.wp_at_zero Go.wp_at_succ
def en3 (e : En) : List Value := [.int .i64 e.1, .int .i64 e.2.1, .bool e.2.2]
def ents (l : List En) : List Value := l.flatMap en3
theorem ents_len : ∀ l : List En, (ents l).length = l.length * 3
  | [] => rfl
  | x :: l => by
    have := ents_len l
    unfold ents at this ⊢
    rw [List.flatMap_cons, List.length_append, this, List.length_cons]; show 3 + _ = _; omega
theorem ents_app (l m : List En) : ents (l ++ m) = ents l ++ ents m := by unfold ents; rw [List.flatMap_append]
theorem ents_one (l : List En) : ∀ u ∈ ents l, u.oneCell' = true := by
  intro u hu
  unfold ents at hu
  rw [List.mem_flatMap] at hu
  obtain ⟨e, _, hu⟩ := hu
  simp [en3] at hu
  rcases hu with rfl | rfl | rfl <;> rfl
theorem ents_get : ∀ {l : List En} {i : Nat} {x : En}, l[i]? = some x → ∀ j, j < 3 → (ents l)[i * 3 + j]? = (en3 x)[j]?
  | y :: l, 0, x, h, j, hj => by
    simp at h; subst h
    unfold ents
    rw [List.flatMap_cons, List.getElem?_append_left (by show _ < 3; omega), Nat.zero_mul, Nat.zero_add]
  | y :: l, i + 1, x, h, j, hj => by
    have ih := ents_get (l := l) (i := i) (x := x) (by simpa using h) j hj
    unfold ents at ih ⊢
    rw [List.flatMap_cons, List.getElem?_append_right (by show 3 ≤ _; omega), ← ih]
    congr 1
    show (i + 1) * 3 + j - 3 = _
    omega
/-- The cells of an entry. -/
theorem RdZ.ent {w : World} {a : Option Addr} {n : Nat} {l : List En} (h : RdZ w 3 a n (ents l)) {i : Nat} {x : En} (hx : l[i]? = some x) :
    ∃ b o, a = some ⟨b, o, none⟩ ∧ w.cell? ⟨b, o + i * 3, none⟩ = some (.int .i64 x.1) ∧ w.cell? ⟨b, o + i * 3 + 1, none⟩ = some (.int .i64 x.2.1) ∧ w.cell? ⟨b, o + i * 3 + 2, none⟩ = some (.bool x.2.2) := by
  have hl := h.len
  rw [ents_len] at hl
  have hi := (List.getElem?_eq_some_iff.1 hx).1
  obtain ⟨b, o, ha, hc⟩ := h.cells (by omega)
  refine ⟨b, o, ha, ?_, ?_, ?_⟩
  · have := hc _ (.int .i64 x.1) (by rw [ents_get hx 0 (by omega)]; rfl); simpa using this
  · have := hc _ (.int .i64 x.2.1) (by rw [ents_get hx 1 (by omega)]; rfl); rw [Nat.add_assoc]; exact this
  · have := hc _ (.bool x.2.2) (by rw [ents_get hx 2 (by omega)]; rfl); rw [Nat.add_assoc]; exact this
/-- i is the place of the key. -/
structure Lo (l : List En) (k : Int) (i : Nat) : Prop where
  le : i ≤ l.length
  lo : ∀ j e, l[j]? = some e → j < i → e.1 < k
  hi : ∀ j e, l[j]? = some e → i ≤ j → k ≤ e.1
theorem Sd.at {l : List En} (h : Sd l) {i j : Nat} {x y : En} (hx : l[i]? = some x) (hy : l[j]? = some y) (hij : i < j) : x.1 < y.1 := by
  obtain ⟨h1, rfl⟩ := List.getElem?_eq_some_iff.1 hx
  obtain ⟨h2, rfl⟩ := List.getElem?_eq_some_iff.1 hy
  exact List.pairwise_iff_getElem.1 h i j h1 h2 hij
theorem Lo.found {l : List En} (h : Sd l) {k : Int} {i : Nat} (hi : Lo l k i) {e : En} (he : l[i]? = some e) : lk l k = if e.1 = k then some e else none := by
  by_cases c : e.1 = k
  · rw [if_pos c]
    have := lk_mem h (List.mem_of_getElem? he)
    rw [c] at this; exact this
  · rw [if_neg c]
    refine lk_none.2 (fun y hy => ?_)
    obtain ⟨j, hj⟩ := List.getElem?_of_mem hy
    rcases Nat.lt_trichotomy j i with d | d | d
    · have := hi.lo j y hj d; omega
    · subst d; rw [he] at hj; injection hj with hj; subst hj; exact c
    · have h1 := hi.hi i e he (Nat.le_refl _)
      have h2 := h.at he hj d
      omega
theorem Lo.none {l : List En} {k : Int} {i : Nat} (hi : Lo l k i) (he : l.length ≤ i) : lk l k = none :=
  lk_none.2 (fun y hy => by
    obtain ⟨j, hj⟩ := List.getElem?_of_mem hy
    have := (List.getElem?_eq_some_iff.1 hj).1
    have := hi.lo j y hj (by omega)
    omega)
set_option maxRecDepth 100000 in
set_option maxHeartbeats 8000000 in
theorem BinarySearch_any {w : World} {a : Option Addr} {n c : Nat} {l : List En} (k : Int) (h : RdZ w 3 a n (ents l)) (hs : Sd l) (hn : n ≤ 1000000) :
    Calls Try.prog 82 #[.slice a n c, .int .i64 k, .func (.func 83) #[] #[]] w fun e w' => ∃ i, e = .returned (.tuple #[.int .i64 (i : Nat), .bool (lk l k).isSome]) ∧ Lo l k i ∧ Fr F0 w w' := by
  have hl : l.length = n := by have := h.len; rw [ents_len] at this; omega
  have HR := Lib.hid h
  have HS := Lib.hid hs
  have Hl := Lib.hid hl
  clear h hs hl
  go_enter Try.func82, Try.ntmps82
  go_wp2_with fail
  go_loopw [9, 10] (fun s9 s10 wr => ∃ i j : Nat, s9 = .int .i64 (i : Int) ∧ s10 = .int .i64 (j : Int) ∧ i ≤ j ∧ j ≤ n ∧ Hid ((∀ x e, l[x]? = some e → x < i → e.1 < k) ∧ (∀ x e, l[x]? = some e → j ≤ x → k ≤ e.1) ∧ Fr F0 w wr)) (fun s9 s10 _ => (intOf s10).toNat - (intOf s9).toNat)
  case atStart => exact ⟨0, n, rfl, rfl, Nat.zero_le _, Nat.le_refl _, Lib.hid ⟨fun x e _ h => absurd h (Nat.not_lt_zero _), fun x e hx h => by have := (List.getElem?_eq_some_iff.1 hx).1; have := Hl.out; omega, Fr.refl _ _⟩⟩
  case round =>
    obtain ⟨i, j, rfl, rfl, hij, hj, H⟩ := hrel
    by_cases hlt : i < j
    · have hlt' : (i : Int) < (j : Int) := by omega
      obtain ⟨m, hm⟩ : ∃ m, m = (i + j) / 2 := ⟨_, rfl⟩
      have hm2 : ((i : Int) + (j : Int)) / 2 = (m : Int) := by omega
      have hmb : i ≤ m ∧ m < j := by omega
      obtain ⟨x, hx⟩ : ∃ x, l[m]? = some x := ⟨_, List.getElem?_eq_getElem (by have := Hl.out; omega)⟩
      obtain ⟨b, o, rfl, d0, d1, d2⟩ := (HR.out.fr0 H.out.2.2).ent hx
      have HX := Lib.hid hx
      obtain ⟨x1, x2, x3⟩ := x
      dsimp only at d0 d1 d2
      have HC := Lib.hid (fun w => findCl_any x1 x2 x3 k w)
      clear hm hx
      by_cases hk : x1 < k
      · have hcmp : cmpI x1 k = -1 := if_pos hk
        rw [hcmp] at HC
        clear hcmp
        go_wp2_with fail
        refine (HC.out _).mono ?_
        rintro e w2 ⟨rfl, F2⟩
        have H2 : Hid ((∀ x e, l[x]? = some e → x < m + 1 → e.1 < k) ∧ (∀ x e, l[x]? = some e → j ≤ x → k ≤ e.1) ∧ Fr F0 w w2) := Lib.hid ⟨fun y e hy hym => by
          rcases Nat.lt_or_ge y m with c | c
          · have := HS.out.at hy HX.out c
            show e.1 < k
            exact Int.lt_trans this hk
          · have : y = m := by omega
            subst this
            have := HX.out
            rw [hy] at this; injection this with this; subst this; exact hk, H.out.2.1, H.out.2.2.trans0 F2⟩
        clear F2
        go_wp2_with fail
        go_roundw
        case rel => exact ⟨m + 1, j, by go_num, rfl, by omega, hj, H2⟩
        case measure => simp [intOf]; omega
      · have hcmp : ¬ cmpI x1 k < 0 := by unfold cmpI; rw [if_neg hk]; split <;> omega
        obtain ⟨cv, hcv⟩ : ∃ z, z = cmpI x1 k := ⟨_, rfl⟩
        rw [← hcv] at HC hcmp
        clear hcv
        go_wp2_with fail
        refine (HC.out _).mono ?_
        rintro e w2 ⟨rfl, F2⟩
        have H2 : Hid ((∀ x e, l[x]? = some e → x < i → e.1 < k) ∧ (∀ x e, l[x]? = some e → m ≤ x → k ≤ e.1) ∧ Fr F0 w w2) := Lib.hid ⟨H.out.1, fun y e hy hym => by
          rcases Nat.lt_or_ge m y with c | c
          · have : x1 < e.1 := HS.out.at HX.out hy c
            omega
          · have : y = m := by omega
            subst this
            have := HX.out
            rw [hy] at this; injection this with this; subst this; show k ≤ x1; omega, H.out.2.2.trans0 F2⟩
        clear F2
        go_wp2_with fail
        go_roundw
        case rel => exact ⟨i, m, rfl, rfl, by omega, by omega, H2⟩
        case measure => simp [intOf]; omega
    · obtain rfl : i = j := by omega
      have hLo : Lo l k i := ⟨by rw [Hl.out]; exact hj, H.out.1, H.out.2.1⟩
      have HLo := Lib.hid hLo
      clear hLo
      by_cases hin : i < n
      · have hin' : (i : Int) < (n : Int) := by omega
        obtain ⟨x, hx⟩ : ∃ x, l[i]? = some x := ⟨_, List.getElem?_eq_getElem (by have := Hl.out; omega)⟩
        obtain ⟨b, o, rfl, d0, d1, d2⟩ := (HR.out.fr0 H.out.2.2).ent hx
        have hf := HLo.out.found HS.out hx
        obtain ⟨x1, x2, x3⟩ := x
        dsimp only at d0 d1 d2
        have HC := Lib.hid (fun w => findCl_any x1 x2 x3 k w)
        have hge : k ≤ x1 := HLo.out.hi i _ hx (Nat.le_refl _)
        obtain ⟨cv, hcv⟩ : ∃ z, z = cmpI x1 k := ⟨_, rfl⟩
        have hr : decide (cv = 0) = (lk l k).isSome := by
          rw [hf, hcv]
          unfold cmpI
          rw [if_neg (by omega)]
          by_cases c : x1 = k
          · rw [if_neg (by omega), if_pos c]; rfl
          · rw [if_pos (by omega), if_neg c]; rfl
        rw [← hcv] at HC
        have HRr := Lib.hid hr
        clear hcv hf hx hr hge
        go_wp2_with fail
        refine (HC.out _).mono ?_
        rintro e w2 ⟨rfl, F2⟩
        have HF := Lib.hid (H.out.2.2.trans0 F2)
        clear F2
        go_wp2_with fail
        go_ret2
        refine ⟨i, ?_, HLo.out, HF.out⟩
        rw [← HRr.out]
        rfl
      · have hin' : ¬ (i : Int) < (n : Int) := by omega
        have hf := HLo.out.none (by rw [Hl.out]; omega)
        have HF := Lib.hid hf
        clear hf
        go_wp2_with fail
        go_ret2
        refine ⟨i, ?_, HLo.out, H.out.2.2⟩
        rw [HF.out]; rfl
/-- find. -/
theorem find_any {w : World} {a : Option Addr} {n c : Nat} {l : List En} (k : Int) (h : RdZ w 3 a n (ents l)) (hs : Sd l) (hn : n ≤ 1000000) :
    Calls Try.prog 59 #[.slice a n c, .int .i64 k] w fun e w' => ∃ i, e = .returned (.tuple #[.int .i64 (i : Nat), .bool (lk l k).isSome]) ∧ Lo l k i ∧ Fr F0 w w' := by
  have HB := Lib.hid (BinarySearch_any (c := c) k h hs hn)
  clear h
  go_enter Try.func59, Try.ntmps59
  go_wp2_with fail
  refine HB.out.mono ?_
  rintro e w' ⟨i, rfl, hL, hF⟩
  have H2 := Lib.hid (And.intro hL hF)
  clear hL hF
  go_wp2_with fail
  go_ret2
  exact ⟨i, rfl, H2.out.1, H2.out.2⟩
end Go.Proofs.Ytkmnnfflibamnaa
