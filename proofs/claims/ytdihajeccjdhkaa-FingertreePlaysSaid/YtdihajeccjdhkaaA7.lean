/- Make, and what a tree says of itself. -/
import Derived.Test.YtdihajeccjdhkaaA6
import Derived.Test.YtdihajeccjdhkaaSlContains0
import Derived.Test.YtdihajeccjdhkaaSlEqual
namespace Go.Proofs.Ytdihajeccjdhkaa
open Go.RowKit
attribute [local go_sem ↓] Go.wp_at_zero Go.wp_at_succ
def keyB (x : Int) : Bool := decide (-1048576 ≤ x) && decide (x ≤ 1048576)
theorem keyB_iff (x : Int) : keyB x = true ↔ -1048576 ≤ x ∧ x ≤ 1048576 := by unfold keyB; simp
theorem element_any (x : Int) (w : World) : Calls Try.prog 38 #[.int .i64 x] w fun e w' => e = .returned (.bool (keyB x)) ∧ w = w' := by
  cases h : decide (-1048576 ≤ x) with
  | false =>
    have E : Hid (keyB x = false) := Lib.hid (by unfold keyB; rw [h]; rfl)
    go_enter Try.func38, Try.ntmps38
    go_wp2_with fail
    go_ret
    exact ⟨ret_bool E.out.symm, rfl⟩
  | true =>
    have E : Hid (keyB x = decide (x ≤ 1048576)) := Lib.hid (by unfold keyB; rw [h]; rfl)
    go_enter Try.func38, Try.ntmps38
    go_wp2_with fail
    go_ret
    exact ⟨ret_bool E.out.symm, rfl⟩
theorem Key_any (x : Int) (w : World) : Calls Try.prog 31 #[.int .i64 x] w fun e w' => e = .returned (.bool (keyB x)) ∧ w = w' := by
  cases h : decide (-1048576 ≤ x) with
  | false =>
    have E : Hid (keyB x = false) := Lib.hid (by unfold keyB; rw [h]; rfl)
    go_enter Try.func31, Try.ntmps31
    go_wp2_with fail
    go_ret
    exact ⟨ret_bool E.out.symm, rfl⟩
  | true =>
    have E : Hid (keyB x = decide (x ≤ 1048576)) := Lib.hid (by unfold keyB; rw [h]; rfl)
    go_enter Try.func31, Try.ntmps31
    go_wp2_with fail
    go_ret
    exact ⟨ret_bool E.out.symm, rfl⟩
theorem Make1_any (x : Int) (w : World) : Calls Try.prog 37 #[.int .i64 x] w fun e w' => e = .returned (.bool (!keyB x)) ∧ w = w' := by
  have h := element_any x w
  generalize keyB x = k at *
  go_enter Try.func37, Try.ntmps37
  go_wp2_with fail
  refine h.mono ?_; rintro e w' ⟨rfl, rfl⟩
  go_wp2_with fail
  go_ret
  exact ⟨rfl, rfl⟩
def badB (xs : List Int) : Bool := xs.any (fun x => !keyB x)
theorem badB_small {xs : List Int} : badB xs = false ↔ Tr.Small xs := by
  unfold badB Tr.Small
  rw [List.any_eq_false]
  constructor
  · intro h x hx
    have := h x hx
    exact (keyB_iff x).1 (by simpa using this)
  · intro h x hx
    have := (keyB_iff x).2 (h x hx)
    simp [this]
/-- The error number of a list. -/
def madeI (xs : List Int) : Int := if badB xs = true then 1 else if 4096 < xs.length then 4 else 0
/-- A tree, as the package hands it out. -/
def TrM (w : World) (t : Tr) (p : Option Addr) : Prop := ∃ b pr, p = some ⟨b, 0, none⟩ ∧ (w.cell? ⟨b, 0, none⟩ = some (.pointer pr) ∧ ∃ arr fr, w.heap[b]? = some (.cells arr 68 fr)) ∧ TM w t pr
theorem TrM.fr0 {w w' : World} (f : Fr F0 w w') {t : Tr} {p : Option Addr} (h : TrM w t p) : TrM w' t p := by
  obtain ⟨b, pr, h1, ⟨h2, arr, fr, h4⟩, h3⟩ := h
  exact ⟨b, pr, h1, ⟨f.cell h2 id, arr, fr, (f.block b (Array.getElem?_eq_some_iff.1 h4).1 id).trans h4⟩, h3.fr0 f⟩
/-- A tree with these elements was made. -/
def TPost (xs : List Int) (w : World) (e : Ending) (w' : World) : Prop :=
  ∃ t p, t.list = xs ∧ t.Avl ∧ e = .returned (.tuple #[.pointer p, .int .i64 0]) ∧ TrM w' t p ∧ Fr F0 w w'
theorem TrM.new {w W : World} {t : Tr} {p : Option Addr} (h : TM W t p) : TrM (W.alloc (.cells #[.pointer p] 68)) t (some ⟨W.heap.size, 0, none⟩) :=
  ⟨W.heap.size, p, rfl, ⟨(Blk.new W 68 [.pointer p]).cell (i := 0) rfl, _, _, Blk.new W 68 [.pointer p]⟩, h.fr0 ((Fr.refl _ _).alloc _)⟩
theorem Make_ok {a : Option Addr} {m c : Nat} {xs : List Int} {w : World} (hr : Rd w a m (ints xs)) (hc : m ≤ c) (hs : Tr.Small xs) (hm : m ≤ 4096) : Calls Try.prog 10 #[.slice a m c] w (TPost xs w) := by
  have hb := badB_small.2 hs
  unfold badB at hb
  have h1 := ContainsFunc_c0 (fun x => !keyB x) a m c xs w hr (fun x => Make1_any x w)
  rw [hb] at h1
  have h2 := of_any hr hc hs (by omega)
  have H1 := Lib.hid h1
  have H2 := Lib.hid h2
  have d1 : decide ((4096 : Int) < (m : Int)) = false := by simp; omega
  clear hb h1 h2 hr hs hm hc
  go_enter Try.func10, Try.ntmps10
  go_wp2_with fail
  refine H1.out.mono ?_; rintro e w' ⟨rfl, rfl⟩
  go_wp2_with fail
  refine H2.out.mono ?_
  rintro e w1 ⟨t, p, t1, t2, t3, rfl, T, F⟩
  go_wp2_with fail
  go_ret2
  exact ⟨t, _, t1, t2, rfl, TrM.new (w := w1) T, F.alloc _⟩
theorem Make_bad {a : Option Addr} {m c : Nat} {xs : List Int} {w : World} (hr : Rd w a m (ints xs)) (h0 : madeI xs ≠ 0) : Calls Try.prog 10 #[.slice a m c] w fun e w' => e = .returned (.tuple #[.pointer none, .int .i64 (madeI xs)]) ∧ Fr F0 w w' := by
  have hxl : xs.length = m := by simpa using hr.len
  have h1 := ContainsFunc_c0 (fun x => !keyB x) a m c xs w hr (fun x => Make1_any x w)
  have eb : xs.any (fun x => !keyB x) = badB xs := rfl
  rw [eb] at h1
  cases hb : badB xs with
  | true =>
    have E : madeI xs = 1 := by unfold madeI; rw [hb, if_pos rfl]
    rw [E]
    rw [hb] at h1
    have H1 := Lib.hid h1
    clear h1 hr hb eb E h0
    go_enter Try.func10, Try.ntmps10
    go_wp2_with fail
    refine H1.out.mono ?_; rintro e w' ⟨rfl, rfl⟩
    go_wp2_with fail
    go_ret2
    exact ⟨rfl, Fr.refl _ _⟩
  | false =>
    have hm : 4096 < m := by
      unfold madeI at h0
      rw [hb, if_neg (by decide), hxl] at h0
      by_cases h : 4096 < m
      · exact h
      · rw [if_neg h] at h0; exact absurd rfl h0
    have E : madeI xs = 4 := by unfold madeI; rw [hb, if_neg (by decide), hxl, if_pos hm]
    rw [E]
    rw [hb] at h1
    have H1 := Lib.hid h1
    have d1 : decide ((4096 : Int) < (m : Int)) = true := by simp; omega
    clear h1 hr hb eb E h0 hm
    go_enter Try.func10, Try.ntmps10
    go_wp2_with fail
    refine H1.out.mono ?_; rintro e w' ⟨rfl, rfl⟩
    go_wp2_with fail
    go_ret2
    exact ⟨rfl, Fr.refl _ _⟩
set_option maxHeartbeats 1000000 in
theorem Made_any {a : Option Addr} {m c : Nat} {xs : List Int} {w : World} (hr : Rd w a m (ints xs)) : Calls Try.prog 11 #[.slice a m c] w fun e w' => e = .returned (.int .i64 (madeI xs)) ∧ w = w' := by
  have hxl : xs.length = m := by simpa using hr.len
  have hmax := hr.max
  have Hxl := Lib.hid hxl
  clear hxl
  go_enter Try.func11, Try.ntmps11
  go_wp2_with fail
  go_loop [3] (fun i => ∃ k : Nat, k ≤ m ∧ i = .int .i64 k ∧ Hid (badB (xs.take k) = false)) (fun i => m - (intOf i).toNat)
  case atStart => exact ⟨0, by omega, rfl, Lib.hid rfl⟩
  case round =>
    obtain ⟨k, hk, rfl, hno⟩ := hrel
    by_cases hlt : k < m
    · obtain ⟨b, o, x, hb, hx, d⟩ := hr.ix hlt
      subst hb
      have hky := Key_any x w
      have Hx := Lib.hid hx
      have i0 : (0 : Int) ≤ (k : Int) := by omega
      have i1 : (k : Int) < (m : Int) := by omega
      clear hx
      cases hkx : keyB x with
      | true =>
        rw [hkx] at hky
        have h2 : Hid (badB (xs.take (k + 1)) = false) := Lib.hid (by
          unfold badB at *
          rw [List.take_add_one, Hx.out, List.any_append, hno.out]
          simp [hkx])
        clear hkx
        go_wp2_with fail
        refine hky.mono ?_; rintro e w' ⟨rfl, rfl⟩
        go_wp2_with fail
        go_round
        case rel => exact ⟨k + 1, by omega, by go_num, h2⟩
        case measure => simp [intOf]; omega
      | false =>
        rw [hkx] at hky
        have E : Hid (madeI xs = 1) := Lib.hid (by
          unfold madeI
          rw [if_pos]
          unfold badB
          exact List.any_eq_true.2 ⟨x, List.mem_of_getElem? Hx.out, by simp [hkx]⟩)
        clear hkx
        go_wp2_with fail
        refine hky.mono ?_; rintro e w' ⟨rfl, rfl⟩
        go_wp2_with fail
        go_ret
        exact ⟨ret_int E.out.symm, rfl⟩
    · obtain rfl : k = m := by omega
      have hall : badB xs = false := by have h := hno.out; rwa [List.take_of_length_le (by rw [Hxl.out]; omega)] at h
      by_cases hbig : 4096 < k
      · have E : Hid (madeI xs = 4) := Lib.hid (by unfold madeI; rw [hall, if_neg (by decide), Hxl.out, if_pos hbig])
        have d1 : decide ((4096 : Int) < (k : Int)) = true := by simp; omega
        clear hbig hall hk hlt hmax
        go_wp2_with fail
        go_ret
        exact ⟨ret_int E.out.symm, rfl⟩
      · have E : Hid (madeI xs = 0) := Lib.hid (by unfold madeI; rw [hall, if_neg (by decide), Hxl.out, if_neg hbig])
        have d1 : decide ((4096 : Int) < (k : Int)) = false := by simp; omega
        clear hbig hall hk hlt hmax
        go_wp2_with fail
        go_ret
        exact ⟨ret_int E.out.symm, rfl⟩
theorem Len_any {t : Tr} {p : Option Addr} {w : World} (h : TrM w t p) : Calls Try.prog 23 #[.pointer p] w fun e w' => e = .returned (.int .i64 t.len) ∧ w = w' := by
  obtain ⟨b, pr, rfl, ⟨hc, _⟩, ht⟩ := h
  have hl := Lib.hid (len_any ht)
  clear ht
  go_enter Try.func23, Try.ntmps23
  go_wp2_with fail
  refine hl.out.mono ?_; rintro e w' ⟨rfl, rfl⟩
  go_wp2_with fail
  go_ret
  exact ⟨rfl, rfl⟩
theorem Depth_any {t : Tr} {p : Option Addr} {w : World} (h : TrM w t p) : Calls Try.prog 29 #[.pointer p] w fun e w' => e = .returned (.int .i64 t.ht) ∧ w = w' := by
  obtain ⟨b, pr, rfl, ⟨hc, _⟩, ht⟩ := h
  have hl := Lib.hid (height_any ht)
  clear ht
  go_enter Try.func29, Try.ntmps29
  go_wp2_with fail
  refine hl.out.mono ?_; rintro e w' ⟨rfl, rfl⟩
  go_wp2_with fail
  go_ret
  exact ⟨rfl, rfl⟩
/-- The shape: one part. -/
def shp (n : Nat) : List Int := if n = 0 then [] else [(n : Int)]
theorem Shape_any {t : Tr} {p : Option Addr} {w : World} (h : TrM w t p) : Calls Try.prog 30 #[.pointer p] w fun e w' => ∃ a m c, m = (shp t.len).length ∧ e = .returned (.slice a m c) ∧ Rd w' a m (ints (shp t.len)) ∧ Fr F0 w w' := by
  have hl := Lib.hid (Len_any h)
  clear h
  generalize t.len = n at *
  by_cases h0 : n = 0
  · subst h0
    go_enter Try.func30, Try.ntmps30
    go_wp2_with fail
    refine hl.out.mono ?_; rintro e w' ⟨rfl, rfl⟩
    go_wp2_with fail
    go_ret
    exact ⟨none, 0, 0, rfl, rfl, Rd.nil _ _, Fr.refl _ _⟩
  · have e1 : ((n : Int) == 0) = false := by simp; omega
    have hO := Lib.hid (Own.lit (w := w) (B := 0) (T := 3) [Value.int .i64 (n : Int)] 1 rfl (Nat.zero_le _) (by omega)).rd
    have es : shp n = [(n : Int)] := by unfold shp; rw [if_neg h0]
    rw [es]
    clear es h0
    go_enter Try.func30, Try.ntmps30
    go_wp2_with fail
    refine hl.out.mono ?_; rintro e w' ⟨rfl, rfl⟩
    go_wp2_with fail
    refine hl.out.mono ?_; rintro e w' ⟨rfl, rfl⟩
    go_wp2_with fail
    go_ret
    exact ⟨_, 1, 1, rfl, rfl, hO.out, (Fr.refl _ _).alloc _⟩
end Go.Proofs.Ytdihajeccjdhkaa
