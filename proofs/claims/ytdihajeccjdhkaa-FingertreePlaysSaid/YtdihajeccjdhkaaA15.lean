/- At; the reference's Sum and Search. -/
import Derived.Test.YtdihajeccjdhkaaA14
namespace Go.Proofs.Ytdihajeccjdhkaa
open Go.RowKit
attribute [local go_sem ↓] Go.wp_at_zero Go.wp_at_succ
/-- What At answers. -/
def atS (xs : List Int) (i : Int) : Int × Int := if i < 0 ∨ (xs.length : Int) ≤ i then (0, 2) else ((xs[i.toNat]?).getD 0, 0)
set_option maxHeartbeats 2000000 in
theorem At_some {t : Tr} {p : Option Addr} {w : World} (h : TrM w t p) (hf : Fit t) {i : Nat} {V : Int} (hi : t.list[i]? = some V) :
    Calls Try.prog 13 #[.pointer p, .int .i64 i] w fun e w' => e = .returned (.tuple #[.int .i64 V, .int .i64 0]) ∧ w = w' := by
  have hlen := Len_any h
  obtain ⟨b0, pr0, rfl, ⟨hc0, _⟩, ht⟩ := h
  have hil : i < t.len := (List.getElem?_eq_some_iff.1 hi).1
  have hl5 := hf.len
  obtain ⟨L0, hL0⟩ : ∃ L, L = t.len := ⟨_, rfl⟩
  rw [← hL0] at hlen hil hl5
  have H := Lib.hid ht
  have HF := Lib.hid hf
  have HI := Lib.hid hi
  have HL0 := Lib.hid hL0
  clear ht hf hi hL0
  have hi0 : (0 : Int) ≤ (i : Int) := by omega
  have hi1 : decide ((i : Int) < 0) = false := by simp
  have hi2 : decide (L0 ≤ i) = false := by simp; omega
  go_enter Try.func13, Try.ntmps13
  go_wp2_with fail
  refine hlen.mono ?_; rintro e w1 ⟨rfl, rfl⟩
  go_wp2_with fail
  go_loopw [1, 6, 7] (fun s1 s6 _ wr => ∃ (u : Tr) (q : Option Addr) (j : Nat), wr = w ∧ s1 = .int .i64 j ∧ s6 = .pointer q ∧ j ≤ 100000 ∧ Hid (TM w u q) ∧ Hid (Fit u) ∧ Hid (u.list[j]? = some V)) (fun _ s6 _ _ => lenM s6 w)
  case atStart => exact ⟨t, pr0, i, rfl, rfl, rfl, by omega, H, HF, HI⟩
  case round =>
    clear hil hl5
    obtain ⟨u, q, j, rfl, rfl, rfl, hjb, hT, hFt, hj⟩ := hrel
    cases u with
    | nil => have h1 := hj.out; simp [Tr.list] at h1
    | nd l x r =>
      have hTo := hT.out
      have hM := Lib.hid (lenM_eq hTo)
      obtain ⟨b, pl, pr, rfl, hc, hl, hr⟩ := hTo
      obtain ⟨fl, ⟨x1, x2⟩, fr⟩ := hFt.out.nd
      have z0 : wr.cell? ⟨b, 0, none⟩ = some (.pointer pl) := hc.cell (i := 0) rfl
      have z1 : wr.cell? ⟨b, 1, none⟩ = some (.pointer pr) := hc.cell (i := 1) rfl
      have z2 : wr.cell? ⟨b, 2, none⟩ = some (.int .i64 x) := hc.cell (i := 2) rfl
      have cl := len_any hl
      obtain ⟨L, hL⟩ : ∃ L, L = l.len := ⟨_, rfl⟩
      have hLl : l.list.length = L := hL.symm
      have ll : L ≤ 100000 := by rw [hL]; exact fl.len
      rw [← hL] at cl
      have hjo : (l.list ++ x :: r.list)[j]? = some V := hj.out
      have Hl := Lib.hid hl
      have Hr := Lib.hid hr
      have Hfl := Lib.hid fl
      have Hfr := Lib.hid fr
      have Cl := Lib.hid cl
      have hm1 : Hid (lenM (.pointer pr) wr < lenM (.pointer (some ⟨b, 0, none⟩)) wr) := Lib.hid (by rw [hM.out, lenM_eq hr, Tr.len_nd]; omega)
      have hm2 : Hid (lenM (.pointer pl) wr < lenM (.pointer (some ⟨b, 0, none⟩)) wr) := Lib.hid (by rw [hM.out, lenM_eq hl, Tr.len_nd]; omega)
      rcases Nat.lt_trichotomy j L with hlt | heq | hgt
      · have e : Hid (l.list[j]? = some V) := Lib.hid (by rwa [List.getElem?_append_left (by omega)] at hjo)
        have hne : ((j : Int) == (L : Int)) = false := by simp; omega
        clear hc hl hr fl fr cl hL hLl hjo
        go_wp2_with fail
        refine Cl.out.mono ?_; rintro e w1 ⟨rfl, rfl⟩
        go_wp2_with fail
        exact ⟨⟨l, pl, j, by first | trivial | rfl, rfl, rfl, hjb, Hl, Hfl, e⟩, hm2.out⟩
      · subst heq
        have e : Hid (x = V) := Lib.hid (by rw [List.getElem?_append_right (by omega), hLl, Nat.sub_self] at hjo; simpa using hjo)
        clear hc hl hr fl fr cl hL hLl hjo
        go_wp2_with fail
        refine Cl.out.mono ?_; rintro e w1 ⟨rfl, rfl⟩
        go_wp2_with fail
        go_ret2
        have e' := e.out
        subst e'
        exact ⟨rfl, rfl⟩
      · obtain ⟨j', hj'⟩ : ∃ j', j' = j - (L + 1) := ⟨_, rfl⟩
        have e : Hid (r.list[j']? = some V) := Lib.hid (by
          rw [List.getElem?_append_right (by omega), hLl, show j - L = j' + 1 by omega, List.getElem?_cons_succ] at hjo
          exact hjo)
        have hne : ((j : Int) == (L : Int)) = false := by simp; omega
        have w3 : IntKind.i64.wrap ((L : Int) + 1) = (L : Int) + 1 := wI2 (by omega) (by omega)
        have w4 : IntKind.i64.wrap ((j : Int) - ((L : Int) + 1)) = (j' : Int) := by rw [wI2 (by omega) (by omega)]; omega
        have hjb' : j' ≤ 100000 := by omega
        clear hc hl hr fl fr cl hL hLl hjo hj'
        go_wp2_with fail
        refine Cl.out.mono ?_; rintro e w1 ⟨rfl, rfl⟩
        go_wp2_with fail
        exact ⟨⟨r, pr, j', by first | trivial | rfl, rfl, rfl, hjb', Hr, Hfr, e⟩, hm1.out⟩
theorem At_any {t : Tr} {p : Option Addr} {w : World} (h : TrM w t p) (hf : Fit t) (i : Int) :
    Calls Try.prog 13 #[.pointer p, .int .i64 i] w fun e w' => e = .returned (.tuple #[.int .i64 (atS t.list i).1, .int .i64 (atS t.list i).2]) ∧ w = w' := by
  by_cases h1 : i < 0 ∨ (t.list.length : Int) ≤ i
  · have e : atS t.list i = (0, 2) := by unfold atS; rw [if_pos h1]
    rw [e]
    have hlen := Len_any h
    obtain ⟨b0, pr0, rfl, ⟨hc0, _⟩, ht⟩ := h
    have hl : t.len = t.list.length := rfl
    rw [hl] at hlen
    generalize t.list.length = L at *
    clear e ht hf hl
    by_cases hn : i < 0
    · clear h1
      go_enter Try.func13, Try.ntmps13
      go_wp2_with fail
      go_ret2
      exact ⟨rfl, rfl⟩
    · have h2 : (L : Int) ≤ i := by omega
      clear h1
      go_enter Try.func13, Try.ntmps13
      go_wp2_with fail
      refine hlen.mono ?_; rintro e w1 ⟨rfl, rfl⟩
      go_wp2_with fail
      go_ret2
      exact ⟨rfl, rfl⟩
  · obtain ⟨n, rfl⟩ := Int.eq_ofNat_of_zero_le (show 0 ≤ i by omega)
    have hn : n < t.list.length := by omega
    have hv : t.list[n]? = some t.list[n] := by simp
    have e : atS t.list n = (t.list[n], 0) := by unfold atS; rw [if_neg h1, Int.toNat_natCast, hv]; rfl
    rw [e]
    exact At_some h hf hv
theorem preS_succ {xs : List Int} {k : Nat} {x : Int} (h : xs[k]? = some x) : preS xs (k + 1) = preS xs k + x := by
  unfold preS; rw [List.take_add_one, h, List.sum_append]; simp
theorem RefSum_any {a : Option Addr} {m c : Nat} {xs : List Int} {w : World} (hr : Rd w a m (ints xs)) (hs : Tr.Small xs) (hm : m ≤ 100000) :
    Calls Try.prog 15 #[.slice a m c] w fun e w' => e = .returned (.int .i64 xs.sum) ∧ w = w' := by
  have hxl : xs.length = m := by simpa using hr.len
  have Hxl := Lib.hid hxl
  have Hs := Lib.hid hs
  clear hs hxl
  go_enter Try.func15, Try.ntmps15
  go_wp2_with fail
  go_loop [3, 4] (fun s3 s4 => ∃ (k : Nat) (s : Int), k ≤ m ∧ s4 = .int .i64 k ∧ s3 = .int .i64 s ∧ Hid (s = preS xs k)) (fun _ s4 => m - (intOf s4).toNat)
  case atStart => exact ⟨0, 0, by omega, rfl, rfl, Lib.hid (by rw [preS_0])⟩
  case round =>
    obtain ⟨k, s, hk, rfl, rfl, hsum⟩ := hrel
    have hb := preS_bound Hs.out (by have := Hxl.out; omega) k
    rw [← hsum.out] at hb
    by_cases hlt : k < m
    · obtain ⟨b, o, x, hb', hx, d⟩ := hr.ix hlt
      subst hb'
      have hxx := Hs.out x (List.mem_of_getElem? hx)
      have e : Hid (s + x = preS xs (k + 1)) := Lib.hid (by rw [preS_succ hx, ← hsum.out])
      have i0 : (0 : Int) ≤ (k : Int) := by omega
      have i1 : (k : Int) < (m : Int) := by omega
      have w1 : IntKind.i64.wrap (s + x) = s + x := wI2 (by omega) (by omega)
      clear hx
      go_wp2_with fail
      go_round
      case rel => exact ⟨k + 1, s + x, by omega, by go_num, rfl, e⟩
      case measure => simp [intOf]; omega
    · obtain rfl : k = m := by omega
      have e : Hid (s = xs.sum) := Lib.hid (by rw [hsum.out]; unfold preS; rw [List.take_of_length_le (by rw [Hxl.out]; omega)])
      go_wp2_with fail
      go_ret
      exact ⟨ret_int e.out, rfl⟩
theorem preS_cons (x : Int) (l : List Int) (j : Nat) : preS (x :: l) (j + 1) = x + preS l j := by unfold preS; simp
theorem fg_first : ∀ (xs : List Int) (s : Int) (k : Nat), k ≤ xs.length → (∀ j, j < k → preS xs j < s) → s ≤ preS xs k → fg xs s = some k
  | [], s, k, hk, _, h2 => by
    obtain rfl : k = 0 := by simpa using hk
    rw [preS_0] at h2
    exact fg_le _ h2
  | x :: l, s, 0, _, _, h2 => by rw [preS_0] at h2; exact fg_le _ h2
  | x :: l, s, k + 1, hk, h1, h2 => by
    have h0 := h1 0 (by omega)
    rw [preS_0] at h0
    rw [fg_cons _ _ h0, fg_first l (s - x) k (by simpa using hk) (fun j hj => by have := h1 (j + 1) (by omega); rw [preS_cons] at this; omega) (by rw [preS_cons] at h2; omega)]
    rfl
theorem fg_never : ∀ (xs : List Int) (s : Int), (∀ j, j ≤ xs.length → preS xs j < s) → fg xs s = none
  | [], s, h => by have := h 0 (by simp); rw [preS_0] at this; exact fg_nil this
  | x :: l, s, h => by
    have h0 := h 0 (by omega)
    rw [preS_0] at h0
    rw [fg_cons _ _ h0, fg_never l (s - x) (fun j hj => by have := h (j + 1) (by simpa using hj); rw [preS_cons] at this; omega)]
    rfl
/-- The reference's answer. -/
def refS (xs : List Int) (s : Int) : Int := match fg xs s with
  | none => -1
  | some k => (k : Nat)
set_option maxHeartbeats 1000000 in
theorem RefSearch_any {a : Option Addr} {m c : Nat} {xs : List Int} {s : Int} {w : World} (hr : Rd w a m (ints xs)) (hs : Tr.Small xs) (hm : m ≤ 100000) :
    Calls Try.prog 17 #[.slice a m c, .int .i64 s] w fun e w' => e = .returned (.int .i64 (refS xs s)) ∧ w = w' := by
  have hxl : xs.length = m := by simpa using hr.len
  have Hxl := Lib.hid hxl
  have Hs := Lib.hid hs
  clear hs hxl
  go_enter Try.func17, Try.ntmps17
  go_wp2_with fail
  go_loop [5, 6] (fun s5 s6 => ∃ (k : Nat) (n : Int), k ≤ m + 1 ∧ s6 = .int .i64 k ∧ s5 = .int .i64 n ∧ Hid (k ≤ m → n = preS xs k) ∧ Hid (∀ j, j < k → preS xs j < s)) (fun _ s6 => m + 1 - (intOf s6).toNat)
  case atStart => exact ⟨0, 0, by omega, rfl, rfl, Lib.hid (fun _ => by rw [preS_0]), Lib.hid (fun j hj => by omega)⟩
  case round =>
    obtain ⟨k, n, hk, rfl, rfl, hn, hno⟩ := hrel
    by_cases hle : k ≤ m
    · have hnk := hn.out hle
      have hb := preS_bound Hs.out (by have := Hxl.out; omega) k
      rw [← hnk] at hb
      have Hnk := Lib.hid hnk
      clear hnk
      by_cases hge : s ≤ n
      · have e : Hid (refS xs s = k) := Lib.hid (by unfold refS; rw [fg_first xs s k (by rw [Hxl.out]; exact hle) hno.out (by rw [← Hnk.out]; exact hge)])
        go_wp2_with fail
        go_ret
        exact ⟨ret_int e.out.symm, rfl⟩
      · have hno2 : Hid (∀ j, j < k + 1 → preS xs j < s) := Lib.hid (fun j hj => by
          rcases Nat.lt_or_ge j k with h | h
          · exact hno.out j h
          · obtain rfl : j = k := by omega
            rw [← Hnk.out]; omega)
        by_cases hlt : k < m
        · obtain ⟨b, o, x, hb', hx, d⟩ := hr.ix hlt
          subst hb'
          have hxx := Hs.out x (List.mem_of_getElem? hx)
          have e : Hid (k + 1 ≤ m → n + x = preS xs (k + 1)) := Lib.hid (fun _ => by rw [preS_succ hx, ← Hnk.out])
          have i0 : (0 : Int) ≤ (k : Int) := by omega
          have i1 : (k : Int) < (m : Int) := by omega
          have w1 : IntKind.i64.wrap (n + x) = n + x := wI2 (by omega) (by omega)
          clear hx
          go_wp2_with fail
          go_round
          case rel => exact ⟨k + 1, n + x, by omega, by go_num, rfl, e, hno2⟩
          case measure => simp [intOf]; omega
        · have e : Hid (k + 1 ≤ m → n = preS xs (k + 1)) := Lib.hid (fun h => by omega)
          go_wp2_with fail
          go_round
          case rel => exact ⟨k + 1, n, by omega, by go_num, rfl, e, hno2⟩
          case measure => simp [intOf]; omega
    · have e : Hid (refS xs s = -1) := Lib.hid (by unfold refS; rw [fg_never xs s (fun j hj => hno.out j (by have := Hxl.out; omega))])
      go_wp2_with fail
      go_ret
      exact ⟨ret_int e.out.symm, rfl⟩
theorem part_sum {xs : List Int} {f g : Nat} (h : f ≤ g) : ((xs.drop f).take (g - f)).sum = preS xs g - preS xs f := by
  have e : xs.take g = xs.take f ++ (xs.drop f).take (g - f) := by
    rw [show xs.take f = (xs.take g).take f by rw [List.take_take, Nat.min_eq_left h], ← List.drop_take]
    exact (List.take_append_drop f (xs.take g)).symm
  unfold preS
  rw [e, List.sum_append]
  omega
end Go.Proofs.Ytdihajeccjdhkaa
