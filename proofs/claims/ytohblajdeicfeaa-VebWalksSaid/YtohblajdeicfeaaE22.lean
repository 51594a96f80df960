/- The reference's Delete; made. -/
import Derived.Test.YtohblajdeicfeaaE21
namespace Go.Proofs.Ytohblajdeicfeaa
open Go.RowKit
attribute [local go_sem ↓] Go.wp_at_zero Go.wp_at_succ
theorem delI_take {xs : List Int} {x : Int} {i : Nat} (h : i < xs.length) : delI (xs.take (i + 1)) x = if xs[i] = x then delI (xs.take i) x else delI (xs.take i) x ++ [xs[i]] := by
  rw [← List.take_append_getElem h]
  unfold delI
  rw [List.filter_append]
  by_cases e : xs[i] = x
  · simp [e]
  · simp [e]
set_option maxHeartbeats 1000000 in
theorem refDelete_any (a : Option Addr) (n c : Nat) (xs : List Int) (x : Int) (w : World) (hr : Rd w a n (ints xs)) (hmax : n ≤ 100000) :
    Calls Try.prog 19 #[.slice a n c, .int .i64 x] w (RfP a (delI xs x) w) := by
  have hn : xs.length = n := by simpa using hr.len
  have HR := Lib.hid hr
  have HN := Lib.hid hn
  clear hr hn
  go_enter Try.func19, Try.ntmps19
  go_wp2_with fail
  go_loopw [5, 6] (fun s5 s6 wr => ∃ (i m : Nat) (a5 : Option Addr) (c5 : Nat), i ≤ n ∧ m ≤ i ∧ s5 = .slice a5 m c5 ∧ s6 = .int .i64 i ∧ Hid (Own wr w.heap.size 3 a5 m c5 (ints (delI (xs.take i) x))) ∧ Hid (Fr F0 w wr)) (fun _ s6 _ => n - (intOf s6).toNat)
  case atStart => exact ⟨0, 0, _, _, by omega, by omega, rfl, rfl, Lib.hid (Own.lit [] 0 rfl (by omega) (by omega)), Lib.hid ((Fr.refl _ _).alloc _)⟩
  case round =>
    obtain ⟨i, m, a5, c5, hi, hm, rfl, rfl, HO, HF⟩ := hrel
    by_cases hlt : i < n
    · obtain ⟨b, o, v, ea, hv, hc0⟩ := (HR.out.fr0 HF.out).ix hlt
      subst ea
      have hil : i < xs.length := by have := HN.out; omega
      have hvi : v = xs[i] := by rw [List.getElem?_eq_getElem hil] at hv; injection hv with hv; exact hv.symm
      clear hv
      have hsz := HF.out.size
      by_cases hx : v = x
      · have Hd : Hid (delI (xs.take (i + 1)) x = delI (xs.take i) x) := Lib.hid (by rw [delI_take hil, if_pos (hvi ▸ hx)])
        clear hvi
        subst hx
        go_wp2_with fail
        go_roundw
        case rel => exact ⟨i + 1, m, a5, c5, by omega, by omega, rfl, by go_num, by rw [Hd.out]; exact HO, HF⟩
        case measure => simp [intOf]; omega
      · have Hd : Hid (ints (delI (xs.take (i + 1)) x) = ints (delI (xs.take i) x) ++ [.int .i64 v]) := Lib.hid (by rw [delI_take hil, if_neg (hvi ▸ hx), hvi]; simp [ints])
        clear hvi
        have hx' : (v == x) = false := by simpa using hx
        go_wp2_with (at_builtin; refine wpAppAt E3 HO.out (by omega) (by omega) hsz rfl rfl rfl ?_; intro a2 c2 w2 own2 fr2 at2)
        have F2 := Lib.hid (HF.out.trans fr2 (fun k hk hs => absurd (HO.out.blk _ hs).1 (by omega)))
        have O2 := Lib.hid own2
        clear own2 fr2
        go_roundw
        case rel => exact ⟨i + 1, m + 1, a2, c2, by omega, by omega, rfl, by go_num, by rw [Hd.out]; exact O2, F2⟩
        case measure => simp [intOf]; omega
    · obtain rfl : i = n := by omega
      go_wp2_with fail
      go_ret
      refine ⟨a5, m, c5, rfl, ?_, HO.out.cap, fun q hq => .inr (HO.out.blk q hq), HF.out⟩
      have h := HO.out.rd
      rw [← HN.out, List.take_length] at h
      exact h
theorem made_bad (w : World) {k : Int} (h : k < 1 ∨ 20 < k) : Calls Try.prog 8 #[.int .i64 k] w fun e w' => e = .returned (.tuple #[.pointer none, .bool true]) ∧ w = w' := by
  have HN := Lib.hid (New_bad w h)
  have HB := Bits_any w k
  rw [decide_eq_false (by omega)] at HB
  have HB := Lib.hid HB
  clear h
  go_enter Try.func8, Try.ntmps8
  go_wp2_with (first
    | (go_at_call 34; refine (HN.out).mono ?_; rintro e w1 ⟨rfl, rfl⟩)
    | (go_at_call 27; refine (HB.out).mono ?_; rintro e w1 ⟨rfl, rfl⟩))
  go_ret2
  exact ⟨rfl, rfl⟩
def MdP (k : Nat) (w : World) (e : Ending) (w' : World) : Prop := ∃ s rb N, e = .returned (.tuple #[.pointer (some ⟨s, 0, none⟩), .bool true]) ∧ SR w' s k rb 0 [] N ∧ Fr F0 w w' ∧ w.heap.size ≤ s ∧ ∀ q, N q → w.heap.size ≤ q
theorem made_ok (w : World) {k : Nat} (h1 : 1 ≤ k) (h2 : k ≤ 20) : Calls Try.prog 8 #[.int .i64 k] w (MdP k w) := by
  have HN := Lib.hid (New_ok w h1 h2)
  have HB : ∀ w, Calls Try.prog 27 #[.int .i64 k] w fun e w' => e = .returned (.bool true) ∧ w = w' := fun w => by
    have HB := Bits_any w k
    rwa [decide_eq_true (by omega)] at HB
  have HB := Lib.hid HB
  go_enter Try.func8, Try.ntmps8
  go_wp2_with (first
    | (go_at_call 34; refine (HN.out).mono ?_; rintro e w1 ⟨s, rb, N, rfl, R1, F1, g1, g2⟩)
    | (go_at_call 27; refine (HB.out _).mono ?_; rintro e w1 ⟨rfl, rfl⟩))
  go_ret2
  exact ⟨s, rb, N, rfl, R1, F1, g1, g2⟩
end Go.Proofs.Ytohblajdeicfeaa
