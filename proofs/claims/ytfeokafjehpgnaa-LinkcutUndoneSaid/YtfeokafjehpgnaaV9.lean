/- LinkcutUndone: slices.Equal, and the function that lists the parents. -/
import Derived.Test.YtfeokafjehpgnaaV5
namespace Go.Proofs.Ytfeokafjehpgnaa
open Go.RowKit
attribute [local go_sem ↓] Go.wp_at_zero Go.wp_at_succ
set_option maxRecDepth 100000 in
set_option maxHeartbeats 1000000 in
theorem equal_same (w : World) {a b : Option Addr} {m c d : Nat} {xs : List Int} (hp : Rd w a m (ints xs)) (hq : Rd w b m (ints xs)) :
    Calls Try.prog 30 #[.slice a m c, .slice b m d] w fun e w' => e = .returned (.bool true) ∧ Fr F0 w w' := by
  have hlen : xs.length = m := by have := hp.len; simpa using this
  have hmax := hp.max
  have Hp := Lib.hid hp
  have Hq := Lib.hid hq
  have HLN := Lib.hid hlen
  clear hp hq hlen
  go_enter Try.func30, Try.ntmps30
  go_wp2_with fail
  go_loopw [13] (fun i wr => ∃ k : Nat, k ≤ m ∧ i = .int .i64 k ∧ Hid (Fr F0 w wr)) (fun i _ => m - (intOf i).toNat)
  case atStart => exact ⟨0, Nat.zero_le _, rfl, Lib.hid (Fr.refl _ _)⟩
  case round =>
    obtain ⟨k, hk, rfl, HF⟩ := hrel
    by_cases hlt : k < m
    · obtain ⟨y, hy⟩ : ∃ y, xs[k]? = some y := ⟨xs[k]'(by rw [HLN.out]; exact hlt), List.getElem?_eq_getElem _⟩
      obtain ⟨ab, ao, rfl, hc⟩ := (Hp.out.fr0 HF.out).cells (by omega)
      obtain ⟨bb, bo, rfl, hc2⟩ := (Hq.out.fr0 HF.out).cells (by omega)
      have d1 := hc k (.int .i64 y) (by unfold ints; rw [List.getElem?_map, hy]; rfl)
      have d2 := hc2 k (.int .i64 y) (by unfold ints; rw [List.getElem?_map, hy]; rfl)
      have hki : (k : Int) < (m : Int) := by omega
      clear hc hc2 hy
      go_wp2_with fail
      go_quiet (fail)
      go_wp2_with fail
      refine ⟨⟨k + 1, by omega, rfl, Lib.hid (HF.out.drewN _)⟩, ?_⟩
      simp only [intOf]; omega
    · obtain rfl : k = m := by omega
      go_wp2_with fail
      go_ret
      exact ⟨rfl, HF.out⟩
theorem own_frS {S : Nat → Prop} {w W W' : World} {a : Option Addr} (h : Fr S w W) (hb : ∀ k, onBlk a k → w.heap.size ≤ k) (f : Fr (onBlk a) W W') : Fr S w W' :=
  ⟨f.os.trans h.os, f.tape.trans h.tape, f.output.trans h.output, Nat.le_trans h.size f.size, fun i hi hn => (f.block i (Nat.lt_of_lt_of_le hi h.size) (fun e => by have := hb _ e; omega)).trans (h.block i hi hn)⟩
/-- While the parents are listed. -/
structure QA (w0 W : World) (f b n : Nat) (s : Int) (P : Nat → Nat) (wt : Nat → Int) (k : Nat) : Prop where
  ex : ∃ s', s ≤ s' ∧ s' ≤ s + 3900 * (k : Int) ∧ LF W f b n s' P wt
  fr : Fr (onFB f b) w0 W
theorem QA.step {w0 W W1 : World} {f b n k : Nat} {s s' : Int} {P : Nat → Nat} {wt : Nat → Int} (h : Fr (onFB f b) w0 W) (h1 : s ≤ s') (h2 : s' ≤ s + 3900 * (k : Int)) (hk : Kp W W1 f b n s' 3900 P wt) : QA w0 W1 f b n s P wt (k + 1) := by
  obtain ⟨s2, q1, q2, q3, q4⟩ := hk
  exact ⟨⟨s2, by omega, by omega, q3⟩, h.trans q4 (fun _ _ h => h)⟩
theorem QA.app {w0 W W1 : World} {f b n k : Nat} {s : Int} {P : Nat → Nat} {wt : Nat → Int} {a : Option Addr} (h : QA w0 W f b n s P wt k) (hf : f < w0.heap.size) (hb : b < w0.heap.size) (ha : ∀ k, onBlk a k → w0.heap.size ≤ k) (F : Fr (onBlk a) W W1) : QA w0 W1 f b n s P wt k := by
  obtain ⟨s', h1, h2, h3⟩ := h.ex
  exact ⟨⟨s', h1, h2, h3.fr F (fun e => by have := ha _ e; omega) (fun e => by have := ha _ e; omega)⟩, own_frS h.fr ha F⟩
set_option maxRecDepth 100000 in
set_option maxHeartbeats 1000000 in
theorem all_any (w : World) {f b n mb fb : Nat} {s : Int} {P : Nat → Nat} {wt : Nat → Int} {wa pa : Option Addr} {wc pc : Nat} (h : LF w f b n s P wt) (hs1 : 0 ≤ s) (hs2 : s ≤ 2305843009213000000) (hm : Blk w mb 28 [.slice wa n wc, .slice pa n pc]) (hf : Blk w fb 26 [.pointer (some ⟨f, 0, none⟩)]) (n1 : fb ≠ f) (n2 : fb ≠ b) :
    Calls Try.prog 26 #[.pointer (some ⟨mb, 0, none⟩), .pointer (some ⟨fb, 0, none⟩)] w fun e w' => ∃ a c, e = .returned (.slice a n c) ∧ Own w' w.heap.size 3 a n c (ints (QL n P)) ∧ Kp w w' f b n s 240000 P wt := by
  have hn := h.small
  have m1 := hm.cell (i := 1) rfl
  have hfb := h.bounds
  have hF := Lib.hid hf
  have HQ := Lib.hid (show QA w w f b n s P wt 0 from ⟨⟨s, by omega, by omega, h⟩, Fr.refl _ _⟩)
  clear h hm hf
  go_enter Try.func26, Try.ntmps26
  go_wp2_with fail
  go_loopw [3, 10] (fun s3 i wr => ∃ (k : Nat) (a : Option Addr) (c : Nat), k ≤ n ∧ i = .int .i64 k ∧ s3 = .slice a k c ∧ Hid (Own wr w.heap.size 3 a k c (ints ((QL n P).take k))) ∧ Hid (QA w wr f b n s P wt k)) (fun _ i _ => n - (intOf i).toNat)
  case atStart => exact ⟨0, none, 0, Nat.zero_le _, rfl, rfl, Lib.hid (Own.nil _ _ _), HQ⟩
  case round =>
    clear HQ m1
    obtain ⟨k, a, c, hk, rfl, rfl, HO, HQ⟩ := hrel
    by_cases hlt : k < n
    · have hki : (k : Int) < (n : Int) := by omega
      obtain ⟨s', h1, h2, h3⟩ := HQ.out.ex
      have f0 := (hF.out.fr HQ.out.fr (fun e => by rcases e with e | e; exact n1 e; exact n2 e)).cell (i := 0) rfl
      have h3 := Lib.hid h3
      have hsz := HQ.out.fr.size
      go_wp2_with (first
        | (go_at_call 27; refine (Parent_any h3.out (by omega) (by omega) hlt).mono ?_; rintro e w1 ⟨rfl, KK⟩; have Q1 := Lib.hid (QA.step HQ.out.fr h1 h2 KK); have O1 : Own w1 w.heap.size 3 a k c (ints ((QL n P).take k)) := (by obtain ⟨_, _, _, _, q4⟩ := KK; exact HO.out.fr q4 (fun q hq e => by have := (HO.out.blk q hq).1; rcases e with e | e <;> omega)); have hsz1 := Q1.out.fr.size; replace O1 := Lib.hid O1; clear KK f0)
        | (at_builtin; refine wpAppAt E3 O1.out (by omega) (by omega) hsz1 (u := .int .i64 ((P (k + 1) : Int) - 1)) rfl rfl rfl ?_; intro a5 c5 w5 own5 fr5 at5; have Q5 := Lib.hid (Q1.out.app hfb.1 hfb.2 (fun q hq => (O1.out.blk q hq).1) fr5); replace own5 := Lib.hid own5; clear fr5))
      go_roundw
      case rel =>
        refine ⟨k + 1, a5, c5, by omega, rfl, rfl, Lib.hid ?_, Q5⟩
        have := own5.out
        rw [List.take_add_one, QL_get hlt]
        have e3 : ints ((QL n P).take k ++ (some ((P (k + 1) : Int) - 1)).toList) = ints ((QL n P).take k) ++ [.int .i64 ((P (k + 1) : Int) - 1)] := by
          unfold ints
          simp
        rw [e3]
        exact this
      case measure => simp [intOf]; omega
    · obtain rfl : k = n := by omega
      go_wp2_with fail
      go_ret
      obtain ⟨s', h1, h2, h3⟩ := HQ.out.ex
      refine ⟨a, c, rfl, ?_, s', h1, by omega, h3, HQ.out.fr⟩
      have := HO.out
      rwa [List.take_of_length_le (by rw [QL_length]; exact Nat.le_refl _)] at this
end Go.Proofs.Ytfeokafjehpgnaa
