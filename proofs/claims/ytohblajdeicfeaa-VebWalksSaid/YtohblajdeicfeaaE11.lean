/- next. -/
import Derived.Test.YtohblajdeicfeaaE10
import Derived.Test.YtohblajdeicfeaaE9
namespace Go.Proofs.Ytohblajdeicfeaa
open Go.RowKit
attribute [local go_sem ↓] Go.wp_at_zero Go.wp_at_succ
/-- The least element that is greater than x; -1 if there is none. -/
def NxtOf (S : Nat → Prop) (x r : Int) : Prop := (r = -1 ∧ ∀ y, S y → (y : Int) ≤ x) ∨ ∃ a : Nat, r = a ∧ S a ∧ x < a ∧ ∀ y : Nat, S y → x < y → a ≤ y
def NxP (d : Nat) (w : World) (f k0 n : Nat) (st : Int) (rb : Nat) (S : Nat → Prop) (x : Int) (e : Ending) (w' : World) : Prop :=
  ∃ r st' : Int, e = .returned (.int .i64 r) ∧ NxtOf S x r ∧ st < st' ∧ st' ≤ st + 1 + 3 * d ∧ Blk w' f 57 (stC k0 n st' rb) ∧ Fr (onB f) w w'
def NxAt (d : Nat) : Prop := ∀ (w : World) (f k0 n rb k b : Nat) (x : Int) (S N : Nat → Prop) (st : Int), VT d w k b S N → Blk w f 57 (stC k0 n st rb) → ¬ N f → 0 ≤ st → st + 20 * d ≤ 900 →
  Calls Try.prog 40 #[.pointer (some ⟨f, 0, none⟩), .pointer (some ⟨b, 0, none⟩), .int .i64 x] w (NxP d w f k0 n st rb S x)
/-- What a node shows, and that it lies among N. -/
theorem NxtOf.none {S : Nat → Prop} {x : Int} (h : ∀ y, ¬ S y) : NxtOf S x (-1) := .inl ⟨rfl, fun y hy => absurd hy (h y)⟩
set_option maxRecDepth 100000 in
set_option maxHeartbeats 1000000 in
/-- No greater one, or all are greater. -/
theorem next_ends {d : Nat} {w : World} {f k0 n rb k b : Nat} {x : Int} {S : Nat → Prop} {st mn mx : Int} {set : Nat} {sp : Option Addr} {mp : Option Nat} (hb : Blk w b 71 (ndC k mn mx set sp mp)) (he : Ends S mn mx) (hbf : b ≠ f) (hf : Blk w f 57 (stC k0 n st rb)) (h0 : 0 ≤ st) (h9 : st ≤ 900) (hc : mn < 0 ∨ mx ≤ x ∨ x < mn) :
    Calls Try.prog 40 #[.pointer (some ⟨f, 0, none⟩), .pointer (some ⟨b, 0, none⟩), .int .i64 x] w (NxP d w f k0 n st rb S x) := by
  have HB := Lib.hid hb
  have HE := Lib.hid he
  have HC := Lib.hid hc
  clear hb he hc
  go_enter Try.func40, Try.ntmps40
  go_wp2_with fail
  refine (look_any _ hf h0 (by omega)).mono ?_
  rintro e w1 ⟨rfl, B1, F1⟩
  have HN1 := Lib.hid (HB.out.fr F1 hbf)
  have HF1 := Lib.hid F1
  have HB1 := Lib.hid B1
  have y1 : w1.cell? ⟨b, 1, none⟩ = some (.int .i64 mn) := HN1.out.cell (i := 1) rfl
  have y2 : w1.cell? ⟨b, 2, none⟩ = some (.int .i64 mx) := HN1.out.cell (i := 2) rfl
  clear B1 F1 hf
  by_cases hm : mn < 0
  · have hno := Lib.hid (HE.out.neg hm)
    go_wp2_with fail
    go_ret
    exact ⟨-1, st + 1, rfl, .none hno.out, by omega, by omega, HB1.out, HF1.out⟩
  · obtain ⟨a, z, rfl, rfl, hSa, hSz, hen⟩ := HE.out.nonneg hm
    have HA := Lib.hid (And.intro hSa (And.intro hSz hen))
    clear hSa hSz hen
    by_cases hz : (z : Int) ≤ x
    · go_wp2_with fail
      go_ret
      exact ⟨-1, st + 1, rfl, .inl ⟨rfl, fun y hy => by have := (HA.out.2.2 y hy).2; omega⟩, by omega, by omega, HB1.out, HF1.out⟩
    · have hxa : x < a := HC.out.elim (fun e => absurd e hm) (fun e => e.elim (fun e => absurd e hz) id)
      go_wp2_with fail
      go_ret
      exact ⟨a, st + 1, rfl, .inr ⟨a, rfl, HA.out.1, hxa, fun y hy _ => (HA.out.2.2 y hy).1⟩, by omega, by omega, HB1.out, HF1.out⟩
set_option maxRecDepth 100000 in
set_option maxHeartbeats 1000000 in
theorem next_small {d : Nat} {w : World} {f k0 n rb k b set x : Nat} {S N : Nat → Prop} {st mn mx : Int} (T : Sm w k b S N mn mx set) (hbf : b ≠ f) (hf : Blk w f 57 (stC k0 n st rb)) (h0 : 0 ≤ st) (h9 : st ≤ 900) (h1 : mn ≤ x) (h2 : (x : Int) < mx) (hm : ¬ mn < 0) :
    Calls Try.prog 40 #[.pointer (some ⟨f, 0, none⟩), .pointer (some ⟨b, 0, none⟩), .int .i64 x] w (NxP d w f k0 n st rb S x) := by
  have HT := Lib.hid T
  obtain ⟨a, z, rfl, rfl, hSa, hSz, hen⟩ := T.ends.nonneg hm
  have hz : z < 64 := x64 T.k6 ((T.bits z).1 hSz).1
  have hk6 := T.k6
  have HZ := Lib.hid ((T.bits z).1 hSz)
  have HB := Lib.hid T.bits
  have hxz : x < z := by omega
  clear T hSa hSz hen
  go_enter Try.func40, Try.ntmps40
  go_wp2_with fail
  refine (look_any _ hf h0 (by omega)).mono ?_
  rintro e w1 ⟨rfl, B1, F1⟩
  have HN1 := Lib.hid (HT.out.blk.fr F1 hbf)
  have HF1 := Lib.hid F1
  have HB1 := Lib.hid B1
  have y1 : w1.cell? ⟨b, 1, none⟩ = some (.int .i64 a) := HN1.out.cell (i := 1) rfl
  have y2 : w1.cell? ⟨b, 2, none⟩ = some (.int .i64 z) := HN1.out.cell (i := 2) rfl
  have y3 : w1.cell? ⟨b, 3, none⟩ = some (.int .u64 set) := HN1.out.cell (i := 3) rfl
  clear B1 F1 hf
  go_wp2_with (go_at_call 49; refine (small_yes HN1.out hk6).mono ?_; rintro e w2 ⟨rfl, rfl⟩)
  go_loopw [2] (fun s2 wr => ∃ i : Nat, s2 = .int .i64 i ∧ x < i ∧ i ≤ z ∧ (∀ y, x < y → y < i → set.testBit y = false) ∧ wr = w1) (fun s2 _ => z - (intOf s2).toNat)
  case atStart => exact ⟨x + 1, by go_num, by omega, by omega, fun y _ _ => by omega, rfl⟩
  case round =>
    obtain ⟨i, rfl, hi1, hi2, hi3, rfl⟩ := hrel
    have HI := Lib.hid hi3
    clear hi3
    have hbit := bit_and set i HT.out.lim
    cases ht : set.testBit i with
    | false =>
      rw [if_neg (by rw [ht]; decide)] at hbit
      have hne : i ≠ z := fun e => by have := HZ.out.2; rw [← e, ht] at this; cases this
      have HT3 := Lib.hid ht
      clear ht
      go_wp2_with fail
      go_roundw
      case rel =>
        refine ⟨i + 1, by go_num, by omega, by omega, fun y g1 g2 => ?_, trivial⟩
        by_cases e : y = i
        · rw [e]; exact HT3.out
        · exact HI.out y g1 (by omega)
      case measure => simp [intOf]; omega
    | true =>
      rw [if_pos ht] at hbit
      have HT3 := Lib.hid ht
      clear ht
      go_wp2_with fail
      go_ret
      refine ⟨i, st + 1, rfl, .inr ⟨i, rfl, (HB.out i).2 ⟨?_, HT3.out⟩, by omega, fun y hy g => ?_⟩, by omega, by omega, HB1.out, HF1.out⟩
      · exact Nat.lt_of_le_of_lt hi2 HZ.out.1
      · refine Nat.le_of_not_lt fun h => ?_
        have := ((HB.out y).1 hy).2
        rw [HI.out y (by omega) h] at this
        cases this
end Go.Proofs.Ytohblajdeicfeaa
