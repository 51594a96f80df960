/- The least and the greatest element of a word. -/
import Derived.Test.YtohblajdeicfeaaE2
namespace Go.Proofs.Ytohblajdeicfeaa
open Go.RowKit
attribute [local go_sem ↓] Go.wp_at_zero Go.wp_at_succ
theorem bit_and (set i : Nat) (h : set < 2 ^ 64) : bits .and .u64 ((set : Int) / 2 ^ i) 1 = if set.testBit i = true then 1 else 0 := by
  have e : ((set : Int) / 2 ^ i) = ((set / 2 ^ i : Nat) : Int) := by simp
  have e1 : (1 : Int) = ((1 : Nat) : Int) := rfl
  have hlt : set / 2 ^ i < 2 ^ 64 := Nat.lt_of_le_of_lt (Nat.div_le_self _ _) h
  rw [e, e1, (bits_nat .u64 64 (by decide) (fun n h0 h4 => by simp [IntKind.wrap, IntKind.bits, IntKind.signed]; omega) _ 1 hlt (by decide)).1]
  rw [Nat.and_one_is_mod, Nat.testBit_eq_decide_div_mod_eq]
  have := Nat.mod_two_eq_zero_or_one (set / 2 ^ i)
  rcases this with h | h <;> simp [h]
/-- The least and the greatest of the elements below a number. -/
def EndsTo (set i : Nat) (mn mx : Int) : Prop := Ends (fun x => x < i ∧ set.testBit x = true) mn mx
theorem EndsTo.skip {set i : Nat} {mn mx : Int} (h : EndsTo set i mn mx) (hb : set.testBit i = false) : EndsTo set (i + 1) mn mx := by
  have : (fun x => x < i + 1 ∧ set.testBit x = true) = (fun x => x < i ∧ set.testBit x = true) := by
    funext x
    refine propext ⟨fun ⟨h1, h2⟩ => ⟨?_, h2⟩, fun ⟨h1, h2⟩ => ⟨by omega, h2⟩⟩
    have : x ≠ i := by rintro rfl; rw [hb] at h2; cases h2
    omega
  unfold EndsTo
  rw [this]
  exact h
theorem EndsTo.first {set i : Nat} {mx : Int} (h : EndsTo set i (-1) mx) (hb : set.testBit i = true) : EndsTo set (i + 1) i i := by
  rcases h with ⟨h, _, _⟩ | ⟨a, z, h, _⟩
  · refine .inr ⟨i, i, rfl, rfl, ⟨by omega, hb⟩, ⟨by omega, hb⟩, fun y ⟨h1, h2⟩ => ?_⟩
    have : ¬ y < i := fun h3 => h y ⟨h3, h2⟩
    omega
  · omega
theorem EndsTo.more {set i : Nat} {mn mx : Int} (h : EndsTo set i mn mx) (hm : ¬ mn < 0) (hb : set.testBit i = true) : EndsTo set (i + 1) mn i := by
  rcases h with ⟨_, h, _⟩ | ⟨a, z, rfl, rfl, ⟨h1, h2⟩, _, h3⟩
  · omega
  · refine .inr ⟨a, i, rfl, rfl, ⟨by omega, h2⟩, ⟨by omega, hb⟩, fun y ⟨g1, g2⟩ => ?_⟩
    by_cases e : y = i
    · subst e; omega
    · have := h3 y ⟨by omega, g2⟩; omega
theorem EndsTo.cases {set i : Nat} {mn mx : Int} (h : EndsTo set i mn mx) : (mn = -1 ∧ mx = -1) ∨ ¬ mn < 0 := by
  rcases h with ⟨_, h1, h2⟩ | ⟨a, z, rfl, _⟩
  · exact .inl ⟨h1, h2⟩
  · exact .inr (by omega)
def BdPost (w : World) (b k set : Nat) (e : Ending) (w' : World) : Prop := ∃ mn mx, e = .returned (.tuple #[]) ∧ Blk w' b 71 (ndC k mn mx set none none) ∧ Ends (fun x => x < 2 ^ k ∧ set.testBit x = true) mn mx ∧ Fr (onB b) w w'
set_option maxHeartbeats 1000000 in
theorem bounds_any {w : World} {b k set : Nat} {mn mx : Int} (hb : Blk w b 71 (ndC k mn mx set none none)) (hk : k ≤ 6) (hs : set < 2 ^ 64) :
    Calls Try.prog 50 #[.pointer (some ⟨b, 0, none⟩)] w (BdPost w b k set) := by
  have HB := Lib.hid hb
  have HS := Lib.hid hs
  have y0 := hb.cell (i := 0) rfl
  have y1 := hb.cell (i := 1) rfl
  have y2 := hb.cell (i := 2) rfl
  have z1 := hb.free 1
  have z2 := hb.free 2
  have hp : (2 : Nat) ^ k ≤ 64 := Nat.le_trans (Nat.pow_le_pow_right (by decide) hk) (by decide)
  have hpp := Nat.two_pow_pos k
  have HP := Lib.hid (wrapP (i := k) (by omega))
  obtain ⟨p, hpe⟩ : ∃ p, p = (2 : Nat) ^ k := ⟨_, rfl⟩
  have HPE := Lib.hid hpe
  rw [← hpe] at hp hpp
  clear hb hs hpe
  go_enter Try.func50, Try.ntmps50
  go_wp2_with fail
  rw [HP.out, show ((2 : Int) ^ k) = (p : Int) by rw [HPE.out]; simp]
  have HB1 := Lib.hid ((HB.out.set 1 (.int .i64 (-1))).set 2 (.int .i64 (-1)))
  have HF1 := Lib.hid (((Fr.refl (onB b) w).setB 1 (.int .i64 (-1))).setB 2 (.int .i64 (-1)))
  clear HB y0 y1 y2 z1 z2
  go_loopw [14] (fun s14 wr => ∃ (i : Nat) (mn mx : Int), i ≤ p ∧ s14 = .int .i64 i ∧ Hid (Blk wr b 71 (ndC k mn mx set none none)) ∧ Hid (EndsTo set i mn mx) ∧ Hid (Fr (onB b) w wr)) (fun s14 _ => p - (intOf s14).toNat)
  case atStart => exact ⟨0, -1, -1, by omega, rfl, HB1, Lib.hid (.inl ⟨fun x hx => absurd hx.1 (by omega), rfl, rfl⟩), HF1⟩
  case round =>
    obtain ⟨i, mn, mx, hi, rfl, HB, HE, HF⟩ := hrel
    clear HB1 HF1
    by_cases hlt : i < p
    · have y0 := HB.out.cell (i := 0) rfl
      have y1 := HB.out.cell (i := 1) rfl
      have y2 := HB.out.cell (i := 2) rfl
      have y3 := HB.out.cell (i := 3) rfl
      have z1 := HB.out.free 1
      have z2 := HB.out.free 2
      have hbit := bit_and set i HS.out
      cases ht : set.testBit i with
      | false =>
        rw [ht] at hbit
        have HT := Lib.hid ht
        clear ht
        simp only [Bool.false_eq_true, if_false] at hbit
        go_wp2_with fail
        go_roundw
        case rel => exact ⟨i + 1, mn, mx, by omega, by go_num, HB, Lib.hid (HE.out.skip HT.out), HF⟩
        case measure => simp [intOf]; omega
      | true =>
        rw [ht] at hbit
        have HT := Lib.hid ht
        clear ht
        simp only [if_true] at hbit
        rcases HE.out.cases with ⟨rfl, rfl⟩ | hneg
        · go_wp2_with fail
          go_roundw
          case rel => exact ⟨i + 1, i, i, by omega, by go_num, Lib.hid ((HB.out.set 1 _).set 2 _), Lib.hid (HE.out.first HT.out), Lib.hid ((HF.out.setB _ _).setB _ _)⟩
          case measure => simp [intOf]; omega
        · go_wp2_with fail
          go_roundw
          case rel => exact ⟨i + 1, mn, i, by omega, by go_num, Lib.hid (HB.out.set 2 _), Lib.hid (HE.out.more hneg HT.out), Lib.hid (HF.out.setB _ _)⟩
          case measure => simp [intOf]; omega
    · obtain rfl : i = p := by omega
      go_wp2_with fail
      go_end0
      refine ⟨mn, mx, rfl, HB.out, ?_, HF.out⟩
      have := HE.out
      rw [HPE.out] at this
      exact this
end Go.Proofs.Ytohblajdeicfeaa
