/- insert: into a word. -/
import Derived.Test.YtohblajdeicfeaaE5
namespace Go.Proofs.Ytohblajdeicfeaa
open Go.RowKit
attribute [local go_sem ↓] Go.wp_at_zero Go.wp_at_succ
/-- What insert leaves. -/
def InP (d : Nat) (w : World) (f k0 n : Nat) (st : Int) (rb k b : Nat) (S N : Nat → Prop) (x : Nat) (e : Ending) (w' : World) : Prop :=
  ∃ (r : Bool) (st' : Int), e = .returned (.bool r) ∧ (r = true ↔ ¬ S x) ∧ VT d w' k b (fun y => S y ∨ y = x) (Grw N w w') ∧ st < st' ∧ st' ≤ st + 1 + 6 * d ∧ Blk w' f 57 (stC k0 n st' rb) ∧ Fr (fun q => N q ∨ q = f) w w' ∧ ((∀ y, ¬ S y) → st' = st + 1)
def InsAt (d : Nat) : Prop := ∀ (w : World) (f k0 n rb k b x : Nat) (S N : Nat → Prop) (st : Int), VT d w k b S N → x < 2 ^ k → Blk w f 57 (stC k0 n st rb) → ¬ N f → 0 ≤ st → st + 20 * d ≤ 900 → d ≤ 2 →
  Calls Try.prog 36 #[.pointer (some ⟨f, 0, none⟩), .pointer (some ⟨b, 0, none⟩), .int .i64 x] w (InP d w f k0 n st rb k b S N x)
theorem small_yes {w : World} {b k : Nat} {vs : List Value} (hb : Blk w b 71 (.int .i64 k :: vs)) (h : k ≤ 6) :
    Calls Try.prog 49 #[.pointer (some ⟨b, 0, none⟩)] w fun e w' => e = .returned (.bool true) ∧ w = w' := by
  have := small_any hb
  rwa [decide_eq_true h] at this
theorem small_no {w : World} {b k : Nat} {vs : List Value} (hb : Blk w b 71 (.int .i64 k :: vs)) (h : 6 < k) :
    Calls Try.prog 49 #[.pointer (some ⟨b, 0, none⟩)] w fun e w' => e = .returned (.bool false) ∧ w = w' := by
  have := small_any hb
  rwa [decide_eq_false (by omega)] at this
theorem or_bit {set x : Nat} (hs : set < 2 ^ 64) (hx : x < 64) : bits .or .u64 (set : Int) (IntKind.u64.wrap (2 ^ x)) = ((set ||| 2 ^ x : Nat) : Int) := by
  have h1 : (2 : Nat) ^ x < 2 ^ 64 := Nat.pow_lt_pow_right (by decide) hx
  have e : IntKind.u64.wrap (2 ^ x) = ((2 ^ x : Nat) : Int) := by
    have h2 : ((2 : Int) ^ x) = ((2 ^ x : Nat) : Int) := by simp
    rw [h2]
    generalize (2 : Nat) ^ x = p at *
    simp [IntKind.wrap, IntKind.bits, IntKind.signed]; omega
  rw [e, (bits_nat .u64 64 (by decide) (fun n h0 h4 => by simp [IntKind.wrap, IntKind.bits, IntKind.signed]; omega) set (2 ^ x) hs h1).2]
theorem x64 {k x : Nat} (hk : k ≤ 6) (hx : x < 2 ^ k) : x < 64 := Nat.lt_of_lt_of_le hx (Nat.le_trans (Nat.pow_le_pow_right (by decide) hk) (by decide))
set_option maxRecDepth 100000 in
set_option maxHeartbeats 1000000 in
theorem ins_small_has {d : Nat} {w : World} {f k0 n rb k b x set : Nat} {S N : Nat → Prop} {st mn mx : Int} (T : Sm w k b S N mn mx set) (hx : x < 2 ^ k) (hf : Blk w f 57 (stC k0 n st rb)) (hnf : ¬ N f) (h0 : 0 ≤ st) (h9 : st ≤ 900) (hb : set.testBit x = true) :
    Calls Try.prog 36 #[.pointer (some ⟨f, 0, none⟩), .pointer (some ⟨b, 0, none⟩), .int .i64 x] w (InP d w f k0 n st rb k b S N x) := by
  have hx6 := x64 T.k6 hx
  have hbit := bit_and set x T.lim
  rw [if_pos hb] at hbit
  have HT := Lib.hid T
  have HX := Lib.hid (And.intro hx (And.intro hb hnf))
  have hbf : b ≠ f := fun e => hnf (e ▸ T.nb)
  clear T hx hb hnf
  go_enter Try.func36, Try.ntmps36
  go_wp2_with fail
  refine (look_any _ hf h0 (by omega)).mono ?_
  rintro e w1 ⟨rfl, B1, F1⟩
  have HB1 := Lib.hid B1
  have HF1 := Lib.hid F1
  have HN := Lib.hid (HT.out.blk.fr F1 hbf)
  have y3 : w1.cell? ⟨b, 3, none⟩ = some (.int .u64 set) := HN.out.cell (i := 3) rfl
  clear B1 F1 hf
  go_wp2_with (go_at_call 49; refine (small_yes HN.out HT.out.k6).mono ?_; rintro e w2 ⟨rfl, rfl⟩)
  go_ret
  have hS : S x := (HT.out.bits x).2 ⟨HX.out.1, HX.out.2.1⟩
  have hT := VT.small (d := d) HT.out
  have e : (fun y => S y ∨ y = x) = S := by funext y; exact propext ⟨fun h => h.elim id (fun e => e ▸ hS), .inl⟩
  refine ⟨false, st + 1, rfl, by simp [hS], ?_, by omega, by omega, HB1.out, HF1.out.mono (fun q _ (h : q = f) => .inr h), fun _ => rfl⟩
  rw [e]
  exact (hT.fr HF1.out (fun q hq (e : q = f) => HX.out.2.2 (e ▸ hq))).big (fun q hq => .inl hq) (Grw.lt HT.out.lt HF1.out.size)
set_option maxRecDepth 100000 in
set_option maxHeartbeats 1000000 in
theorem ins_small_new {d : Nat} {w : World} {f k0 n rb k b x set : Nat} {S N : Nat → Prop} {st mn mx : Int} (T : Sm w k b S N mn mx set) (hx : x < 2 ^ k) (hf : Blk w f 57 (stC k0 n st rb)) (hnf : ¬ N f) (h0 : 0 ≤ st) (h9 : st ≤ 900) (hb : set.testBit x = false) :
    Calls Try.prog 36 #[.pointer (some ⟨f, 0, none⟩), .pointer (some ⟨b, 0, none⟩), .int .i64 x] w (InP d w f k0 n st rb k b S N x) := by
  have hx6 := x64 T.k6 hx
  have hbit := bit_and set x T.lim
  rw [if_neg (by rw [hb]; decide)] at hbit
  have HO := Lib.hid (or_bit T.lim hx6)
  have HT := Lib.hid T
  have HX := Lib.hid (And.intro hx (And.intro hb hnf))
  have hbf : b ≠ f := fun e => hnf (e ▸ T.nb)
  clear T hx hb hnf
  go_enter Try.func36, Try.ntmps36
  go_wp2_with fail
  refine (look_any _ hf h0 (by omega)).mono ?_
  rintro e w1 ⟨rfl, B1, F1⟩
  have HB1 := Lib.hid B1
  have HF1 := Lib.hid F1
  have HN := Lib.hid (HT.out.blk.fr F1 hbf)
  have y3 : w1.cell? ⟨b, 3, none⟩ = some (.int .u64 set) := HN.out.cell (i := 3) rfl
  have z3 := HN.out.free 3
  clear B1 F1 hf
  go_wp2_with (go_at_call 49; refine (small_yes HN.out HT.out.k6).mono ?_; rintro e w2 ⟨rfl, rfl⟩)
  go_region
  all_goals
    go_wp2_with fail
    rw [HO.out]
    have hset : set ||| 2 ^ x < 2 ^ 64 := Nat.or_lt_two_pow HT.out.lim (Nat.pow_lt_pow_right (by decide) hx6)
    have HB2 := Lib.hid ((HN.out.set 3 (.int .u64 ((set ||| 2 ^ x : Nat) : Int))).drew)
    refine (bounds_any HB2.out HT.out.k6 hset).mono ?_
    rintro e w2 ⟨mn', mx', rfl, B3, E3, F3⟩
    have HP := Lib.hid (And.intro B3 (And.intro E3 F3))
    clear B3 E3 F3
    go_wp2_with fail
    go_ret
    obtain ⟨B3, E3, F3⟩ := HP.out
    obtain ⟨q1, q2, q3⟩ := HX.out
    have hS : ¬ S x := fun h => by have := ((HT.out.bits x).1 h).2; rw [q2] at this; cases this
    have F2 : Fr (onB b) w1 w2 := (((Fr.refl (onB b) w1).setB 3 _).drew).trans F3 (fun _ _ h => h)
    have key : ∀ y, (S y ∨ y = x) ↔ y < 2 ^ k ∧ (set ||| 2 ^ x).testBit y = true := by
      intro y
      rw [HT.out.bits y, Nat.testBit_or, Nat.testBit_two_pow]
      constructor
      · rintro (⟨h1, h2⟩ | rfl)
        · exact ⟨h1, by simp [h2]⟩
        · exact ⟨q1, by simp⟩
      · rintro ⟨h1, h2⟩
        by_cases e : x = y
        · exact .inr e.symm
        · simp [e] at h2; exact .inl ⟨h1, h2⟩
    have hsz := Nat.le_trans HF1.out.size F2.size
    refine ⟨true, st + 1, rfl, by simp [hS], VT.small ⟨HT.out.k6, B3, ?_, key, hset, .inl HT.out.nb, Grw.lt HT.out.lt hsz⟩, by omega, by omega, HB1.out.fr F2 (fun (e : f = b) => hbf e.symm), ?_, fun _ => rfl⟩
    · have e : (fun y => S y ∨ y = x) = fun y => y < 2 ^ k ∧ (set ||| 2 ^ x).testBit y = true := funext fun y => propext (key y)
      rw [e]; exact E3
    · exact (HF1.out.mono (fun q _ (h : q = f) => .inr h)).trans F2 (fun q _ (e : q = b) => .inl (e ▸ HT.out.nb))
theorem ins_small {d : Nat} {w : World} {f k0 n rb k b x set : Nat} {S N : Nat → Prop} {st mn mx : Int} (T : Sm w k b S N mn mx set) (hx : x < 2 ^ k) (hf : Blk w f 57 (stC k0 n st rb)) (hnf : ¬ N f) (h0 : 0 ≤ st) (h9 : st ≤ 900) :
    Calls Try.prog 36 #[.pointer (some ⟨f, 0, none⟩), .pointer (some ⟨b, 0, none⟩), .int .i64 x] w (InP d w f k0 n st rb k b S N x) := by
  cases hb : set.testBit x with
  | true => exact ins_small_has T hx hf hnf h0 h9 hb
  | false => exact ins_small_new T hx hf hnf h0 h9 hb
end Go.Proofs.Ytohblajdeicfeaa
