/- remove: out of a word, and the only element. -/
import Derived.Test.YtohblajdeicfeaaE13
namespace Go.Proofs.Ytohblajdeicfeaa
open Go.RowKit
attribute [local go_sem ↓] Go.wp_at_zero Go.wp_at_succ
/-- What remove leaves. -/
def RmP (d : Nat) (w : World) (f k0 n : Nat) (st : Int) (rb k b : Nat) (S N : Nat → Prop) (x : Nat) (e : Ending) (w' : World) : Prop :=
  ∃ st' : Int, e = .returned (.tuple #[]) ∧ VT d w' k b (fun y => S y ∧ y ≠ x) N ∧ st < st' ∧ st' ≤ st + 1 + 6 * d ∧ Blk w' f 57 (stC k0 n st' rb) ∧ Fr (fun q => N q ∨ q = f) w w' ∧ ((∀ y, S y → y = x) → st' = st + 1)
def RmAt (d : Nat) : Prop := ∀ (w : World) (f k0 n rb k b x : Nat) (S N : Nat → Prop) (st : Int), VT d w k b S N → S x → Blk w f 57 (stC k0 n st rb) → ¬ N f → 0 ≤ st → st + 20 * d ≤ 900 → d ≤ 2 →
  Calls Try.prog 37 #[.pointer (some ⟨f, 0, none⟩), .pointer (some ⟨b, 0, none⟩), .int .i64 x] w (RmP d w f k0 n st rb k b S N x)
theorem clr_bit {set x : Nat} (hs : set < 2 ^ 64) (hx : x < 64) : ∃ s' : Nat, bits .andNot .u64 (set : Int) (IntKind.u64.wrap (2 ^ x)) = (s' : Int) ∧ s' < 2 ^ 64 ∧ ∀ i, s'.testBit i = (set.testBit i && !decide (i = x)) := by
  have h1 : (2 : Nat) ^ x < 2 ^ 64 := Nat.pow_lt_pow_right (by decide) hx
  have e : IntKind.u64.wrap (2 ^ x) = ((2 ^ x : Nat) : Int) := by
    have h2 : ((2 : Int) ^ x) = ((2 ^ x : Nat) : Int) := by simp
    rw [h2]
    generalize (2 : Nat) ^ x = p at *
    simp [IntKind.wrap, IntKind.bits, IntKind.signed]; omega
  rw [e]
  refine ⟨(BitVec.ofNat 64 set &&& ~~~(BitVec.ofNat 64 (2 ^ x))).toNat, ?_, BitVec.isLt _, fun i => ?_⟩
  · have hw : ∀ n : Nat, n < 2 ^ 64 → IntKind.u64.wrap (n : Int) = n := fun n hn => by simp [IntKind.wrap, IntKind.bits, IntKind.signed]; omega
    exact hw _ (BitVec.isLt _)
  · by_cases hi : i < 64
    · rw [BitVec.testBit_toNat]
      simp only [BitVec.getLsbD_and, BitVec.getLsbD_not, BitVec.getLsbD_ofNat, hi, Nat.testBit_two_pow, decide_true, Bool.true_and, @eq_comm _ x i]
    · have h2 : set.testBit i = false := Nat.testBit_lt_two_pow (Nat.lt_of_lt_of_le hs (Nat.pow_le_pow_right (by decide) (by omega)))
      rw [h2, Nat.testBit_lt_two_pow (Nat.lt_of_lt_of_le (BitVec.isLt _) (Nat.pow_le_pow_right (by decide) (by omega)))]
      rfl
set_option maxRecDepth 100000 in
set_option maxHeartbeats 1000000 in
theorem rm_small {d : Nat} {w : World} {f k0 n rb k b x set : Nat} {S N : Nat → Prop} {st mn mx : Int} (T : Sm w k b S N mn mx set) (hx : S x) (hf : Blk w f 57 (stC k0 n st rb)) (hnf : ¬ N f) (h0 : 0 ≤ st) (h9 : st ≤ 900) :
    Calls Try.prog 37 #[.pointer (some ⟨f, 0, none⟩), .pointer (some ⟨b, 0, none⟩), .int .i64 x] w (RmP d w f k0 n st rb k b S N x) := by
  have hx6 := x64 T.k6 ((T.bits x).1 hx).1
  obtain ⟨s', hs1, hs2, hs3⟩ := clr_bit T.lim hx6
  have HO := Lib.hid hs1
  have HS := Lib.hid (And.intro hs2 hs3)
  have HT := Lib.hid T
  have hbf : b ≠ f := fun e => hnf (e ▸ T.nb)
  clear T hx hnf hs1 hs2 hs3
  go_enter Try.func37, Try.ntmps37
  go_wp2_with fail
  refine (look_any _ hf h0 (by omega)).mono ?_
  rintro e w1 ⟨rfl, B1, F1⟩
  have HB1 := Lib.hid B1
  have HF1 := Lib.hid F1
  have HN := Lib.hid (HT.out.blk.fr F1 hbf)
  have y3 : w1.cell? ⟨b, 3, none⟩ = some (.int .u64 set) := HN.out.cell (i := 3) rfl
  have z3 := HN.out.free 3
  clear B1 F1 hf
  go_wp2_with (go_at_call 49; refine (small_yes HN.out HT.out.k6).mono ?_; rintro e w2 ⟨rfl, rfl⟩)
  go_region
  all_goals
    go_wp2_with fail
    rw [HO.out]
    have HB2 := Lib.hid ((HN.out.set 3 (.int .u64 (s' : Int))).drew)
    refine (bounds_any HB2.out HT.out.k6 HS.out.1).mono ?_
    rintro e w2 ⟨mn', mx', rfl, B3, E3, F3⟩
    have HP := Lib.hid (And.intro B3 (And.intro E3 F3))
    clear B3 E3 F3
    go_wp2_with fail
    go_end0
    obtain ⟨B3, E3, F3⟩ := HP.out
    have F2 : Fr (onB b) w1 w2 := (((Fr.refl (onB b) w1).setB 3 _).drew).trans F3 (fun _ _ h => h)
    have key : ∀ y, (S y ∧ y ≠ x) ↔ y < 2 ^ k ∧ s'.testBit y = true := by
      intro y
      rw [HT.out.bits y, HS.out.2 y]
      simp [and_assoc]
    have hsz := Nat.le_trans HF1.out.size F2.size
    refine ⟨st + 1, rfl, VT.small ⟨HT.out.k6, B3, ?_, key, HS.out.1, HT.out.nb, fun q hq => Nat.lt_of_lt_of_le (HT.out.lt q hq) hsz⟩, by omega, by omega, HB1.out.fr F2 (fun (e : f = b) => hbf e.symm), ?_, fun _ => rfl⟩
    · have e : (fun y => S y ∧ y ≠ x) = fun y => y < 2 ^ k ∧ s'.testBit y = true := funext fun y => propext (key y)
      rw [e]; exact E3
    · exact (HF1.out.mono (fun q _ (h : q = f) => .inr h)).trans F2 (fun q _ (e : q = b) => .inl (e ▸ HT.out.nb))
set_option maxRecDepth 100000 in
set_option maxHeartbeats 1000000 in
theorem rm_one {d : Nat} {w : World} {f k0 n rb k b x a : Nat} {S N : Nat → Prop} {st : Int} {sp : Option Addr} {mp : Option Nat} (hk : k ≤ 6 * 2 ^ (d + 1)) (T : Bg (VT d) w k b S N a a sp mp) (hx : S x) (hf : Blk w f 57 (stC k0 n st rb)) (hnf : ¬ N f) (h0 : 0 ≤ st) (h9 : st ≤ 900) :
    Calls Try.prog 37 #[.pointer (some ⟨f, 0, none⟩), .pointer (some ⟨b, 0, none⟩), .int .i64 x] w (RmP (d + 1) w f k0 n st rb k b S N x) := by
  have hbf : b ≠ f := fun e => hnf (e ▸ T.nb)
  have hk7 := T.k7
  have HT := Lib.hid T
  have HX := Lib.hid (And.intro hx (And.intro hnf hk))
  have HPD : Hid (PD d w k b (Rest S a) N sp mp) := Lib.hid T.parts
  clear T hx hnf hk
  go_enter Try.func37, Try.ntmps37
  go_wp2_with fail
  refine (look_any _ hf h0 (by omega)).mono ?_
  rintro e w1 ⟨rfl, B1, F1⟩
  have HN1 := Lib.hid (HT.out.blk.fr F1 hbf)
  have HP1 := Lib.hid (HPD.out.fr F1 (fun q hq _ (e : q = f) => HX.out.2.1 (e ▸ hq)))
  have HF1 := Lib.hid F1
  have HB1 := Lib.hid B1
  have y1 : w1.cell? ⟨b, 1, none⟩ = some (.int .i64 a) := HN1.out.cell (i := 1) rfl
  have y2 : w1.cell? ⟨b, 2, none⟩ = some (.int .i64 a) := HN1.out.cell (i := 2) rfl
  have z1 := HN1.out.free 1
  have z2 := HN1.out.free 2
  clear B1 F1 hf HPD
  go_wp2_with (go_at_call 49; refine (small_no HN1.out hk7).mono ?_; rintro e w2 ⟨rfl, rfl⟩)
  go_quiet (fail)
  generalize hW : w1.drewN nq = w2 at *
  have HN2 : Hid (Blk w2 b 71 (ndC k a a 0 sp mp)) := Lib.hid (by rw [← hW]; exact HN1.out)
  have F12 : Hid (Fr F0 w1 w2) := Lib.hid (by rw [← hW]; exact (Fr.refl F0 w1).drewN nq)
  clear hW y1 y2 z1 z2
  have z1 := HN2.out.free 1
  have z2 := HN2.out.free 2
  have y1 : w2.cell? ⟨b, 1, none⟩ = some (.int .i64 a) := HN2.out.cell (i := 1) rfl
  have y2 : w2.cell? ⟨b, 2, none⟩ = some (.int .i64 a) := HN2.out.cell (i := 2) rfl
  go_wp2_with fail
  go_end0
  obtain ⟨q1, q2, q3⟩ := HX.out
  obtain ⟨a', z', ea, ez, hSa, hSz, hen⟩ := HT.out.ends.nonneg (show ¬ ((a : Nat) : Int) < 0 by omega)
  have hone : ∀ y, S y → y = x := fun y hy => by have := hen y hy; have := hen x q1; omega
  have hno : ∀ y, ¬ (S y ∧ y ≠ x) := fun y hy => hy.2 (hone y hy.1)
  have F2 : Fr (onB b) w1 ((w2.setCell ⟨b, 1, none⟩ (.int .i64 (-1))).setCell ⟨b, 2, none⟩ (.int .i64 (-1))) := ((F12.out.mono (fun _ _ h => h.elim)).setB 1 _).setB 2 _
  have hsz := Nat.le_trans HF1.out.size F2.size
  have hR : ∀ y, Rest S a y ↔ Rest (fun y => S y ∧ y ≠ x) (-1) y := fun y => ⟨fun h => by have := hen y h.1; have := h.2; omega, fun h => absurd h.1 (hno y)⟩
  have hP := HP1.out.fr F2 (fun q _ h e => h e)
  refine ⟨st + 1, rfl, (show VT (d + 1) _ k b (fun y => S y ∧ y ≠ x) N from .inr ⟨q3, -1, -1, sp, mp, ⟨hk7, HT.out.k20, (HN2.out.set 1 _).set 2 _, .inl ⟨hno, rfl, rfl⟩, fun y hy => absurd hy (hno y), HT.out.nb, fun q hq => Nat.lt_of_lt_of_le (HT.out.lt q hq) hsz, ?_⟩⟩), by omega, by omega, HB1.out.fr F2 (fun (e : f = b) => hbf e.symm), (HF1.out.mono (fun q _ (h : q = f) => .inr h)).trans F2 (fun q _ (e : q = b) => .inl (e ▸ HT.out.nb)), fun _ => rfl⟩
  rcases hP with ⟨h1, h2, h3⟩ | ⟨sb, mb, n, M, Ns, Nc, h1, h2, h3⟩
  · exact .inl ⟨h1, h2, fun y hy => h3 y ((hR y).2 hy)⟩
  · exact .inr ⟨sb, mb, n, M, Ns, Nc, h1, h2, h3.ex hR⟩
end Go.Proofs.Ytohblajdeicfeaa
