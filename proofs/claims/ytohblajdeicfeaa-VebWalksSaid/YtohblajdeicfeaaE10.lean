/- insert. -/
import Derived.Test.YtohblajdeicfeaaE8
namespace Go.Proofs.Ytohblajdeicfeaa
open Go.RowKit
attribute [local go_sem ↓] Go.wp_at_zero Go.wp_at_succ
set_option maxRecDepth 100000 in
set_option maxHeartbeats 1000000 in
theorem ins_empty {d : Nat} {w : World} {f k0 n rb k b x : Nat} {S N : Nat → Prop} {st mn mx : Int} {sp : Option Addr} {mp : Option Nat} (hk : k ≤ 6 * 2 ^ (d + 1)) (T : Bg (VT d) w k b S N mn mx sp mp) (hx : x < 2 ^ k) (hm : mn < 0) (hf : Blk w f 57 (stC k0 n st rb)) (hnf : ¬ N f) (h0 : 0 ≤ st) (h9 : st ≤ 900) :
    Calls Try.prog 36 #[.pointer (some ⟨f, 0, none⟩), .pointer (some ⟨b, 0, none⟩), .int .i64 x] w (InP (d + 1) w f k0 n st rb k b S N x) := by
  have hbf : b ≠ f := fun e => hnf (e ▸ T.nb)
  have hk7 := T.k7
  have HT := Lib.hid T
  have HX := Lib.hid (And.intro hx (And.intro hnf hk))
  have HPD : Hid (PD d w k b (Rest S mn) N sp mp) := Lib.hid T.parts
  clear T hx hnf hk
  go_enter Try.func36, Try.ntmps36
  go_wp2_with fail
  refine (look_any _ hf h0 (by omega)).mono ?_
  rintro e w1 ⟨rfl, B1, F1⟩
  have HN1 := Lib.hid (HT.out.blk.fr F1 hbf)
  have HP1 := Lib.hid (HPD.out.fr F1 (fun q hq _ (e : q = f) => HX.out.2.1 (e ▸ hq)))
  have HF1 := Lib.hid F1
  have HB1 := Lib.hid B1
  have y1 : w1.cell? ⟨b, 1, none⟩ = some (.int .i64 mn) := HN1.out.cell (i := 1) rfl
  have y2 : w1.cell? ⟨b, 2, none⟩ = some (.int .i64 mx) := HN1.out.cell (i := 2) rfl
  have z1 := HN1.out.free 1
  have z2 := HN1.out.free 2
  clear B1 F1 hf HPD
  go_wp2_with (go_at_call 49; refine (small_no HN1.out hk7).mono ?_; rintro e w2 ⟨rfl, rfl⟩)
  go_ret
  have hno := HT.out.ends.neg hm
  have F2 : Fr (onB b) w1 ((w1.setCell ⟨b, 1, none⟩ (.int .i64 x)).setCell ⟨b, 2, none⟩ (.int .i64 x)) := ((Fr.refl (onB b) w1).setB 1 _).setB 2 _
  have hsz := Nat.le_trans HF1.out.size F2.size
  obtain ⟨q1, q2, q3⟩ := HX.out
  refine ⟨true, st + 1, rfl, by simp [hno x], ?_, by omega, by omega, HB1.out.fr F2 (fun (e : f = b) => hbf e.symm), (HF1.out.mono (fun q _ (h : q = f) => .inr h)).trans F2 (fun q _ (e : q = b) => .inl (e ▸ HT.out.nb)), fun _ => rfl⟩
  have hR : ∀ y, Rest S mn y ↔ Rest (fun y => S y ∨ y = x) (x : Int) y := fun y => ⟨fun h => absurd h.1 (hno y), fun h => h.1.elim (fun e => absurd e (hno y)) (fun e => absurd (by rw [e]) h.2)⟩
  have hP := HP1.out.fr F2 (fun q _ h e => h e)
  refine (show VT (d + 1) _ k b (fun y => S y ∨ y = x) N from .inr ⟨q3, x, x, sp, mp, ⟨hk7, HT.out.k20, (HN1.out.set 1 _).set 2 _, .inr ⟨x, x, rfl, rfl, .inr rfl, .inr rfl, fun y hy => hy.elim (fun e => absurd e (hno y)) (fun e => by omega)⟩, fun y hy => hy.elim (fun e => absurd e (hno y)) (fun e => e ▸ q1), HT.out.nb, fun q hq => Nat.lt_of_lt_of_le (HT.out.lt q hq) hsz, ?_⟩⟩).big (fun q hq => .inl hq) (Grw.lt HT.out.lt hsz)
  rcases hP with ⟨h1, h2, h3⟩ | ⟨sb, mb, n, M, Ns, Nc, h1, h2, h3⟩
  · exact .inl ⟨h1, h2, fun y hy => h3 y ((hR y).2 hy)⟩
  · exact .inr ⟨sb, mb, n, M, Ns, Nc, h1, h2, h3.ex hR⟩
set_option maxRecDepth 100000 in
set_option maxHeartbeats 1000000 in
theorem ins_same {d : Nat} {w : World} {f k0 n rb k b x : Nat} {S N : Nat → Prop} {st mx : Int} {sp : Option Addr} {mp : Option Nat} (hk : k ≤ 6 * 2 ^ (d + 1)) (T : Bg (VT d) w k b S N x mx sp mp) (hf : Blk w f 57 (stC k0 n st rb)) (hnf : ¬ N f) (h0 : 0 ≤ st) (h9 : st ≤ 900) :
    Calls Try.prog 36 #[.pointer (some ⟨f, 0, none⟩), .pointer (some ⟨b, 0, none⟩), .int .i64 x] w (InP (d + 1) w f k0 n st rb k b S N x) := by
  have hbf : b ≠ f := fun e => hnf (e ▸ T.nb)
  have hk7 := T.k7
  have HT := Lib.hid T
  have HX := Lib.hid (And.intro hnf hk)
  clear T hnf hk
  go_enter Try.func36, Try.ntmps36
  go_wp2_with fail
  refine (look_any _ hf h0 (by omega)).mono ?_
  rintro e w1 ⟨rfl, B1, F1⟩
  have HN1 := Lib.hid (HT.out.blk.fr F1 hbf)
  have HF1 := Lib.hid F1
  have HB1 := Lib.hid B1
  have y1 : w1.cell? ⟨b, 1, none⟩ = some (.int .i64 x) := HN1.out.cell (i := 1) rfl
  clear B1 F1 hf
  go_wp2_with (go_at_call 49; refine (small_no HN1.out hk7).mono ?_; rintro e w2 ⟨rfl, rfl⟩)
  go_ret
  obtain ⟨a, z, ea, _, hSa, _⟩ := HT.out.ends.nonneg (show ¬ ((x : Nat) : Int) < 0 by omega)
  obtain rfl : x = a := by omega
  have e : (fun y => S y ∨ y = x) = S := by funext y; exact propext ⟨fun h => h.elim id (fun e => e ▸ hSa), .inl⟩
  have hT : VT (d + 1) w k b S N := .inr ⟨HX.out.2, _, _, _, _, HT.out⟩
  refine ⟨false, st + 1, rfl, by simp [hSa], ?_, by omega, by omega, HB1.out, HF1.out.mono (fun q _ (h : q = f) => .inr h), fun _ => rfl⟩
  rw [e]
  exact (hT.fr HF1.out (fun q hq (e : q = f) => HX.out.1 (e ▸ hq))).big (fun q hq => .inl hq) (Grw.lt HT.out.lt HF1.out.size)
theorem insert_any : ∀ d, InsAt d
  | 0 => fun w f k0 n rb k b x S N st T hx hf hnf h0 h9 _ => by
    obtain ⟨mn, mx, set, T⟩ := T
    exact ins_small T hx hf hnf h0 (by omega)
  | d + 1 => fun w f k0 n rb k b x S N st T hx hf hnf h0 h9 hd => by
    rcases T with ⟨mn, mx, set, T⟩ | ⟨hk, mn, mx, sp, mp, T⟩
    · exact ins_small T hx hf hnf h0 (by omega)
    · by_cases hm : mn < 0
      · exact ins_empty hk T hx hm hf hnf h0 (by omega)
      · obtain ⟨a, z, rfl, _, _⟩ := T.ends.nonneg hm
        rcases Nat.lt_trichotomy x a with h | rfl | h
        · exact ins_less (insert_any d) hk T hx h hf hnf h0 h9 hd
        · exact ins_same hk T hf hnf h0 (by omega)
        · exact ins_more (insert_any d) hk T hx h hf hnf h0 h9 hd
end Go.Proofs.Ytohblajdeicfeaa
