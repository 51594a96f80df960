/- insert: what a summary and clusters become (plain law). -/
import Derived.Test.YtohblajdeicfeaaE6
namespace Go.Proofs.Ytohblajdeicfeaa
open Go.RowKit
theorem parts_gen {d k b h : Nat} {w : World} {mn mx : Int} {sp : Option Addr} {mp : Option Nat} {R N : Nat → Prop} (hb : Blk w b 71 (ndC k mn mx 0 sp mp)) (hN : N b) (hl : ∀ q, N q → q < w.heap.size) (h7 : 6 < k) (h20 : k ≤ 20)
    (hp : (sp = none ∧ mp = none ∧ ∀ x, ¬ R x) ∨ ∃ sb mb n M Ns Nc, sp = some ⟨sb, 0, none⟩ ∧ mp = some mb ∧ Parts (VT d) w k b sb mb n M R N Ns Nc) (hk : k ≤ 6 * 2 ^ (d + 1)) (hh : h < 2 ^ (k - k / 2)) :
    Calls Try.prog 52 #[.pointer (some ⟨b, 0, none⟩), .int .i64 h] w (PtPost d w k b mn mx R N h) := by
  rcases hp with ⟨rfl, rfl, hR⟩ | ⟨sb, mb, n, M, Ns, Nc, rfl, rfl, P⟩
  · exact parts_first hb hR hN hl hk h20 h7 hh
  · cases hM : M h with
    | none => exact parts_more hb P hk h20 hh hM
    | some c => exact parts_have hb P h20 hh hM
theorem pair_inj {p a b c e : Nat} (hb : b < p) (he : e < p) (h : a * p + b = c * p + e) : a = c ∧ b = e := by
  have h1 : (a * p + b) / p = a := by rw [Nat.add_comm, Nat.add_mul_div_right _ _ (by omega), Nat.div_eq_of_lt hb, Nat.zero_add]
  have h2 : (c * p + e) / p = c := by rw [Nat.add_comm, Nat.add_mul_div_right _ _ (by omega), Nat.div_eq_of_lt he, Nat.zero_add]
  have h3 : a = c := by rw [← h1, h, h2]
  subst h3
  exact ⟨rfl, by omega⟩
theorem Smy.ins {k : Nat} {R : Nat → Prop} {h l : Nat} (hl : l < 2 ^ (k / 2)) (z : Nat) : Smy k (fun x => R x ∨ x = h * 2 ^ (k / 2) + l) z ↔ (Smy k R z ∨ z = h) := by
  constructor
  · rintro ⟨m, hm, h1 | h1⟩
    · exact .inl ⟨m, hm, h1⟩
    · exact .inr (pair_inj hm hl h1).1
  · rintro (⟨m, hm, h1⟩ | rfl)
    · exact ⟨m, hm, .inl h1⟩
    · exact ⟨l, hl, .inr rfl⟩
theorem Clu.ins {k : Nat} {R : Nat → Prop} {h l : Nat} (hl : l < 2 ^ (k / 2)) (z : Nat) : Clu k (fun x => R x ∨ x = h * 2 ^ (k / 2) + l) h z ↔ (Clu k R h z ∨ z = l) := by
  constructor
  · rintro ⟨hm, h1 | h1⟩
    · exact .inl ⟨hm, h1⟩
    · exact .inr (pair_inj hm hl h1).2
  · rintro (⟨hm, h1⟩ | rfl)
    · exact ⟨hm, .inl h1⟩
    · exact ⟨hl, .inr rfl⟩
/-- An element comes in. -/
theorem Parts.ins {d : Nat} {w w' : World} {k b sb mb n h c l : Nat} {M : Nat → Option Nat} {R N N' Ns Ns' Nc' F : Nat → Prop} {Nc : Nat → Nat → Prop} (P : Parts (VT d) w k b sb mb n M R N Ns Nc) (hM : M h = some c) (hl : l < 2 ^ (k / 2))
    (f : Fr F w w') (hF : ∀ q, F q → q < w.heap.size → Ns q ∨ Nc h q ∨ ¬ N q)
    (hs : VT d w' (k - k / 2) sb (fun z => Smy k R z ∨ z = h) Ns') (hc : VT d w' (k / 2) c (fun z => Clu k R h z ∨ z = l) Nc')
    (es : ∀ q, Ns' q → Ns q ∨ w.heap.size ≤ q) (ec : ∀ q, Nc' q → Nc h q ∨ w.heap.size ≤ q) (sep : ∀ q, Ns' q → ¬ Nc' q)
    (hN : ∀ q, N q → N' q) (hN1 : ∀ q, Ns' q → N' q) (hN2 : ∀ q, Nc' q → N' q) (hN3 : ∀ q, N' q → q < w'.heap.size) :
    Parts (VT d) w' k b sb mb n M (fun x => R x ∨ x = h * 2 ^ (k / 2) + l) N' Ns' (fun x => if x = h then Nc' else Nc x) :=
  P.upd (VT.kit d) hM f hF (hs.ext fun z => (Smy.ins hl z).symm) (hc.ext fun z => (Clu.ins hl z).symm) es ec sep (fun x hx m hm => ⟨fun e => e.elim id (fun e => absurd (pair_inj hm hl e).1 hx), .inl⟩) hN hN1 hN2 hN3
theorem hi_lt {k y : Nat} (hy : y < 2 ^ k) : y / 2 ^ (k / 2) < 2 ^ (k - k / 2) := by
  refine Nat.div_lt_of_lt_mul ?_
  rw [← Nat.pow_add]
  have : k / 2 + (k - k / 2) = k := by omega
  rwa [this]
theorem lo_lt {k y : Nat} : y % 2 ^ (k / 2) < 2 ^ (k / 2) := Nat.mod_lt _ (Nat.two_pow_pos _)
theorem hi_lo (k y : Nat) : y / 2 ^ (k / 2) * 2 ^ (k / 2) + y % 2 ^ (k / 2) = y := Nat.div_add_mod' _ _
theorem Ends.neg {S : Nat → Prop} {mn mx : Int} (h : Ends S mn mx) (hn : mn < 0) : ∀ x, ¬ S x := by
  rcases h with ⟨h, _, _⟩ | ⟨a, z, rfl, _⟩
  · exact h
  · omega
theorem Ends.nonneg {S : Nat → Prop} {mn mx : Int} (h : Ends S mn mx) (hn : ¬ mn < 0) : ∃ a z : Nat, mn = a ∧ mx = z ∧ S a ∧ S z ∧ ∀ y, S y → a ≤ y ∧ y ≤ z := by
  rcases h with ⟨_, h, _⟩ | h
  · omega
  · exact h
/-- A tree with a summary and clusters, put together. -/
theorem VT.make {d k b sb mb n : Nat} {w : World} {S R N Ns : Nat → Prop} {M : Nat → Option Nat} {Nc : Nat → Nat → Prop} {mn mx : Int} (hk : k ≤ 6 * 2 ^ (d + 1)) (h7 : 6 < k) (h20 : k ≤ 20) (hb : Blk w b 71 (ndC k mn mx 0 (some ⟨sb, 0, none⟩) (some mb)))
    (P : Parts (VT d) w k b sb mb n M R N Ns Nc) (he : Ends S mn mx) (hR : ∀ x, Rest S mn x ↔ R x) (hl : ∀ x, S x → x < 2 ^ k) : VT (d + 1) w k b S N :=
  .inr ⟨hk, mn, mx, _, _, ⟨h7, h20, hb, he, hl, P.nb, P.lt, .inr ⟨sb, mb, n, M, Ns, Nc, rfl, rfl, P.ex fun x => (hR x).symm⟩⟩⟩
/-- What an insertion into a tree with clusters amounts to. -/
theorem Ends.ins {S : Nat → Prop} {a x y mn z t : Nat} (hc : (a < x ∧ y = x ∧ mn = a) ∨ (x < a ∧ y = a ∧ mn = x)) (hSa : S a) (hSz : S z) (he : ∀ y, S y → a ≤ y ∧ y ≤ z) (ht : z ≤ t ∧ y ≤ t ∧ (t = z ∨ t = y)) : Ends (fun q => S q ∨ q = x) mn t := by
  have haz := he a hSa
  refine .inr ⟨mn, t, rfl, rfl, ?_, ?_, ?_⟩
  · rcases hc with ⟨_, _, rfl⟩ | ⟨_, _, rfl⟩
    · exact .inl hSa
    · exact .inr rfl
  · rcases ht.2.2 with rfl | rfl
    · exact .inl hSz
    · rcases hc with ⟨_, rfl, _⟩ | ⟨_, rfl, _⟩
      · exact .inr rfl
      · exact .inl hSa
  · rintro q (hq | rfl)
    · have := he q hq
      omega
    · omega
theorem Rest.ins {S : Nat → Prop} {a x y mn z : Nat} (hc : (a < x ∧ y = x ∧ mn = a) ∨ (x < a ∧ y = a ∧ mn = x)) (hSa : S a) (he : ∀ y, S y → a ≤ y ∧ y ≤ z) (q : Nat) : Rest (fun q => S q ∨ q = x) mn q ↔ (Rest S a q ∨ q = y) := by
  unfold Rest
  rcases hc with ⟨h1, rfl, rfl⟩ | ⟨h1, rfl, rfl⟩
  · constructor
    · rintro ⟨h | h, h2⟩
      · exact .inl ⟨h, h2⟩
      · exact .inr h
    · rintro (⟨h, h2⟩ | rfl)
      · exact ⟨.inl h, h2⟩
      · exact ⟨.inr rfl, by omega⟩
  · constructor
    · rintro ⟨h | h, h2⟩
      · by_cases e : q = y
        · exact .inr e
        · exact .inl ⟨h, by omega⟩
      · omega
    · rintro (⟨h, h2⟩ | rfl)
      · have := he q h
        exact ⟨.inl h, by omega⟩
      · exact ⟨.inl hSa, by omega⟩
theorem InP.fin {d : Nat} {w w6 w7 : World} {f k0 n rb k b x y a h l z t sb mb nn mn : Nat} {S N Ns : Nat → Prop} {M : Nat → Option Nat} {Nc : Nat → Nat → Prop} {st st6 : Int} {r6 : Bool}
    (hk : k ≤ 6 * 2 ^ (d + 1)) (h7 : 6 < k) (h20 : k ≤ 20) (hnb : N b) (hbf : b ≠ f) (hlt : ∀ q, N q → q < w.heap.size)
    (hc : (a < x ∧ y = x ∧ mn = a) ∨ (x < a ∧ y = a ∧ mn = x)) (hSa : S a) (hSz : S z) (he : ∀ y, S y → a ≤ y ∧ y ≤ z) (hx : x < 2 ^ k) (hlim : ∀ x, S x → x < 2 ^ k)
    (hl : l < 2 ^ (k / 2)) (hy : h * 2 ^ (k / 2) + l = y) (ht : z ≤ t ∧ y ≤ t ∧ (t = z ∨ t = y))
    (P : Parts (VT d) w6 k b sb mb nn M (fun q => Rest S a q ∨ q = h * 2 ^ (k / 2) + l) (Grw N w w6) Ns Nc)
    (hb : Blk w7 b 71 (ndC k mn t 0 (some ⟨sb, 0, none⟩) (some mb))) (hf : Blk w6 f 57 (stC k0 n st6 rb))
    (F6 : Fr (fun q => N q ∨ q = f) w w6) (F7 : Fr (onB b) w6 w7) (hr : r6 = true ↔ ¬ Clu k (Rest S a) h l) (h1 : st < st6) (h2 : st6 ≤ st + 1 + 6 * ((d + 1 : Nat) : Int)) :
    InP (d + 1) w f k0 n st rb k b S N x (.returned (.bool r6)) w7 := by
  have s6 := F6.size
  have s7 := F7.size
  refine ⟨r6, st6, rfl, ?_, ?_, h1, h2, hf.fr F7 (fun (e : f = b) => hbf e.symm), F6.trans F7 (fun q _ (e : q = b) => .inl (e ▸ hnb)), fun hno => absurd hSa (hno a)⟩
  · rw [hr]
    refine not_congr ⟨fun hq => ?_, fun hq => ⟨hl, ?_⟩⟩
    · have hq := hq.2
      rw [hy] at hq
      rcases hc with ⟨_, rfl, _⟩ | ⟨_, rfl, _⟩
      · exact hq.1
      · exact absurd rfl hq.2
    · rw [hy]
      rcases hc with ⟨g, rfl, _⟩ | ⟨g, rfl, _⟩
      · exact ⟨hq, by omega⟩
      · have := he x hq; omega
  · have P7 := (P.fr (VT.kit d) F7 (fun q _ g e => g e)).big (N' := Grw N w w7) (fun q hq => hq.elim .inl (fun e => .inr ⟨e.1, by omega⟩)) (Grw.lt hlt (by omega))
    refine VT.make hk h7 h20 hb P7 (Ends.ins hc hSa hSz he ht) (fun q => ?_) (fun q hq => hq.elim (hlim q) (fun e => e ▸ hx))
    rw [Rest.ins hc hSa he q, hy]
end Go.Proofs.Ytohblajdeicfeaa
