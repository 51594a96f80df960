/- Van Emde Boas trees: which set lies at a block of memory. -/
import Derived.Test.YtohblajdeicfeaaComMapP
import Derived.Test.YtohblajdeicfeaaComBlk
namespace Go.Proofs.Ytohblajdeicfeaa
open Go.RowKit

/-- The cells of a tree. -/
abbrev ndC (k : Nat) (mn mx : Int) (set : Nat) (sp : Option Addr) (mp : Option Nat) : List Value := [.int .i64 k, .int .i64 mn, .int .i64 mx, .int .u64 set, .pointer sp, .map mp]
/-- The least and the greatest element; -1 if there are none. -/
def Ends (S : Nat → Prop) (mn mx : Int) : Prop := ((∀ x, ¬ S x) ∧ mn = -1 ∧ mx = -1) ∨ ∃ a z : Nat, mn = a ∧ mx = z ∧ S a ∧ S z ∧ ∀ y, S y → a ≤ y ∧ y ≤ z
/-- The elements but the least one. -/
def Rest (S : Nat → Prop) (mn : Int) : Nat → Prop := fun x => S x ∧ (x : Int) ≠ mn
/-- The elements of a cluster. -/
def Clu (k : Nat) (R : Nat → Prop) (h : Nat) : Nat → Prop := fun l => l < 2 ^ (k / 2) ∧ R (h * 2 ^ (k / 2) + l)
/-- The clusters that have elements. -/
def Smy (k : Nat) (R : Nat → Prop) : Nat → Prop := fun h => ∃ l, l < 2 ^ (k / 2) ∧ R (h * 2 ^ (k / 2) + l)
def ptrM (M : Nat → Option Nat) : Int → Option Value := fun x => if 0 ≤ x then (M x.toNat).map (fun c => .pointer (some ⟨c, 0, none⟩)) else none
/-- How many of the first numbers have a cluster. -/
def cntM (M : Nat → Option Nat) : Nat → Nat
  | 0 => 0
  | u + 1 => cntM M u + if (M u).isSome then 1 else 0
theorem cntM_le (M : Nat → Option Nat) : ∀ u, cntM M u ≤ u
  | 0 => Nat.le_refl _
  | u + 1 => by have := cntM_le M u; simp only [cntM]; split <;> omega
def setM (M : Nat → Option Nat) (h c : Nat) : Nat → Option Nat := fun x => if x = h then some c else M x
theorem cntM_set {M : Nat → Option Nat} {h c : Nat} (hn : M h = none) : ∀ u, cntM (setM M h c) u = cntM M u + if h < u then 1 else 0
  | 0 => by simp [cntM]
  | u + 1 => by
    have ih := cntM_set (c := c) hn u
    simp only [cntM]
    rw [ih]
    by_cases e : u = h
    · subst e
      simp [setM, hn]
    · simp only [setM, if_neg e]
      have : (h < u + 1) ↔ h < u := by omega
      simp only [this]
      omega
abbrev VP := World → Nat → Nat → (Nat → Prop) → (Nat → Prop) → Prop
/-- A summary and clusters, made as far as needed. -/
structure Parts (V : VP) (w : World) (k b sb mb n : Nat) (M : Nat → Option Nat) (R N Ns : Nat → Prop) (Nc : Nat → Nat → Prop) : Prop where
  sum : V w (k - k / 2) sb (Smy k R) Ns
  map : MapP w mb n (ptrM M)
  cnt : n = cntM M (2 ^ (k - k / 2))
  clu : ∀ h c, M h = some c → h < 2 ^ (k - k / 2) ∧ V w (k / 2) c (Clu k R h) (Nc h)
  out : ∀ h, M h = none → ∀ l, ¬ Clu k R h l
  nb : N b
  nm : N mb
  bm : b ≠ mb
  sb : ¬ Ns b
  sm : ¬ Ns mb
  sN : ∀ q, Ns q → N q
  cb : ∀ h, ¬ Nc h b
  cm : ∀ h, ¬ Nc h mb
  cN : ∀ h q, Nc h q → N q
  sc : ∀ h q, Ns q → ¬ Nc h q
  cc : ∀ h h' q, Nc h q → Nc h' q → h = h'
  lt : ∀ q, N q → q < w.heap.size
/-- A tree that is kept in a word. -/
structure Sm (w : World) (k b : Nat) (S N : Nat → Prop) (mn mx : Int) (set : Nat) : Prop where
  k6 : k ≤ 6
  blk : Blk w b 71 (ndC k mn mx set none none)
  ends : Ends S mn mx
  bits : ∀ x, S x ↔ x < 2 ^ k ∧ set.testBit x = true
  lim : set < 2 ^ 64
  nb : N b
  lt : ∀ q, N q → q < w.heap.size
/-- A tree with a summary and clusters, or none yet. -/
structure Bg (V : VP) (w : World) (k b : Nat) (S N : Nat → Prop) (mn mx : Int) (sp : Option Addr) (mp : Option Nat) : Prop where
  k7 : 6 < k
  k20 : k ≤ 20
  blk : Blk w b 71 (ndC k mn mx 0 sp mp)
  ends : Ends S mn mx
  lim : ∀ x, S x → x < 2 ^ k
  nb : N b
  lt : ∀ q, N q → q < w.heap.size
  parts : (sp = none ∧ mp = none ∧ ∀ x, ¬ Rest S mn x) ∨ ∃ sb mb n M Ns Nc, sp = some ⟨sb, 0, none⟩ ∧ mp = some mb ∧ Parts V w k b sb mb n M (Rest S mn) N Ns Nc
/-- At block b lies a tree for the numbers of k bits that has the elements S; its blocks are among N. -/
def VT : Nat → VP
  | 0, w, k, b, S, N => ∃ mn mx set, Sm w k b S N mn mx set
  | d + 1, w, k, b, S, N => (∃ mn mx set, Sm w k b S N mn mx set) ∨ (k ≤ 6 * 2 ^ (d + 1) ∧ ∃ mn mx sp mp, Bg (VT d) w k b S N mn mx sp mp)

theorem VT.small {d k b : Nat} {w : World} {S N : Nat → Prop} {mn mx : Int} {set : Nat} (h : Sm w k b S N mn mx set) : VT d w k b S N := by
  cases d with
  | zero => exact ⟨mn, mx, set, h⟩
  | succ d => exact .inl ⟨mn, mx, set, h⟩
theorem VT.cases {d k b : Nat} {w : World} {S N : Nat → Prop} (h : VT d w k b S N) : (∃ mn mx set, Sm w k b S N mn mx set) ∨ ∃ e, d = e + 1 ∧ k ≤ 6 * 2 ^ d ∧ ∃ mn mx sp mp, Bg (VT e) w k b S N mn mx sp mp := by
  cases d with
  | zero => exact .inl h
  | succ d =>
    rcases h with h | ⟨h1, h2⟩
    · exact .inl h
    · exact .inr ⟨d, rfl, h1, h2⟩
theorem VT.nb {d k b : Nat} {w : World} {S N : Nat → Prop} (h : VT d w k b S N) : N b := by
  rcases h.cases with ⟨_, _, _, h⟩ | ⟨_, _, _, _, _, _, _, h⟩
  · exact h.nb
  · exact h.nb
theorem VT.lt {d k b : Nat} {w : World} {S N : Nat → Prop} (h : VT d w k b S N) : ∀ q, N q → q < w.heap.size := by
  rcases h.cases with ⟨_, _, _, h⟩ | ⟨_, _, _, _, _, _, _, h⟩
  · exact h.lt
  · exact h.lt
theorem VT.lim {d k b : Nat} {w : World} {S N : Nat → Prop} (h : VT d w k b S N) : ∀ x, S x → x < 2 ^ k := by
  rcases h.cases with ⟨_, _, _, h⟩ | ⟨_, _, _, _, _, _, _, h⟩
  · exact fun x hx => ((h.bits x).1 hx).1
  · exact h.lim
theorem VT.k20 {d k b : Nat} {w : World} {S N : Nat → Prop} (h : VT d w k b S N) : k ≤ 20 := by
  rcases h.cases with ⟨_, _, _, h⟩ | ⟨_, _, _, _, _, _, _, h⟩
  · have := h.k6; omega
  · exact h.k20
/-- What a tree's node shows, small or not. -/
theorem VT.node {d k b : Nat} {w : World} {S N : Nat → Prop} (h : VT d w k b S N) : ∃ mn mx set sp mp, Blk w b 71 (ndC k mn mx set sp mp) ∧ Ends S mn mx := by
  rcases h.cases with ⟨mn, mx, set, h⟩ | ⟨_, _, _, mn, mx, sp, mp, h⟩
  · exact ⟨_, _, _, _, _, h.blk, h.ends⟩
  · exact ⟨_, _, _, _, _, h.blk, h.ends⟩
theorem VT.ext {d k b : Nat} {w : World} {S S' N : Nat → Prop} (h : VT d w k b S N) (e : ∀ x, S x ↔ S' x) : VT d w k b S' N := by
  have : S = S' := funext fun x => propext (e x)
  exact this ▸ h
/-- What of a tree's predicate is wanted. -/
structure VK (V : VP) : Prop where
  fr : ∀ {w w' : World} {k b : Nat} {S N F : Nat → Prop}, V w k b S N → Fr F w w' → (∀ q, N q → ¬ F q) → V w' k b S N
  ex : ∀ {w : World} {k b : Nat} {S S' N : Nat → Prop}, V w k b S N → (∀ x, S x ↔ S' x) → V w k b S' N
  lt : ∀ {w : World} {k b : Nat} {S N : Nat → Prop}, V w k b S N → ∀ q, N q → q < w.heap.size
  big : ∀ {w : World} {k b : Nat} {S N N' : Nat → Prop}, V w k b S N → (∀ q, N q → N' q) → (∀ q, N' q → q < w.heap.size) → V w k b S N'
theorem Parts.fr {V : VP} (K : VK V) {w w' : World} {k b sb mb n : Nat} {M : Nat → Option Nat} {R N Ns F : Nat → Prop} {Nc : Nat → Nat → Prop} (h : Parts V w k b sb mb n M R N Ns Nc) (f : Fr F w w') (hF : ∀ q, N q → q ≠ b → ¬ F q) : Parts V w' k b sb mb n M R N Ns Nc :=
  { h with
    sum := K.fr h.sum f fun q hq => hF q (h.sN q hq) (fun e => h.sb (e ▸ hq))
    map := h.map.fr f (hF mb h.nm (Ne.symm h.bm))
    clu := fun x c hx => ⟨(h.clu x c hx).1, K.fr (h.clu x c hx).2 f fun q hq => hF q (h.cN x q hq) (fun e => h.cb x (e ▸ hq))⟩
    lt := fun q hq => Nat.lt_of_lt_of_le (h.lt q hq) f.size }
theorem Parts.ex {V : VP} {w : World} {k b sb mb n : Nat} {M : Nat → Option Nat} {R R' N Ns : Nat → Prop} {Nc : Nat → Nat → Prop} (h : Parts V w k b sb mb n M R N Ns Nc) (e : ∀ x, R x ↔ R' x) : Parts V w k b sb mb n M R' N Ns Nc := by
  have : R = R' := funext fun x => propext (e x)
  exact this ▸ h
theorem Parts.big {V : VP} {w : World} {k b sb mb n : Nat} {M : Nat → Option Nat} {R N N' Ns : Nat → Prop} {Nc : Nat → Nat → Prop} (h : Parts V w k b sb mb n M R N Ns Nc) (e : ∀ q, N q → N' q) (l : ∀ q, N' q → q < w.heap.size) : Parts V w k b sb mb n M R N' Ns Nc :=
  { h with nb := e _ h.nb, nm := e _ h.nm, sN := fun q hq => e _ (h.sN q hq), cN := fun x q hq => e _ (h.cN x q hq), lt := l }
theorem VT.kit : ∀ d, VK (VT d)
  | 0 => {
    fr := fun ⟨mn, mx, set, h⟩ f hF => ⟨mn, mx, set, { h with blk := h.blk.fr f (hF _ h.nb), lt := fun q hq => Nat.lt_of_lt_of_le (h.lt q hq) f.size }⟩
    ex := fun h e => VT.ext (d := 0) h e
    lt := fun h => VT.lt (d := 0) h
    big := fun ⟨mn, mx, set, h⟩ e l => ⟨mn, mx, set, { h with nb := e _ h.nb, lt := l }⟩ }
  | d + 1 => {
    fr := fun h f hF => by
      rcases h with ⟨mn, mx, set, h⟩ | ⟨hk, mn, mx, sp, mp, h⟩
      · exact .inl ⟨mn, mx, set, { h with blk := h.blk.fr f (hF _ h.nb), lt := fun q hq => Nat.lt_of_lt_of_le (h.lt q hq) f.size }⟩
      · refine .inr ⟨hk, mn, mx, sp, mp, { h with blk := h.blk.fr f (hF _ h.nb), lt := fun q hq => Nat.lt_of_lt_of_le (h.lt q hq) f.size, parts := ?_ }⟩
        rcases h.parts with p | ⟨sb, mb, n, M, Ns, Nc, h1, h2, p⟩
        · exact .inl p
        · exact .inr ⟨sb, mb, n, M, Ns, Nc, h1, h2, p.fr (VT.kit d) f (fun q hq _ => hF q hq)⟩
    ex := fun h e => VT.ext (d := d + 1) h e
    lt := fun h => VT.lt (d := d + 1) h
    big := fun h e l => by
      rcases h with ⟨mn, mx, set, h⟩ | ⟨hk, mn, mx, sp, mp, h⟩
      · exact .inl ⟨mn, mx, set, { h with nb := e _ h.nb, lt := l }⟩
      · refine .inr ⟨hk, mn, mx, sp, mp, { h with nb := e _ h.nb, lt := l, parts := ?_ }⟩
        rcases h.parts with p | ⟨sb, mb, n, M, Ns, Nc, h1, h2, p⟩
        · exact .inl p
        · exact .inr ⟨sb, mb, n, M, Ns, Nc, h1, h2, p.big e l⟩ }
theorem VT.fr {d k b : Nat} {w w' : World} {S N F : Nat → Prop} (h : VT d w k b S N) (f : Fr F w w') (hF : ∀ q, N q → ¬ F q) : VT d w' k b S N := (VT.kit d).fr h f hF
theorem VT.big {d k b : Nat} {w : World} {S N N' : Nat → Prop} (h : VT d w k b S N) (e : ∀ q, N q → N' q) (l : ∀ q, N' q → q < w.heap.size) : VT d w k b S N' := (VT.kit d).big h e l

/-- N, and what was made since. -/
def Grw (N : Nat → Prop) (w w' : World) : Nat → Prop := fun q => N q ∨ (w.heap.size ≤ q ∧ q < w'.heap.size)
theorem Grw.lt {N : Nat → Prop} {w w' : World} (h : ∀ q, N q → q < w.heap.size) (l : w.heap.size ≤ w'.heap.size) : ∀ q, Grw N w w' q → q < w'.heap.size := by
  rintro q (hq | hq)
  · have := h q hq; omega
  · exact hq.2
/-- The summary and one cluster have changed. -/
theorem Parts.upd {V : VP} (K : VK V) {w w' : World} {k b sb mb n h c : Nat} {M : Nat → Option Nat} {R R' N N' Ns Ns' Nc' F : Nat → Prop} {Nc : Nat → Nat → Prop} (P : Parts V w k b sb mb n M R N Ns Nc) (hM : M h = some c)
    (f : Fr F w w') (hF : ∀ q, F q → q < w.heap.size → Ns q ∨ Nc h q ∨ ¬ N q)
    (hs : V w' (k - k / 2) sb (Smy k R') Ns') (hc : V w' (k / 2) c (Clu k R' h) Nc')
    (es : ∀ q, Ns' q → Ns q ∨ w.heap.size ≤ q) (ec : ∀ q, Nc' q → Nc h q ∨ w.heap.size ≤ q) (sep : ∀ q, Ns' q → ¬ Nc' q)
    (oth : ∀ x, x ≠ h → ∀ l, l < 2 ^ (k / 2) → (R' (x * 2 ^ (k / 2) + l) ↔ R (x * 2 ^ (k / 2) + l)))
    (hN : ∀ q, N q → N' q) (hN1 : ∀ q, Ns' q → N' q) (hN2 : ∀ q, Nc' q → N' q) (hl : ∀ q, N' q → q < w'.heap.size) :
    Parts V w' k b sb mb n M R' N' Ns' (fun x => if x = h then Nc' else Nc x) := by
  have hcl : ∀ x, x ≠ h → ∀ l, Clu k R' x l ↔ Clu k R x l := fun x hx l => ⟨fun ⟨h1, h2⟩ => ⟨h1, (oth x hx l h1).1 h2⟩, fun ⟨h1, h2⟩ => ⟨h1, (oth x hx l h1).2 h2⟩⟩
  have lb := P.lt b P.nb
  have lm := P.lt mb P.nm
  refine ⟨hs, ?_, P.cnt, ?_, ?_, hN _ P.nb, hN _ P.nm, P.bm, ?_, ?_, hN1, ?_, ?_, ?_, ?_, ?_, hl⟩
  · refine P.map.fr f (fun e => ?_)
    rcases hF _ e lm with e | e | e
    · exact P.sm e
    · exact P.cm h e
    · exact e P.nm
  · intro x y hx
    by_cases e : x = h
    · subst e
      rw [hM] at hx
      injection hx with hx
      subst hx
      exact ⟨(P.clu x c hM).1, by simpa using hc⟩
    · refine ⟨(P.clu x y hx).1, ?_⟩
      simp only [if_neg e]
      refine K.ex (K.fr (P.clu x y hx).2 f fun q hq hf => ?_) (fun l => (hcl x e l).symm)
      rcases hF q hf (P.lt q (P.cN x q hq)) with g | g | g
      · exact P.sc x q g hq
      · exact e (P.cc x h q hq g)
      · exact g (P.cN x q hq)
  · intro x hx l hl
    have e : x ≠ h := by rintro rfl; rw [hM] at hx; cases hx
    exact P.out x hx l ((hcl x e l).1 hl)
  · intro e
    rcases es _ e with e | e
    · exact P.sb e
    · omega
  · intro e
    rcases es _ e with e | e
    · exact P.sm e
    · omega
  · intro x
    by_cases e : x = h
    · subst e
      simp only [if_true]
      intro g
      rcases ec _ g with g | g
      · exact P.cb x g
      · omega
    · simp only [if_neg e]; exact P.cb x
  · intro x
    by_cases e : x = h
    · subst e
      simp only [if_true]
      intro g
      rcases ec _ g with g | g
      · exact P.cm x g
      · omega
    · simp only [if_neg e]; exact P.cm x
  · intro x q
    by_cases e : x = h
    · subst e
      simp only [if_true]
      exact hN2 q
    · simp only [if_neg e]; exact fun g => hN _ (P.cN x q g)
  · intro x q hq
    by_cases e : x = h
    · subst e
      simp only [if_true]
      exact sep q hq
    · simp only [if_neg e]
      intro g
      rcases es q hq with s | s
      · exact P.sc x q s g
      · have := P.lt q (P.cN x q g); omega
  · intro x y q
    by_cases e : x = h
    · by_cases e' : y = h
      · intros; omega
      · subst e
        simp only [if_true, if_neg e']
        intro g1 g2
        rcases ec q g1 with g | g
        · exact P.cc x y q g g2
        · have := P.lt q (P.cN y q g2); omega
    · by_cases e' : y = h
      · subst e'
        simp only [if_true, if_neg e]
        intro g1 g2
        rcases ec q g2 with g | g
        · exact P.cc x y q g1 g
        · have := P.lt q (P.cN x q g1); omega
      · simp only [if_neg e, if_neg e']
        exact P.cc x y q

end Go.Proofs.Ytohblajdeicfeaa
