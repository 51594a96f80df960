/- Trees of a soft heap in memory. -/
import Derived.Test.YtdphademoeofkaaComBlk
import Derived.Test.YtdphademoeofkaaSlBase
namespace Go.Proofs.Ytdphademoeofkaa
open Go.RowKit
theorem EP : Elem1 Try.prog 57 60 (.pointer none) 8 := ⟨by kernel_rfl, by kernel_rfl, rfl⟩
/-- A tree: the block of its node, children, items, key, rank, size. -/
inductive Tr where
  | nil
  | nd (b : Nat) (l r : Tr) (it : List Int) (key : Int) (rank size : Nat)
def Tr.ptr : Tr → Option Addr
  | .nil => none
  | .nd b _ _ _ _ _ _ => some ⟨b, 0, none⟩
def Tr.key : Tr → Int
  | .nil => 0
  | .nd _ _ _ _ k _ _ => k
def Tr.ids : Tr → List Int
  | .nil => []
  | .nd _ l r it _ _ _ => it ++ (l.ids ++ r.ids)
/-- The cells of a node. -/
abbrev ndS (pl pr : Option Addr) (a : Option Addr) (n c : Nat) (key : Int) (rank size : Nat) : List Value := [.pointer pl, .pointer pr, .slice a n c, .int .i64 key, .int .i64 rank, .int .i64 size]
/-- A node in memory; its children by TL, TR. -/
structure NdM (w : World) (TL TR : Prop) (b : Nat) (pl pr : Option Addr) (it : List Int) (key : Int) (rank size : Nat) (N : Nat → Prop) (a : Option Addr) (n c : Nat) (Nl Nr : Nat → Prop) : Prop where
  blk : Blk w b 62 (ndS pl pr a n c key rank size)
  own : Own w 0 3 a n c (ints it)
  left : TL
  right : TR
  nb : N b
  oa : ∀ q, onBlk a q → N q ∧ q ≠ b ∧ ¬ Nl q ∧ ¬ Nr q
  ol : ∀ q, Nl q → N q ∧ q ≠ b ∧ ¬ Nr q
  or : ∀ q, Nr q → N q ∧ q ≠ b
  lt : ∀ q, N q → q < w.heap.size
/-- The tree lies in memory, its blocks among N. -/
def TM (w : World) : Tr → (Nat → Prop) → Prop
  | .nil, N => ∀ q, N q → q < w.heap.size
  | .nd b l r it key rank size, N => ∃ a n c Nl Nr, NdM w (TM w l Nl) (TM w r Nr) b l.ptr r.ptr it key rank size N a n c Nl Nr
theorem TM.lt {w : World} : ∀ {t : Tr} {N : Nat → Prop}, TM w t N → ∀ q, N q → q < w.heap.size
  | .nil, _, h => h
  | .nd .., _, ⟨_, _, _, _, _, h⟩ => h.lt
theorem TM.fr {w w' : World} {F : Nat → Prop} (f : Fr F w w') : ∀ {t : Tr} {N : Nat → Prop}, TM w t N → (∀ q, N q → ¬ F q) → TM w' t N
  | .nil, _, h, _ => fun q hq => Nat.lt_of_lt_of_le (h q hq) f.size
  | .nd .., _, ⟨a, n, c, Nl, Nr, h⟩, hF => ⟨a, n, c, Nl, Nr,
    { h with
      blk := h.blk.fr f (hF _ h.nb)
      own := h.own.fr f (fun q hq => hF q (h.oa q hq).1)
      left := TM.fr f h.left (fun q hq => hF q (h.ol q hq).1)
      right := TM.fr f h.right (fun q hq => hF q (h.or q hq).1)
      lt := fun q hq => Nat.lt_of_lt_of_le (h.lt q hq) f.size }⟩
theorem TM.big {w : World} {N N' : Nat → Prop} {t : Tr} (h : TM w t N) (e : ∀ q, N q → N' q) (l : ∀ q, N' q → q < w.heap.size) : TM w t N' := by
  cases t with
  | nil => exact l
  | nd =>
    obtain ⟨a, n, c, Nl, Nr, h⟩ := h
    exact ⟨a, n, c, Nl, Nr, { h with nb := e _ h.nb, oa := fun q hq => ⟨e _ (h.oa q hq).1, (h.oa q hq).2⟩, ol := fun q hq => ⟨e _ (h.ol q hq).1, (h.ol q hq).2⟩, or := fun q hq => ⟨e _ (h.or q hq).1, (h.or q hq).2⟩, lt := l }⟩
theorem TM.none {w : World} : TM w .nil (fun _ => False) := fun _ h => h.elim
/-- N, and what was made since. -/
def Grw (N : Nat → Prop) (w w' : World) : Nat → Prop := fun q => N q ∨ (w.heap.size ≤ q ∧ q < w'.heap.size)
theorem Grw.lt {N : Nat → Prop} {w w' : World} (h : ∀ q, N q → q < w.heap.size) (l : w.heap.size ≤ w'.heap.size) : ∀ q, Grw N w w' q → q < w'.heap.size := by
  rintro q (hq | hq)
  · have := h q hq; omega
  · exact hq.2
theorem Grw.trans {N : Nat → Prop} {w w1 w2 : World} (l : w.heap.size ≤ w1.heap.size) (l' : w1.heap.size ≤ w2.heap.size) : ∀ q, Grw (Grw N w w1) w1 w2 q → Grw N w w2 q := by
  rintro q ((hq | hq) | hq)
  · exact .inl hq
  · exact .inr ⟨hq.1, by omega⟩
  · exact .inr ⟨by omega, hq.2⟩
/-- Where the items are: a list of pointers. -/
abbrev ptrs (I : List (Option Nat)) : List Value := I.map fun o => .pointer (o.map fun b => ⟨b, 0, Option.none⟩)
/-- Some items are now in a node. -/
def setMany (I : List (Option Nat)) : List Int → Nat → List (Option Nat)
  | [], _ => I
  | i :: l, b => setMany (I.set i.toNat (some b)) l b
theorem setMany_len (b : Nat) : ∀ (l : List Int) (I : List (Option Nat)), (setMany I l b).length = I.length
  | [], _ => rfl
  | i :: l, I => by rw [setMany, setMany_len b l]; simp
theorem setMany_append (b : Nat) : ∀ (l m : List Int) (I : List (Option Nat)), setMany I (l ++ m) b = setMany (setMany I l b) m b
  | [], _, _ => rfl
  | i :: l, m, I => by rw [List.cons_append, setMany, setMany, setMany_append b l]
/-- The left child that is taken from, and the right one. -/
def sw (l r : Tr) : Tr × Tr := match l, r with
  | .nil, r => (r, .nil)
  | .nd b l' r' it k rk sz, .nil => (.nd b l' r' it k rk sz, .nil)
  | .nd b l' r' it k rk sz, .nd b2 l2 r2 it2 k2 rk2 sz2 => if k2 < k then (.nd b2 l2 r2 it2 k2 rk2 sz2, .nd b l' r' it k rk sz) else (.nd b l' r' it k rk sz, .nd b2 l2 r2 it2 k2 rk2 sz2)
/-- What refill does, in so many steps. -/
inductive Rf : Nat → Tr → List (Option Nat) → Tr → List (Option Nat) → Prop
  | stop {n b l r it key rank size I} (h : size ≤ it.length ∨ (l = .nil ∧ r = .nil)) : Rf n (.nd b l r it key rank size) I (.nd b l r it key rank size) I
  | leaf {n b l r it key rank size I bY ity ky rky sy r1 x' I'} (h1 : it.length < size) (h2 : ¬ (l = .nil ∧ r = .nil)) (hs : sw l r = (.nd bY .nil .nil ity ky rky sy, r1))
      (h : Rf n (.nd b .nil r1 (it ++ ity) ky rank size) (setMany I ity b) x' I') : Rf (n + 1) (.nd b l r it key rank size) I x' I'
  | deep {n b l r it key rank size I bY lY rY ity ky rky sy r1 y' I2 x' I'} (h1 : it.length < size) (h2 : ¬ (l = .nil ∧ r = .nil)) (hs : sw l r = (.nd bY lY rY ity ky rky sy, r1)) (h3 : ¬ (lY = .nil ∧ rY = .nil))
      (hy : Rf n (.nd bY lY rY [] ky rky sy) (setMany I ity b) y' I2) (h : Rf n (.nd b y' r1 (it ++ ity) ky rank size) I2 x' I') : Rf (n + 1) (.nd b l r it key rank size) I x' I'
theorem Tr.ptr_nil {t : Tr} : t.ptr = none ↔ t = .nil := by cases t <;> simp [Tr.ptr]
end Go.Proofs.Ytdphademoeofkaa
