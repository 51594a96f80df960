/- What the functions of treelayout and of its reference compute, in plain Lean. -/
import Derived.Test.YtdllpiekkbojgaaCom
namespace Go.Proofs.Ytdllpiekkbojgaa
open Go.RowKit

abbrev ints (xs : List Int) : List Value := xs.map (Value.int .i64)

/-- The state of a layout: the positions so far, the next position. -/
structure St where
  l : List Int
  at_ : Int
def putS (v : Nat) (s : St) : St := ⟨s.l.set v s.at_, wrap64 (s.at_ + 1)⟩
def whenS (b : Prop) [Decidable b] (f : St → St) (s : St) : St := if b then f s else s
def walkS (kind : Int) (n : Nat) : Nat → Nat → St → St
  | 0, _, s => s
  | f + 1, v, s => if n ≤ v then s else
    walkS kind n f (2 * v + 2) (whenS (kind = 2) (putS v) (walkS kind n f (2 * v + 1) (whenS (kind = 3) (putS v) s)))
def iterS (g : Nat → St → St) (n : Nat) (s : St) : St := (List.range n).foldl (fun s i => g i s) s
def splitS : Nat → Nat → Nat → St → St
  | 0, _, _, s => s
  | f + 1, v, h, s => if h = 1 then putS v s else
    iterS (fun i s => splitS f ((v + 1) * 2 ^ (h - h / 2) - 1 + i) (h / 2) s) (2 ^ (h - h / 2)) (splitS f v (h - h / 2) s)
theorem iterS_succ (g : Nat → St → St) (n : Nat) (s : St) : iterS g (n + 1) s = g n (iterS g n s) := by simp [iterS, List.range_succ]
theorem iterS_zero (g : Nat → St → St) (s : St) : iterS g 0 s = s := rfl
def cnt (h : Nat) : Nat := 2 ^ h - 1
def zeroS (n : Nat) : St := ⟨List.replicate n 0, 0⟩
def layS (kind : Int) (h : Nat) : List Int :=
  if kind = 1 then (iterS putS (cnt h) (zeroS (cnt h))).l
  else if kind = 4 then (splitS h 0 h (zeroS (cnt h))).l
  else (walkS kind (cnt h) (cnt h) 0 (zeroS (cnt h))).l

theorem putS_len (v : Nat) (s : St) : (putS v s).l.length = s.l.length := by simp [putS]
theorem whenS_len (b : Prop) [Decidable b] (f : St → St) (s : St) (hf : ∀ s, (f s).l.length = s.l.length) : (whenS b f s).l.length = s.l.length := by
  unfold whenS; split <;> simp [hf]
theorem walkS_len (kind : Int) (n : Nat) : ∀ f v s, (walkS kind n f v s).l.length = s.l.length := by
  intro f
  induction f with
  | zero => intro v s; rfl
  | succ f ih =>
    intro v s
    unfold walkS
    split
    · rfl
    · rw [ih, whenS_len _ _ _ (putS_len v), ih, whenS_len _ _ _ (putS_len v)]
theorem iterS_len (g : Nat → St → St) (hg : ∀ i s, (g i s).l.length = s.l.length) (n : Nat) (s : St) : (iterS g n s).l.length = s.l.length := by
  induction n with
  | zero => rfl
  | succ n ih => rw [iterS_succ, hg, ih]
theorem splitS_len : ∀ f v h s, (splitS f v h s).l.length = s.l.length := by
  intro f
  induction f with
  | zero => intro v h s; rfl
  | succ f ih =>
    intro v h s
    unfold splitS
    split
    · exact putS_len v s
    · rw [iterS_len _ (fun i s => ih _ _ s), ih]
theorem layS_len (kind : Int) (h : Nat) : (layS kind h).length = cnt h := by
  unfold layS
  split
  · rw [iterS_len _ (fun i s => putS_len i s)]; simp [zeroS]
  · split
    · rw [splitS_len]; simp [zeroS]
    · rw [walkS_len]; simp [zeroS]

end Go.Proofs.Ytdllpiekkbojgaa
