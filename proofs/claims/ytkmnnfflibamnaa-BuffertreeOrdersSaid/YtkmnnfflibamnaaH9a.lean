/- Buffer trees: an update keeps a tree small (plain law). -/
import Derived.Test.YtkmnnfflibamnaaG24
import Derived.Test.YtkmnnfflibamnaaG212
import Derived.Test.YtkmnnfflibamnaaG911
namespace Go.Proofs.Ytkmnnfflibamnaa
theorem ins_pos (l : List En) (e : En) : 0 < (ins l e).length := by
  cases l with
  | nil => exact Nat.zero_lt_one
  | cons x l =>
    unfold ins
    split
    · simp
    · split <;> simp
theorem PI.upd {B F M : Nat} (hF : 2 ≤ F) (hB : 1 ≤ B) {t : TT} {buf : List En} {a b c : Nat} (e : En) (h : PI t a b c) (hs : Sd buf) (ha : a + buf.length ≤ 399) :
    ∃ a', PI (updT B F M t buf e).1 a' (b + 2) (c + 1200) ∧ a' + (updT B F M t buf e).2.length ≤ a + buf.length + 1 ∧ Sd (updT B F M t buf e).2 := by
  have hl := ins_len (l := buf) e
  unfold updT
  split
  · exact ⟨a + (ins buf e).length, h.spill hF hB (hs.ins e) (ins_pos buf e) (by omega), by show _ + 0 ≤ _; omega, List.Pairwise.nil⟩
  · exact ⟨a, h.mono (Nat.le_refl _) (by omega) (by omega), by show _ + (ins buf e).length ≤ _; omega, hs.ins e⟩
theorem PI.nil : PI ⟨[], 0⟩ 0 0 0 := ⟨fun l hl => (by cases hl), fun l hl => (by cases hl), Nat.le_refl _, Nat.le_refl _, Nat.le_refl _⟩
end Go.Proofs.Ytkmnnfflibamnaa
