/- Calls that leave the world alone, in regions that draw their order. -/
import Derived.Test.YtdphademoeofkaaComBlk
namespace Go.Proofs.Ytdphademoeofkaa
open Go.RowKit
theorem qmore {P : Program} {f : FuncId} {args : Array Value} {w : World} {v : Value} (h : ∀ q, Calls P f args (w.drewN q) fun e w' => e = .returned v ∧ ∃ m, w' = (w.drewN q).drewN m) (n : Nat) :
    Calls P f args (w.drewN n) fun e w'' => e = .returned v ∧ ∃ m, w'' = w.drewN m :=
  (h n).mono fun _ _ ⟨he, m, hm⟩ => ⟨he, n + m, by rw [hm, World.drewN_drewN]⟩
theorem qsame {P : Program} {f : FuncId} {args : Array Value} {w : World} {v : Value} (h : ∀ q, Calls P f args (w.drewN q) fun e w' => e = .returned v ∧ w.drewN q = w') (n : Nat) :
    Calls P f args (w.drewN n) fun e w'' => e = .returned v ∧ ∃ m, w'' = w.drewN m :=
  (h n).mono fun _ _ ⟨he, hm⟩ => ⟨he, n, hm.symm⟩
end Go.Proofs.Ytdphademoeofkaa
