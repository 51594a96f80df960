/- Any slice of ints cloned. -/
import Derived.Test.YtohblajdeicfeaaSlClone
import Derived.Test.YtohblajdeicfeaaCom6
namespace Go.Proofs.Ytohblajdeicfeaa
open Go.RowKit
attribute [local go_sem ↓] Go.wp_at_zero Go.wp_at_succ
theorem Clone_all {a : Option Addr} {n c : Nat} {xs : List Int} {w : World} (hr : Rd w a n (ints xs)) (hn2 : n ≤ 1000000) :
    Calls Try.prog 28 #[.slice a n c] w fun e w' => ∃ a' c', e = .returned (.slice a' n c') ∧ Own w' w.heap.size 3 a' n c' (ints xs) ∧ Fr F0 w w' := by
  by_cases h0 : n = 0
  · subst h0
    have hx : xs = [] := by have := hr.len; simpa using this
    subst hx
    have hnil := fun (w : World) (a : Option Addr) (l c : Nat) => Lib.run_eql_slice_nil (P := Try.prog) w 23 3 a l c 0 0 Try.underlying23
    cases a with
    | none =>
      clear hr
      go_enter Try.func28, Try.ntmps28
      go_wp2_with fail
      go_ret
      exact ⟨none, 0, rfl, Own.nil _ _ _, Fr.refl _ _⟩
    | some ad =>
      have hO : Own (w.alloc (.cells (#[] : Array Value) 3)) w.heap.size 3 (some ⟨w.heap.size, 0, none⟩) 0 0 (ints []) := Own.lit [] 0 rfl (by omega) (by omega)
      have hF : Fr F0 w (w.alloc (.cells (#[] : Array Value) 3)) := (Fr.refl _ _).alloc _
      replace hO := Lib.hid hO
      have hR := Lib.hid (hr.fr0 hF)
      replace hF := Lib.hid hF
      clear hr
      go_enter Try.func28, Try.ntmps28
      go_wp2_with (at_builtin; refine wpAppRd E3 hO.out hR.out (oneCell_ints []) (by omega) (by omega) (by simp) 0 rfl rfl rfl ?_; intro a' c' w' own' fr' at')
      go_ret
      refine ⟨a', c', rfl, by simpa using own', hF.out.trans fr' (fun k hk hs => ?_)⟩
      have := (onBlk_some _ _ _ _).1 hs
      omega
  · obtain ⟨b, o, rfl, _⟩ := hr.cells (by omega)
    exact Clone_any b o n c xs w hr (by omega) hn2
end Go.Proofs.Ytohblajdeicfeaa
