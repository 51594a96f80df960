/- slices.Clone at ints. -/
import Derived.Test.YtdphademoeofkaaSlBase
namespace Go.Proofs.Ytdphademoeofkaa
open Go.RowKit

theorem Clone_any (b o n c : Nat) (xs : List Int) (w : World) (hr : Rd w (some ⟨b, o, none⟩) n (ints xs)) (hn : 0 < n) (hn2 : n ≤ 1000000) :
    Calls Try.prog 24 #[.slice (some ⟨b, o, none⟩) n c] w fun e w' => ∃ a' c', e = .returned (.slice a' n c') ∧ Own w' w.heap.size 3 a' n c' (ints xs) ∧ Fr F0 w w' := by
  have hnil := fun (w : World) (a : Option Addr) (l c : Nat) => Lib.run_eql_slice_nil (P := Try.prog) w 22 3 a l c 0 0 Try.underlying22
  have hO : Own (w.alloc (.cells (#[] : Array Value) 3)) w.heap.size 3 (some ⟨w.heap.size, 0, none⟩) 0 0 (ints []) := Own.lit [] 0 rfl (by omega) (by omega)
  have hF : Fr F0 w (w.alloc (.cells (#[] : Array Value) 3)) := (Fr.refl _ _).alloc _
  obtain ⟨b', o', he, hc⟩ := (hr.fr0 hF).cells hn
  injection he with he; injection he with he1 he2; subst he1 he2
  have hl : (ints xs).length = n := hr.len
  replace hO := Lib.hid hO
  replace hF := Lib.hid hF
  replace hc := Lib.hid hc
  have Hl := Lib.hid hl
  clear hl
  go_enter Try.func24, Try.ntmps24
  go_wp2_with (at_builtin; refine wpAppAll E3 hO.out Hl.out hc.out (oneCell_ints xs) (by omega) (by omega) (by simp) hn rfl rfl ?_; intro a' c' w' own' fr')
  go_ret
  refine ⟨a', c', rfl, by simpa using own', hF.out.trans fr' (fun k hk hs => ?_)⟩
  have := (onBlk_some _ _ _ _).1 hs
  omega


end Go.Proofs.Ytdphademoeofkaa
