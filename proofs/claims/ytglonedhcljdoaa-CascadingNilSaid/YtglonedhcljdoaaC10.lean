/- Len, Compares, and the closure that compares. -/
import Derived.Test.YtglonedhcljdoaaC9
namespace Go.Proofs.Ytglonedhcljdoaa
open Go.RowKit
attribute [local go_sem ↓] Go.wp_at_zero Go.wp_at_succ

theorem IxR.cells {B : Nat} {w : World} {x : Nat} {L : List (List Int)} {cmp : Int} {g : Nat} {hs : List Value} (h : IxR B w x L cmp g hs) : w.cell? ⟨x, 0, none⟩ = some (.slice (some ⟨g, 0, none⟩) L.length L.length) ∧ w.cell? ⟨x, 1, none⟩ = some (.int .i64 cmp) := two_cells h.kx
theorem Len_any {B : Nat} {w : World} {x : Nat} {L : List (List Int)} {cmp : Int} {g : Nat} {hs : List Value} (h : IxR B w x L cmp g hs) :
    Calls Try.prog 11 #[.pointer (some ⟨x, 0, none⟩)] w fun e w' => e = .returned (.int .i64 L.length) ∧ w = w' := by
  obtain ⟨c0, c1⟩ := h.cells
  clear h
  go_enter Try.func11, Try.ntmps11
  go_wp2_with fail
  go_ret
  exact ⟨rfl, rfl⟩
theorem Len_nil (w : World) : Calls Try.prog 11 #[.pointer none] w fun e w' => e = .returned (.int .i64 0) ∧ w = w' := by
  go_enter Try.func11, Try.ntmps11
  go_wp2_with fail
  go_ret
  exact ⟨rfl, rfl⟩
theorem Compares_any {B : Nat} {w : World} {x : Nat} {L : List (List Int)} {cmp : Int} {g : Nat} {hs : List Value} (h : IxR B w x L cmp g hs) :
    Calls Try.prog 14 #[.pointer (some ⟨x, 0, none⟩)] w fun e w' => e = .returned (.int .i64 cmp) ∧ w = w' := by
  obtain ⟨c0, c1⟩ := h.cells
  clear h
  go_enter Try.func14, Try.ntmps14
  go_wp2_with fail
  go_ret
  exact ⟨rfl, rfl⟩
theorem Compares_nil (w : World) : Calls Try.prog 14 #[.pointer none] w fun e w' => e = .returned (.int .i64 0) ∧ w = w' := by
  go_enter Try.func14, Try.ntmps14
  go_wp2_with fail
  go_ret
  exact ⟨rfl, rfl⟩
theorem Search_nil (w : World) (key : Int) : Calls Try.prog 12 #[.pointer none, .int .i64 key] w fun e w' => e = .returned (.tuple #[.slice none 0 0, .int .i64 1]) ∧ Fr F0 w w' := by
  go_enter Try.func12, Try.ntmps12
  go_wp2_with fail
  go_ret2
  exact ⟨rfl, ((Fr.refl _ _).alloc _).alloc _⟩
theorem Lists_nil (w : World) : Calls Try.prog 18 #[.pointer none] w fun e w' => e = .returned (.slice none 0 0) ∧ w = w' := by
  go_enter Try.func18, Try.ntmps18
  go_wp2_with fail
  go_ret
  exact ⟨rfl, rfl⟩

end Go.Proofs.Ytglonedhcljdoaa
