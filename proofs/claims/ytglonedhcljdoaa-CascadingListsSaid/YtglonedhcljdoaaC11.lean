/- Search's closure. -/
import Derived.Test.YtglonedhcljdoaaC10
namespace Go.Proofs.Ytglonedhcljdoaa
open Go.RowKit
attribute [local go_sem ↓] Go.wp_at_zero Go.wp_at_succ

theorem RdZ.ent {w : World} {a : Option Addr} {n : Nat} {es : List Tri} (h : RdZ w 3 a n (tri es)) {i : Nat} {e : Tri} (he : es[i]? = some e) :
    ∃ b o, a = some ⟨b, o, none⟩ ∧ w.cell? ⟨b, o + i * 3, none⟩ = some (.int .i64 e.1) ∧ w.cell? ⟨b, o + i * 3 + 1, none⟩ = some (.int .i64 e.2.1) ∧ w.cell? ⟨b, o + i * 3 + 2, none⟩ = some (.int .i64 e.2.2) := by
  have hl := h.len
  rw [tri_length] at hl
  have hi := (List.getElem?_eq_some_iff.1 he).1
  obtain ⟨b, o, ha, hc⟩ := h.cells (by omega)
  obtain ⟨h1, h2, h3⟩ := tri_get es i e he
  exact ⟨b, o, ha, hc _ _ h1, by rw [Nat.add_assoc]; exact hc _ _ h2, by rw [Nat.add_assoc]; exact hc _ _ h3⟩
def S1Post (w : World) (x : Nat) (sl : Value) (cmp : Int) (r : Bool) (e : Ending) (w' : World) : Prop :=
  e = .returned (.bool r) ∧ Fr (onB x) w w' ∧ w'.heap[x]? = some (.cells #[sl, .int .i64 (cmp + 1)] 46 (0, 0))
set_option maxHeartbeats 1000000 in
theorem Search1_any (a : Option Addr) (n c i : Nat) (es : List Tri) (en : Tri) (b2 b3 x : Nat) (sl : Value) (key cmp : Int) (w : World) (hr : RdZ w 3 a n (tri es)) (he : es[i]? = some en)
    (h2 : One w b2 25 (.pointer (some ⟨x, 0, none⟩))) (h3 : One w b3 3 (.int .i64 key)) (hx : w.heap[x]? = some (.cells #[sl, .int .i64 cmp] 46 (0, 0))) (hc0 : 0 ≤ cmp) (hc1 : cmp ≤ 1000000)
    (hne : b3 ≠ x ∧ b2 ≠ x) (hax : ∀ k, onBlk a k → k ≠ x) :
    Calls Try.prog 30 #[.slice a n c, .int .i64 i, .pointer (some ⟨b2, 0, none⟩), .pointer (some ⟨b3, 0, none⟩)] w (S1Post w x sl cmp (decide (en.1 < key))) := by
  obtain ⟨k0, k1⟩ := two_cells hx
  have c2 := h2.cell
  have hin : i < n := by
    have hl := hr.len
    rw [tri_length] at hl
    have hi := (List.getElem?_eq_some_iff.1 he).1
    omega
  obtain ⟨b, o, ha, e1, _, _⟩ := hr.ent he
  have hbx := hax b (by rw [ha]; exact (onBlk_some _ _ _ _).2 rfl)
  have F : Fr (onB x) w (w.setCell ⟨x, 1, none⟩ (.int .i64 (cmp + 1))) := (Fr.refl _ _).setB 1 _
  have c3' := (h3.fr F hne.1).cell
  have e1' := F.cell e1 hbx
  have kf : w.frozen? ⟨x, 1, none⟩ = false := by simp [World.frozen?, hx]
  have i0 : (0 : Int) ≤ (i : Int) := by omega
  have i1 : (i : Int) < (n : Int) := by omega
  have hfin : Hid (∀ q, S1Post w x sl cmp (decide (en.1 < key)) (.returned (.bool (decide (en.1 < key)))) ((w.setCell ⟨x, 1, none⟩ (.int .i64 (cmp + 1))).drewN q)) :=
    Lib.hid fun q => ⟨rfl, F.drewN q, by have := heap_setCell_same (i := 1) hx (.int .i64 (cmp + 1)); simpa using this⟩
  subst ha
  clear hr he h2 h3 hx F hax
  have wr1 : IntKind.i64.wrap (cmp + 1) = cmp + 1 := IntWalk.i64_in _ (by omega)
  go_enter Try.func30, Try.ntmps30
  go_wp2_with fail
  go_quiet (fail)
  go_wp2_with fail
  go_ret
  exact hfin.out _

end Go.Proofs.Ytglonedhcljdoaa
