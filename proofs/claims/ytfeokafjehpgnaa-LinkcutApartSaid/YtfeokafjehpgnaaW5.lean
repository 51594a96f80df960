/- pull: its second region: two copies. -/
import Derived.Test.YtfeokafjehpgnaaW3
namespace Go.Proofs.Ytfeokafjehpgnaa
open Go.RowKit
set_option maxRecDepth 100000 in
set_option maxHeartbeats 1000000 in
theorem pull_r1 {w : World} {f b n : Nat} {s : Int} {V : K.Vs} {x : Nat} {a : Act} (ha : a = PI f x b (gOf a)) (h : FS w f b n s V) {l r : Nat} (hx : x ≤ n) (hle : (V x).left = l) (hre : (V x).right = r) (hl : l ≤ n) (hr : r ≤ n) :
    (rg48 1).wp Try.prog (Exit.then (fun a D => ∃ p q, PO w p q f b n s V l r x (V x) 0 undef a D) fun _ _ _ => False) a w := by
  have hs := h.small
  have f0 := h.fb.cell (i := 0) rfl
  have x1 := h.c1 hx
  have x2 := h.c2 hx
  rw [hle] at x1
  rw [hre] at x2
  have l0 := h.c0 hl
  have l1 := h.c1 hl
  have l2 := h.c2 hl
  have l3 := h.c3 hl
  have l4 := h.c4 hl
  have l5 := h.c5 hl
  have l6 := h.c6 hl
  have l7 := h.c7 hl
  have l8 := h.c8 hl
  have r0 := h.c0 hr
  have r1 := h.c1 hr
  have r2 := h.c2 hr
  have r3 := h.c3 hr
  have r4 := h.c4 hr
  have r5 := h.c5 hr
  have r6 := h.c6 hr
  have r7 := h.c7 hr
  have r8 := h.c8 hr
  have bl : (l : Int) < (n : Int) + 1 := by omega
  have br : (r : Int) < (n : Int) + 1 := by omega
  have hbs := h.ltb
  have hfs := h.fb.lt
  have hbs1 : b < w.heap.size + 1 := by omega
  have hfs1 : f < w.heap.size + 1 := by omega
  have H := Lib.hid h
  clear h hle hre
  rw [ha]
  clear ha
  generalize gOf a = g
  unfold PI
  conv => arg 2; whnf
  go_wp2_with fail
  go_region
  · refine (show ∃ p q, PO w p q f b n s V l r x (V x) 0 undef _ _ from ⟨w.heap.size, w.heap.size + 1, rfl, fun h => absurd rfl h, ?_⟩)
    exact two_lr H.out
  · refine (show ∃ p q, PO w p q f b n s V l r x (V x) 0 undef _ _ from ⟨w.heap.size + 1, w.heap.size, rfl, fun h => absurd rfl h, ?_⟩)
    exact two_rl H.out
end Go.Proofs.Ytfeokafjehpgnaa
