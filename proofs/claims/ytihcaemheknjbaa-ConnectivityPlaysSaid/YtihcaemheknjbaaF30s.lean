/- Common texts of this seat, one behind another. -/
import Derived.Test.YtihcaemheknjbaaF29
import Derived.Test.YtihcaemheknjbaaComSort
import Derived.Deep.DeepCutAuto
/- Bridges: what lies in memory behind the makes. -/
namespace Go.Proofs.Ytihcaemheknjbaa
open Go.RowKit
attribute [local go_sem ↓] Go.wp_at_zero Go.wp_at_succ
theorem E26g : Elem1 Try.prog 55 26 (.slice none 0 0) 24 := ⟨by kernel_rfl, by kernel_rfl, rfl⟩
/-- Behind the makes. -/
structure Mk (w1 wx : World) (x gA gN gL n m : Nat) (aX : Option Addr) (cX : Nat) : Prop where
  bk : Blk wx x 101 [.slice aX m cX, .slice (some ⟨gA, 0, none⟩) n n, .slice (some ⟨gN, 0, none⟩) n n, .slice (some ⟨gL, 0, none⟩) n n, .int .i64 0, .slice none 0 0]
  oA : Own wx w1.heap.size 26 (some ⟨gA, 0, none⟩) n n (List.replicate n (.slice none 0 0))
  oN : Own wx w1.heap.size 3 (some ⟨gN, 0, none⟩) n n (List.replicate n (.int .i64 0))
  oL : Own wx w1.heap.size 3 (some ⟨gL, 0, none⟩) n n (List.replicate n (.int .i64 0))
  ne : gA ≠ gN ∧ gA ≠ gL ∧ gN ≠ gL ∧ gA < x ∧ gN < x ∧ gL < x
  fr : Fr F0 w1 wx
theorem mk_of {w1 wx : World} {gA gN gL n m : Nat} {aX : Option Addr} {cX : Nat}
    (oA : Own wx w1.heap.size 26 (some ⟨gA, 0, none⟩) n n (List.replicate n (.slice none 0 0)))
    (oN : Own wx w1.heap.size 3 (some ⟨gN, 0, none⟩) n n (List.replicate n (.int .i64 0)))
    (oL : Own wx w1.heap.size 3 (some ⟨gL, 0, none⟩) n n (List.replicate n (.int .i64 0)))
    (lA : gA < wx.heap.size) (lN : gN < wx.heap.size) (lL : gL < wx.heap.size) (ne : gA ≠ gN ∧ gA ≠ gL ∧ gN ≠ gL) (fr : Fr F0 w1 wx) :
    Mk w1 (wx.alloc (.cells #[.slice aX m cX, .slice (some ⟨gA, 0, none⟩) n n, .slice (some ⟨gN, 0, none⟩) n n, .slice (some ⟨gL, 0, none⟩) n n, .int .i64 0, .slice none 0 0] 101)) wx.heap.size gA gN gL n m aX cX :=
  ⟨Blk.new wx 101 _, oA.alloc _, oN.alloc _, oL.alloc _, ⟨ne.1, ne.2.1, ne.2.2, lA, lN, lL⟩, fr.alloc _⟩
theorem Mk.drew {w1 wx : World} {x gA gN gL n m : Nat} {aX : Option Addr} {cX : Nat} (h : Mk w1 wx x gA gN gL n m aX cX) : Mk w1 wx.drew x gA gN gL n m aX cX :=
  ⟨h.bk.drew, h.oA.drew, h.oN.drew, h.oL.drew, h.ne, h.fr.drew⟩
theorem mk_ANL {w : World} {n m : Nat} {aX : Option Addr} {cX : Nat} (hn : n ≤ 1000) :
    Mk w ((((w.alloc (.cells (Array.replicate n (Value.slice none 0 0)) 26)).alloc (.cells (Array.replicate n (Value.int .i64 0)) 3)).alloc (.cells (Array.replicate n (Value.int .i64 0)) 3)).alloc (.cells #[.slice aX m cX, .slice (some ⟨w.heap.size, 0, none⟩) n n, .slice (some ⟨(w.heap.size + 1), 0, none⟩) n n, .slice (some ⟨(w.heap.size + 1 + 1), 0, none⟩) n n, .int .i64 0, .slice none 0 0] 101)).drew (w.heap.size + 1 + 1 + 1) w.heap.size (w.heap.size + 1) (w.heap.size + 1 + 1) n m aX cX := by
  have F1 : Fr F0 w (w.alloc (.cells (Array.replicate n (Value.slice none 0 0)) 26)) := (Fr.refl _ _).alloc _
  have F2 : Fr F0 w ((w.alloc (.cells (Array.replicate n (Value.slice none 0 0)) 26)).alloc (.cells (Array.replicate n (Value.int .i64 0)) 3)) := F1.alloc _
  have F3 : Fr F0 w (((w.alloc (.cells (Array.replicate n (Value.slice none 0 0)) 26)).alloc (.cells (Array.replicate n (Value.int .i64 0)) 3)).alloc (.cells (Array.replicate n (Value.int .i64 0)) 3)) := F2.alloc _
  have s1 : (w.alloc (.cells (Array.replicate n (Value.slice none 0 0)) 26)).heap.size = w.heap.size + 1 := by simp
  have s2 : ((w.alloc (.cells (Array.replicate n (Value.slice none 0 0)) 26)).alloc (.cells (Array.replicate n (Value.int .i64 0)) 3)).heap.size = w.heap.size + 1 + 1 := by simp
  have s3 : (((w.alloc (.cells (Array.replicate n (Value.slice none 0 0)) 26)).alloc (.cells (Array.replicate n (Value.int .i64 0)) 3)).alloc (.cells (Array.replicate n (Value.int .i64 0)) 3)).heap.size = w.heap.size + 1 + 1 + 1 := by simp
  have o1 := Own.made (w := w) (B := w.heap.size) (T := 26) (z := (Value.slice none 0 0)) n (Nat.le_refl _) (by omega)
  have o2 := Own.made (w := (w.alloc (.cells (Array.replicate n (Value.slice none 0 0)) 26))) (B := w.heap.size) (T := 3) (z := (Value.int .i64 0)) n F1.size (by omega)
  have o3 := Own.made (w := ((w.alloc (.cells (Array.replicate n (Value.slice none 0 0)) 26)).alloc (.cells (Array.replicate n (Value.int .i64 0)) 3))) (B := w.heap.size) (T := 3) (z := (Value.int .i64 0)) n F2.size (by omega)
  rw [s1] at o2
  rw [s2] at o3
  have o1' := (o1.alloc (.cells (Array.replicate n (Value.int .i64 0)) 3)).alloc (.cells (Array.replicate n (Value.int .i64 0)) 3)
  have o2' := o2.alloc (.cells (Array.replicate n (Value.int .i64 0)) 3)
  have h := mk_of (m := m) (aX := aX) (cX := cX) o1' o2' o3 (by rw [s3]; omega) (by rw [s3]; omega) (by rw [s3]; omega) (by omega) F3
  rw [s3] at h
  exact h.drew
theorem mk_ALN {w : World} {n m : Nat} {aX : Option Addr} {cX : Nat} (hn : n ≤ 1000) :
    Mk w ((((w.alloc (.cells (Array.replicate n (Value.slice none 0 0)) 26)).alloc (.cells (Array.replicate n (Value.int .i64 0)) 3)).alloc (.cells (Array.replicate n (Value.int .i64 0)) 3)).alloc (.cells #[.slice aX m cX, .slice (some ⟨w.heap.size, 0, none⟩) n n, .slice (some ⟨(w.heap.size + 1 + 1), 0, none⟩) n n, .slice (some ⟨(w.heap.size + 1), 0, none⟩) n n, .int .i64 0, .slice none 0 0] 101)).drew (w.heap.size + 1 + 1 + 1) w.heap.size (w.heap.size + 1 + 1) (w.heap.size + 1) n m aX cX := by
  have F1 : Fr F0 w (w.alloc (.cells (Array.replicate n (Value.slice none 0 0)) 26)) := (Fr.refl _ _).alloc _
  have F2 : Fr F0 w ((w.alloc (.cells (Array.replicate n (Value.slice none 0 0)) 26)).alloc (.cells (Array.replicate n (Value.int .i64 0)) 3)) := F1.alloc _
  have F3 : Fr F0 w (((w.alloc (.cells (Array.replicate n (Value.slice none 0 0)) 26)).alloc (.cells (Array.replicate n (Value.int .i64 0)) 3)).alloc (.cells (Array.replicate n (Value.int .i64 0)) 3)) := F2.alloc _
  have s1 : (w.alloc (.cells (Array.replicate n (Value.slice none 0 0)) 26)).heap.size = w.heap.size + 1 := by simp
  have s2 : ((w.alloc (.cells (Array.replicate n (Value.slice none 0 0)) 26)).alloc (.cells (Array.replicate n (Value.int .i64 0)) 3)).heap.size = w.heap.size + 1 + 1 := by simp
  have s3 : (((w.alloc (.cells (Array.replicate n (Value.slice none 0 0)) 26)).alloc (.cells (Array.replicate n (Value.int .i64 0)) 3)).alloc (.cells (Array.replicate n (Value.int .i64 0)) 3)).heap.size = w.heap.size + 1 + 1 + 1 := by simp
  have o1 := Own.made (w := w) (B := w.heap.size) (T := 26) (z := (Value.slice none 0 0)) n (Nat.le_refl _) (by omega)
  have o2 := Own.made (w := (w.alloc (.cells (Array.replicate n (Value.slice none 0 0)) 26))) (B := w.heap.size) (T := 3) (z := (Value.int .i64 0)) n F1.size (by omega)
  have o3 := Own.made (w := ((w.alloc (.cells (Array.replicate n (Value.slice none 0 0)) 26)).alloc (.cells (Array.replicate n (Value.int .i64 0)) 3))) (B := w.heap.size) (T := 3) (z := (Value.int .i64 0)) n F2.size (by omega)
  rw [s1] at o2
  rw [s2] at o3
  have o1' := (o1.alloc (.cells (Array.replicate n (Value.int .i64 0)) 3)).alloc (.cells (Array.replicate n (Value.int .i64 0)) 3)
  have o2' := o2.alloc (.cells (Array.replicate n (Value.int .i64 0)) 3)
  have h := mk_of (m := m) (aX := aX) (cX := cX) o1' o3 o2' (by rw [s3]; omega) (by rw [s3]; omega) (by rw [s3]; omega) (by omega) F3
  rw [s3] at h
  exact h.drew
theorem mk_NAL {w : World} {n m : Nat} {aX : Option Addr} {cX : Nat} (hn : n ≤ 1000) :
    Mk w ((((w.alloc (.cells (Array.replicate n (Value.int .i64 0)) 3)).alloc (.cells (Array.replicate n (Value.slice none 0 0)) 26)).alloc (.cells (Array.replicate n (Value.int .i64 0)) 3)).alloc (.cells #[.slice aX m cX, .slice (some ⟨(w.heap.size + 1), 0, none⟩) n n, .slice (some ⟨w.heap.size, 0, none⟩) n n, .slice (some ⟨(w.heap.size + 1 + 1), 0, none⟩) n n, .int .i64 0, .slice none 0 0] 101)).drew (w.heap.size + 1 + 1 + 1) (w.heap.size + 1) w.heap.size (w.heap.size + 1 + 1) n m aX cX := by
  have F1 : Fr F0 w (w.alloc (.cells (Array.replicate n (Value.int .i64 0)) 3)) := (Fr.refl _ _).alloc _
  have F2 : Fr F0 w ((w.alloc (.cells (Array.replicate n (Value.int .i64 0)) 3)).alloc (.cells (Array.replicate n (Value.slice none 0 0)) 26)) := F1.alloc _
  have F3 : Fr F0 w (((w.alloc (.cells (Array.replicate n (Value.int .i64 0)) 3)).alloc (.cells (Array.replicate n (Value.slice none 0 0)) 26)).alloc (.cells (Array.replicate n (Value.int .i64 0)) 3)) := F2.alloc _
  have s1 : (w.alloc (.cells (Array.replicate n (Value.int .i64 0)) 3)).heap.size = w.heap.size + 1 := by simp
  have s2 : ((w.alloc (.cells (Array.replicate n (Value.int .i64 0)) 3)).alloc (.cells (Array.replicate n (Value.slice none 0 0)) 26)).heap.size = w.heap.size + 1 + 1 := by simp
  have s3 : (((w.alloc (.cells (Array.replicate n (Value.int .i64 0)) 3)).alloc (.cells (Array.replicate n (Value.slice none 0 0)) 26)).alloc (.cells (Array.replicate n (Value.int .i64 0)) 3)).heap.size = w.heap.size + 1 + 1 + 1 := by simp
  have o1 := Own.made (w := w) (B := w.heap.size) (T := 3) (z := (Value.int .i64 0)) n (Nat.le_refl _) (by omega)
  have o2 := Own.made (w := (w.alloc (.cells (Array.replicate n (Value.int .i64 0)) 3))) (B := w.heap.size) (T := 26) (z := (Value.slice none 0 0)) n F1.size (by omega)
  have o3 := Own.made (w := ((w.alloc (.cells (Array.replicate n (Value.int .i64 0)) 3)).alloc (.cells (Array.replicate n (Value.slice none 0 0)) 26))) (B := w.heap.size) (T := 3) (z := (Value.int .i64 0)) n F2.size (by omega)
  rw [s1] at o2
  rw [s2] at o3
  have o1' := (o1.alloc (.cells (Array.replicate n (Value.slice none 0 0)) 26)).alloc (.cells (Array.replicate n (Value.int .i64 0)) 3)
  have o2' := o2.alloc (.cells (Array.replicate n (Value.int .i64 0)) 3)
  have h := mk_of (m := m) (aX := aX) (cX := cX) o2' o1' o3 (by rw [s3]; omega) (by rw [s3]; omega) (by rw [s3]; omega) (by omega) F3
  rw [s3] at h
  exact h.drew
theorem mk_NLA {w : World} {n m : Nat} {aX : Option Addr} {cX : Nat} (hn : n ≤ 1000) :
    Mk w ((((w.alloc (.cells (Array.replicate n (Value.int .i64 0)) 3)).alloc (.cells (Array.replicate n (Value.int .i64 0)) 3)).alloc (.cells (Array.replicate n (Value.slice none 0 0)) 26)).alloc (.cells #[.slice aX m cX, .slice (some ⟨(w.heap.size + 1 + 1), 0, none⟩) n n, .slice (some ⟨w.heap.size, 0, none⟩) n n, .slice (some ⟨(w.heap.size + 1), 0, none⟩) n n, .int .i64 0, .slice none 0 0] 101)).drew (w.heap.size + 1 + 1 + 1) (w.heap.size + 1 + 1) w.heap.size (w.heap.size + 1) n m aX cX := by
  have F1 : Fr F0 w (w.alloc (.cells (Array.replicate n (Value.int .i64 0)) 3)) := (Fr.refl _ _).alloc _
  have F2 : Fr F0 w ((w.alloc (.cells (Array.replicate n (Value.int .i64 0)) 3)).alloc (.cells (Array.replicate n (Value.int .i64 0)) 3)) := F1.alloc _
  have F3 : Fr F0 w (((w.alloc (.cells (Array.replicate n (Value.int .i64 0)) 3)).alloc (.cells (Array.replicate n (Value.int .i64 0)) 3)).alloc (.cells (Array.replicate n (Value.slice none 0 0)) 26)) := F2.alloc _
  have s1 : (w.alloc (.cells (Array.replicate n (Value.int .i64 0)) 3)).heap.size = w.heap.size + 1 := by simp
  have s2 : ((w.alloc (.cells (Array.replicate n (Value.int .i64 0)) 3)).alloc (.cells (Array.replicate n (Value.int .i64 0)) 3)).heap.size = w.heap.size + 1 + 1 := by simp
  have s3 : (((w.alloc (.cells (Array.replicate n (Value.int .i64 0)) 3)).alloc (.cells (Array.replicate n (Value.int .i64 0)) 3)).alloc (.cells (Array.replicate n (Value.slice none 0 0)) 26)).heap.size = w.heap.size + 1 + 1 + 1 := by simp
  have o1 := Own.made (w := w) (B := w.heap.size) (T := 3) (z := (Value.int .i64 0)) n (Nat.le_refl _) (by omega)
  have o2 := Own.made (w := (w.alloc (.cells (Array.replicate n (Value.int .i64 0)) 3))) (B := w.heap.size) (T := 3) (z := (Value.int .i64 0)) n F1.size (by omega)
  have o3 := Own.made (w := ((w.alloc (.cells (Array.replicate n (Value.int .i64 0)) 3)).alloc (.cells (Array.replicate n (Value.int .i64 0)) 3))) (B := w.heap.size) (T := 26) (z := (Value.slice none 0 0)) n F2.size (by omega)
  rw [s1] at o2
  rw [s2] at o3
  have o1' := (o1.alloc (.cells (Array.replicate n (Value.int .i64 0)) 3)).alloc (.cells (Array.replicate n (Value.slice none 0 0)) 26)
  have o2' := o2.alloc (.cells (Array.replicate n (Value.slice none 0 0)) 26)
  have h := mk_of (m := m) (aX := aX) (cX := cX) o3 o1' o2' (by rw [s3]; omega) (by rw [s3]; omega) (by rw [s3]; omega) (by omega) F3
  rw [s3] at h
  exact h.drew
theorem mk_LAN {w : World} {n m : Nat} {aX : Option Addr} {cX : Nat} (hn : n ≤ 1000) :
    Mk w ((((w.alloc (.cells (Array.replicate n (Value.int .i64 0)) 3)).alloc (.cells (Array.replicate n (Value.slice none 0 0)) 26)).alloc (.cells (Array.replicate n (Value.int .i64 0)) 3)).alloc (.cells #[.slice aX m cX, .slice (some ⟨(w.heap.size + 1), 0, none⟩) n n, .slice (some ⟨(w.heap.size + 1 + 1), 0, none⟩) n n, .slice (some ⟨w.heap.size, 0, none⟩) n n, .int .i64 0, .slice none 0 0] 101)).drew (w.heap.size + 1 + 1 + 1) (w.heap.size + 1) (w.heap.size + 1 + 1) w.heap.size n m aX cX := by
  have F1 : Fr F0 w (w.alloc (.cells (Array.replicate n (Value.int .i64 0)) 3)) := (Fr.refl _ _).alloc _
  have F2 : Fr F0 w ((w.alloc (.cells (Array.replicate n (Value.int .i64 0)) 3)).alloc (.cells (Array.replicate n (Value.slice none 0 0)) 26)) := F1.alloc _
  have F3 : Fr F0 w (((w.alloc (.cells (Array.replicate n (Value.int .i64 0)) 3)).alloc (.cells (Array.replicate n (Value.slice none 0 0)) 26)).alloc (.cells (Array.replicate n (Value.int .i64 0)) 3)) := F2.alloc _
  have s1 : (w.alloc (.cells (Array.replicate n (Value.int .i64 0)) 3)).heap.size = w.heap.size + 1 := by simp
  have s2 : ((w.alloc (.cells (Array.replicate n (Value.int .i64 0)) 3)).alloc (.cells (Array.replicate n (Value.slice none 0 0)) 26)).heap.size = w.heap.size + 1 + 1 := by simp
  have s3 : (((w.alloc (.cells (Array.replicate n (Value.int .i64 0)) 3)).alloc (.cells (Array.replicate n (Value.slice none 0 0)) 26)).alloc (.cells (Array.replicate n (Value.int .i64 0)) 3)).heap.size = w.heap.size + 1 + 1 + 1 := by simp
  have o1 := Own.made (w := w) (B := w.heap.size) (T := 3) (z := (Value.int .i64 0)) n (Nat.le_refl _) (by omega)
  have o2 := Own.made (w := (w.alloc (.cells (Array.replicate n (Value.int .i64 0)) 3))) (B := w.heap.size) (T := 26) (z := (Value.slice none 0 0)) n F1.size (by omega)
  have o3 := Own.made (w := ((w.alloc (.cells (Array.replicate n (Value.int .i64 0)) 3)).alloc (.cells (Array.replicate n (Value.slice none 0 0)) 26))) (B := w.heap.size) (T := 3) (z := (Value.int .i64 0)) n F2.size (by omega)
  rw [s1] at o2
  rw [s2] at o3
  have o1' := (o1.alloc (.cells (Array.replicate n (Value.slice none 0 0)) 26)).alloc (.cells (Array.replicate n (Value.int .i64 0)) 3)
  have o2' := o2.alloc (.cells (Array.replicate n (Value.int .i64 0)) 3)
  have h := mk_of (m := m) (aX := aX) (cX := cX) o2' o3 o1' (by rw [s3]; omega) (by rw [s3]; omega) (by rw [s3]; omega) (by omega) F3
  rw [s3] at h
  exact h.drew
theorem mk_LNA {w : World} {n m : Nat} {aX : Option Addr} {cX : Nat} (hn : n ≤ 1000) :
    Mk w ((((w.alloc (.cells (Array.replicate n (Value.int .i64 0)) 3)).alloc (.cells (Array.replicate n (Value.int .i64 0)) 3)).alloc (.cells (Array.replicate n (Value.slice none 0 0)) 26)).alloc (.cells #[.slice aX m cX, .slice (some ⟨(w.heap.size + 1 + 1), 0, none⟩) n n, .slice (some ⟨(w.heap.size + 1), 0, none⟩) n n, .slice (some ⟨w.heap.size, 0, none⟩) n n, .int .i64 0, .slice none 0 0] 101)).drew (w.heap.size + 1 + 1 + 1) (w.heap.size + 1 + 1) (w.heap.size + 1) w.heap.size n m aX cX := by
  have F1 : Fr F0 w (w.alloc (.cells (Array.replicate n (Value.int .i64 0)) 3)) := (Fr.refl _ _).alloc _
  have F2 : Fr F0 w ((w.alloc (.cells (Array.replicate n (Value.int .i64 0)) 3)).alloc (.cells (Array.replicate n (Value.int .i64 0)) 3)) := F1.alloc _
  have F3 : Fr F0 w (((w.alloc (.cells (Array.replicate n (Value.int .i64 0)) 3)).alloc (.cells (Array.replicate n (Value.int .i64 0)) 3)).alloc (.cells (Array.replicate n (Value.slice none 0 0)) 26)) := F2.alloc _
  have s1 : (w.alloc (.cells (Array.replicate n (Value.int .i64 0)) 3)).heap.size = w.heap.size + 1 := by simp
  have s2 : ((w.alloc (.cells (Array.replicate n (Value.int .i64 0)) 3)).alloc (.cells (Array.replicate n (Value.int .i64 0)) 3)).heap.size = w.heap.size + 1 + 1 := by simp
  have s3 : (((w.alloc (.cells (Array.replicate n (Value.int .i64 0)) 3)).alloc (.cells (Array.replicate n (Value.int .i64 0)) 3)).alloc (.cells (Array.replicate n (Value.slice none 0 0)) 26)).heap.size = w.heap.size + 1 + 1 + 1 := by simp
  have o1 := Own.made (w := w) (B := w.heap.size) (T := 3) (z := (Value.int .i64 0)) n (Nat.le_refl _) (by omega)
  have o2 := Own.made (w := (w.alloc (.cells (Array.replicate n (Value.int .i64 0)) 3))) (B := w.heap.size) (T := 3) (z := (Value.int .i64 0)) n F1.size (by omega)
  have o3 := Own.made (w := ((w.alloc (.cells (Array.replicate n (Value.int .i64 0)) 3)).alloc (.cells (Array.replicate n (Value.int .i64 0)) 3))) (B := w.heap.size) (T := 26) (z := (Value.slice none 0 0)) n F2.size (by omega)
  rw [s1] at o2
  rw [s2] at o3
  have o1' := (o1.alloc (.cells (Array.replicate n (Value.int .i64 0)) 3)).alloc (.cells (Array.replicate n (Value.slice none 0 0)) 26)
  have o2' := o2.alloc (.cells (Array.replicate n (Value.slice none 0 0)) 26)
  have h := mk_of (m := m) (aX := aX) (cX := cX) o3 o2' o1' (by rw [s3]; omega) (by rw [s3]; omega) (by rw [s3]; omega) (by omega) F3
  rw [s3] at h
  exact h.drew
end Go.Proofs.Ytihcaemheknjbaa
/- Bridges: the edges at each vertex, and what lies in memory while the rows are filled. -/
namespace Go.Proofs.Ytihcaemheknjbaa
open Go.RowKit
/-- Edge j touches v. -/
def tch (X : List Ed) (v j : Nat) : Bool := match X[j]? with
  | some e => decide (e.1 = v) || decide (e.2 = v)
  | none => false
def adjF (X : List Ed) (i v : Nat) : List Nat := (List.range i).filter (tch X v)
theorem adjF_zero (X : List Ed) (v : Nat) : adjF X 0 v = [] := rfl
theorem adjF_succ {X : List Ed} {i : Nat} {e : Ed} (h : X[i]? = some e) (v : Nat) : adjF X (i + 1) v = if e.1 = v ∨ e.2 = v then adjF X i v ++ [i] else adjF X i v := by
  unfold adjF
  rw [List.range_succ, List.filter_append, List.filter_cons, List.filter_nil]
  have : tch X v i = decide (e.1 = v ∨ e.2 = v) := by
    unfold tch; rw [h]; rw [Bool.decide_or]
  rw [this]
  by_cases c : e.1 = v ∨ e.2 = v
  · rw [if_pos c, decide_eq_true c, if_pos rfl]
  · rw [if_neg c, decide_eq_false c, if_neg (by decide), List.append_nil]
theorem adjF_len (X : List Ed) (i v : Nat) : (adjF X i v).length ≤ i := by
  have := List.length_filter_le (tch X v) (List.range i)
  rw [List.length_range] at this; exact this
theorem adjF_adj {n : Nat} {X : List Ed} (h : ∀ e ∈ X, e.1 < n ∧ e.2 < n) : Adj n X (adjF X X.length) where
  lt := h
  at_ := fun v i hi => by
    unfold adjF at hi
    rw [List.mem_filter] at hi
    obtain ⟨_, ht⟩ := hi
    unfold tch at ht
    cases hx : X[i]? with
    | none => rw [hx] at ht; cases ht
    | some e =>
      rw [hx] at ht
      simp at ht
      exact ⟨e, rfl, ht⟩
  all := fun i e he => by
    have hi := (List.getElem?_eq_some_iff.1 he).1
    constructor
    · exact List.mem_filter.2 ⟨List.mem_range.2 hi, by unfold tch; rw [he]; simp⟩
    · exact List.mem_filter.2 ⟨List.mem_range.2 hi, by unfold tch; rw [he]; simp⟩
  nd := fun v => List.Pairwise.filter _ List.nodup_range
/-- While the rows are filled. Colours: 1 the search, 2 numbers, 3 low numbers, 5 the grid, 6 + v the row of v. -/
structure Gr (wb w : World) (col : Nat → Nat) (x gA gN gL n m : Nat) (aX : Option Addr) (cX : Nat) (rows : Nat → Option Addr × Nat) (f : Nat → List Nat) : Prop where
  bk : Blk w x 101 [.slice aX m cX, .slice (some ⟨gA, 0, none⟩) n n, .slice (some ⟨gN, 0, none⟩) n n, .slice (some ⟨gL, 0, none⟩) n n, .int .i64 0, .slice none 0 0]
  oA : Own w wb.heap.size 26 (some ⟨gA, 0, none⟩) n n ((List.range n).map fun v => Value.slice (rows v).1 (f v).length (rows v).2)
  oN : Own w wb.heap.size 3 (some ⟨gN, 0, none⟩) n n (List.replicate n (.int .i64 0))
  oL : Own w wb.heap.size 3 (some ⟨gL, 0, none⟩) n n (List.replicate n (.int .i64 0))
  ow : ∀ v, v < n → Own w wb.heap.size 3 (rows v).1 (f v).length (rows v).2 (nv (f v))
  kx : col x = 1
  kN : col gN = 2
  kL : col gL = 3
  kA : col gA = 5
  kR : ∀ v, v < n → ∀ k, onBlk (rows v).1 k → col k = 6 + v
  xb : wb.heap.size ≤ x
  fr : Fr F0 wb w
theorem Mk.gr {wb w : World} {x gA gN gL n m : Nat} {aX : Option Addr} {cX : Nat} (h : Mk wb w x gA gN gL n m aX cX) (hx : wb.heap.size ≤ x) :
    ∃ col, Gr wb w col x gA gN gL n m aX cX (fun _ => (none, 0)) (fun _ => []) := by
  obtain ⟨n1, n2, n3, n4, n5, n6⟩ := h.ne
  refine ⟨fun k => if k = x then 1 else if k = gN then 2 else if k = gL then 3 else if k = gA then 5 else 0, h.bk, ?_, h.oN, h.oL, fun v _ => Own.nil _ _ _, if_pos rfl, ?_, ?_, ?_, fun v _ k hk => absurd hk (onBlk_none k), hx, h.fr⟩
  · have e : ((List.range n).map fun v => Value.slice ((fun _ => (none, 0) : Nat → Option Addr × Nat) v).1 ((fun _ => [] : Nat → List Nat) v).length ((fun _ => (none, 0) : Nat → Option Addr × Nat) v).2) = List.replicate n (.slice none 0 0) := by
      apply List.ext_getElem
      · simp
      · intro i h1 h2; simp
    rw [e]; exact h.oA
  · rw [if_neg (by omega), if_pos rfl]
  · rw [if_neg (by omega), if_neg (by omega), if_pos rfl]
  · rw [if_neg (by omega), if_neg (by omega), if_neg (by omega), if_pos rfl]
theorem Gr.fr0 {wb w w' : World} {col : Nat → Nat} {x gA gN gL n m : Nat} {aX : Option Addr} {cX : Nat} {rows : Nat → Option Addr × Nat} {f : Nat → List Nat} (h : Gr wb w col x gA gN gL n m aX cX rows f) (F : Fr F0 w w') : Gr wb w' col x gA gN gL n m aX cX rows f :=
  ⟨h.bk.fr F id, h.oA.fr0 F, h.oN.fr0 F, h.oL.fr0 F, fun v hv => (h.ow v hv).fr0 F, h.kx, h.kN, h.kL, h.kA, h.kR, h.xb, h.fr.trans0 F⟩
theorem Gr.app {wb w w' : World} {col : Nat → Nat} {x gA gN gL n m : Nat} {aX : Option Addr} {cX : Nat} {rows : Nat → Option Addr × Nat} {f : Nat → List Nat} (h : Gr wb w col x gA gN gL n m aX cX rows f) {v j : Nat} (hv : v < n) {a' : Option Addr} {c' : Nat}
    (own' : Own w' wb.heap.size 3 a' ((f v).length + 1) c' (nv (f v) ++ [.int .i64 (j : Int)])) (F : Fr (onBlk (rows v).1) w w') (at' : ∀ k, onBlk a' k → onBlk (rows v).1 k ∨ w.heap.size ≤ k) :
    Gr wb (w'.setCell ⟨gA, v, none⟩ (.slice a' ((f v).length + 1) c')) (recol col w (6 + v)) x gA gN gL n m aX cX (fun u => if u = v then (a', c') else rows u) (fun u => if u = v then f v ++ [j] else f u) := by
  have oldc : ∀ k, k < w.heap.size → recol col w (6 + v) k = col k := fun k hk => recol_old hk
  have nx : ¬ onBlk (rows v).1 x := fun hk => by have := h.kR v hv x hk; have := h.kx; omega
  have nA : ¬ onBlk (rows v).1 gA := fun hk => by have := h.kR v hv gA hk; have := h.kA; omega
  have nN : ¬ onBlk (rows v).1 gN := fun hk => by have := h.kR v hv gN hk; have := h.kN; omega
  have nL : ¬ onBlk (rows v).1 gL := fun hk => by have := h.kR v hv gL hk; have := h.kL; omega
  have G : Fr (onB gA) w' (w'.setCell ⟨gA, v, none⟩ (.slice a' ((f v).length + 1) c')) := (Fr.refl _ _).setB v _
  have bA := (h.oA.blk gA ((onBlk_some _ _ _ _).2 rfl))
  have bN := (h.oN.blk gN ((onBlk_some _ _ _ _).2 rfl))
  have bL := (h.oL.blk gL ((onBlk_some _ _ _ _).2 rfl))
  have nrow : ∀ u, u < n → ∀ k, onBlk (rows u).1 k → k ≠ gA := fun u hu k hk e => by have := h.kR u hu k hk; have := h.kA; subst e; omega
  have na' : ∀ k, onBlk a' k → k ≠ gA := fun k hk e => by
    subst e
    rcases at' _ hk with h1 | h1
    · exact nA h1
    · omega
  refine ⟨(h.bk.fr F nx).fr G (fun (e : x = gA) => by have := h.kx; rw [e, h.kA] at this; omega), ?_, (h.oN.fr F (fun k hk e => nN ((onBlk_some _ _ _ _).1 hk ▸ e))).fr G (fun k hk (e : k = gA) => by have h1 := (onBlk_some _ _ _ _).1 hk; have := h.kN; rw [← h1, e, h.kA] at this; omega), (h.oL.fr F (fun k hk e => nL ((onBlk_some _ _ _ _).1 hk ▸ e))).fr G (fun k hk (e : k = gA) => by have h1 := (onBlk_some _ _ _ _).1 hk; have := h.kL; rw [← h1, e, h.kA] at this; omega), ?_, by rw [oldc _ h.bk.lt]; exact h.kx, by rw [oldc _ bN.2]; exact h.kN, by rw [oldc _ bL.2]; exact h.kL, by rw [oldc _ bA.2]; exact h.kA, ?_, h.xb, ?_⟩
  · have h1 := (h.oA.fr F (fun k hk e => nA ((onBlk_some _ _ _ _).1 hk ▸ e))).set (i := v) (.slice a' ((f v).length + 1) c')
    have e : ((List.range n).map fun u => Value.slice ((fun u => if u = v then (a', c') else rows u) u).1 ((fun u => if u = v then f v ++ [j] else f u) u).length ((fun u => if u = v then (a', c') else rows u) u).2) = ((List.range n).map fun u => Value.slice (rows u).1 (f u).length (rows u).2).set v (.slice a' ((f v).length + 1) c') := by
      apply List.ext_getElem
      · simp
      · intro i h1 h2
        rw [List.getElem_set]
        by_cases c : v = i
        · subst c; simp
        · rw [if_neg c]; simp [Ne.symm c]
    rw [e]; exact h1
  · intro u hu
    by_cases c : u = v
    · subst c
      rw [if_pos rfl, if_pos rfl, List.length_append, nv_app]
      exact own'.fr G (fun k hk (e : k = gA) => na' k hk e)
    · rw [if_neg c, if_neg c]
      exact ((h.ow u hu).fr F (fun k hk hs => by have h1 := h.kR u hu k hk; have h2 := h.kR v hv k hs; omega)).fr G (fun k hk (e : k = gA) => nrow u hu k hk e)
  · intro u hu k hk
    by_cases c : u = v
    · subst c
      rw [if_pos rfl] at hk
      rcases at' k hk with h1 | h1
      · rw [oldc _ ((h.ow u hu).blk k h1).2]; exact h.kR u hu k h1
      · exact recol_new h1
    · rw [if_neg c] at hk
      rw [oldc _ ((h.ow u hu).blk k hk).2]; exact h.kR u hu k hk
  · exact (h.fr.trans F (fun k hk hs => by have := ((h.ow v hv).blk k hs).1; omega)).trans G (fun k hk (e : k = gA) => by have := bA.1; omega)
theorem Gr.cell {wb w : World} {col : Nat → Nat} {x gA gN gL n m : Nat} {aX : Option Addr} {cX : Nat} {rows : Nat → Option Addr × Nat} {f : Nat → List Nat} (h : Gr wb w col x gA gN gL n m aX cX rows f) {v : Nat} (hv : v < n) :
    w.cell? ⟨gA, v, none⟩ = some (.slice (rows v).1 (f v).length (rows v).2) ∧ w.frozen? ⟨gA, v, none⟩ = false := by
  obtain ⟨g, hg, _, _, hc, hf⟩ := h.oA.at (by omega)
  injection hg with hg
  injection hg with hg
  subst hg
  refine ⟨hc v _ ?_, hf v⟩
  rw [List.getElem?_map, show (List.range n)[v]? = some v by rw [List.getElem?_eq_getElem (by simpa using hv)]; simp]; rfl
theorem Gr.np {wb w w' : World} {col : Nat → Nat} {x gA gN gL n m : Nat} {aX : Option Addr} {cX : Nat} {rows : Nat → Option Addr × Nat} {f : Nat → List Nat} (h : Gr wb w col x gA gN gL n m aX cX rows f) {p : Nat} (hp : w.heap.size ≤ p) :
    (∀ v, v < n → ¬ onBlk (rows v).1 p) ∧ p ≠ gA := ⟨fun v hv hk => by have := ((h.ow v hv).blk p hk).2; omega, fun e => by have := (h.oA.blk gA ((onBlk_some _ _ _ _).2 rfl)).2; omega⟩
theorem Gr.xrow {wb w : World} {col : Nat → Nat} {x gA gN gL n m : Nat} {aX : Option Addr} {cX : Nat} {rows : Nat → Option Addr × Nat} {f : Nat → List Nat} (h : Gr wb w col x gA gN gL n m aX cX rows f) {v : Nat} (hv : v < n) :
    ¬ onBlk (rows v).1 x ∧ ¬ onBlk (rows v).1 gA := ⟨fun hk => by have := h.kR v hv x hk; have := h.kx; omega, fun hk => by have := h.kR v hv gA hk; have := h.kA; omega⟩
theorem Gr.fz {wb w w' : World} {col : Nat → Nat} {x gA gN gL n m : Nat} {aX : Option Addr} {cX : Nat} {rows : Nat → Option Addr × Nat} {f : Nat → List Nat} (h : Gr wb w col x gA gN gL n m aX cX rows f) {S : Nat → Prop} (F : Fr S w w') (hS : ¬ S gA) {v : Nat} (hv : v < n) : w'.frozen? ⟨gA, v, none⟩ = false := by
  obtain ⟨g, hg, _, _, _, hf⟩ := (h.oA.fr F (fun k hk hs => hS ((onBlk_some _ _ _ _).1 hk ▸ hs))).at (by omega)
  injection hg with hg
  injection hg with hg
  subst hg
  exact hf v
end Go.Proofs.Ytihcaemheknjbaa
/- Bridges: from the rows to the searches, and between the searches. -/
namespace Go.Proofs.Ytihcaemheknjbaa
open Go.RowKit
theorem lt_of_cell' {w : World} {a : Addr} {v : Value} (h : w.cell? a = some v) : a.block < w.heap.size := by
  by_cases hn : a.block < w.heap.size
  · exact hn
  · have h0 : w.heap[a.block]? = none := Array.getElem?_eq_none (by omega)
    simp [World.cell?, h0] at h
theorem ArgP.lt {w : World} {a : Option Addr} {m c : Nat} {l : List Pr} (h : ArgP w a m c l) (hm : 0 < m) (k : Nat) (hk : onBlk a k) : k < w.heap.size := by
  obtain ⟨b, o, ha, h1, _⟩ := h.cells 0 (l[0]'(by rw [h.len]; exact hm)) (List.getElem?_eq_getElem _)
  subst ha
  have := (onBlk_some _ _ _ _).1 hk
  subst this
  exact lt_of_cell' h1
structure Vs (wb w : World) (col : Nat → Nat) (x gA gN gL n m : Nat) (aX : Option Addr) (cX : Nat) (X : List Ed) (i : Nat) (s : DS) (aB : Option Addr) (cB : Nat) : Prop where
  ss : SS w col x n m aX cX (some ⟨gA, 0, none⟩) n gN n gL n X (adjF X X.length) s aB cB
  ri : RInv n X s
  vi : ∀ u, u < i → vis s u
  fr : Fr F0 wb w
  nw : ∀ k, k < wb.heap.size → ¬ Mw col k
theorem Gr.vs {wb w : World} {col : Nat → Nat} {x gA gN gL n m : Nat} {aX : Option Addr} {cX : Nat} {rows : Nat → Option Addr × Nat} {X : List Ed} (h : Gr wb w col x gA gN gL n m aX cX rows (adjF X m)) (hm : m = X.length) (hR : RdZ w 2 aX m (eds X)) (hX : 0 < m → ∀ k, onBlk aX k → k < wb.heap.size) :
    ∃ col', Vs wb w col' x gA gN gL n m aX cX X 0 (D0 n) none 0 := by
  subst hm
  have hx := h.xb
  have bA := h.oA.blk gA ((onBlk_some _ _ _ _).2 rfl)
  have bN := h.oN.blk gN ((onBlk_some _ _ _ _).2 rfl)
  have bL := h.oL.blk gL ((onBlk_some _ _ _ _).2 rfl)
  have hrep : ∀ k, List.replicate k (Value.int .i64 0) = nv (List.replicate k 0) := fun k => by unfold nv; rw [List.map_replicate]; rfl
  refine ⟨fun k => if wb.heap.size ≤ k ∧ col k ≤ 4 then col k else 0, ⟨h.bk, ?_, ?_, Own.nil _ _ _, hR, ?_, ?_, ?_, ?_, fun k hk => absurd hk (onBlk_none k), ?_, ?_⟩, RInv.zero n X, fun u hu => absurd hu (Nat.not_lt_zero _), h.fr, ?_⟩
  · show Own w 0 3 _ n n (nv (List.replicate n 0)); rw [← hrep]; exact h.oN.mono (Nat.zero_le _)
  · show Own w 0 3 _ n n (nv (List.replicate n 0)); rw [← hrep]; exact h.oL.mono (Nat.zero_le _)
  · intro v hv
    refine ⟨gA, 0, (rows v).1, (rows v).2, rfl, by rw [Nat.zero_add]; exact (h.cell hv).1, (h.ow v hv).rd, fun _ k hk => ⟨if_neg (by rw [h.kR v hv k hk]; omega), ((h.ow v hv).blk k hk).2⟩⟩
  · show (if wb.heap.size ≤ x ∧ col x ≤ 4 then col x else 0) = 1
    rw [if_pos ⟨hx, by rw [h.kx]; omega⟩]; exact h.kx
  · show (if wb.heap.size ≤ gN ∧ col gN ≤ 4 then col gN else 0) = 2
    rw [if_pos ⟨bN.1, by rw [h.kN]; omega⟩]; exact h.kN
  · show (if wb.heap.size ≤ gL ∧ col gL ≤ 4 then col gL else 0) = 3
    rw [if_pos ⟨bL.1, by rw [h.kL]; omega⟩]; exact h.kL
  · intro h0 k hk
    have := hX h0 k hk
    exact ⟨if_neg (by omega), Nat.lt_of_lt_of_le this h.fr.size⟩
  · intro h0 k hk
    have := (onBlk_some _ _ _ _).1 hk
    subst this
    exact ⟨if_neg (by rw [h.kA]; omega), bA.2⟩
  · intro k hk hM
    unfold Mw at hM
    dsimp only at hM
    rw [if_neg (by omega)] at hM
    omega
section
variable {wb w w' : World} {col : Nat → Nat} {x gA gN gL n m : Nat} {aX : Option Addr} {cX : Nat} {X : List Ed} {i : Nat} {s : DS} {aB : Option Addr} {cB : Nat}
theorem Vs.fr0 (h : Vs wb w col x gA gN gL n m aX cX X i s aB cB) (F : Fr F0 w w') : Vs wb w' col x gA gN gL n m aX cX X i s aB cB := ⟨h.ss.fr0 F, h.ri, h.vi, h.fr.trans0 F, h.nw⟩
theorem Vs.skip (h : Vs wb w col x gA gN gL n m aX cX X i s aB cB) (hi : s.num.getD i 0 ≠ 0) : Vs wb w col x gA gN gL n m aX cX X (i + 1) s aB cB :=
  ⟨h.ss, h.ri, fun u hu => by
    by_cases c : u = i
    · subst c; exact Nat.pos_of_ne_zero hi
    · exact h.vi u (by omega), h.fr, h.nw⟩
/-- One search. -/
theorem Vs.visit (h : Vs wb w col x gA gN gL n m aX cX X i s aB cB) (hX : ∀ e ∈ X, e.1 < n ∧ e.2 < n) (hn : n ≤ 1000) (hm : m ≤ 1000) (hi : i < n) (h0 : s.num.getD i 0 = 0) :
    Calls Try.prog 51 #[.pointer (some ⟨x, 0, none⟩), .int .i64 i, .int .i64 (-1)] w fun e w' => e = .returned (.tuple #[]) ∧ ∃ col' s2 aB' cB', Vs wb w' col' x gA gN gL n m aX cX X (i + 1) s2 aB' cB' := by
  have hA := adjF_adj hX
  have hsz := h.ri.sz
  obtain ⟨g1, g2⟩ := h.ri.ok.start hi h0
  obtain ⟨s2, hL⟩ := Lp.ex hA (zer (startD i s) + 1) (startD i s) g1 (Nat.lt_succ_self _) (adjF X X.length i) i (-1) (fun _ h => h)
  refine (dfs_any hA hn hm (zer s) w col i (-1) s s2 aB cB h.ss h.ri.ok hi h0 (Nat.le_refl _) (by omega) hL).mono ?_
  rintro e w' ⟨he, col', aB', cB', hS, hG⟩
  obtain ⟨r1, r2, r3⟩ := h.ri.step hA hi h0 hL
  refine ⟨he, col', s2, aB', cB', hS, r1, fun u hu => ?_, h.fr.trans hG.fr (fun k hk => h.nw k hk), fun k hk hM => h.nw k hk ?_⟩
  · by_cases c : u = i
    · subst c; exact r2
    · exact r3 u (h.vi u (by omega))
  · unfold Mw at hM ⊢
    rw [hG.eq k (Nat.lt_of_lt_of_le hk h.fr.size)] at hM; exact hM
theorem Vs.num (h : Vs wb w col x gA gN gL n m aX cX X i s aB cB) (hi : i < n) : w.cell? ⟨x, 2, none⟩ = some (.slice (some ⟨gN, 0, none⟩) n n) ∧ w.cell? ⟨gN, i, none⟩ = some (.int .i64 ((s.num.getD i 0 : Nat) : Int)) := by
  refine ⟨h.ss.bk.cell (i := 2) rfl, ?_⟩
  obtain ⟨g, hg, _, _, hc, _⟩ := h.ss.on.at (by omega)
  injection hg with hg
  injection hg with hg
  subst hg
  exact hc i _ (nv_get (getD0 h.ri.ok.ln hi))
/-- The bridges, sorted. -/
theorem Vs.sort (h : Vs wb w col x gA gN gL n m aX cX X n s aB cB) (hX : ∀ e ∈ X, e.1 < n ∧ e.2 < n) (hn : n ≤ 1000) :
    Calls Try.prog 52 #[.slice aB s.br.length cB] w fun e w' => e = .returned (.tuple #[]) ∧ w'.cell? ⟨x, 5, none⟩ = some (.slice aB (refB n X).length cB) ∧ Rd w' aB (refB n X).length (nv (refB n X)) ∧ Fr F0 wb w' := by
  have ho := h.ss.ob
  rw [nv_ints] at ho
  have hsz := h.ri.sz
  refine (Sort_any 0 _ _ _ _ w ho (by omega)).mono ?_
  rintro e w' ⟨he, ys, hp, hs, ho', hF⟩
  have nx : ¬ onBlk aB x := fun hk => by have := h.ss.kB x hk; have := h.ss.kx; omega
  obtain ⟨zs, rfl⟩ : ∃ zs : List Nat, ys = zs.map (fun k : Nat => (k : Int)) := by
    refine ⟨ys.map Int.toNat, ?_⟩
    rw [List.map_map]
    refine (List.map_id ys).symm.trans (List.map_congr_left (fun y hy => ?_))
    have hy' := hp.subset hy
    rw [List.mem_map] at hy'
    obtain ⟨k, _, rfl⟩ := hy'
    rfl
  have hmem : ∀ k : Nat, k ∈ zs ↔ k ∈ s.br := fun k => by
    have h1 := hp.mem_iff (a := (k : Int))
    simp only [List.mem_map] at h1
    constructor
    · intro hk; obtain ⟨j, hj, hjk⟩ := h1.1 ⟨k, hk, rfl⟩; rw [show j = k by omega] at hj; exact hj
    · intro hk; obtain ⟨j, hj, hjk⟩ := h1.2 ⟨k, hk, rfl⟩; rw [show j = k by omega] at hj; exact hj
  have hnd : (zs.map (fun k : Nat => (k : Int))).Nodup := by
    refine hp.symm.pairwise ?_ (fun h => fun e => h e.symm)
    exact List.Pairwise.map _ (fun a b hab => fun e => hab (by omega)) h.ri.nd
  have hlt : zs.Pairwise (· < ·) := by
    have h1 := List.Pairwise.and hs hnd
    rw [List.pairwise_map] at h1
    exact h1.imp (fun h => by obtain ⟨h1, h2⟩ := h; omega)
  have hz : zs = refB n X := sorted_uniq _ _ hlt (refB_sorted n X) (fun k => (hmem k).trans (h.ri.fin hX (fun v hv => h.vi v hv) k))
  subst hz
  have hle : (refB n X).length = s.br.length := by have := hp.length_eq; simpa using this
  rw [hle]
  refine ⟨he, (h.ss.bk.fr hF nx).cell (i := 5) rfl, by rw [nv_ints]; exact ho'.rd, h.fr.trans hF (fun k hk hs => ?_)⟩
  have := h.ss.kB k hs
  exact h.nw k hk ⟨by omega, by omega⟩
end
end Go.Proofs.Ytihcaemheknjbaa
