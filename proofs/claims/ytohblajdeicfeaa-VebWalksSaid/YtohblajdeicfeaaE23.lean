/- awake. -/
import Derived.Test.YtohblajdeicfeaaE22
namespace Go.Proofs.Ytohblajdeicfeaa
open Go.RowKit
attribute [local go_sem ↓] Go.wp_at_zero Go.wp_at_succ
theorem SR.step {w0 w w' : World} {s k rb : Nat} {st st' : Int} {xs xs' : List Int} {N N' : Nat → Prop} (_ : SR w s k rb st xs N) (_ : SR w' s k rb st' xs' N') (f0 : Fr F0 w0 w) (f : Fr (fun q => N q ∨ q = s) w w') (hN : ∀ q, N q ∨ q = s → w0.heap.size ≤ q) : Fr F0 w0 w' :=
  f0.trans f (fun q hq e => by have := hN q e; omega)
set_option maxRecDepth 100000 in
set_option maxHeartbeats 4000000 in
theorem awake_any (w : World) : Calls Try.prog 7 #[] w fun e w' => e = .returned (.bool true) ∧ Fr F0 w w' := by
  go_enter Try.func7, Try.ntmps7
  go_wp2_with fail
  refine (New_ok w (k := 4) (by omega) (by omega)).mono ?_
  rintro e w1 ⟨s, rb, N, rfl, R1, F1, g1, g2⟩
  have HR1 := Lib.hid R1
  have HF1 := Lib.hid F1
  have HN1 := Lib.hid (show ∀ q, N q ∨ q = s → w.heap.size ≤ q from fun q hq => hq.elim (g2 q) (fun e => by omega))
  have hslt := R1.lt
  have HS := Lib.hid hslt
  have hsz1 := F1.size
  clear R1 F1 g1 g2 hslt
  go_wp2_with fail
  have HRd : Hid (Rd (w1.alloc (.cells #[.int .i64 3, .int .i64 9, .int .i64 14] 3)) (some ⟨w1.heap.size, 0, none⟩) 3 (ints [3, 9, 14])) := Lib.hid (Own.lit (w := w1) (B := w1.heap.size) (T := 3) (ints [3, 9, 14]) 3 rfl (by omega) (by omega)).rd
  have HF2 := Lib.hid (HF1.out.alloc (.cells #[.int .i64 3, .int .i64 9, .int .i64 14] 3))
  have HR2 := Lib.hid (HR1.out.fr ((Fr.refl F0 w1).alloc (.cells #[.int .i64 3, .int .i64 9, .int .i64 14] 3)) (fun _ _ => id) id)
  have HG : Hid (∀ q, N q ∨ q = s → w.heap.size ≤ q ∧ q ≠ w1.heap.size) := Lib.hid (fun q hq => ⟨HN1.out q hq, by have := HS.out q hq; omega⟩)
  have hg : w1.heap.size < (w1.alloc (.cells #[.int .i64 3, .int .i64 9, .int .i64 14] 3)).heap.size := by rw [size_alloc]; omega
  generalize w1.heap.size = g at *
  generalize w1.alloc (.cells #[.int .i64 3, .int .i64 9, .int .i64 14] 3) = w2 at *
  clear HF1 HR1 HN1 HS
  go_loopw [30] (fun s30 wr => ∃ (i : Nat) (st : Int) (N : Nat → Prop), i ≤ 3 ∧ s30 = .int .i64 i ∧ Hid (SR wr s 4 rb st (([3, 9, 14] : List Int).take i) N) ∧ Hid (Fr F0 w wr) ∧ Hid (∀ q, N q ∨ q = s → w.heap.size ≤ q ∧ q ≠ g) ∧ Hid (Rd wr (some ⟨g, 0, none⟩) 3 (ints [3, 9, 14])) ∧ g < wr.heap.size) (fun s30 _ => 3 - (intOf s30).toNat)
  case atStart => exact ⟨0, 0, N, by omega, rfl, HR2, HF2, HG, HRd, hg⟩
  case round =>
    obtain ⟨i, st, N, hi, rfl, HR, HF, HG, HRd, hg⟩ := hrel
    clear HF2 HR2
    have HC := HRd.out.cells (by omega)
    obtain ⟨b, o, eb, hc⟩ := HC
    injection eb with eb
    injection eb with eb1 eb2
    subst eb1
    subst eb2
    have x0 : wr.cell? ⟨g, 0, none⟩ = some (.int .i64 3) := hc 0 _ rfl
    have x1 : wr.cell? ⟨g, 1, none⟩ = some (.int .i64 9) := hc 1 _ rfl
    have x2 : wr.cell? ⟨g, 2, none⟩ = some (.int .i64 14) := hc 2 _ rfl
    clear hc
    rcases (show i = 0 ∨ i = 1 ∨ i = 2 ∨ i = 3 by omega) with rfl | rfl | rfl | rfl
    · go_wp2_with fail
      refine (Insert_in HR.out 3 (by omega) (by simp)).mono ?_
      rintro e w3 ⟨st3, N3, rfl, R3, _, _, F3, q3⟩
      rw [show decide (((3 : Nat) : Int) ∉ ([3, 9, 14] : List Int).take 0) = true by decide]
      have HR3 := Lib.hid (show SR w3 s 4 rb st3 (([3, 9, 14] : List Int).take 1) N3 from R3)
      have HF3 := Lib.hid (HF.out.trans F3 (fun q hq e => by have := (HG.out q e).1; omega))
      have HG3 : Hid (∀ q, N3 q ∨ q = s → w.heap.size ≤ q ∧ q ≠ g) := Lib.hid (fun q hq => by
        have h1 := HF.out.size
        rcases hq with hq | hq
        · rcases q3 q hq with e | e
          · exact HG.out q (.inl e)
          · exact ⟨by omega, by omega⟩
        · exact HG.out q (.inr hq))
      have HRd3 := Lib.hid (HRd.out.fr F3 (fun q hq e => by
        have e1 := (onBlk_some _ _ _ _).1 hq
        exact (HG.out q e).2 e1))
      have hsz3 := F3.size
      clear R3 F3 q3
      go_wp2_with fail
      go_roundw
      case rel => exact ⟨1, st3, N3, by omega, rfl, HR3, HF3, HG3, HRd3, by omega⟩
      case measure => simp [intOf]
    · go_wp2_with fail
      refine (Insert_in HR.out 9 (by omega) (by simp)).mono ?_
      rintro e w3 ⟨st3, N3, rfl, R3, _, _, F3, q3⟩
      rw [show decide (((9 : Nat) : Int) ∉ ([3, 9, 14] : List Int).take 1) = true by decide]
      have HR3 := Lib.hid (show SR w3 s 4 rb st3 (([3, 9, 14] : List Int).take 2) N3 from R3)
      have HF3 := Lib.hid (HF.out.trans F3 (fun q hq e => by have := (HG.out q e).1; omega))
      have HG3 : Hid (∀ q, N3 q ∨ q = s → w.heap.size ≤ q ∧ q ≠ g) := Lib.hid (fun q hq => by
        have h1 := HF.out.size
        rcases hq with hq | hq
        · rcases q3 q hq with e | e
          · exact HG.out q (.inl e)
          · exact ⟨by omega, by omega⟩
        · exact HG.out q (.inr hq))
      have HRd3 := Lib.hid (HRd.out.fr F3 (fun q hq e => by
        have e1 := (onBlk_some _ _ _ _).1 hq
        exact (HG.out q e).2 e1))
      have hsz3 := F3.size
      clear R3 F3 q3
      go_wp2_with fail
      go_roundw
      case rel => exact ⟨2, st3, N3, by omega, rfl, HR3, HF3, HG3, HRd3, by omega⟩
      case measure => simp [intOf]
    · go_wp2_with fail
      refine (Insert_in HR.out 14 (by omega) (by simp)).mono ?_
      rintro e w3 ⟨st3, N3, rfl, R3, _, _, F3, q3⟩
      rw [show decide (((14 : Nat) : Int) ∉ ([3, 9, 14] : List Int).take 2) = true by decide]
      have HR3 := Lib.hid (show SR w3 s 4 rb st3 (([3, 9, 14] : List Int).take 3) N3 from R3)
      have HF3 := Lib.hid (HF.out.trans F3 (fun q hq e => by have := (HG.out q e).1; omega))
      have HG3 : Hid (∀ q, N3 q ∨ q = s → w.heap.size ≤ q ∧ q ≠ g) := Lib.hid (fun q hq => by
        have h1 := HF.out.size
        rcases hq with hq | hq
        · rcases q3 q hq with e | e
          · exact HG.out q (.inl e)
          · exact ⟨by omega, by omega⟩
        · exact HG.out q (.inr hq))
      have HRd3 := Lib.hid (HRd.out.fr F3 (fun q hq e => by
        have e1 := (onBlk_some _ _ _ _).1 hq
        exact (HG.out q e).2 e1))
      have hsz3 := F3.size
      clear R3 F3 q3
      go_wp2_with fail
      go_roundw
      case rel => exact ⟨3, st3, N3, by omega, rfl, HR3, HF3, HG3, HRd3, by omega⟩
      case measure => simp [intOf]
    · have HR4 := Lib.hid (show SR wr s 4 rb st ([3, 9, 14] : List Int) N from HR.out)
      have HG4 := Lib.hid (show ∀ q, N q ∨ q = s → w.heap.size ≤ q from fun q hq => (HG.out q hq).1)
      clear HR HG HRd x0 x1 x2
      have HF4 := HF
      clear HF
      go_wp2_with fail
      refine (Next_any HR4.out 3).mono ?_
      rw [show nextI [3, 9, 14] 3 = some 9 by decide]
      rintro e w5 ⟨st5, rfl, R, _, _, F⟩
      have HR5 := Lib.hid R
      have HF5 := Lib.hid (HF4.out.trans F (fun q hq (e : q = s) => by have := HG4.out q (.inr e); omega))
      clear R F HR4 HF4
      go_wp2_with fail
      refine (Next_any HR5.out 14).mono ?_
      rw [show nextI [3, 9, 14] 14 = none by decide]
      rintro e w6 ⟨st6, rfl, R, _, _, F⟩
      have HR6 := Lib.hid R
      have HF6 := Lib.hid (HF5.out.trans F (fun q hq (e : q = s) => by have := HG4.out q (.inr e); omega))
      clear R F HR5 HF5
      go_wp2_with fail
      refine (Prev_any HR6.out 9).mono ?_
      rw [show prevI [3, 9, 14] 9 = some 3 by decide]
      rintro e w7 ⟨st7, rfl, R, _, _, F⟩
      have HR7 := Lib.hid R
      have HF7 := Lib.hid (HF6.out.trans F (fun q hq (e : q = s) => by have := HG4.out q (.inr e); omega))
      clear R F HR6 HF6
      go_wp2_with fail
      refine (Min_any HR7.out (m := 3) rfl).mono ?_
      rintro e w8 ⟨rfl, rfl⟩
      go_wp2_with fail
      refine (Delete_in HR7.out 3 (by omega) (by simp)).mono ?_
      rintro e w8 ⟨st8, rfl, R, _, _, F⟩
      rw [show decide (((3 : Nat) : Int) ∈ ([3, 9, 14] : List Int)) = true by decide]
      have HR8 := Lib.hid (show SR w8 s 4 rb st8 ([9, 14] : List Int) N from R)
      have HF8 := Lib.hid (HF7.out.trans F (fun q hq e => by have := HG4.out q e; omega))
      clear R F HR7 HF7
      go_wp2_with fail
      refine (Min_any HR8.out (m := 9) rfl).mono ?_
      rintro e w9 ⟨rfl, rfl⟩
      go_wp2_with fail
      go_ret
      exact ⟨rfl, HF8.out⟩
end Go.Proofs.Ytohblajdeicfeaa
