/- Methods of a nil index; what stays when an index grows. -/
import Derived.Test.YtpmaoaogkjehcaaX9
import Derived.Test.YtpmaoaogkjehcaaX6
import Derived.Test.YtpmaoaogkjehcaaAgg1
namespace Go.Proofs.Ytpmaoaogkjehcaa
open Go.RowKit

theorem Branch_nil (w : World) (p : Int) : Calls Try.prog 33 #[.pointer none, .int .i64 p] w fun e w' => e = .returned (.tuple #[.int .i64 0, .int .i64 1]) ∧ Fr F0 w w' := by
  have F : Fr F0 w (w.alloc (.cells #[.int .i64 p] 3)) := (Fr.refl _ _).alloc _
  go_enter Try.func33, Try.ntmps33
  go_wp2_with fail
  refine (checkI_nil _ _).mono ?_; rintro e w1 ⟨rfl, F1⟩
  replace F := Lib.hid (F.trans0 F1)
  clear F1
  go_wp2_with fail
  go_ret2
  exact ⟨rfl, F.out⟩
theorem Depth_nil (w : World) (p : Int) : Calls Try.prog 26 #[.pointer none, .int .i64 p] w fun e w' => e = .returned (.tuple #[.int .i64 0, .int .i64 1]) ∧ Fr F0 w w' := by
  have F : Fr F0 w (w.alloc (.cells #[.int .i64 p] 3)) := (Fr.refl _ _).alloc _
  go_enter Try.func26, Try.ntmps26
  go_wp2_with fail
  refine (checkI_nil _ _).mono ?_; rintro e w1 ⟨rfl, F1⟩
  replace F := Lib.hid (F.trans0 F1)
  clear F1
  go_wp2_with fail
  go_ret2
  exact ⟨rfl, F.out⟩
theorem Ancestor_nil (w : World) (p q : Int) : Calls Try.prog 24 #[.pointer none, .int .i64 p, .int .i64 q] w fun e w' => e = .returned (.tuple #[.bool false, .int .i64 1]) ∧ Fr F0 w w' := by
  have F : Fr F0 w (w.alloc (.cells #[.int .i64 p, .int .i64 q] 3)) := (Fr.refl _ _).alloc _
  go_enter Try.func24, Try.ntmps24
  go_wp2_with fail
  refine (checkI_nil _ _).mono ?_; rintro e w1 ⟨rfl, F1⟩
  replace F := Lib.hid (F.trans0 F1)
  clear F1
  go_wp2_with fail
  go_ret2
  exact ⟨rfl, F.out⟩
theorem Common_nil (w : World) (p q : Int) : Calls Try.prog 25 #[.pointer none, .int .i64 p, .int .i64 q] w fun e w' => e = .returned (.tuple #[.int .i64 0, .int .i64 1]) ∧ Fr F0 w w' := by
  have F : Fr F0 w (w.alloc (.cells #[.int .i64 p, .int .i64 q] 3)) := (Fr.refl _ _).alloc _
  go_enter Try.func25, Try.ntmps25
  go_wp2_with fail
  refine (checkI_nil _ _).mono ?_; rintro e w1 ⟨rfl, F1⟩
  replace F := Lib.hid (F.trans0 F1)
  clear F1
  go_wp2_with fail
  go_ret2
  exact ⟨rfl, F.out⟩
theorem Nearest_nil (w : World) (a : Option Addr) (n c : Nat) (p : Int) : Calls Try.prog 30 #[.pointer none, .slice a n c, .int .i64 p] w fun e w' => e = .returned (.tuple #[.int .i64 0, .int .i64 1]) ∧ Fr F0 w w' := by
  go_enter Try.func30, Try.ntmps30
  go_wp2_with fail
  go_ret2
  exact ⟨rfl, Fr.refl _ _⟩

def growF (P : List Int) (l : List Int) : List Int := l.foldl branP P
theorem growF_snoc (P l : List Int) (p : Int) : growF P (l ++ [p]) = branP (growF P l) p := by simp [growF]
theorem growF_valid {P : List Int} (h : validB P = true) (l : List Int) : validB (growF P l) = true := by
  unfold growF
  induction l generalizing P with
  | nil => exact h
  | cons x l ih => exact ih (branP_valid h x)
theorem branP_same {P : List Int} (hv : validB P = true) (p : Int) : (branP P p).take P.length = P ∧ P.length ≤ (branP P p).length ∧ ∀ x, x < P.length → chN (branP P p) x = chN P x := by
  by_cases h : inB P p ∧ P.length < 1000
  · have e : branP P p = P ++ [p] := by unfold branP; rw [if_pos h]
    have hv' := branP_valid hv p
    rw [e] at hv' ⊢
    exact ⟨by simp, by simp, fun x hx => chN_snoc hv hv' hx⟩
  · have e : branP P p = P := by unfold branP; rw [if_neg h]
    rw [e]
    exact ⟨by simp, by omega, fun _ _ => rfl⟩
theorem growF_same {P : List Int} (hv : validB P = true) (l : List Int) : (growF P l).take P.length = P ∧ P.length ≤ (growF P l).length ∧ ∀ x, x < P.length → chN (growF P l) x = chN P x := by
  unfold growF
  induction l generalizing P with
  | nil => exact ⟨by simp, by simp, fun _ _ => rfl⟩
  | cons p l ih =>
    obtain ⟨h1, h2, h3⟩ := branP_same hv p
    obtain ⟨g1, g2, g3⟩ := ih (branP_valid hv p)
    rw [List.foldl_cons]
    refine ⟨?_, by omega, fun x hx => by rw [g3 x (by omega), h3 x hx]⟩
    have := congrArg (List.take P.length) g1
    rwa [List.take_take, Nat.min_eq_left h2, h1] at this
theorem depE_same {P : List Int} (hv : validB P = true) (l : List Int) {a : Int} (ha : inB P a) : depE (growF P l) a = depE P a := by
  obtain ⟨h1, h2, h3⟩ := growF_same hv l
  obtain ⟨a0, a1⟩ := ha
  unfold depE
  rw [if_pos ⟨a0, by omega⟩, if_pos ⟨a0, a1⟩]
  unfold dep
  rw [h3 _ (by omega)]
theorem ancE_same {P : List Int} (hv : validB P = true) (l : List Int) {a b : Int} (ha : inB P a) (hb : inB P b) : ancE (growF P l) a b = ancE P a b := by
  obtain ⟨h1, h2, h3⟩ := growF_same hv l
  unfold ancE
  rw [if_pos ⟨⟨ha.1, by have := ha.2; omega⟩, ⟨hb.1, by have := hb.2; omega⟩⟩, if_pos ⟨ha, hb⟩, h3 _ (by have := hb.1; have := hb.2; omega)]
theorem comE_same {P : List Int} (hv : validB P = true) (l : List Int) {a b : Int} (ha : inB P a) (hb : inB P b) : comE (growF P l) a b = comE P a b := by
  obtain ⟨h1, h2, h3⟩ := growF_same hv l
  unfold comE
  rw [if_pos ⟨⟨ha.1, by have := ha.2; omega⟩, ⟨hb.1, by have := hb.2; omega⟩⟩, if_pos ⟨ha, hb⟩]
  unfold comV
  rw [h3 _ (by have := hb.1; have := hb.2; omega), h3 _ (by have := ha.1; have := ha.2; omega)]

end Go.Proofs.Ytpmaoaogkjehcaa
