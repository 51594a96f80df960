/- turn, push. -/
import Derived.Test.YtfeokafjehpgnaaW1
namespace Go.Proofs.Ytfeokafjehpgnaa
open Go.RowKit
theorem fld9 {v v' : K.Vx} {j : Nat} {u : Value} (h0 : fld v 0 = if 0 = j then u else fld v' 0) (h1 : fld v 1 = if 1 = j then u else fld v' 1) (h2 : fld v 2 = if 2 = j then u else fld v' 2) (h3 : fld v 3 = if 3 = j then u else fld v' 3) (h4 : fld v 4 = if 4 = j then u else fld v' 4)
    (h5 : fld v 5 = if 5 = j then u else fld v' 5) (h6 : fld v 6 = if 6 = j then u else fld v' 6) (h7 : fld v 7 = if 7 = j then u else fld v' 7) (h8 : fld v 8 = if 8 = j then u else fld v' 8) : ∀ i, i < 9 → fld v i = if i = j then u else fld v' i := by
  intro i hi
  match i, hi with
  | 0, _ => exact h0
  | 1, _ => exact h1
  | 2, _ => exact h2
  | 3, _ => exact h3
  | 4, _ => exact h4
  | 5, _ => exact h5
  | 6, _ => exact h6
  | 7, _ => exact h7
  | 8, _ => exact h8
theorem FS.more {w : World} {f b n : Nat} {s : Int} {V : K.Vs} {x : Nat} {v : K.Vx} (h : FS w f b n s (K.put V x v)) {j : Nat} (hx : x ≤ n) (hj : j < 9) (u : Value) {v' : K.Vx} (hv : ∀ i, i < 9 → fld v' i = if i = j then u else fld v i) : FS (w.setCell ⟨b, x * 9 + j, none⟩ u) f b n s (K.put V x v') :=
  h.put hx hj u (by rw [K.put_same, K.put_same]; exact hv) (fun y hy => by rw [K.put_other hy, K.put_other hy])
theorem turn_any (w : World) {f b n : Nat} {s : Int} {V : K.Vs} (h : FS w f b n s V) {x : Nat} (hx : x ≤ n) :
    Calls Try.prog 62 #[.pointer (some ⟨f, 0, none⟩), .int .i64 x] w fun e w' => e = .returned (.tuple #[]) ∧ FS w' f b n s (K.turnF V x) ∧ Fr (onB b) w w' := by
  have hs := h.small
  by_cases h0 : x = 0
  · subst h0
    have e : K.turnF V 0 = V := by unfold K.turnF; rw [if_pos rfl]
    rw [e]
    have H := Lib.hid h
    clear h
    go_enter Try.func62, Try.ntmps62
    go_wp2_with fail
    go_end0
    exact ⟨rfl, H.out, Fr.refl _ _⟩
  · have f0 := h.fb.cell (i := 0) rfl
    have x1 := h.c1 hx
    have x2 := h.c2 hx
    have x3 := h.c3 hx
    have x7 := h.c7 hx
    have x8 := h.c8 hx
    have z := h.free
    have z1 := h.free (x * 9 + 1)
    have z2 := h.free (x * 9 + 2)
    have z3 := h.free (x * 9 + 3)
    have z7 := h.free (x * 9 + 7)
    have z8 := h.free (x * 9 + 8)
    have H := Lib.hid h
    have hT : K.turnF V x = K.put V x { V x with left := (V x).right, right := (V x).left, first := (V x).last, last := (V x).first, turned := !(V x).turned } := by unfold K.turnF; rw [if_neg h0]
    rw [hT]
    clear hT h z
    generalize hl : (V x).left = l at *
    generalize hr : (V x).right = r at *
    generalize hf : (V x).first = fi at *
    generalize hla : (V x).last = la at *
    generalize ht : (V x).turned = tu at *
    have HV := Lib.hid (And.intro hl (And.intro hr (And.intro hf (And.intro hla ht))))
    clear hl hr hf hla ht
    go_enter Try.func62, Try.ntmps62
    go_wp2_with fail
    go_region
    all_goals go_wp2_with fail
    go_region
    all_goals go_wp2_with fail
    go_end0
    obtain ⟨e1, e2, e3, e4, e5⟩ := HV.out
    subst e1
    subst e2
    subst e3
    subst e4
    subst e5
    clear HV
    refine ⟨rfl, ?_, ((((((Fr.refl (onB b) w).setB _ _).setB _ _).setB _ _).setB _ _).setB _ _).drew.drew⟩
    have h1 := H.out.putN hx (j := 1) (by omega) (.int .i64 ((V x).right : Nat)) (v := { V x with left := (V x).right }) (fld9 rfl rfl rfl rfl rfl rfl rfl rfl rfl)
    have h2 := (h1.more hx (j := 2) (by omega) (.int .i64 ((V x).left : Nat)) (v' := { V x with left := (V x).right, right := (V x).left }) (fld9 rfl rfl rfl rfl rfl rfl rfl rfl rfl))
    have h3 := h2.more hx (j := 7) (by omega) (.int .i64 ((V x).last : Nat)) (v' := { V x with left := (V x).right, right := (V x).left, first := (V x).last }) (fld9 rfl rfl rfl rfl rfl rfl rfl rfl rfl)
    have h4 := (h3.more hx (j := 8) (by omega) (.int .i64 ((V x).first : Nat)) (v' := { V x with left := (V x).right, right := (V x).left, first := (V x).last, last := (V x).first }) (fld9 rfl rfl rfl rfl rfl rfl rfl rfl rfl))
    exact FS.drew (FS.drew (h4.more hx (j := 3) (by omega) (.bool (!(V x).turned)) (v' := { V x with left := (V x).right, right := (V x).left, first := (V x).last, last := (V x).first, turned := !(V x).turned }) (fld9 rfl rfl rfl rfl rfl rfl rfl rfl rfl)))
theorem turn_ne (V : K.Vs) (x y : Nat) (h : y ≠ x) : K.turnF V x y = V y := K.turn_other h
theorem GV.turn {n : Nat} {V : K.Vs} (g : GV n V) (x : Nat) : GV n (K.turnF V x) := by
  unfold K.turnF
  split
  · exact g
  · rename_i hx0
    have key : ∀ y, ∀ (Q : K.Vx → Prop), Q (V y) → (y = x → Q { V x with left := (V x).right, right := (V x).left, first := (V x).last, last := (V x).first, turned := !(V x).turned }) → Q (K.put V x { V x with left := (V x).right, right := (V x).left, first := (V x).last, last := (V x).first, turned := !(V x).turned } y) := by
      intro y Q h1 h2
      by_cases e : y = x
      · rw [e, K.put_same]; exact h2 e
      · rw [K.put_other e]; exact h1
    exact ⟨fun y hy => key y (fun v => v.up ≤ n) (g.up y hy) (fun e => e ▸ g.up y hy), fun y hy => key y (fun v => v.left ≤ n) (g.left y hy) (fun e => e ▸ g.right y hy), fun y hy => key y (fun v => v.right ≤ n) (g.right y hy) (fun e => e ▸ g.left y hy),
      fun y hy => key y (fun v => v.first ≤ n) (g.first y hy) (fun e => e ▸ g.last y hy), fun y hy => key y (fun v => v.last ≤ n) (g.last y hy) (fun e => e ▸ g.first y hy), fun y hy => key y (fun v => v.size ≤ n) (g.size y hy) (fun e => e ▸ g.size y hy),
      fun y hy => key y (fun v => -1099511627776 ≤ v.sum ∧ v.sum ≤ 1099511627776) (g.sum y hy) (fun e => e ▸ g.sum y hy), fun y hy => key y (fun v => -1048576 ≤ v.weight ∧ v.weight ≤ 1048576) (g.weight y hy) (fun e => e ▸ g.weight y hy), fun y hy h2 => key y (fun v => v.left ≠ y) (g.nl y hy h2) (fun e => by subst e; exact g.nr y hy h2), fun y hy h2 => key y (fun v => v.right ≠ y) (g.nr y hy h2) (fun e => by subst e; exact g.nl y hy h2)⟩
theorem GV.down {n : Nat} {V : K.Vs} (g : GV n V) (x : Nat) : GV n (K.put V x { V x with turned := false }) := by
  have key : ∀ y, ∀ (Q : K.Vx → Prop), Q (V y) → (y = x → Q { V x with turned := false }) → Q (K.put V x { V x with turned := false } y) := by
    intro y Q h1 h2
    by_cases e : y = x
    · rw [e, K.put_same]; exact h2 e
    · rw [K.put_other e]; exact h1
  exact ⟨fun y hy => key y (fun v => v.up ≤ n) (g.up y hy) (fun e => e ▸ g.up y hy), fun y hy => key y (fun v => v.left ≤ n) (g.left y hy) (fun e => e ▸ g.left y hy), fun y hy => key y (fun v => v.right ≤ n) (g.right y hy) (fun e => e ▸ g.right y hy),
    fun y hy => key y (fun v => v.first ≤ n) (g.first y hy) (fun e => e ▸ g.first y hy), fun y hy => key y (fun v => v.last ≤ n) (g.last y hy) (fun e => e ▸ g.last y hy), fun y hy => key y (fun v => v.size ≤ n) (g.size y hy) (fun e => e ▸ g.size y hy),
    fun y hy => key y (fun v => -1099511627776 ≤ v.sum ∧ v.sum ≤ 1099511627776) (g.sum y hy) (fun e => e ▸ g.sum y hy), fun y hy => key y (fun v => -1048576 ≤ v.weight ∧ v.weight ≤ 1048576) (g.weight y hy) (fun e => e ▸ g.weight y hy), fun y hy h2 => key y (fun v => v.left ≠ y) (g.nl y hy h2) (fun e => by subst e; exact g.nl y hy h2), fun y hy h2 => key y (fun v => v.right ≠ y) (g.nr y hy h2) (fun e => by subst e; exact g.nr y hy h2)⟩
theorem GV.push {n : Nat} {V : K.Vs} (g : GV n V) (x : Nat) : GV n (K.pushF V x) := by
  unfold K.pushF
  split
  · exact ((g.turn _).turn _).down x
  · exact g
theorem push_any (w : World) {f b n : Nat} {s : Int} {V : K.Vs} (h : FS w f b n s V) (g : GV n V) {x : Nat} (hx : x ≤ n) (hx0 : x ≠ 0) :
    Calls Try.prog 52 #[.pointer (some ⟨f, 0, none⟩), .int .i64 x] w fun e w' => e = .returned (.tuple #[]) ∧ FS w' f b n s (K.pushF V x) ∧ Fr (onB b) w w' := by
  have hs := h.small
  have f0 := h.fb.cell (i := 0) rfl
  have x3 := h.c3 hx
  have H := Lib.hid h
  cases ht : (V x).turned with
  | false =>
    have e : K.pushF V x = V := by unfold K.pushF; rw [ht]; rfl
    rw [e]
    rw [ht] at x3
    clear h g ht e
    go_enter Try.func52, Try.ntmps52
    go_wp2_with fail
    go_end0
    exact ⟨rfl, H.out, Fr.refl _ _⟩
  | true =>
    obtain ⟨V1, h1⟩ : ∃ V1, V1 = K.turnF V (V x).left := ⟨_, rfl⟩
    obtain ⟨V2, h2⟩ : ∃ V2, V2 = K.turnF V1 (V x).right := ⟨_, rfl⟩
    have e : K.pushF V x = K.put V2 x { V2 x with turned := false } := by unfold K.pushF; rw [ht, h2, h1]; rfl
    have y1 : V1 x = V x := by rw [h1]; exact K.turn_other (Ne.symm (g.nl x hx0 hx))
    rw [e]
    rw [ht] at x3
    have x1 := h.c1 hx
    have hl := g.left x hx
    have hr := g.right x hx
    have ha : onB b f ↔ False := ⟨fun e => h.ne e, False.elim⟩
    have hfb := h.ne
    obtain ⟨l, hle⟩ : ∃ l, l = (V x).left := ⟨_, rfl⟩
    obtain ⟨r, hre⟩ : ∃ r, r = (V x).right := ⟨_, rfl⟩
    rw [← hle] at h1 x1 hl
    rw [← hre] at h2 hr
    have H1 := Lib.hid h1
    have H2 := Lib.hid h2
    have Hy := Lib.hid y1
    have Hre := Lib.hid hre
    clear h g ht e y1 h1 h2 hle hre ha
    go_enter Try.func52, Try.ntmps52
    go_wp2_with (first
      | (go_at_call 62; refine (turn_any _ H.out hl).mono ?_; rintro e w1 ⟨rfl, hw1, F1⟩; rw [← H1.out] at hw1; have f1 := hw1.fb.cell (i := 0) rfl; have y2 := hw1.c2 hx; rw [Hy.out, ← Hre.out] at y2; replace hw1 := Lib.hid hw1; replace F1 := Lib.hid F1; clear f0 x3 x1 H)
      | (go_at_call 62; refine (turn_any _ hw1.out hr).mono ?_; rintro e w2 ⟨rfl, hw2, F2⟩; rw [← H2.out] at hw2; have f2 := hw2.fb.cell (i := 0) rfl; have y3 := hw2.c3 hx; have z3 := hw2.free (x * 9 + 3); replace hw2 := Lib.hid hw2; replace F2 := Lib.hid F2; clear f1 y2))
    go_end0
    have k1 := hw2.out.putN hx (j := 3) (by omega) (.bool false) (v := { V2 x with turned := false }) (fld9 rfl rfl rfl rfl rfl rfl rfl rfl rfl)
    have k2 := ((F1.out.trans F2.out (fun _ _ h => h)).setB (x * 9 + 3) (.bool false))
    exact ⟨rfl, k1, k2⟩
end Go.Proofs.Ytfeokafjehpgnaa
