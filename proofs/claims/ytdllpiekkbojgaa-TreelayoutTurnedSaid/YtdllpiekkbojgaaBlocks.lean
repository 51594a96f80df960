/- The walk of TreelayoutBlocks. -/
import Derived.Test.YtdllpiekkbojgaaV3
namespace Go.Proofs.Ytdllpiekkbojgaa
open Go.RowKit Go.Maps

theorem Inverse_some (a : Option Addr) (n c : Nat) (l out : List Int) (w : World) (hl : Rd w a n (ints l)) (h : invS l = some out) : Calls Try.prog 21 #[.slice a n c] w fun e w' => ∃ a' c', e = .returned (.tuple #[.slice a' n c', .int .i64 0]) ∧ Rd w' a' n (ints out) ∧ Fr F0 w w' :=
  (Inverse_any a n c l w hl).mono fun e w' hp => by
    rcases hp with ⟨a', c', o, h1, h2, h3, h4⟩ | ⟨h1, h2, h3⟩
    · rw [h] at h2; injection h2 with h2; subst h2; exact ⟨a', c', h1, h3.rd, h4⟩
    · rw [h] at h2; cases h2
theorem Inverse_none (a : Option Addr) (n c : Nat) (l : List Int) (w : World) (hl : Rd w a n (ints l)) (h : invS l = none) : Calls Try.prog 21 #[.slice a n c] w fun e w' => e = .returned (.tuple #[.slice none 0 0, .int .i64 1]) ∧ Fr F0 w w' :=
  (Inverse_any a n c l w hl).mono fun e w' hp => by
    rcases hp with ⟨a', c', o, h1, h2, h3, h4⟩ | ⟨h1, h2, h3⟩
    · rw [h] at h2; cases h2
    · exact ⟨h1, h3⟩
theorem refInverse_some (a : Option Addr) (n c : Nat) (l out : List Int) (w : World) (hl : Rd w a n (ints l)) (h : invS l = some out) : Calls Try.prog 23 #[.slice a n c] w fun e w' => ∃ a' c', e = .returned (.tuple #[.slice a' n c', .bool true]) ∧ Rd w' a' n (ints out) ∧ Fr F0 w w' :=
  (refInverse_any a n c l w hl).mono fun e w' hp => by
    rcases hp with ⟨a', c', o, h1, h2, h3, h4⟩ | ⟨h1, h2, h3⟩
    · rw [h] at h2; injection h2 with h2; subst h2; exact ⟨a', c', h1, h3.rd, h4⟩
    · rw [h] at h2; cases h2
theorem refInverse_none (a : Option Addr) (n c : Nat) (l : List Int) (w : World) (hl : Rd w a n (ints l)) (h : invS l = none) : Calls Try.prog 23 #[.slice a n c] w fun e w' => e = .returned (.tuple #[.slice none 0 0, .bool false]) ∧ Fr F0 w w' :=
  (refInverse_any a n c l w hl).mono fun e w' hp => by
    rcases hp with ⟨a', c', o, h1, h2, h3, h4⟩ | ⟨h1, h2, h3⟩
    · rw [h] at h2; cases h2
    · exact ⟨h1, h3⟩

/-- A call that returns one tuple, nothing old changed. -/
abbrev Ret (w : World) (v : Value) (e : Ending) (w' : World) : Prop := e = .returned v ∧ Fr F0 w w'

set_option maxHeartbeats 1000000 in
theorem LBlocks_long (a1 a2 : Option Addr) (n m c1 c2 : Nat) (l p : List Int) (s : Int) (w : World) (hl : Rd w a1 n (ints l)) (hp : Rd w a2 m (ints p)) (h : 100 < n ∨ 100 < m) :
    Calls Try.prog 5 #[.slice a1 n c1, .slice a2 m c2, .int .i64 s] w (Ret w (.bool true)) := by
  have hF0 : Fr F0 w (w.alloc (.cells #[.slice a1 n c1] 23)) := (Fr.refl _ _).alloc _
  have hm1 := hl.max
  have hm2 := hp.max
  by_cases h1 : 100 < n
  · go_enter Try.func5, Try.ntmps5
    go_wp2_with fail
    refine (awake_any _).mono ?_; rintro e w1 ⟨rfl, F1⟩
    have hc := ((One.new (w := w) 23 (.slice a1 n c1)).fr F1 (fun h => h)).cell
    have F := hF0.trans0 F1
    go_wp2_with fail
    go_ret
    exact ⟨rfl, F⟩
  · have h2 : 100 < m := by omega
    go_enter Try.func5, Try.ntmps5
    go_wp2_with fail
    refine (awake_any _).mono ?_; rintro e w1 ⟨rfl, F1⟩
    have hc := ((One.new (w := w) 23 (.slice a1 n c1)).fr F1 (fun h => h)).cell
    have F := hF0.trans0 F1
    go_wp2_with fail
    go_ret
    exact ⟨rfl, F⟩

set_option maxHeartbeats 1000000 in
theorem LBlocks_none (a1 a2 : Option Addr) (n m c1 c2 : Nat) (l p : List Int) (s : Int) (w : World) (hl : Rd w a1 n (ints l)) (hp : Rd w a2 m (ints p)) (h1 : n ≤ 100) (h2 : m ≤ 100) (hi : invS l = none) :
    Calls Try.prog 5 #[.slice a1 n c1, .slice a2 m c2, .int .i64 s] w (Ret w (.bool true)) := by
  have hF0 : Fr F0 w (w.alloc (.cells #[.slice a1 n c1] 23)) := (Fr.refl _ _).alloc _
  have Hi := Lib.hid hi
  have hbs : ∀ v, blocksS l p n s = v → Hid (blocksS l p n s = v) := fun v h => Lib.hid h
  have e1 : s < 1 → blocksS l p n s = (0, 2) := fun h => by unfold blocksS; rw [if_pos h]
  have e2 : ¬ s < 1 → blocksS l p n s = (0, 1) := fun h => by unfold blocksS; rw [if_neg h, if_pos hi]
  replace e1 := Lib.hid e1
  replace e2 := Lib.hid e2
  clear hi hbs
  by_cases hs : s < 1
  all_goals
    go_enter Try.func5, Try.ntmps5
    go_wp2_with fail
    refine (awake_any _).mono ?_; rintro e w1 ⟨rfl, F1⟩
    have hone := (One.new (w := w) 23 (.slice a1 n c1)).fr F1 (fun h => h)
    have hc := hone.cell
    have F := hF0.trans0 F1
    go_wp2_with fail
    refine (Inverse_none a1 n c1 l _ (hl.fr0 F) Hi.out).mono ?_; rintro e w2 ⟨rfl, F2⟩
    replace hone := hone.fr F2 (fun h => h)
    replace hc := hone.cell
    replace F := F.trans0 F2
    go_wp2_with fail
    refine (Blocks_any a1 a2 n m c1 c2 l p s _ (hl.fr0 F) (hp.fr0 F) (by omega)).mono ?_; rintro e w3 ⟨rfl, F3⟩
    replace hone := hone.fr F3 (fun h => h)
    replace hc := hone.cell
    replace F := F.trans0 F3
    first | rw [e1.out hs] | rw [e2.out hs]
    go_wp2_with fail
    refine (refInverse_none a1 n c1 l _ (hl.fr0 F) Hi.out).mono ?_; rintro e w4 ⟨rfl, F4⟩
    replace F := F.trans0 F4
    clear F1 F2 F3 F4
    go_wp2_with fail
    go_ret
    exact ⟨rfl, F⟩

set_option maxHeartbeats 2000000 in
theorem LBlocks_some (a1 a2 : Option Addr) (n m c1 c2 : Nat) (l p out : List Int) (s : Int) (w : World) (hl : Rd w a1 n (ints l)) (hp : Rd w a2 m (ints p)) (h1 : n ≤ 100) (h2 : m ≤ 100) (hi : invS l = some out) :
    Calls Try.prog 5 #[.slice a1 n c1, .slice a2 m c2, .int .i64 s] w (Ret w (.bool true)) := by
  have hF0 : Fr F0 w (w.alloc (.cells #[.slice a1 n c1] 23)) := (Fr.refl _ _).alloc _
  have hne : invS l ≠ none := by rw [hi]; simp
  have Hi := Lib.hid hi
  have e1 : s < 1 → blocksS l p n s = (0, 2) := fun h => by unfold blocksS; rw [if_pos h]
  have e2 : ¬ s < 1 → p.any (badB n) = true → blocksS l p n s = (0, 2) := fun h hb => by unfold blocksS; rw [if_neg h, if_neg hne, if_pos hb]
  have e3 : ¬ s < 1 → p.any (badB n) = false → blocksS l p n s = (((blocksN s (p.map (getI l)) : Nat) : Int), 0) := fun h hb => by unfold blocksS; rw [if_neg h, if_neg hne, hb]; rfl
  have hall : p.any (badB n) = false → ∀ x ∈ p, 0 ≤ x ∧ x < n := by
    intro hb x hx
    rw [List.any_eq_false] at hb
    have := hb x hx
    simp [badB] at this; omega
  replace e1 := Lib.hid e1
  replace e2 := Lib.hid e2
  replace e3 := Lib.hid e3
  replace hall := Lib.hid hall
  clear hi hne
  have hcs : (s < 1) ∨ (1 ≤ s ∧ p.any (badB n) = true) ∨ (1 ≤ s ∧ p.any (badB n) = false) := by
    cases p.any (badB n) <;> simp <;> omega
  rcases hcs with hs | ⟨hs, hb⟩ | ⟨hs, hb⟩
  all_goals
    first | (have E := Lib.hid (e1.out hs)) | (have E := Lib.hid (e2.out (by omega) hb); have Hb := Lib.hid hb; clear hb) | (have E := Lib.hid (e3.out (by omega) hb); have Hb := Lib.hid hb; have Hall := Lib.hid (hall.out hb); clear hb)
    clear e1 e2 e3 hall
    go_enter Try.func5, Try.ntmps5
    go_wp2_with fail
    refine (awake_any _).mono ?_; rintro e w1 ⟨rfl, F1⟩
    have hone := (One.new (w := w) 23 (.slice a1 n c1)).fr F1 (fun h => h)
    have hc := hone.cell
    have F := hF0.trans0 F1
    go_wp2_with fail
    refine (Inverse_some a1 n c1 l out _ (hl.fr0 F) Hi.out).mono ?_; rintro e w2 ⟨a3, c3, rfl, R3, F2⟩
    replace hone := hone.fr F2 (fun h => h)
    replace hc := hone.cell
    replace F := F.trans0 F2
    go_wp2_with fail
    refine (Blocks_any a1 a2 n m c1 c2 l p s _ (hl.fr0 F) (hp.fr0 F) (by omega)).mono ?_; rintro e w3 ⟨rfl, F3⟩
    replace hone := hone.fr F3 (fun h => h)
    replace hc := hone.cell
    replace F := F.trans0 F3
    replace R3 := R3.fr0 F3
    rw [E.out]
    go_wp2_with fail
    refine (refInverse_some a1 n c1 l out _ (hl.fr0 F) Hi.out).mono ?_; rintro e w4 ⟨a4, c4, rfl, R4, F4⟩
    replace hone := hone.fr F4 (fun h => h)
    replace hc := hone.cell
    replace F := F.trans0 F4
    replace R3 := R3.fr0 F4
    clear F1 F2 F3 F4
    go_wp2_with fail
    refine (Equal_any _ _ _ _ _ _ _ _ _ R3 R4).mono ?_; rintro e w5 ⟨rfl, q, rfl⟩
    rw [show decide (out = out) = true by simp]
    replace hone := hone.fr ((Fr.refl F0 _).drewN q) (fun h => h)
    replace hc := hone.cell
    replace F := F.drewN q
    clear R3 R4
    go_wp2_with fail
  · go_ret
    exact ⟨rfl, F⟩
  · refine (ContainsFunc_25 _ (badB n) a2 m c2 p _ (hp.fr0 F) (fun x => bad25 _ n c1 a1 x _ hone)).mono ?_; rintro e w6 ⟨rfl, rfl⟩
    rw [Hb.out]
    go_wp2_with fail
    go_ret
    exact ⟨rfl, F⟩
  · refine (ContainsFunc_25 _ (badB n) a2 m c2 p _ (hp.fr0 F) (fun x => bad25 _ n c1 a1 x _ hone)).mono ?_; rintro e w6 ⟨rfl, rfl⟩
    rw [Hb.out]
    go_wp2_with fail
    refine (refBlocks_any a1 a2 n m c1 c2 l p s _ (hl.fr0 F) (hp.fr0 F) Hall.out (by omega) hs).mono ?_; rintro e w7 ⟨rfl, F7⟩
    go_wp2_with fail
    go_ret
    exact ⟨ret_bool (by simp), F.trans0 F7⟩

theorem LBlocks_any (a1 : Option Addr) (n c1 : Nat) (l : List Int) (a2 : Option Addr) (m c2 : Nat) (p : List Int) (s : Int) (w : World) (hl : ArgInts w a1 n l) (hp : ArgInts w a2 m p) :
    Calls Try.prog 5 #[.slice a1 n c1, .slice a2 m c2, .int .i64 s] w (Ret w (.bool true)) := by
  by_cases h : 100 < n ∨ 100 < m
  · exact LBlocks_long a1 a2 n m c1 c2 l p s w hl.rd hp.rd h
  · cases hi : invS l with
    | none => exact LBlocks_none a1 a2 n m c1 c2 l p s w hl.rd hp.rd (by omega) (by omega) hi
    | some out => exact LBlocks_some a1 a2 n m c1 c2 l p out s w hl.rd hp.rd (by omega) (by omega) hi

end Go.Proofs.Ytdllpiekkbojgaa
