/- The inverse of a permutation: treelayout's and the reference's. -/
import Derived.Test.YtdllpiekkbojgaaT2
namespace Go.Proofs.Ytdllpiekkbojgaa
open Go.RowKit Go.Maps

def invOk (out : List Int) (p : Int) : Prop := 0 ≤ p ∧ p < out.length ∧ out.getD p.toNat 0 < 0
instance (out : List Int) (p : Int) : Decidable (invOk out p) := by unfold invOk; exact inferInstance
def invK (l : List Int) : Nat → Option (List Int)
  | 0 => some (List.replicate l.length (-1))
  | k + 1 => match invK l k with
    | none => none
    | some out => if invOk out (l.getD k 0) then some (out.set (l.getD k 0).toNat k) else none
def invS (l : List Int) : Option (List Int) := if 65536 ≤ l.length then none else invK l l.length

theorem invK_len {l : List Int} : ∀ {k : Nat} {out : List Int}, invK l k = some out → out.length = l.length := by
  intro k
  induction k with
  | zero => intro out h; simp [invK] at h; subst h; simp
  | succ k ih =>
    intro out h
    unfold invK at h
    split at h
    · cases h
    · rename_i o ho
      split at h
      · injection h with h; subst h; simp [ih ho]
      · cases h
theorem invK_none {l : List Int} {k : Nat} (h : invK l k = none) : ∀ m, k ≤ m → invK l m = none := by
  intro m hm
  induction m with
  | zero => have : k = 0 := by omega
            subst this; exact h
  | succ m ih =>
    by_cases e : k = m + 1
    · subst e; exact h
    · unfold invK; rw [ih (by omega)]
theorem invK_step {l : List Int} {k : Nat} {out : List Int} (h : invK l k = some out) {p : Int} (hp : l[k]? = some p) : invK l (k + 1) = if invOk out p then some (out.set p.toNat k) else none := by
  have e : l.getD k 0 = p := by simp [hp]
  rw [invK, h]
  simp only [e]
theorem countP_set {out : List Int} {i : Nat} {x : Int} (hi : i < out.length) (h0 : out[i] < 0) (hx : 0 ≤ x) : (out.set i x).countP (fun y => decide (0 ≤ y)) = out.countP (fun y => decide (0 ≤ y)) + 1 := by
  induction out generalizing i with
  | nil => simp at hi
  | cons a out ih =>
    cases i with
    | zero =>
      simp at h0
      simp [List.countP_cons, hx, show ¬ 0 ≤ a by omega]
    | succ i =>
      simp at h0 hi
      simp only [List.set_cons_succ, List.countP_cons]
      rw [ih hi h0]
      omega
theorem invK_count {l : List Int} : ∀ {k : Nat} {out : List Int}, invK l k = some out → out.countP (fun y => decide (0 ≤ y)) = k := by
  intro k
  induction k with
  | zero => intro out h; simp [invK] at h; subst h; simp
  | succ k ih =>
    intro out h
    unfold invK at h
    split at h
    · cases h
    · rename_i o ho
      split at h
      · rename_i hk
        obtain ⟨h1, h2, h3⟩ := hk
        injection h with h; subst h
        have hlt : (l.getD k 0).toNat < o.length := by omega
        rw [countP_set hlt (by rw [List.getD_eq_getElem?_getD (a := 0), List.getElem?_eq_getElem hlt] at h3; exact h3) (by omega), ih ho]
      · cases h
theorem invK_all {l : List Int} {out : List Int} (h : invK l l.length = some out) : ∀ x ∈ out, 0 ≤ x := by
  have h1 := invK_count h
  have h2 := invK_len h
  have h3 : out.countP (fun y => decide (0 ≤ y)) = out.length := by omega
  have h4 := List.countP_eq_length.1 h3
  intro x hx
  simpa using h4 x hx
def relu (x : Int) : Int := if 0 ≤ x then x else 0
theorem map_relu {out : List Int} (h : ∀ x ∈ out, 0 ≤ x) : out.map relu = out := by
  rw [List.map_congr_left (g := id)]
  · simp
  · intro x hx; simp [relu, h x hx]

theorem Own.lens {w : World} {B T n c : Nat} {a : Option Addr} {xs : List Int} (h : Own w B T a n c (ints xs)) : xs.length = n := by simpa using h.len

set_option maxHeartbeats 1000000 in
set_option maxRecDepth 100000 in
theorem inverse_big (a : Option Addr) (n c : Nat) (l : List Int) (w : World) (hl : Rd w a n (ints l)) (hn : 65536 ≤ n) :
    Calls Try.prog 41 #[.slice a n c] w fun e w' => e = .returned (.tuple #[.slice none 0 0, .bool false]) ∧ invS l = none ∧ w = w' := by
  have hll : l.length = n := by simpa using hl.len
  have H : Hid (invS l = none) := Lib.hid (by unfold invS; rw [if_pos (by omega)])
  have hb : decide (65536 ≤ (n : Int)) = true := by simp; omega
  have hm := hl.max
  clear hll hn
  go_enter Try.func41, Try.ntmps41
  go_wp2_with fail
  go_ret2
  exact ⟨rfl, H.out, rfl⟩

/-- What inverse returns. -/
def InvPost (w : World) (l : List Int) (n : Nat) (e : Ending) (w' : World) : Prop :=
  (∃ a c out, e = .returned (.tuple #[.slice a n c, .bool true]) ∧ invS l = some out ∧ Own w' w.heap.size 3 a n c (ints out) ∧ Fr F0 w w') ∨
  (e = .returned (.tuple #[.slice none 0 0, .bool false]) ∧ invS l = none ∧ Fr F0 w w')

set_option maxHeartbeats 2000000 in
set_option maxRecDepth 100000 in
theorem inverse_small (a : Option Addr) (n c : Nat) (l : List Int) (w : World) (hl : Rd w a n (ints l)) (hn : n ≤ 65535) :
    Calls Try.prog 41 #[.slice a n c] w (InvPost w l n) := by
  have hll : l.length = n := by simpa using hl.len
  have Hll := Lib.hid hll
  have His : Hid (invS l = invK l n) := Lib.hid (by unfold invS; rw [if_neg (by omega), hll])
  clear hll
  have hmk := run_mk E3 rfl n (by omega) (by omega)
  have hO := Own.made (w := w) (B := w.heap.size) (T := 3) (z := .int .i64 0) n (by omega) (by omega)
  replace hO := Lib.hid hO
  have hb : decide (65536 ≤ (n : Int)) = false := by simp; omega
  have Hn := Lib.hid hn
  clear hn
  go_enter Try.func41, Try.ntmps41
  go_wp2_with fail
  clear hmk
  replace hn := Hn.out
  have hn1 : n ≤ 1000000 := by omega
  clear hn
  go_loopw [16] (fun i wr => ∃ (k : Nat) (xs : List Int), k ≤ n ∧ i = .int .i64 k ∧ Hid (xs = List.replicate k (-1) ++ List.replicate (n - k) 0) ∧ Own wr w.heap.size 3 (some ⟨w.heap.size, 0, none⟩) n n (ints xs) ∧ Fr F0 w wr) (fun i _ => n - (intOf i).toNat)
  case atStart => exact ⟨0, _, Nat.zero_le _, rfl, Lib.hid rfl, by simpa using hO.out, (Fr.refl _ _).alloc _⟩
  case round =>
    obtain ⟨k, xs, hk, rfl, hxs, hown, hnx⟩ := hrel
    by_cases hlt : k < n
    · obtain ⟨⟨y, hy, _⟩, hz⟩ := own_facts hown hlt
      replace hown := Lib.hid hown
      replace hnx := Lib.hid hnx
      go_wp2_with fail
      go_roundw
      case rel =>
        refine ⟨k + 1, xs.set k (-1), by omega, by go_num, Lib.hid ?_, ?_, hnx.out.setCell (fun h => by simp at h) _⟩
        · rw [hxs.out, List.set_append_right _ _ (by simp), List.length_replicate, Nat.sub_self, List.replicate_succ' , show n - k = (n - (k + 1)) + 1 by omega, List.replicate_succ (n := n - (k + 1))]; simp
        · simpa [List.map_set] using hown.out.set (i := k) (.int .i64 (-1))
      case measure => simp [intOf]; omega
    · obtain rfl : n = k := by omega
      have e0 : xs = List.replicate l.length (-1) := by rw [hxs.out, Hll.out]; simp
      subst e0
      replace hown := Lib.hid hown
      replace hnx := Lib.hid hnx
      clear hO hk
      obtain ⟨wo, rfl⟩ : ∃ wo : World, wo = wr := ⟨_, rfl⟩
      go_wp2_with fail
      go_loopw [25] (fun i wr => ∃ (k : Nat) (out : List Int), k ≤ n ∧ i = .int .i64 k ∧ Hid (invK l k = some out) ∧ Own wr w.heap.size 3 (some ⟨w.heap.size, 0, none⟩) n n (ints out) ∧ Fr F0 w wr) (fun i _ => n - (intOf i).toNat)
      case atStart => exact ⟨0, _, Nat.zero_le _, rfl, Lib.hid rfl, hown.out, hnx.out⟩
      case round =>
        obtain ⟨k, out, hk, rfl, hinv, hO, hF⟩ := hrel
        have hol : out.length = n := hO.lens
        by_cases hlt : k < n
        · have hll := Hll.out
          obtain ⟨x, hx⟩ : ∃ x, l[k]? = some x := ⟨l[k], by simp [hll, hlt]⟩
          have hstep := invK_step hinv.out hx
          obtain ⟨b1, o1, hb1, hc1⟩ := (hl.fr0 hF).cells (by omega)
          subst hb1
          have d1 := hc1 k (.int .i64 x) (by simp [hx])
          by_cases hok : invOk out x
          · have h1 := hok.1
            have h2 : x < n := by have := hok.2.1; omega
            obtain ⟨⟨y, hy, hy2⟩, hz⟩ := own_facts hO (v := x.toNat) (by omega)
            have h3 : y < 0 := by have := hok.2.2; simpa [hy2] using this
            rw [if_pos hok] at hstep
            replace hstep := Lib.hid hstep
            replace hO := Lib.hid hO
            replace hF := Lib.hid hF
            clear hc1 hx hll hok hol hy2
            go_wp2_with fail
            go_roundw
            case rel =>
              refine ⟨k + 1, _, by omega, by go_num, Lib.hid hstep.out, ?_, hF.out.setCell (fun h => by simp at h) _⟩
              simpa [List.map_set] using hO.out.set (i := x.toNat) (.int .i64 (k : Int))
            case measure => simp [intOf]; omega
          · rw [if_neg hok] at hstep
            have hnone : invS l = none := by rw [His.out]; exact invK_none hstep n (by omega)
            replace hnone := Lib.hid hnone
            unfold invOk at hok
            by_cases h1 : x < 0
            · replace hO := Lib.hid hO
              replace hF := Lib.hid hF
              clear hc1 hx hll hok hol hstep
              go_wp2_with fail
              go_ret2
              exact .inr ⟨rfl, hnone.out, hF.out⟩
            · by_cases h2 : (n : Int) ≤ x
              · replace hO := Lib.hid hO
                replace hF := Lib.hid hF
                clear hc1 hx hll hok hol hstep
                go_wp2_with fail
                go_ret2
                exact .inr ⟨rfl, hnone.out, hF.out⟩
              · obtain ⟨⟨y, hy, hy2⟩, hz⟩ := own_facts hO (v := x.toNat) (by omega)
                have h3 : 0 ≤ y := by
                  simp [hy2] at hok; omega
                replace hO := Lib.hid hO
                replace hF := Lib.hid hF
                clear hc1 hx hll hok hol hstep hy2
                go_wp2_with fail
                go_ret2
                exact .inr ⟨rfl, hnone.out, hF.out⟩
        · obtain rfl : n = k := by omega
          replace hO := Lib.hid hO
          replace hF := Lib.hid hF
          clear hol
          go_wp2_with fail
          go_ret2
          exact .inl ⟨_, _, out, rfl, by rw [His.out]; exact hinv.out, hO.out, hF.out⟩

theorem inverse_any (a : Option Addr) (n c : Nat) (l : List Int) (w : World) (hl : Rd w a n (ints l)) : Calls Try.prog 41 #[.slice a n c] w (InvPost w l n) := by
  by_cases hn : n ≤ 65535
  · exact inverse_small a n c l w hl hn
  · exact (inverse_big a n c l w hl (by omega)).mono fun e w' ⟨h1, h2, h3⟩ => .inr ⟨h1, h2, h3 ▸ Fr.refl _ _⟩

/-- What Inverse returns. -/
def InvPost2 (w : World) (l : List Int) (n : Nat) (e : Ending) (w' : World) : Prop :=
  (∃ a c out, e = .returned (.tuple #[.slice a n c, .int .i64 0]) ∧ invS l = some out ∧ Own w' w.heap.size 3 a n c (ints out) ∧ Fr F0 w w') ∨
  (e = .returned (.tuple #[.slice none 0 0, .int .i64 1]) ∧ invS l = none ∧ Fr F0 w w')
theorem Inverse_any (a : Option Addr) (n c : Nat) (l : List Int) (w : World) (hl : Rd w a n (ints l)) : Calls Try.prog 21 #[.slice a n c] w (InvPost2 w l n) := by
  go_enter Try.func21, Try.ntmps21
  go_wp2_with fail
  refine (inverse_any a n c l w hl).mono ?_
  rintro e w1 (⟨a1, c1, out, rfl, h1, h2, h3⟩ | ⟨rfl, h1, h2⟩)
  · replace h1 := Lib.hid h1
    replace h2 := Lib.hid h2
    go_wp2_with fail
    go_ret2
    exact .inl ⟨_, _, out, rfl, h1.out, h2.out, h3⟩
  · replace h1 := Lib.hid h1
    go_wp2_with fail
    go_ret2
    exact .inr ⟨rfl, h1.out, h2⟩

end Go.Proofs.Ytdllpiekkbojgaa
