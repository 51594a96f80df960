/- Sum and Search. -/
import Derived.Test.YtdihajeccjdhkaaA11
namespace Go.Proofs.Ytdihajeccjdhkaa
open Go.RowKit
attribute [local go_sem ↓] Go.wp_at_zero Go.wp_at_succ
/-- What Sum answers. -/
def sumS (xs : List Int) (f g : Int) : Int × Int := if f < 0 ∨ g < f ∨ (xs.length : Int) < g then (0, 2) else (preS xs g.toNat - preS xs f.toNat, 0)
def PairQ (R : Int × Int) (w : World) (e : Ending) (w' : World) : Prop := e = .returned (.tuple #[.int .i64 R.1, .int .i64 R.2]) ∧ ∃ q, w' = w.drewN q
set_option maxHeartbeats 2000000 in
theorem Sum_any {t : Tr} {p : Option Addr} {w : World} (h : TrM w t p) (hf : Fit t) (f g : Int) : Calls Try.prog 14 #[.pointer p, .int .i64 f, .int .i64 g] w (PairQ (sumS t.list f g) w) := by
  have hlen := Len_any h
  obtain ⟨b, pr, rfl, ⟨hc, _⟩, ht⟩ := h
  obtain ⟨L, hL⟩ : ∃ L, L = t.len := ⟨_, rfl⟩
  rw [← hL] at hlen
  have hLl : t.list.length = L := hL.symm
  have Hlen := Lib.hid hlen
  obtain ⟨R, hR⟩ : ∃ R, R = sumS t.list f g := ⟨_, rfl⟩
  rw [← hR]
  unfold sumS at hR
  rw [hLl] at hR
  have HR := Lib.hid hR
  clear hlen hR
  by_cases h1 : f < 0
  · have e := HR.out
    rw [if_pos (.inl h1)] at e
    clear HR
    subst e
    go_enter Try.func14, Try.ntmps14
    go_wp2_with fail
    go_ret2
    exact ⟨rfl, 0, rfl⟩
  · by_cases h2 : g < f
    · have e := HR.out
      rw [if_pos (.inr (.inl h2))] at e
      clear HR
      subst e
      go_enter Try.func14, Try.ntmps14
      go_wp2_with fail
      go_ret2
      exact ⟨rfl, 0, rfl⟩
    · by_cases h3 : (L : Int) < g
      · have e := HR.out
        rw [if_pos (.inr (.inr h3))] at e
        clear HR
        subst e
        go_enter Try.func14, Try.ntmps14
        go_wp2_with fail
        refine Hlen.out.mono ?_; rintro e w1 ⟨rfl, rfl⟩
        go_wp2_with fail
        go_ret2
        exact ⟨rfl, 0, rfl⟩
      · obtain ⟨m, rfl⟩ := Int.eq_ofNat_of_zero_le (show 0 ≤ f by omega)
        obtain ⟨n, rfl⟩ := Int.eq_ofNat_of_zero_le (show 0 ≤ g by omega)
        have e := HR.out
        rw [if_neg (by omega), Int.toNat_natCast, Int.toNat_natCast] at e
        clear HR
        have b1 := preS_bound hf.small hf.len m
        have b2 := preS_bound hf.small hf.len n
        have c1 := Lib.hid (fun q => qmore (v := .int .i64 (preS t.list m)) (w := w) (fun q => prefix_any (i := m) (ht.fr0 ((Fr.refl F0 w).drewN q)) hf (by omega)) q)
        have c2 := Lib.hid (fun q => qmore (v := .int .i64 (preS t.list n)) (w := w) (fun q => prefix_any (i := n) (ht.fr0 ((Fr.refl F0 w).drewN q)) hf (by omega)) q)
        generalize preS t.list m = v1 at *
        generalize preS t.list n = v2 at *
        have hw : IntKind.i64.wrap (v2 - v1) = v2 - v1 := wI2 (by omega) (by omega)
        subst e
        have h2' : m ≤ n := by omega
        have h3' : n ≤ L := by omega
        clear h1 h2 h3 ht hf hL hLl
        go_enter Try.func14, Try.ntmps14
        go_wp2_with fail
        refine Hlen.out.mono ?_; rintro e w1 ⟨rfl, rfl⟩
        go_wp2_with fail
        go_quiet (first | (go_at_call 41; with_reducible exact c2.out _) | (go_at_call 41; with_reducible exact c1.out _) | fail)
        go_wp2_with fail
        go_ret2
        exact ⟨rfl, nq, rfl⟩
/-- What Search answers. -/
def searchS (xs : List Int) (s : Int) : Int × Int := if s ≤ 0 then (0, 0) else match fg xs s with
  | none => (0, 12)
  | some k => ((k : Nat), 0)
theorem fg_sum {l : List Int} {s : Int} (h : s ≤ l.sum) : (fg l s).isSome = true := by
  induction l generalizing s with
  | nil => simp at h; simp [fg, h]
  | cons y l ih =>
    by_cases h0 : s ≤ 0
    · rw [fg_le _ h0]; rfl
    · rw [fg_cons _ _ (by omega), Option.isSome_map]
      rw [List.sum_cons] at h
      exact ih (by omega)
theorem fg_lt {l : List Int} {s : Int} {k : Nat} (h : fg l s = some k) : k ≤ l.length := by
  induction l generalizing s k with
  | nil => simp only [fg] at h; split at h <;> simp at h; omega
  | cons y l ih =>
    by_cases h0 : s ≤ 0
    · rw [fg_le _ h0] at h; injection h with h; omega
    · rw [fg_cons _ _ (by omega)] at h
      cases h1 : fg l (s - y) with
      | none => rw [h1] at h; cases h
      | some j => rw [h1] at h; injection h with h; have := ih h1; simp only [List.length_cons]; simp only at h; omega
/-- Not in the left part. -/
theorem fg_go {l r : Tr} {x s : Int} {k : Nat} (hs : 0 < s) (h : fg (Tr.nd l x r).list s = some k) (hn : fg l.list s = none) : 0 < s - l.sum ∧ ∃ j, fg (x :: r.list) (s - l.sum) = some j ∧ k = j + l.len := by
  unfold Tr.list at h
  rw [fg_append_none _ hn] at h
  have e : s - l.list.sum = s - l.sum := rfl
  rw [e] at h
  refine ⟨?_, ?_⟩
  · rcases Int.lt_or_le 0 (s - l.sum) with h1 | h1
    · exact h1
    · have h2 := fg_sum (l := l.list) (s := s) (by have : l.list.sum = l.sum := rfl; omega)
      rw [hn] at h2; cases h2
  · cases h1 : fg (x :: r.list) (s - l.sum) with
    | none => rw [h1] at h; cases h
    | some j => rw [h1] at h; injection h with h; exact ⟨j, rfl, h.symm⟩
end Go.Proofs.Ytdihajeccjdhkaa
