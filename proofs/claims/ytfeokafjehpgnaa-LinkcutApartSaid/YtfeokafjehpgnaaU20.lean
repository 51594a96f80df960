/- What the laws share. -/
import Derived.Test.YtfeokafjehpgnaaU19
namespace Go.Proofs.Ytfeokafjehpgnaa
open Go.RowKit
attribute [local go_sem ↓] Go.wp_at_zero Go.wp_at_succ
/-- In a law: the forest, its reference, and the box in which that lies. -/
structure LS (w W : World) (f b B n : Nat) (s : Int) (P : Nat → Nat) (wt : Nat → Int) (wa : Option Addr) (wc : Nat) (pa : Option Addr) (pc mb : Nat) : Prop where
  fr : FR w W f b B n s P wt wa wc pa pc
  mbk : Blk W mb 28 [.slice wa n wc, .slice pa n pc]
  nf : mb ≠ f
  nb : mb ≠ b
section
variable {w W W' : World} {f b B n mb : Nat} {s d : Int} {P P' : Nat → Nat} {wt wt' : Nat → Int} {wa : Option Addr} {wc : Nat} {pa : Option Addr} {pc : Nat}
theorem LS.fr0 (h : LS w W f b B n s P wt wa wc pa pc mb) (F : Fr F0 W W') : LS w W' f b B n s P wt wa wc pa pc mb := ⟨h.fr.fr0 F, h.mbk.fr F id, h.nf, h.nb⟩
theorem LS.kp (h : LS w W f b B n s P wt wa wc pa pc mb) (hk : Kp W W' f b n s d P wt) : ∃ s', s ≤ s' ∧ s' ≤ s + d ∧ LS w W' f b B n s' P wt wa wc pa pc mb := by
  have hk' := hk
  obtain ⟨_, _, _, _, F⟩ := hk'
  obtain ⟨s', h1, h2, h3⟩ := h.fr.kp hk h.fr.rs
  exact ⟨s', h1, h2, h3, h.mbk.fr F (fun e => by rcases e with e | e; exact h.nf e; exact h.nb e), h.nf, h.nb⟩
theorem FR.start (h : FR w W f b B n s P wt wa wc pa pc) : LS w (W.alloc (.cells #[.slice wa n wc, .slice pa n pc] 28)) f b B n s P wt wa wc pa pc W.heap.size := by
  have h1 := h.fB
  have h2 := h.bB
  have h3 := h.BW
  exact ⟨h.fr0 ((Fr.refl _ _).alloc _), Blk.new _ _ _, by omega, by omega⟩
end
theorem conn_eq (r z : Nat) : (decide (r = z) == (((r : Int) - 1) == ((z : Int) - 1))) = true := by
  by_cases e : r = z
  · subst e; simp
  · have h : ((r : Int) - 1) ≠ ((z : Int) - 1) := by omega
    rw [beq_eq_false_iff_ne.2 h]
    simp [e]
/-- What comes first in each law. -/
theorem cases_of {n m : Nat} {ws : List Int} (h : manyB n m = false) (hb : ws.any badW = false) (hn : ¬ 1000 < n) : n ≤ 60 ∧ m ≤ 80 := by
  unfold manyB at h
  simp at h
  omega
theorem Parent_any {w : World} {f b n : Nat} {s : Int} {P : Nat → Nat} {wt : Nat → Int} (h : LF w f b n s P wt) (hs1 : 0 ≤ s) (hs2 : s ≤ 2305843009213690000) {v : Nat} (hv : v < n) :
    Calls Try.prog 27 #[.pointer (some ⟨f, 0, none⟩), .int .i64 (v : Nat)] w fun e w' => e = .returned (.tuple #[.int .i64 ((P (v + 1) : Nat) - 1), .int .i64 0]) ∧ Kp w w' f b n s 3900 P wt := by
  by_cases h0 : P (v + 1) = 0
  · rw [h0]
    exact (Parent_root h hs1 hs2 hv h0).mono (fun e w' hh => ⟨hh.1, hh.2.mono (by omega)⟩)
  · exact Parent_ok h hs1 hs2 hv h0
theorem Depth_any {w : World} {f b n : Nat} {s : Int} {P : Nat → Nat} {wt : Nat → Int} (h : LF w f b n s P wt) (hs1 : 0 ≤ s) (hs2 : s ≤ 2305843009213690000) {v : Nat} (hv : v < n) {l : List Nat} (hl : K.Way P (v + 1) l) {m : Nat} (hm : l.length = m + 1) :
    Calls Try.prog 25 #[.pointer (some ⟨f, 0, none⟩), .int .i64 (v : Nat)] w fun e w' => e = .returned (.tuple #[.int .i64 (m : Nat), .int .i64 0]) ∧ Kp w w' f b n s 3800 P wt := by
  have := Depth_in h hs1 hs2 hv hl
  rwa [hm] at this
theorem LF.len {w : World} {f b n : Nat} {s : Int} {P : Nat → Nat} {wt : Nat → Int} (h : LF w f b n s P wt) : Calls Try.prog 31 #[.pointer (some ⟨f, 0, none⟩)] w fun e w' => e = .returned (.int .i64 (n : Nat)) ∧ w = w' := by
  obtain ⟨V, T, k1, k2, k3⟩ := h.ex
  exact Len_any w k1
theorem Up_len {w : World} {B n : Nat} {wt : Nat → Int} {P : Nat → Nat} {wa pa : Option Addr} {wc pc : Nat} (hp : K.Par P (vts n)) (h : RS w B n wt P wa wc pa pc) {v : Nat} (hv : v < n) (hn : n ≤ 60) {l : List Nat} (hl : K.Way P (v + 1) l) {m : Nat} (hm : l.length = m + 1) :
    Calls Try.prog 33 #[rv n wa wc pa pc, .int .i64 (v : Nat)] w fun e w' => ∃ a c, e = .returned (.slice a (m + 1) c) ∧ Fr F0 w w' := by
  have := Up_v hp h hv hn hl
  rw [hm] at this
  exact this.mono (fun e w' ⟨a, c, h1, _, h3⟩ => ⟨a, c, h1, h3⟩)

end Go.Proofs.Ytfeokafjehpgnaa
