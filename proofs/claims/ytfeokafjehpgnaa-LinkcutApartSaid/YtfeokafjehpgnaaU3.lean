/- A forest, as its parents and weights; root, evert; Root, Connected, Evert, pair. -/
import Derived.Test.YtfeokafjehpgnaaU1
import Derived.Test.YtfeokafjehpgnaaU2
import Derived.Test.YtfeokafjehpgnaaW20
namespace Go.Proofs.Ytfeokafjehpgnaa
open Go.RowKit
attribute [local go_sem ↓] Go.wp_at_zero Go.wp_at_succ
/-- A forest with these parents (0: none) and weights lies at f. -/
structure LF (w : World) (f b n : Nat) (s : Int) (P : Nat → Nat) (wt : Nat → Int) : Prop where
  par : K.Par P (vts n)
  wok : WOK n wt
  small : n ≤ 60
  ex : ∃ V F, FS w f b n s V ∧ K.Fo V P (vts n) F ∧ K.wt V = wt
theorem LF.fr {S : Nat → Prop} {w w' : World} {f b n : Nat} {s : Int} {P : Nat → Nat} {wt : Nat → Int} (h : LF w f b n s P wt) (F : Fr S w w') (h1 : ¬ S f) (h2 : ¬ S b) : LF w' f b n s P wt := by
  obtain ⟨V, T, k1, k2, k3⟩ := h.ex
  exact ⟨h.par, h.wok, h.small, V, T, k1.fr F h1 h2, k2, k3⟩
theorem LF.fr0 {w w' : World} {f b n : Nat} {s : Int} {P : Nat → Nat} {wt : Nat → Int} (h : LF w f b n s P wt) (F : Fr F0 w w') : LF w' f b n s P wt := h.fr F id id
theorem LF.bounds {w : World} {f b n : Nat} {s : Int} {P : Nat → Nat} {wt : Nat → Int} (h : LF w f b n s P wt) : f < w.heap.size ∧ b < w.heap.size := by
  obtain ⟨V, T, k1, k2, k3⟩ := h.ex
  exact ⟨k1.fb.lt, k1.ltb⟩
/-- The forest lies there behind, some steps later. -/
def Kp (w w' : World) (f b n : Nat) (s d : Int) (P : Nat → Nat) (wt : Nat → Int) : Prop := ∃ s', s ≤ s' ∧ s' ≤ s + d ∧ LF w' f b n s' P wt ∧ Fr (onFB f b) w w'
theorem Kp.mono {w w' : World} {f b n : Nat} {s d d' : Int} {P : Nat → Nat} {wt : Nat → Int} (h : Kp w w' f b n s d P wt) (hd : d ≤ d') : Kp w w' f b n s d' P wt := by
  obtain ⟨s', h1, h2, h3⟩ := h
  exact ⟨s', h1, by omega, h3⟩
theorem Kp.same {w w' : World} {f b n : Nat} {s : Int} {P : Nat → Nat} {wt : Nat → Int} (h : LF w f b n s P wt) (F : Fr F0 w w') : Kp w w' f b n s 0 P wt := ⟨s, by omega, by omega, h.fr0 F, F.mono (fun _ _ h => h.elim)⟩
theorem Kp.pre {w w1 w' : World} {f b n : Nat} {s d : Int} {P : Nat → Nat} {wt : Nat → Int} (F : Fr F0 w w1) (h : Kp w1 w' f b n s d P wt) : Kp w w' f b n s d P wt := by
  obtain ⟨s', h1, h2, h3, h4⟩ := h
  exact ⟨s', h1, h2, h3, (F.mono (S' := onFB f b) (fun _ _ h => h.elim)).trans h4 (fun _ _ h => h)⟩
theorem Kp.post {w w1 w' : World} {f b n : Nat} {s d : Int} {P : Nat → Nat} {wt : Nat → Int} (h : Kp w w1 f b n s d P wt) (F : Fr F0 w1 w') : Kp w w' f b n s d P wt := by
  obtain ⟨s', h1, h2, h3, h4⟩ := h
  exact ⟨s', h1, h2, h3.fr0 F, h4.trans0 F⟩
theorem m_le {n m : Nat} (hn : n ≤ 60) (h : m ≤ (n + 2) * n) : m ≤ 3720 := by
  have : (n + 2) * n ≤ 62 * 60 := Nat.mul_le_mul (by omega) hn
  omega
theorem m_le1 {n m : Nat} (hn : n ≤ 60) (h : m ≤ (n + 1) * n) : m ≤ 3720 := m_le hn (Nat.le_trans h (Nat.mul_le_mul_right n (by omega)))
section
variable {w : World} {f b n : Nat} {s : Int} {P : Nat → Nat} {wt : Nat → Int}
theorem LF.root (h : LF w f b n s P wt) (hs1 : 0 ≤ s) (hs2 : s ≤ 2305843009213693952) {x : Nat} (hx : x ∈ vts n) {l : List Nat} {y : Nat} (hl : K.Way P x l) (hy : l.head? = some y) :
    Calls Try.prog 50 #[.pointer (some ⟨f, 0, none⟩), .int .i64 x] w fun e w' => e = .returned (.int .i64 (y : Nat)) ∧ Kp w w' f b n s 3800 P wt := by
  obtain ⟨V, T, k1, k2, k3⟩ := h.ex
  have hG : ∀ V' T', K.Fo V' P (vts n) T' → K.wt V' = K.wt V → GV n V' := fun V' T' h1 h2 => gv_of h.small h.par h1 (by rw [h2, k3]; exact h.wok)
  obtain ⟨W, z, m, T', r1, r2, r3, r4, r5, l', r6, r7⟩ := K.root_run (G := GV n) h.par hG k2 hx
  have e1 : l = l' := hl.uniq r6
  subst e1
  have e2 : z = y := by rw [hy] at r7; injection r7 with e; exact e.symm
  subst e2
  rw [vts_length] at r1 r4
  have hm := m_le h.small r4
  have hx' := mem_vts.1 hx
  have hsm := h.small
  refine (root_any w k1 (hG V T k2 rfl) hx'.2 hx'.1 r1 (by omega) (by omega) (by omega)).mono ?_
  rintro e w' ⟨rfl, h1, h2⟩
  exact ⟨rfl, _, by omega, by omega, ⟨h.par, h.wok, h.small, W, T', h1, r2, r3.trans k3⟩, h2⟩
theorem LF.evert (h : LF w f b n s P wt) (hs1 : 0 ≤ s) (hs2 : s ≤ 2305843009213693952) {x : Nat} (hx : x ∈ vts n) {l : List Nat} (hl : K.Way P x l) {P' : Nat → Nat} (h1 : K.Chain P' 0 l.reverse) (h2 : ∀ z ∈ vts n, z ∉ l → P' z = P z) (hv : ∀ z ∈ l, z ∈ vts n) :
    Calls Try.prog 51 #[.pointer (some ⟨f, 0, none⟩), .int .i64 x] w fun e w' => e = .returned (.tuple #[]) ∧ Kp w w' f b n s 3800 P' wt := by
  obtain ⟨V, T, k1, k2, k3⟩ := h.ex
  have hG : ∀ V' T', K.Fo V' P (vts n) T' → K.wt V' = K.wt V → GV n V' := fun V' T' h1 h2 => gv_of h.small h.par h1 (by rw [h2, k3]; exact h.wok)
  obtain ⟨W, m, T', r1, r2, r3, r4⟩ := K.evert_run (G := GV n) h.par hG k2 hx hl h1 h2
  rw [vts_length] at r1 r4
  have hm := m_le1 h.small r4
  have hx' := mem_vts.1 hx
  have hsm := h.small
  refine (evert_any w k1 (hG V T k2 rfl) hx'.2 hx'.1 r1 (by omega) (by omega) (by omega)).mono ?_
  rintro e w' ⟨rfl, q1, q2⟩
  exact ⟨rfl, _, by omega, by omega, ⟨K.par_evert h.par hx hl hv h1 h2, h.wok, h.small, W, T', q1, r2, r3.trans k3⟩, q2⟩
theorem Kp.trans {w1 w2 : World} {d d' : Int} {P' P'' : Nat → Nat} {wt' wt'' : Nat → Int} (h : ∃ s1, s ≤ s1 ∧ s1 ≤ s + d ∧ LF w1 f b n s1 P' wt' ∧ Fr (onFB f b) w w1 ∧ Kp w1 w2 f b n s1 d' P'' wt'') : Kp w w2 f b n s (d + d') P'' wt'' := by
  obtain ⟨s1, h1, h2, h3, h4, s2, h5, h6, h7, h8⟩ := h
  exact ⟨s2, by omega, by omega, h7, h4.trans h8 (fun _ _ h => h)⟩
end
theorem rd1 (w : World) (v : Int) : Rd (w.alloc (.cells #[.int .i64 v] 3)) (some ⟨w.heap.size, 0, none⟩) 1 (ints [v]) :=
  (Own.lit (w := w) (B := 0) (T := 3) [.int .i64 v] 1 rfl (Nat.zero_le _) (by omega)).rd
theorem rd2 (w : World) (v u : Int) : Rd (w.alloc (.cells #[.int .i64 v, .int .i64 u] 3)) (some ⟨w.heap.size, 0, none⟩) 2 (ints [v, u]) :=
  (Own.lit (w := w) (B := 0) (T := 3) [.int .i64 v, .int .i64 u] 2 rfl (Nat.zero_le _) (by omega)).rd
theorem LF.check {w : World} {f b n : Nat} {s : Int} {P : Nat → Nat} {wt : Nat → Int} (h : LF w f b n s P wt) {a : Option Addr} {m c : Nat} {ps : List Int} (hp : Rd w a m (ints ps)) {r : Bool} (hr : ps.any (outB n) = r) :
    Calls Try.prog 47 #[.pointer (some ⟨f, 0, none⟩), .slice a m c] w fun e w' => e = .returned (.int .i64 (if r then 2 else 0)) ∧ Fr F0 w w' := by
  obtain ⟨V, T, k1, k2, k3⟩ := h.ex
  subst hr
  exact check_any w k1 hp
theorem outB_nat {n v : Nat} (h : v < n) : outB n (v : Int) = false := by
  unfold outB
  rw [decide_eq_false (by omega), decide_eq_false (by omega)]; rfl
theorem outB_false {n : Nat} {v : Int} (h : outB n v = false) : ∃ k : Nat, v = (k : Int) ∧ k < n := by
  unfold outB at h
  simp only [Bool.or_eq_false_iff, decide_eq_false_iff_not] at h
  exact ⟨v.toNat, by omega, by omega⟩
theorem mem_succ {n v : Nat} (h : v < n) : v + 1 ∈ vts n := mem_vts.2 ⟨by omega, by omega⟩
end Go.Proofs.Ytfeokafjehpgnaa
