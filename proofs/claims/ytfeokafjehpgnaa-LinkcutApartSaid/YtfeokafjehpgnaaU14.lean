/- A step of a script: what it makes of a forest; do, and the reference's Do. -/
import Derived.Test.YtfeokafjehpgnaaU13
namespace Go.Proofs.Ytfeokafjehpgnaa
open Go.RowKit
attribute [local go_sem ↓] Go.wp_at_zero Go.wp_at_succ
theorem rt_root {P : Nat → Nat} {v y : Nat} (h : Rt P v y) : P y = 0 := by
  obtain ⟨l, hl, hy⟩ := h
  have hc := hl.isChain
  cases l with
  | nil => simp at hy
  | cons a l => simp at hy; subst hy; exact hc.1
theorem rt_ex {n : Nat} {P : Nat → Nat} (hp : K.Par P (vts n)) {v : Nat} (hv : v < n) : ∃ l y, K.Way P (v + 1) l ∧ l.head? = some y := by
  obtain ⟨l, hl⟩ := hp.way _ (mem_succ hv)
  cases h : l with
  | nil => have := way_pos hl; rw [h] at this; simp at this
  | cons a l' => exact ⟨a :: l', a, h ▸ hl, rfl⟩
theorem rt_uniq {P : Nat → Nat} {v y z : Nat} (h : Rt P v y) (h' : Rt P v z) : y = z := by
  obtain ⟨l, hl, hy⟩ := h
  obtain ⟨l', hl', hz⟩ := h'
  have := hl.uniq hl'
  subst this
  rw [hy] at hz
  injection hz
theorem chain_ex : ∀ (r : List Nat) (u : Nat) (P : Nat → Nat), r.Nodup → ∃ P', K.Chain P' u r ∧ ∀ z, z ∉ r → P' z = P z
  | [], _, P, _ => ⟨P, trivial, fun _ _ => rfl⟩
  | x :: r, u, P, h => by
    rw [List.nodup_cons] at h
    obtain ⟨P1, h1, h2⟩ := chain_ex r x P h.2
    refine ⟨fun z => if z = x then u else P1 z, ⟨by simp, K.Chain.congr (fun z hz => ?_) h1⟩, fun z hz => ?_⟩
    · have : z ≠ x := fun e => h.1 (e ▸ hz)
      simp [this]
    · rw [List.mem_cons, not_or] at hz
      simp [hz.1, h2 z hz.2]
/-- What a step makes of a forest, and the error number. -/
inductive Stp (n : Nat) (P : Nat → Nat) (wt : Nat → Int) : Int → Int → Int → Int → (Nat → Nat) → (Nat → Int) → Prop
  | link_out {v u : Int} : (outB n v || outB n u) = true → Stp n P wt 1 v u 2 P wt
  | link_state {v u : Nat} : v < n → u < n → P (v + 1) ≠ 0 → Stp n P wt 1 v u 13 P wt
  | link_cycle {v u : Nat} : v < n → u < n → P (v + 1) = 0 → Rt P u (v + 1) → Stp n P wt 1 v u 16 P wt
  | link_ok {v u : Nat} {z : Nat} {P' : Nat → Nat} : v < n → u < n → P (v + 1) = 0 → Rt P u z → z ≠ v + 1 → P' (v + 1) = u + 1 → (∀ z ∈ vts n, z ≠ v + 1 → P' z = P z) → Stp n P wt 1 v u 0 P' wt
  | cut_out {v u : Int} : outB n v = true → Stp n P wt 2 v u 2 P wt
  | cut_state {v : Nat} {u : Int} : v < n → P (v + 1) = 0 → Stp n P wt 2 v u 13 P wt
  | cut_ok {v : Nat} {u : Int} {P' : Nat → Nat} : v < n → P (v + 1) ≠ 0 → P' (v + 1) = 0 → (∀ z ∈ vts n, z ≠ v + 1 → P' z = P z) → Stp n P wt 2 v u 0 P' wt
  | evert_out {v u : Int} : outB n v = true → Stp n P wt 3 v u 2 P wt
  | evert_ok {v : Nat} {u : Int} {l : List Nat} {P' : Nat → Nat} : v < n → K.Way P (v + 1) l → K.Chain P' 0 l.reverse → (∀ z ∈ vts n, z ∉ l → P' z = P z) → Stp n P wt 3 v u 0 P' wt
  | set_arg {v u : Int} : (decide (-1048576 ≤ u) && decide (u ≤ 1048576)) = false → Stp n P wt 4 v u 1 P wt
  | set_out {v u : Int} : (decide (-1048576 ≤ u) && decide (u ≤ 1048576)) = true → outB n v = true → Stp n P wt 4 v u 2 P wt
  | set_ok {v : Nat} {u : Int} : (decide (-1048576 ≤ u) && decide (u ≤ 1048576)) = true → v < n → Stp n P wt 4 v u 0 P (fun z => if z = v + 1 then u else wt z)
  | none {k v u : Int} : k ≠ 1 → k ≠ 2 → k ≠ 3 → k ≠ 4 → Stp n P wt k v u 0 P wt
theorem stp_ex {n : Nat} {P : Nat → Nat} (hp : K.Par P (vts n)) (wt : Nat → Int) (k v u : Int) : ∃ e P' wt', Stp n P wt k v u e P' wt' := by
  by_cases k1 : k = 1
  · subst k1
    cases hb : (outB n v || outB n u) with
    | true => exact ⟨_, _, _, .link_out hb⟩
    | false =>
      rw [Bool.or_eq_false_iff] at hb
      obtain ⟨v, rfl, hv⟩ := outB_false hb.1
      obtain ⟨u, rfl, hu⟩ := outB_false hb.2
      by_cases h0 : P (v + 1) = 0
      · obtain ⟨l, z, hl, hz⟩ := rt_ex hp hu
        by_cases hzv : z = v + 1
        · subst hzv; exact ⟨_, _, _, .link_cycle hv hu h0 ⟨l, hl, hz⟩⟩
        · exact ⟨_, _, _, .link_ok (P' := fun y => if y = v + 1 then u + 1 else P y) hv hu h0 ⟨l, hl, hz⟩ hzv (by simp) (fun y _ hy => by simp [hy])⟩
      · exact ⟨_, _, _, .link_state hv hu h0⟩
  · by_cases k2 : k = 2
    · subst k2
      cases hb : outB n v with
      | true => exact ⟨_, _, _, .cut_out hb⟩
      | false =>
        obtain ⟨v, rfl, hv⟩ := outB_false hb
        by_cases h0 : P (v + 1) = 0
        · exact ⟨_, _, _, .cut_state hv h0⟩
        · exact ⟨_, _, _, .cut_ok (P' := fun y => if y = v + 1 then 0 else P y) hv h0 (by simp) (fun y _ hy => by simp [hy])⟩
    · by_cases k3 : k = 3
      · subst k3
        cases hb : outB n v with
        | true => exact ⟨_, _, _, .evert_out hb⟩
        | false =>
          obtain ⟨v, rfl, hv⟩ := outB_false hb
          obtain ⟨l, y, hl, hy⟩ := rt_ex hp hv
          obtain ⟨P', h1, h2⟩ := chain_ex l.reverse 0 P ((List.reverse_perm l).nodup_iff.2 (way_all hp hl (mem_succ hv)).2)
          exact ⟨_, _, _, .evert_ok hv hl h1 (fun z _ hz => h2 z (fun e => hz (List.mem_reverse.1 e)))⟩
      · by_cases k4 : k = 4
        · subst k4
          cases hx : (decide (-1048576 ≤ u) && decide (u ≤ 1048576)) with
          | false => exact ⟨_, _, _, .set_arg hx⟩
          | true =>
            cases hb : outB n v with
            | true => exact ⟨_, _, _, .set_out hx hb⟩
            | false =>
              obtain ⟨v, rfl, hv⟩ := outB_false hb
              exact ⟨_, _, _, .set_ok hx hv⟩
        · exact ⟨_, _, _, .none k1 k2 k3 k4⟩
section
variable {w : World} {f b n : Nat} {s : Int} {P : Nat → Nat} {wt : Nat → Int}

theorem link_call (h : LF w f b n s P wt) (hs1 : 0 ≤ s) (hs2 : s ≤ 2305843009213660000) {v u e : Int} {P' : Nat → Nat} {wt' : Nat → Int} (hS : Stp n P wt 1 v u e P' wt') :
    Calls Try.prog 28 #[.pointer (some ⟨f, 0, none⟩), .int .i64 v, .int .i64 u] w fun r w' => r = .returned (.int .i64 e) ∧ Kp w w' f b n s 20000 P' wt' := by
  cases hS with
  | link_out hb => exact (Link_out h hb).mono (fun r w' hh => ⟨hh.1, (Kp.same h hh.2).mono (by omega)⟩)
  | link_state hv hu h0 =>
    obtain ⟨l, y, hl, hy⟩ := rt_ex h.par hv
    have hr : Rt P _ y := ⟨l, hl, hy⟩
    exact (Link_state h hs1 (by omega) hv hu hr (fun e => h0 (e ▸ rt_root hr))).mono (fun r w' hh => ⟨hh.1, hh.2.mono (by omega)⟩)
  | link_cycle hv hu h0 hz => exact (Link_cycle h hs1 (by omega) hv hu h0 hz).mono (fun r w' hh => ⟨hh.1, hh.2.mono (by omega)⟩)
  | link_ok hv hu h0 hz hzv h1 h2 => exact (Link_ok h hs1 (by omega) hv hu h0 hz hzv h1 h2).mono (fun r w' hh => ⟨hh.1, hh.2.mono (by omega)⟩)
  | none h1 => exact absurd rfl h1
theorem cut_call (h : LF w f b n s P wt) (hs1 : 0 ≤ s) (hs2 : s ≤ 2305843009213660000) {v u e : Int} {P' : Nat → Nat} {wt' : Nat → Int} (hS : Stp n P wt 2 v u e P' wt') :
    Calls Try.prog 29 #[.pointer (some ⟨f, 0, none⟩), .int .i64 v] w fun r w' => r = .returned (.int .i64 e) ∧ Kp w w' f b n s 20000 P' wt' := by
  cases hS with
  | cut_out hb => exact (Cut_out h hb).mono (fun r w' hh => ⟨hh.1, (Kp.same h hh.2).mono (by omega)⟩)
  | cut_state hv h0 => exact (Cut_state h hs1 (by omega) hv h0).mono (fun r w' hh => ⟨hh.1, hh.2.mono (by omega)⟩)
  | cut_ok hv h0 h1 h2 => exact (Cut_ok h hs1 (by omega) hv h0 h1 h2).mono (fun r w' hh => ⟨hh.1, hh.2.mono (by omega)⟩)
  | none _ h1 => exact absurd rfl h1
theorem evert_call (h : LF w f b n s P wt) (hs1 : 0 ≤ s) (hs2 : s ≤ 2305843009213660000) {v u e : Int} {P' : Nat → Nat} {wt' : Nat → Int} (hS : Stp n P wt 3 v u e P' wt') :
    Calls Try.prog 23 #[.pointer (some ⟨f, 0, none⟩), .int .i64 v] w fun r w' => r = .returned (.int .i64 e) ∧ Kp w w' f b n s 20000 P' wt' := by
  cases hS with
  | evert_out hb => exact (Evert_out h hb).mono (fun r w' hh => ⟨hh.1, (Kp.same h hh.2).mono (by omega)⟩)
  | evert_ok hv hl h1 h2 => exact (Evert_in h hs1 (by omega) hv ⟨_, hl, h1, h2, (way_all h.par hl (mem_succ hv)).1⟩).mono (fun r w' hh => ⟨hh.1, hh.2.mono (by omega)⟩)
  | none _ _ h1 => exact absurd rfl h1
theorem set_call (h : LF w f b n s P wt) (hs1 : 0 ≤ s) (hs2 : s ≤ 2305843009213660000) {v u e : Int} {P' : Nat → Nat} {wt' : Nat → Int} (hS : Stp n P wt 4 v u e P' wt') :
    Calls Try.prog 20 #[.pointer (some ⟨f, 0, none⟩), .int .i64 v, .int .i64 u] w fun r w' => r = .returned (.int .i64 e) ∧ Kp w w' f b n s 20000 P' wt' := by
  cases hS with
  | set_arg hx => exact (Set_arg w hx).mono (fun r w' hh => ⟨hh.1, hh.2 ▸ (Kp.same h (Fr.refl _ _)).mono (by omega)⟩)
  | set_out hx hb => exact (Set_out h hx hb).mono (fun r w' hh => ⟨hh.1, (Kp.same h hh.2).mono (by omega)⟩)
  | set_ok hx hv => exact (Set_ok h hs1 (by omega) hv hx).mono (fun r w' hh => ⟨hh.1, hh.2.mono (by omega)⟩)
  | none _ _ _ h1 => exact absurd rfl h1

theorem do_any (h : LF w f b n s P wt) (hs1 : 0 ≤ s) (hs2 : s ≤ 2305843009213660000) {k v u e : Int} {P' : Nat → Nat} {wt' : Nat → Int} (hS : Stp n P wt k v u e P' wt') :
    Calls Try.prog 39 #[.pointer (some ⟨f, 0, none⟩), .agg #[.int .i64 k, .int .i64 v, .int .i64 u]] w fun r w' => r = .returned (.int .i64 e) ∧ Kp w w' f b n s 20000 P' wt' := by
  have HL := Lib.hid h
  have hB := Blk.new w 60 [.int .i64 k, .int .i64 v, .int .i64 u]
  have b0 := hB.cell (i := 0) rfl
  have b1 := hB.cell (i := 1) rfl
  have b2 := hB.cell (i := 2) rfl
  have HS := Lib.hid hS
  clear h hB hS
  by_cases k1 : k = 1
  · subst k1
    go_enter Try.func39, Try.ntmps39
    go_wp2_with (go_at_call 28; refine (link_call (HL.out.fr0 ((Fr.refl _ _).alloc _)) hs1 hs2 HS.out).mono ?_; rintro r w1 ⟨rfl, K1⟩; replace K1 := Lib.hid K1)
    go_ret
    exact ⟨rfl, K1.out.pre ((Fr.refl _ _).alloc _)⟩
  by_cases k2 : k = 2
  · subst k2
    go_enter Try.func39, Try.ntmps39
    go_wp2_with (go_at_call 29; refine (cut_call (HL.out.fr0 ((Fr.refl _ _).alloc _)) hs1 hs2 HS.out).mono ?_; rintro r w1 ⟨rfl, K1⟩; replace K1 := Lib.hid K1)
    go_ret
    exact ⟨rfl, K1.out.pre ((Fr.refl _ _).alloc _)⟩
  by_cases k3 : k = 3
  · subst k3
    go_enter Try.func39, Try.ntmps39
    go_wp2_with (go_at_call 23; refine (evert_call (HL.out.fr0 ((Fr.refl _ _).alloc _)) hs1 hs2 HS.out).mono ?_; rintro r w1 ⟨rfl, K1⟩; replace K1 := Lib.hid K1)
    go_ret
    exact ⟨rfl, K1.out.pre ((Fr.refl _ _).alloc _)⟩
  by_cases k4 : k = 4
  · subst k4
    go_enter Try.func39, Try.ntmps39
    go_wp2_with (go_at_call 20; refine (set_call (HL.out.fr0 ((Fr.refl _ _).alloc _)) hs1 hs2 HS.out).mono ?_; rintro r w1 ⟨rfl, K1⟩; replace K1 := Lib.hid K1)
    go_ret
    exact ⟨rfl, K1.out.pre ((Fr.refl _ _).alloc _)⟩
  have hE : e = 0 ∧ P' = P ∧ wt' = wt := by
    cases HS.out with
    | none _ _ _ _ => exact ⟨rfl, rfl, rfl⟩
    | _ => simp at k1 k2 k3 k4
  obtain ⟨rfl, rfl, rfl⟩ := hE
  clear HS
  go_enter Try.func39, Try.ntmps39
  go_wp2_with fail
  go_ret
  exact ⟨rfl, (Kp.same HL.out ((Fr.refl _ _).alloc _)).mono (by omega)⟩
end
end Go.Proofs.Ytfeokafjehpgnaa
