/- The reference's Count, inorder, preorder, emde, Layout. -/
import Derived.Test.YtdllpiekkbojgaaL3
namespace Go.Proofs.Ytdllpiekkbojgaa
open Go.RowKit

set_option maxHeartbeats 400000 in
theorem Count_any (h : Nat) (hi : Int) (w : World) (hhi : hi = h) (h2 : h ≤ 40) :
    Calls Try.prog 14 #[.int .i64 hi] w fun e w' => e = .returned (.int .i64 (cnt h)) ∧ w = w' := by
  subst hhi
  have hb : ∀ k, k ≤ h → (1 : Nat) ≤ 2 ^ k ∧ 2 ^ k ≤ 1099511627776 := fun k hk =>
    ⟨Nat.one_le_two_pow, by have := Nat.pow_le_pow_right (n := 2) (by omega) (show k ≤ 40 by omega); simpa using this⟩
  have Hb := Lib.hid hb
  clear hb
  go_enter Try.func14, Try.ntmps14
  go_wp2_with fail
  go_loop [3, 4] (fun n i => ∃ k m : Nat, k ≤ h ∧ Hid (m = 2 ^ k) ∧ i = .int .i64 k ∧ n = .int .i64 m) (fun _ i => h - (intOf i).toNat)
  case atStart => exact ⟨0, 1, by omega, Lib.hid rfl, rfl, rfl⟩
  case round =>
    obtain ⟨k, m, hk, hm, rfl, rfl⟩ := hrel
    have h3 : 1 ≤ m ∧ m ≤ 1099511627776 := by rw [hm.out]; exact Hb.out k hk
    obtain ⟨h4, h5⟩ := h3
    by_cases hlt : k < h
    · go_wp2_with fail
      go_round
      case rel => exact ⟨k + 1, m * 2, by omega, Lib.hid (by rw [hm.out, Nat.pow_succ]), by go_num, by go_num⟩
      case measure => simp [intOf]; omega
    · have hkm : k = h := by omega
      subst hkm
      go_wp2_with fail
      go_ret
      exact ⟨ret_int (by unfold cnt; rw [← hm.out]; omega), rfl⟩

def onB (g : Nat) : Nat → Prop := fun k => k = g
def PosPost (w : World) (B g n c : Nat) (s : St) (e : Ending) (w' : World) : Prop := e = .returned (.int .i64 s.at_) ∧ Own w' B 3 (some ⟨g, 0, none⟩) n c (ints s.l) ∧ Fr (onB g) w w'

theorem Fr.setB {g : Nat} {w w1 : World} (h : Fr (onB g) w w1) (v : Nat) (u : Value) : Fr (onB g) w (w1.setCell ⟨g, v, none⟩ u) := Fr.setCell (S := onB g) (p := ⟨g, v, none⟩) h (fun _ => rfl) u
theorem own_put {w : World} {B g n c v : Nat} {s : St} (h : Own w B 3 (some ⟨g, 0, none⟩) n c (ints s.l)) : Own (w.setCell ⟨g, v, none⟩ (.int .i64 s.at_)) B 3 (some ⟨g, 0, none⟩) n c (ints (putS v s).l) := by
  have := h.set (i := v) (.int .i64 s.at_)
  simpa [putS, List.map_set] using this
theorem own_facts {w : World} {B T g n c : Nat} {xs : List Int} (h : Own w B T (some ⟨g, 0, none⟩) n c (ints xs)) {v : Nat} (hv : v < n) :
    (∃ y, w.cell? ⟨g, v, none⟩ = some (.int .i64 y) ∧ xs[v]? = some y) ∧ w.frozen? ⟨g, v, none⟩ = false := by
  have hl : xs.length = n := by simpa using h.len
  obtain ⟨g', hg, _, _, hc, hf⟩ := h.at (by omega)
  injection hg with hg
  injection hg with hg
  subst hg
  exact ⟨⟨xs[v], hc v _ (by simp), by simp⟩, hf v⟩

set_option maxHeartbeats 800000 in
theorem inorder_any (B g n c : Nat) (hn : n ≤ 1000000) : ∀ (f v : Nat) (vi : Int) (s : St) (w : World), vi = v → n ≤ v + f → v ≤ 4000000 → Own w B 3 (some ⟨g, 0, none⟩) n c (ints s.l) →
    Calls Try.prog 36 #[.slice (some ⟨g, 0, none⟩) n c, .int .i64 vi, .int .i64 s.at_] w (PosPost w B g n c (walkS 2 n f v s)) := by
  intro f
  induction f with
  | zero =>
    intro v vi s w hvi hf hv h
    subst hvi
    have hh : n ≤ v := by omega
    have H := Lib.hid h
    clear h
    go_enter Try.func36, Try.ntmps36
    go_wp2_with fail
    go_ret
    exact ⟨rfl, H.out, Fr.refl _ _⟩
  | succ f ih =>
    intro v vi s w hvi hf hv h
    subst hvi
    have H := Lib.hid h
    have IH := Lib.hid ih
    clear h ih
    by_cases hh : n ≤ v
    · go_enter Try.func36, Try.ntmps36
      go_wp2_with fail
      go_ret
      unfold walkS
      rw [if_pos hh]
      exact ⟨rfl, H.out, Fr.refl _ _⟩
    · go_enter Try.func36, Try.ntmps36
      go_wp2_with fail
      refine (IH.out (2 * v + 1) _ s w (by omega) (by omega) (by omega) H.out).mono ?_; rintro e w2 ⟨rfl, L2, F2⟩
      obtain ⟨⟨y, hy, _⟩, hz⟩ := own_facts L2 (v := v) (by omega)
      replace L2 := Lib.hid L2
      replace F2 := Lib.hid F2
      go_wp2_with fail
      have L3 := Lib.hid (own_put (v := v) L2.out)
      refine (IH.out (2 * v + 2) _ (putS v (walkS 2 n f (2 * v + 1) s)) _ (by omega) (by omega) (by omega) L3.out).mono ?_; rintro e w4 ⟨rfl, L4, F4⟩
      replace L4 := Lib.hid L4
      replace F4 := Lib.hid F4
      go_wp2_with fail
      go_ret
      have e : walkS 2 n (f + 1) v s = walkS 2 n f (2 * v + 2) (putS v (walkS 2 n f (2 * v + 1) s)) := by
        rw [walkS, if_neg hh]; rfl
      rw [e]
      exact ⟨rfl, L4.out, (F2.out.setB _ _).trans F4.out (fun _ _ h => h)⟩

set_option maxHeartbeats 800000 in
theorem preorder_any (B g n c : Nat) (hn : n ≤ 1000000) : ∀ (f v : Nat) (vi : Int) (s : St) (w : World), vi = v → n ≤ v + f → v ≤ 4000000 → Own w B 3 (some ⟨g, 0, none⟩) n c (ints s.l) →
    Calls Try.prog 37 #[.slice (some ⟨g, 0, none⟩) n c, .int .i64 vi, .int .i64 s.at_] w (PosPost w B g n c (walkS 3 n f v s)) := by
  intro f
  induction f with
  | zero =>
    intro v vi s w hvi hf hv h
    subst hvi
    have hh : n ≤ v := by omega
    have H := Lib.hid h
    clear h
    go_enter Try.func37, Try.ntmps37
    go_wp2_with fail
    go_ret
    exact ⟨rfl, H.out, Fr.refl _ _⟩
  | succ f ih =>
    intro v vi s w hvi hf hv h
    subst hvi
    have H := Lib.hid h
    have IH := Lib.hid ih
    clear h ih
    by_cases hh : n ≤ v
    · go_enter Try.func37, Try.ntmps37
      go_wp2_with fail
      go_ret
      unfold walkS
      rw [if_pos hh]
      exact ⟨rfl, H.out, Fr.refl _ _⟩
    · obtain ⟨⟨y, hy, _⟩, hz⟩ := own_facts H.out (v := v) (by omega)
      go_enter Try.func37, Try.ntmps37
      go_wp2_with fail
      have L3 := Lib.hid (own_put (v := v) H.out)
      refine (IH.out (2 * v + 1) _ (putS v s) _ (by omega) (by omega) (by omega) L3.out).mono ?_; rintro e w2 ⟨rfl, L2, F2⟩
      replace L2 := Lib.hid L2
      replace F2 := Lib.hid F2
      go_wp2_with fail
      refine (IH.out (2 * v + 2) _ (walkS 3 n f (2 * v + 1) (putS v s)) _ (by omega) (by omega) (by omega) L2.out).mono ?_; rintro e w4 ⟨rfl, L4, F4⟩
      replace L4 := Lib.hid L4
      replace F4 := Lib.hid F4
      go_wp2_with fail
      go_ret
      have e : walkS 3 n (f + 1) v s = walkS 3 n f (2 * v + 2) (walkS 3 n f (2 * v + 1) (putS v s)) := by
        rw [walkS, if_neg hh]; rfl
      rw [e]
      exact ⟨rfl, L4.out, (((Fr.refl _ _).setB _ _).trans F2.out (fun _ _ h => h)).trans F4.out (fun _ _ h => h)⟩

set_option maxHeartbeats 1000000 in
theorem emde_any (B g n c H : Nat) (hn : n + 1 = 2 ^ H) (hH : H ≤ 16) : ∀ (f v h : Nat) (vi hi : Int) (s : St) (w : World), vi = v → hi = h → h ≤ f → 1 ≤ h → (v + 2) * 2 ^ (h - 1) ≤ 2 ^ H → Own w B 3 (some ⟨g, 0, none⟩) n c (ints s.l) →
    Calls Try.prog 38 #[.slice (some ⟨g, 0, none⟩) n c, .int .i64 vi, .int .i64 hi, .int .i64 s.at_] w (PosPost w B g n c (splitS f v h s)) := by
  intro f
  induction f with
  | zero => intro v h vi hi s w _ _ h1 h2; omega
  | succ f ih =>
    intro v h vi hi s w hvi hhi hf hh hv L
    subst hvi hhi
    have hp16 : (2 : Nat) ^ H ≤ 65536 := by
      have := Nat.pow_le_pow_right (n := 2) (by omega) hH
      simpa using this
    have hpos : 1 ≤ 2 ^ (h - 1) := Nat.one_le_two_pow
    have hv1 : v + 2 ≤ 2 ^ H := Nat.le_trans (Nat.le_mul_of_pos_right _ hpos) hv
    by_cases e1 : h = 1
    · subst e1
      have h9 : v < n := by omega
      obtain ⟨⟨y, hy, _⟩, hz⟩ := own_facts L h9
      replace L := Lib.hid L
      clear ih hn hv hp16 hpos hv1
      go_enter Try.func38, Try.ntmps38
      go_wp2_with fail
      go_ret
      have e : splitS (f + 1) v 1 s = putS v s := by unfold splitS; rw [if_pos rfl]
      rw [e]
      exact ⟨rfl, own_put L.out, (Fr.refl _ _).setB _ _⟩
    · obtain ⟨low, hlow⟩ : ∃ low, low = h / 2 := ⟨_, rfl⟩
      obtain ⟨top, htop⟩ : ∃ top, top = h - h / 2 := ⟨_, rfl⟩
      have e2 : ((h : Int) == 1) = false := by simp; omega
      have e3 : ((h : Int) / 2) = (low : Int) := by omega
      have e4 : ((h : Int) - (low : Int)) = (top : Int) := by omega
      have e5 : top ≤ 16 := by
        have : 2 ^ (h - 1) ≤ 2 ^ H := Nat.le_trans (Nat.le_mul_of_pos_left _ (by omega)) hv
        have := (Nat.pow_le_pow_iff_right (by omega : 1 < 2)).1 this
        omega
      have hb : ∀ k, k ≤ top → (1 : Nat) ≤ 2 ^ k ∧ 2 ^ k ≤ 65536 := fun k hk =>
        ⟨Nat.one_le_two_pow, by have := Nat.pow_le_pow_right (n := 2) (by omega) (show k ≤ 16 by omega); simpa using this⟩
      replace L := Lib.hid L
      have IH := Lib.hid ih
      have Hv := Lib.hid hv
      have Hn := Lib.hid hn
      have Htop := Lib.hid htop
      have Hlow := Lib.hid hlow
      have Hb := Lib.hid hb
      have Hp := Lib.hid hp16
      clear ih hv hn htop hlow hb hpos
      have hv2 : v ≤ 65536 := by omega
      clear hv1 hp16
      go_enter Try.func38, Try.ntmps38
      go_wp2_with fail
      refine (IH.out v top _ _ s w rfl rfl ?_ ?_ ?_ L.out).mono ?_
      · have := Htop.out; omega
      · have := Htop.out; omega
      · exact Nat.le_trans (Nat.mul_le_mul_left _ (Nat.pow_le_pow_right (by omega) (by have := Htop.out; omega))) Hv.out
      rintro e w1 ⟨rfl, L1, F1⟩
      replace L1 := Lib.hid L1
      replace F1 := Lib.hid F1
      go_wp2_with fail
      go_loop [10, 11, 12] (fun a b i => ∃ k m q : Nat, k ≤ top ∧ Hid (m = 2 ^ k) ∧ Hid (q = v * m) ∧ i = .int .i64 k ∧ b = .int .i64 m ∧ a = .int .i64 (((q + m - 1 : Nat)) : Int)) (fun _ _ i => top - (intOf i).toNat)
      case atStart => exact ⟨0, 1, v, by omega, Lib.hid rfl, Lib.hid (by simp), rfl, rfl, by simp⟩
      case round =>
        obtain ⟨k, m, q, hk, hm, hq, rfl, rfl, rfl⟩ := hrel
        obtain ⟨h3, h4⟩ : 1 ≤ m ∧ m ≤ 65536 := by rw [hm.out]; exact Hb.out k hk
        have h5 : q ≤ 65536 * 65536 := by rw [hq.out]; exact Nat.mul_le_mul hv2 h4
        by_cases hlt : k < top
        · go_wp2_with fail
          go_round
          case rel => exact ⟨k + 1, m * 2, q * 2, by omega, Lib.hid (by rw [hm.out, Nat.pow_succ]), Lib.hid (by rw [hq.out, Nat.mul_assoc]), by go_num, by go_num, by go_num⟩
          case measure => simp [intOf]; omega
        · have hkm : k = top := by omega
          subst hkm
          clear hk
          go_wp2_with fail
          go_loopw [3, 13] (fun a i wr => ∃ j : Nat, j ≤ m ∧ i = .int .i64 j ∧ a = .int .i64 (iterS (fun i s => splitS f (q + m - 1 + i) low s) j (splitS f v k s)).at_ ∧
            Own wr B 3 (some ⟨g, 0, none⟩) n c (ints (iterS (fun i s => splitS f (q + m - 1 + i) low s) j (splitS f v k s)).l) ∧ Fr (onB g) w wr) (fun _ i _ => m - (intOf i).toNat)
          case atStart => exact ⟨0, by omega, rfl, rfl, L1.out, F1.out⟩
          case round =>
            obtain ⟨j, hj, rfl, rfl, L2, F2⟩ := hrel
            replace L2 := Lib.hid L2
            replace F2 := Lib.hid F2
            obtain ⟨s2, hs2⟩ : ∃ s2, s2 = iterS (fun i s => splitS f (q + m - 1 + i) low s) j (splitS f v k s) := ⟨_, rfl⟩
            rw [← hs2] at L2
            by_cases hlt : j < m
            · simp only [← hs2]
              have Hs2 := Lib.hid hs2
              clear hs2
              go_wp2_with fail
              refine (IH.out (q + m - 1 + j) low _ _ s2 wr (by omega) rfl ?_ ?_ ?_ L2.out).mono ?_
              · have := Hlow.out; omega
              · have := Hlow.out; omega
              · refine Nat.le_trans ?_ Hv.out
                have h1 := hq.out
                have h2 := hm.out
                have h3 := Htop.out
                have h4 := Hlow.out
                have e : (v + 2) * 2 ^ (h - 1) = ((v + 2) * 2 ^ k) * 2 ^ (low - 1) := by
                  rw [Nat.mul_assoc, ← Nat.pow_add]; congr 2; omega
                rw [e]
                refine Nat.mul_le_mul_right _ ?_
                have : (v + 2) * 2 ^ k = q + m + m := by rw [h1, h2, Nat.add_mul]; omega
                omega
              rintro e w3 ⟨rfl, L3, F3⟩
              replace L3 := Lib.hid L3
              replace F3 := Lib.hid F3
              go_wp2_with fail
              go_roundw
              case rel => exact ⟨j + 1, by omega, by go_num, by rw [iterS_succ, ← Hs2.out], by rw [iterS_succ, ← Hs2.out]; exact L3.out, F2.out.trans F3.out (fun _ _ h => h)⟩
              case measure => simp [intOf]; omega
            · have hkm : j = m := by omega
              subst hkm
              simp only [← hs2]
              have Hs2 := Lib.hid hs2
              clear hs2
              go_wp2_with fail
              go_ret
              have e : splitS (f + 1) v h s = s2 := by
                rw [Hs2.out, splitS, if_neg e1, hm.out, hq.out, hm.out, Htop.out, Hlow.out, Nat.add_mul, Nat.one_mul]
              rw [e]
              exact ⟨rfl, L2.out, F2.out⟩

theorem PosPost.of (w : World) {B g n c : Nat} {s : St} {e : Ending} {w' : World} (h : PosPost w B g n c s e w') : e = .returned (.int .i64 s.at_) ∧ Own w' B 3 (some ⟨g, 0, none⟩) n c (ints s.l) ∧ Fr (onB g) w w' := h

end Go.Proofs.Ytdllpiekkbojgaa
