/- Search. -/
import Derived.Test.YtdihajeccjdhkaaA12
namespace Go.Proofs.Ytdihajeccjdhkaa
open Go.RowKit
attribute [local go_sem ↓] Go.wp_at_zero Go.wp_at_succ
theorem fg_of_best {t : Tr} {s : Int} (h : 0 < s) (hn : t.isNil = true ∨ t.best < s) : fg t.list s = none := by
  have h1 := fg_best t s h
  cases h2 : fg t.list s with
  | none => rfl
  | some j =>
    rw [h2] at h1
    have := h1.1 rfl
    rcases hn with hn | hn
    · rw [hn] at this; simp at this
    · omega
set_option maxHeartbeats 4000000 in
theorem Search_some {t : Tr} {p : Option Addr} {w : World} (h : TrM w t p) (hf : Fit t) {s0 : Int} (hs0 : 0 < s0) {K : Nat} (hK : fg t.list s0 = some K) :
    Calls Try.prog 16 #[.pointer p, .int .i64 s0] w (PairQ ((K : Int), 0) w) := by
  obtain ⟨b0, pr0, rfl, ⟨hc0, _⟩, ht⟩ := h
  have hKl : K ≤ 100000 := by have h1 := fg_lt hK; have h2 := hf.len; unfold Tr.len at h2; omega
  have hbest := (fg_best t s0 hs0).1 (by rw [hK]; rfl)
  have hsh := ht.shape
  rcases hsh with ⟨hn, _⟩ | ⟨_, bR, rfl, _, cR⟩
  · rw [hn] at hbest; simp at hbest
  have hnb : ¬ t.best < s0 := by omega
  obtain ⟨tb, htb⟩ : ∃ x, x = t.best := ⟨_, rfl⟩
  rw [← htb] at cR hnb
  have H := Lib.hid ht
  have HF := Lib.hid hf
  have HK := Lib.hid hK
  have Hs0 := Lib.hid hs0
  clear ht hf hK hbest htb
  go_enter Try.func16, Try.ntmps16
  go_wp2_with fail
  clear cR hnb
  go_loopw [1, 6, 7] (fun s1 s6 s7 wr => ∃ (u : Tr) (q : Option Addr) (m : Nat) (s : Int) (k j : Nat), s1 = .int .i64 s ∧ s6 = .int .i64 m ∧ s7 = .pointer q ∧ 0 < s ∧ m ≤ 100000 ∧ Hid (TM w u q) ∧ Hid (Fit u) ∧ Hid (fg u.list s = some j) ∧ Hid (m + j = K) ∧ Hid (wr = w.drewN k)) (fun _ _ s7 wr => lenM s7 wr)
  case atStart => exact ⟨t, some ⟨bR, 0, none⟩, 0, s0, 0, K, rfl, rfl, rfl, Hs0.out, by omega, H, HF, HK, Lib.hid (by omega), Lib.hid rfl⟩
  case round =>
    obtain ⟨u, q, m, s, k, j, rfl, rfl, rfl, hs, hmb, hT, hFt, hj, hm, HWk⟩ := hrel
    clear hc0
    have hFr : Fr F0 w wr := by rw [HWk.out]; exact (Fr.refl F0 w).drewN k
    cases u with
    | nil =>
      have h1 := hj.out
      rw [show Tr.nil.list = [] from rfl, fg_nil hs] at h1
      cases h1
    | nd l x r =>
      have hTo := hT.out
      have hM := Lib.hid (lenM_eq (hTo.fr0 hFr))
      have hub := (fg_best (.nd l x r) s hs).1 (by rw [hj.out]; rfl)
      have hbb := hFt.out.bestB
      have hsb : s ≤ 104857600000 := by omega
      obtain ⟨b, pl, pr, rfl, hc, hl, hr⟩ := hTo
      obtain ⟨fl, ⟨x1, x2⟩, fr⟩ := hFt.out.nd
      have z0 : wr.cell? ⟨b, 0, none⟩ = some (.pointer pl) := hFr.cell (hc.cell (i := 0) rfl) id
      have z1 : wr.cell? ⟨b, 1, none⟩ = some (.pointer pr) := hFr.cell (hc.cell (i := 1) rfl) id
      have z2 : wr.cell? ⟨b, 2, none⟩ = some (.int .i64 x) := hFr.cell (hc.cell (i := 2) rfl) id
      have cl := len_any (hl.fr0 hFr)
      have hshl := (hl.fr0 hFr).shape
      obtain ⟨L, hL⟩ : ∃ L, L = l.len := ⟨_, rfl⟩
      have ll : L ≤ 100000 := by rw [hL]; exact fl.len
      rw [← hL] at cl
      have Hl := Lib.hid hl
      have Hr := Lib.hid hr
      have Hfl := Lib.hid fl
      have Hfr := Lib.hid fr
      have Cl := Lib.hid cl
      obtain ⟨sl1, sl2⟩ := fl.sumB
      obtain ⟨bl, hbl⟩ : ∃ x, x = l.best := ⟨_, rfl⟩
      rw [← hbl] at hshl
      have HL := Lib.hid hL
      have Hbl := Lib.hid hbl
      have hlb := fg_best l s hs
      have Hlb := Lib.hid hlb
      -- what comes where the left part has it not
      have hB : Hid (fg l.list s = none → 0 < s - l.sum ∧ ∃ j'', fg r.list (s - (l.sum + x)) = some j'' ∧ m + (L + 1) + j'' = K) := Lib.hid (fun hn => by
        obtain ⟨g1, j', g2, g3⟩ := fg_go hs hj.out hn
        refine ⟨g1, ?_⟩
        rw [fg_cons _ _ g1] at g2
        rw [show s - (l.sum + x) = s - l.sum - x by omega]
        cases g4 : fg r.list (s - l.sum - x) with
        | none => rw [g4] at g2; cases g2
        | some j'' =>
          rw [g4] at g2
          injection g2 with g2
          have := hm.out
          rw [← hL] at g3
          simp only at g2
          exact ⟨j'', rfl, by omega⟩)
      obtain ⟨sl, hsl⟩ : ∃ x, x = l.sum := ⟨_, rfl⟩
      have ct := Lib.hid (fun n => qsame (n := n) (w := wr) (total_any ((hl.fr0 hFr).fr0 ((Fr.refl F0 wr).drewN n))))
      rw [← hsl] at sl1 sl2 ct hB
      have w1 : IntKind.i64.wrap (sl + x) = sl + x := wI2 (by omega) (by omega)
      have w2 : IntKind.i64.wrap (s - (sl + x)) = s - (sl + x) := wI2 (by omega) (by omega)
      have hmL : Hid (fg l.list s = none → m + (L + 1) ≤ 100000) := Lib.hid (fun hn => by
        obtain ⟨_, j'', _, h⟩ := hB.out hn
        omega)
      have hm1 : Hid (∀ k', lenM (.pointer pr) (wr.drewN k') < lenM (.pointer (some ⟨b, 0, none⟩)) wr) := Lib.hid (fun k' => by rw [hM.out, lenM_eq ((Hr.out.fr0 hFr).fr0 ((Fr.refl F0 wr).drewN k')), Tr.len_nd]; omega)
      have hm2 : Hid (lenM (.pointer pl) wr < lenM (.pointer (some ⟨b, 0, none⟩)) wr) := Lib.hid (by rw [hM.out, lenM_eq (Hl.out.fr0 hFr), Tr.len_nd]; omega)
      have Z1 := Lib.hid z1
      have Hm := Lib.hid hmb
      clear hub hbb hc hl hr fl fr hL hbl hlb hsl hFr
      by_cases hgo : l.isNil = false ∧ s ≤ bl
      · rcases hshl with ⟨hn, _⟩ | ⟨_, bL, rfl, _, cL⟩
        · rw [hn] at hgo; simp at hgo
        · have hj2 : Hid (fg l.list s = some j) := Lib.hid (by
            have h1 := Hlb.out.2 ⟨hgo.1, by rw [← Hbl.out]; exact hgo.2⟩
            cases h2 : fg l.list s with
            | none => rw [h2] at h1; simp at h1
            | some j2 =>
              have h3 := fg_append_some (x :: r.list) h2
              have h4 : fg (l.list ++ x :: r.list) s = some j := hj.out
              rw [h3] at h4
              exact h4)
          have hsle := hgo.2
          clear hgo
          go_wp2_with fail
          exact ⟨⟨l, some ⟨bL, 0, none⟩, m, s, k, j, rfl, rfl, rfl, hs, Hm.out, Hl, Hfl, hj2, hm, HWk⟩, hm2.out⟩
      · have hnone : fg l.list s = none := fg_of_best hs (by
          cases hi : l.isNil with
          | true => exact .inl rfl
          | false => right; rw [← Hbl.out]; rcases Int.lt_or_le bl s with h | h
                     · exact h
                     · exact absurd ⟨hi, h⟩ hgo)
        obtain ⟨hpos, j'', hj'', hKK⟩ := hB.out hnone
        have hmL2 := hmL.out hnone
        have Hj'' := Lib.hid hj''
        have HKK := Lib.hid hKK
        clear hnone hB hmL hj'' hKK hpos
        rcases hshl with ⟨hn, rfl⟩ | ⟨hn, bL, rfl, _, cL⟩
        · clear hgo hn
          go_wp2_with fail
          refine Cl.out.mono ?_; rintro e w3 ⟨rfl, rfl⟩
          go_wp2_with fail
          go_quiet (first | (go_at_call 42; with_reducible exact ct.out _) | fail)
          have z1' : (wr.drewN nq).cell? ⟨b, 1, none⟩ = some (.pointer pr) := ((Fr.refl F0 wr).drewN nq).cell Z1.out id
          by_cases hle : s - (sl + x) ≤ 0
          · have e : Hid (m + (L + 1) = K) := Lib.hid (by have h1 := Hj''.out; rw [fg_le _ hle] at h1; injection h1 with h1; have := HKK.out; omega)
            go_wp2_with fail
            go_ret2
            exact ⟨by have := e.out; congr 3; simp; omega, k + nq, by rw [HWk.out, World.drewN_drewN]⟩
          · have hpos : 0 < s - (sl + x) := by omega
            go_wp2_with fail
            exact ⟨⟨r, pr, m + (L + 1), s - (sl + x), k + nq, j'', rfl, by first | rfl | (congr 1), rfl, hpos, hmL2, Hr, Hfr, Hj'', HKK, Lib.hid (by rw [HWk.out, World.drewN_drewN])⟩, hm1.out _⟩
        · have hlt : bl < s := by rcases Int.lt_or_le bl s with h | h
                                  · exact h
                                  · exact absurd ⟨hn, h⟩ hgo
          clear hgo hn
          go_wp2_with fail
          refine Cl.out.mono ?_; rintro e w3 ⟨rfl, rfl⟩
          go_wp2_with fail
          go_quiet (first | (go_at_call 42; with_reducible exact ct.out _) | fail)
          have z1' : (wr.drewN nq).cell? ⟨b, 1, none⟩ = some (.pointer pr) := ((Fr.refl F0 wr).drewN nq).cell Z1.out id
          by_cases hle : s - (sl + x) ≤ 0
          · have e : Hid (m + (L + 1) = K) := Lib.hid (by have h1 := Hj''.out; rw [fg_le _ hle] at h1; injection h1 with h1; have := HKK.out; omega)
            go_wp2_with fail
            go_ret2
            exact ⟨by have := e.out; congr 3; simp; omega, k + nq, by rw [HWk.out, World.drewN_drewN]⟩
          · have hpos : 0 < s - (sl + x) := by omega
            go_wp2_with fail
            exact ⟨⟨r, pr, m + (L + 1), s - (sl + x), k + nq, j'', rfl, by first | rfl | (congr 1), rfl, hpos, hmL2, Hr, Hfr, Hj'', HKK, Lib.hid (by rw [HWk.out, World.drewN_drewN])⟩, hm1.out _⟩
theorem Search_any {t : Tr} {p : Option Addr} {w : World} (h : TrM w t p) (hf : Fit t) (s : Int) : Calls Try.prog 16 #[.pointer p, .int .i64 s] w (PairQ (searchS t.list s) w) := by
  by_cases hs : s ≤ 0
  · have e : searchS t.list s = (0, 0) := by unfold searchS; rw [if_pos hs]
    rw [e]
    obtain ⟨b, pr, rfl, ⟨hc, _⟩, ht⟩ := h
    clear e ht hf
    go_enter Try.func16, Try.ntmps16
    go_wp2_with fail
    go_ret2
    exact ⟨rfl, 0, rfl⟩
  · cases hk : fg t.list s with
    | some K =>
      have e : searchS t.list s = ((K : Int), 0) := by unfold searchS; rw [if_neg hs, hk]
      rw [e]
      exact Search_some h hf (by omega) hk
    | none =>
      have e : searchS t.list s = (0, 12) := by unfold searchS; rw [if_neg hs, hk]
      rw [e]
      have hb := fg_best t s (by omega)
      rw [hk] at hb
      obtain ⟨b, pr, rfl, ⟨hc, _⟩, ht⟩ := h
      have hs2 : 0 < s := by omega
      rcases ht.shape with ⟨_, rfl⟩ | ⟨hi, bR, rfl, _, cR⟩
      · clear e ht hf hk hb hs
        go_enter Try.func16, Try.ntmps16
        go_wp2_with fail
        go_ret2
        exact ⟨rfl, 0, rfl⟩
      · have hlt : t.best < s := by
          rcases Int.lt_or_le t.best s with h | h
          · exact h
          · have := hb.2 ⟨hi, h⟩; simp at this
        generalize t.best = tb at *
        clear e ht hf hk hb hs
        go_enter Try.func16, Try.ntmps16
        go_wp2_with fail
        go_ret2
        exact ⟨rfl, 0, rfl⟩
end Go.Proofs.Ytdihajeccjdhkaa
