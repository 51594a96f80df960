/- Corrupted, the reference's Most. -/
import Derived.Test.YtdphademoeofkaaS24
namespace Go.Proofs.Ytdphademoeofkaa
open Go.RowKit
attribute [local go_sem ↓] Go.wp_at_zero Go.wp_at_succ
/-- The corrupted ones among some items. -/
def bads (own : List Int) (ts : List Tr) (l : List Int) : Nat := (l.filter fun i => decide (own.getD i.toNat 0 < cu ts i)).length
theorem bads_le (own : List Int) (ts : List Tr) (l : List Int) : bads own ts l ≤ l.length := List.length_filter_le _ _
theorem bads_snoc (own : List Int) (ts : List Tr) (l : List Int) (i : Int) : bads own ts (l ++ [i]) = bads own ts l + (if own.getD i.toNat 0 < cu ts i then 1 else 0) := by
  unfold bads
  rw [List.filter_append, List.length_append]
  congr 1
  by_cases h : own.getD i.toNat 0 < cu ts i
  · rw [if_pos h, List.filter_cons_of_pos (by simpa using h)]; rfl
  · rw [if_neg h, List.filter_cons_of_neg (by simpa using h)]; rfl
theorem bads_congr {own own' : List Int} {ts : List Tr} {l : List Int} (h : ∀ i ∈ l, own.getD i.toNat 0 = own'.getD i.toNat 0) : bads own ts l = bads own' ts l := by
  unfold bads
  congr 1
  exact List.filter_congr fun i hi => by rw [h i hi]
set_option maxHeartbeats 2000000 in
theorem Corrupted_any {w : World} {hb rate : Nat} {ts : List Tr} {own ks : List Int} {I : List (Option Nat)} {T : Nat → Prop} {r : Nat} (h : Hp w hb rate ts own I T) (S : SX r ks ts [] I) :
    Calls Try.prog 16 #[.pointer (some ⟨hb, 0, none⟩)] w fun e w' => e = .returned (.int .i64 (bads own ts (itl 0 I) : Nat)) ∧ Fr F0 w w' := by
  have HS := Lib.hid S
  have HH := Lib.hid h
  have HIt := Lib.hid (Items_any h)
  obtain ⟨L, hL⟩ : ∃ L, L = itl 0 I := ⟨_, rfl⟩
  obtain ⟨m, hm⟩ : ∃ m, m = L.length := ⟨_, rfl⟩
  have HL := Lib.hid hL
  have Hm := Lib.hid hm
  rw [← hL, ← hm] at HIt
  rw [← hL]
  have hm2 : m ≤ 2000 := by
    rw [hm, hL]
    obtain ⟨h1, h2, _⟩ := h.ilen
    have := nodup_bound I.length (itl 0 I) (itl_nodup _ _) (fun i hi => by
      obtain ⟨j, b, h1, h2⟩ := itl_mem.1 hi
      have := (List.getElem?_eq_some_iff.1 h1).1
      omega)
    omega
  clear S h hL hm
  go_enter Try.func16, Try.ntmps16
  go_wp2_with fail
  refine HIt.out.mono ?_
  rintro e w1 ⟨a, c, rfl, O, F⟩
  have HO := Lib.hid O
  have HF := Lib.hid F
  clear O F HIt
  go_wp2_with fail
  go_loopw [9, 3] (fun i s3 wr => ∃ k : Nat, k ≤ m ∧ i = .int .i64 k ∧ Hid (s3 = .int .i64 (bads own ts (L.take k) : Nat) ∧ Fr F0 w1 wr)) (fun i _ _ => m - (intOf i).toNat)
  case atStart => exact ⟨0, by omega, rfl, Lib.hid ⟨rfl, Fr.refl _ _⟩⟩
  case round =>
    obtain ⟨k, hk, rfl, HK⟩ := hrel
    by_cases hlt : k < m
    · obtain ⟨rfl, F1⟩ := HK.out
      have hkL : k < L.length := by rw [← Hm.out]; exact hlt
      obtain ⟨b, o, x, rfl, hx, cx⟩ := (HO.out.rd.fr0 F1).ix hlt
      have hxm : x ∈ itl 0 I := by rw [← HL.out]; exact List.mem_of_getElem? hx
      obtain ⟨j, bj, hj, e⟩ := itl_mem.1 hxm
      rw [Nat.zero_add] at e
      subst e
      have HF1 := Lib.hid (HF.out.trans0 F1)
      have Hr := HH.out.fr HF1.out (fun _ _ => id)
      obtain ⟨hl, h2, _⟩ := Hr.ilen
      obtain ⟨ao, co, ai, ci, V⟩ := Hr.vw
      have hjf : (j : Int) ∈ flat ts := HS.out.items.mem_iff.1 hxm
      obtain ⟨b', h3, h4⟩ := V.no ks r HS.out _ _ (HS.out.cu hjf)
      rw [Int.toNat_natCast, hj] at h3
      injection h3 with h3
      injection h3 with h3
      subst h3
      have hlt' := (List.getElem?_eq_some_iff.1 hj).1
      have y3 := V.c3
      have y2 := V.c2
      obtain ⟨g, o', rfl, hc⟩ := V.ri.cells (by omega)
      have c1 := hc j (.pointer (some ⟨bj, 0, none⟩)) (by rw [List.getElem?_map, hj]; rfl)
      obtain ⟨g2, o2, kk, rfl, hkk, c2⟩ := V.ro.ix (i := j) (by omega)
      have es : L.take (k + 1) = L.take k ++ [(j : Int)] := by
        rw [List.take_add_one, hx]; rfl
      have ek : own.getD ((j : Int)).toNat 0 = kk := by rw [Int.toNat_natCast, List.getD_eq_getElem?_getD, hkk]; rfl
      have hbl : bads own ts (L.take k) ≤ 2000 := by have := bads_le own ts (L.take k); rw [List.length_take] at this; omega
      obtain ⟨q, hq⟩ : ∃ q, q = cu ts (j : Int) := ⟨_, rfl⟩
      have Hsn : Hid (bads own ts (L.take (k + 1)) = bads own ts (L.take k) + (if kk < q then 1 else 0)) := Lib.hid (by rw [es, bads_snoc, ek, ← hq])
      rw [← hq] at h4
      have HF1w := Lib.hid F1
      generalize hB : bads own ts (L.take k) = B at *
      have HB := Lib.hid hB
      have hjl : j < I.length := hlt'
      generalize I.length = MI at *
      generalize own.length = MO at *
      clear hxm hjf hq es ek hc hkk V Hr hx hj F1 hB h2
      go_wp2_with fail
      go_quiet (fail)
      have FQ : Hid (Fr F0 w1 (wr.drewN nq)) := Lib.hid (HF1w.out.drewN nq)
      by_cases hlq : kk < q
      · have hd : decide (kk < q) = true := decide_eq_true hlq
        have Hsn2 : Hid (bads own ts (L.take (k + 1)) = B + 1) := Lib.hid (by rw [Hsn.out, if_pos hlq])
        go_wp2_with fail
        go_round
        case rel => exact ⟨k + 1, by omega, by go_num, Lib.hid ⟨by rw [Hsn2.out]; rfl, FQ.out⟩⟩
        case measure => simp [intOf]; omega
      · have hd : decide (kk < q) = false := decide_eq_false hlq
        have Hsn2 : Hid (bads own ts (L.take (k + 1)) = B) := Lib.hid (by rw [Hsn.out, if_neg hlq]; rfl)
        go_wp2_with fail
        go_round
        case rel => exact ⟨k + 1, by omega, by go_num, Lib.hid ⟨by rw [Hsn2.out], FQ.out⟩⟩
        case measure => simp [intOf]; omega
    · obtain rfl : m = k := by omega
      obtain ⟨rfl, F1⟩ := HK.out
      have HF1 := Lib.hid (HF.out.trans0 F1)
      clear F1
      go_wp2_with fail
      go_ret
      rw [List.take_of_length_le (by rw [Hm.out]; exact Nat.le_refl _)]
      exact ⟨rfl, HF1.out⟩
theorem Most_any (n r : Nat) (hn : n ≤ 1000000) (hr : r ≤ 20) (w : World) : Calls Try.prog 40 #[.int .i64 n, .int .i64 r] w fun e w' => e = .returned (.int .i64 (n / 2 ^ r : Nat)) ∧ w = w' := by
  go_enter Try.func40, Try.ntmps40
  go_wp2_with fail
  go_loop [5, 0] (fun i s0 => ∃ k m : Nat, k ≤ r ∧ i = .int .i64 k ∧ s0 = .int .i64 m ∧ m ≤ 1000000 ∧ Hid (m = n / 2 ^ k)) (fun i _ => r - (intOf i).toNat)
  case atStart => exact ⟨0, n, by omega, rfl, rfl, hn, Lib.hid (by simp)⟩
  case round =>
    obtain ⟨k, m, hk, rfl, rfl, hm, HM⟩ := hrel
    by_cases hlt : k < r
    · have hq : Int.tdiv (m : Int) 2 = ((m / 2 : Nat) : Int) := by rw [Int.tdiv_eq_ediv_of_nonneg (by omega)]; omega
      obtain ⟨m2, hm2⟩ : ∃ m2, m2 = m / 2 := ⟨_, rfl⟩
      rw [← hm2] at hq
      have hm3 : m2 ≤ 1000000 := by omega
      have H2 := Lib.hid hm2
      clear hm2
      go_wp2_with fail
      go_round
      case rel => exact ⟨k + 1, m2, by omega, by go_num, rfl, hm3, Lib.hid (by rw [H2.out, HM.out, Nat.pow_succ, Nat.div_div_eq_div_mul])⟩
      case measure => simp [intOf]; omega
    · obtain rfl : r = k := by omega
      have e := HM.out
      subst e
      clear HM
      go_wp2_with fail
      go_ret
      exact ⟨rfl, rfl⟩
end Go.Proofs.Ytdphademoeofkaa
