/- Lists. -/
import Derived.Test.YtglonedhcljdoaaM4
namespace Go.Proofs.Ytglonedhcljdoaa
open Go.RowKit
attribute [local go_sem ↓] Go.wp_at_zero Go.wp_at_succ

/-- A row appended to the rows. -/
theorem rows_snoc {w wo wr2 w' : World} {a1 a2 a' : Option Addr} {kn c2 : Nat} {R1 : List RowV} {L : List (List Int)} {j : Nat} (hl : R1.length = j)
    (hR : ∀ (q : Nat) (r : RowV), R1[q]? = some r → r.xs = kx L q ∧ Own wo w.heap.size 3 r.a r.n r.c (ints r.xs) ∧ Apart r.a a1)
    (hF2 : Fr F0 wo wr2) (hO2 : Own wr2 wo.heap.size 3 a2 kn c2 (ints (kx L j))) (hw : w.heap.size ≤ wo.heap.size)
    (b1 : ∀ k, onBlk a1 k → w.heap.size ≤ k ∧ k < wo.heap.size) (fr' : Fr (onBlk a1) wr2 w') (at' : ∀ k, onBlk a' k → onBlk a1 k ∨ wr2.heap.size ≤ k) :
    ∀ (q : Nat) (r : RowV), (R1 ++ [⟨a2, kn, c2, kx L j⟩])[q]? = some r → r.xs = kx L q ∧ Own w' w.heap.size 3 r.a r.n r.c (ints r.xs) ∧ Apart r.a a' := by
  intro q r hr
  have b2 := hO2.blk
  have hsz := hF2.size
  by_cases hq : q < j
  · rw [List.getElem?_append_left (by omega)] at hr
    obtain ⟨h1, h2, h3⟩ := hR q r hr
    have b0 := h2.blk
    exact ⟨h1, (h2.fr0 hF2).fr fr' h3, (Apart.app (w := wr2) h3.symm at' (fun k hk => by have := (b0 k hk).2; omega)).symm⟩
  · have hq2 : q = j := by
      have := (List.getElem?_eq_some_iff.1 hr).1
      simp at this; omega
    subst hq2
    rw [List.getElem?_append_right (by omega), hl, Nat.sub_self] at hr
    simp at hr
    subst hr
    have hap : Apart a2 a1 := fun k hk h1 => by have := (b2 k hk).1; have := (b1 k h1).2; omega
    exact ⟨rfl, (hO2.fr fr' hap).mono hw, (Apart.app (w := wr2) hap.symm at' (fun k hk => (b2 k hk).2)).symm⟩
set_option maxHeartbeats 4000000 in
theorem Lists_any {B : Nat} {w : World} {x : Nat} {L : List (List Int)} {cmp : Int} {g : Nat} {hs : List Value} (h : IxR B w x L cmp g hs) (hn : L.length ≤ 32) (hlen : ∀ l ∈ L, l.length ≤ 1000) :
    Calls Try.prog 18 #[.pointer (some ⟨x, 0, none⟩)] w (RlPost L L.length w) := by
  obtain ⟨n, hnL⟩ : ∃ n, n = L.length := ⟨_, rfl⟩
  obtain ⟨c0, c1⟩ := h.cells
  rw [← hnL] at c0 hn ⊢
  have H := Lib.hid h
  have HnL := Lib.hid hnL
  have Hlen := Lib.hid hlen
  have hF : Fr F0 w w := Fr.refl _ _
  obtain ⟨w1, hw1⟩ : ∃ w1 : World, w1 = w := ⟨_, rfl⟩
  clear h hlen hnL hw1 w1
  go_enter Try.func18, Try.ntmps18
  go_wp2_with fail
  go_loopw [3, 5, 6, 8, 16] (fun s3 _ _ _ s16 wr => ∃ (j : Nat) (a1 : Option Addr) (u1 d1 : Nat) (R1 : List RowV), j ≤ n ∧ u1 = j ∧ s3 = .slice a1 u1 d1 ∧ s16 = .int .i64 j ∧ Own wr w.heap.size 31 a1 u1 d1 (R1.map RowV.val) ∧
    Hid (∀ (q : Nat) (r : RowV), R1[q]? = some r → r.xs = kx L q ∧ Own wr w.heap.size 3 r.a r.n r.c (ints r.xs) ∧ Apart r.a a1) ∧ Fr F0 w wr) (fun _ _ _ _ s16 _ => n - (intOf s16).toNat)
  case atStart => exact ⟨0, none, 0, 0, [], by omega, rfl, rfl, rfl, Own.nil _ _ _, Lib.hid (by simp), hF⟩
  case round =>
    obtain ⟨j, a1, u1, d1, R1, hj, hu1, rfl, rfl, hO, hR, hF1⟩ := hrel
    by_cases hlt : j < n
    · obtain ⟨ra, rc, h1, h2, h3, h4⟩ := H.out.row j (by rw [← HnL.out]; exact hlt)
      have hkl := kq_len Hlen.out j
      obtain ⟨kn, hkn⟩ : ∃ kn, kn = (kq L j).length := ⟨_, rfl⟩
      rw [← hkn] at h1 h2 h4 hkl
      have k2 : (kn : Int) ≤ (rc : Int) := by omega
      obtain ⟨b, o, hb, hc⟩ := H.out.rd.cells (by rw [← HnL.out]; omega)
      injection hb with hb
      injection hb with hb1 hb2
      subst hb1
      subst hb2
      have cj := hc j _ h1
      rw [Nat.zero_add] at cj
      have cj' := hF1.cell cj id
      have i0 : (0 : Int) ≤ (j : Int) := by omega
      have i1 : (j : Int) < (n : Int) := by omega
      have k0 : ((kn + 1 : Nat) : Int) - 1 = (kn : Int) := by omega
      have k1 : (0 : Int) ≤ (kn : Int) := by omega
      have hO' := Lib.hid hO
      have hF' := Lib.hid hF1
      have H2 := Lib.hid h2
      have H3 := Lib.hid h3
      have Hkn := Lib.hid hkn
      clear hO hF1 h1 h2 h3 hc cj hkn
      have Hl : Hid ((kx L j).length = kn) := Lib.hid (by rw [kx_kq, Hkn.out]; simp [keyL])
      obtain ⟨wo, hwo⟩ : ∃ wo : World, wo = wr := ⟨_, rfl⟩
      have hFi : Fr F0 wo wr := by rw [hwo]; exact Fr.refl _ _
      rw [← hwo] at hO' hF' hR
      clear hwo
      go_wp2_with fail
      go_loopw [6, 8, 26] (fun s6 _ s26 wr2 => ∃ (p : Nat) (a2 : Option Addr) (u c2 : Nat), p ≤ kn ∧ u = p ∧ s6 = .slice a2 u c2 ∧ s26 = .int .i64 p ∧ Own wr2 wo.heap.size 3 a2 u c2 (ints ((kx L j).take p)) ∧ Fr F0 wo wr2) (fun _ _ s26 _ => kn - (intOf s26).toNat)
      case atStart => exact ⟨0, none, 0, 0, by omega, rfl, rfl, rfl, by simpa using Own.nil _ _ _, hFi⟩
      case round =>
        obtain ⟨p, a2, u, c2, hp, hu, rfl, rfl, hO2, hF2⟩ := hrel
        by_cases hlt2 : p < kn
        · obtain ⟨k, he, hk⟩ := entL_get (kq L j) (i := p) (by rw [← Hkn.out]; omega)
          have hk' := hk (by rw [← Hkn.out]; exact hlt2)
          obtain ⟨b, o, ha, e1, e2, e3⟩ := (H2.out.fr0 (hF'.out.trans0 hF2)).ent he
          have et : Hid ((kx L j).take (p + 1) = (kx L j).take p ++ [k]) := Lib.hid (by
            rw [List.take_add_one, List.getElem?_eq_getElem (by rw [Hl.out]; exact hlt2), hk', List.getD_eq_getElem?_getD, ← kx_kq, List.getElem?_eq_getElem (by rw [Hl.out]; exact hlt2)]; rfl)
          have p0 : (0 : Int) ≤ (p : Int) := by omega
          have p1 : (p : Int) < (kn : Int) := by omega
          have hub : u ≤ 2000 := by omega
          have Hu := Lib.hid hu
          have bO := Lib.hid hO2.blk
          have hsz := hF2.size
          subst ha
          clear he hk hk' hu
          go_wp2_with (at_builtin; refine wpAppAt E3 (hO2.alloc _) (by omega) (by omega) (by simp; omega) rfl rfl (by rw [size_alloc]; rfl) ?_; intro a' c' w' own' fr' at')
          have hF3 : Fr F0 wo w' := (hF2.alloc _).trans fr' (fun k hk hs => absurd (bO.out _ hs).1 (by omega))
          replace at' := Lib.hid at'
          clear fr'
          go_roundw
          case rel => exact ⟨p + 1, a', u + 1, c', by omega, by have := Hu.out; omega, rfl, by go_num, by rw [et.out]; simpa using own', hF3⟩
          case measure => simp [intOf]; omega
        · have ep : p = kn := by omega
          subst ep
          rw [List.take_of_length_le (by rw [Hl.out]; exact Nat.le_refl _)] at hO2
          have hOw := hO'.out.fr0 hF2
          rw [hu1] at hOw
          have hFw := hF'.out.trans0 hF2
          have bO := Lib.hid hO'.out.blk
          have b2 := Lib.hid hO2.blk
          have hsz := hF2.size
          have hsw := hFw.size
          have hl1 : Hid (R1.length = u1) := Lib.hid (by have := hO'.out.len; simpa using this)
          have hO2' := Lib.hid hO2
          have hF2' := Lib.hid hF2
          have hub : j ≤ 100 := by omega
          have Hu1 := Lib.hid hu1
          have Hu := Lib.hid hu
          have hR1x := Lib.hid (show u = p from hu)
          clear hO2 hF2 hu1 hu
          go_wp2_with (at_builtin; refine wpAppAt E22 hOw (by omega) (by omega) (by omega) rfl rfl rfl ?_; intro a' c' w' own' fr' at')
          have hFo : Fr F0 w w' := hFw.trans fr' (fun k hk h => absurd (bO.out k h).1 (by omega))
          have hR' := rows_snoc (j := j) (by rw [hl1.out, Hu1.out]) hR.out hF2'.out hO2'.out hF'.out.size bO.out fr' at'
          have own2 : Own w' w.heap.size 31 a' (j + 1) c' ((R1 ++ [(⟨a2, p, c2, kx L j⟩ : RowV)]).map RowV.val) := by
            have h := own'
            rw [Hu.out] at h
            simpa using h
          rw [hR1x.out] at hR'
          have hR2 := Lib.hid hR'
          clear fr' at' hR' own'
          go_roundw
          case rel => exact ⟨j + 1, a', j + 1, c', R1 ++ [⟨a2, p, c2, kx L j⟩], by omega, rfl, rfl, by go_num, own2, hR2, hFo⟩
          case measure => simp [intOf]; omega
    · have ej : j = n := by omega
      subst ej
      have hl1 : R1.length = j := by have := hO.len; simp at this; omega
      have eq : catL R1 = (augK L).map keyL := by
        rw [← kx_all, ← HnL.out]
        apply List.ext_getElem
        · simp [hl1]
        · intro q h1 h2
          simp at h1 h2
          have := (hR.out q R1[q] (List.getElem?_eq_getElem (by omega))).1
          simpa using this
      have hfin : Hid (RlPost L j w (.returned (.slice a1 u1 d1)) wr) := Lib.hid ⟨a1, d1, R1, by rw [hu1], ⟨by rw [← hu1]; exact hO.rd, fun q r hr => (hR.out q r hr).2.1.rd⟩, eq, hF1⟩
      clear hO hF1 eq
      go_wp2_with fail
      go_ret
      exact hfin.out

end Go.Proofs.Ytglonedhcljdoaa
