/- The reference's Lists. -/
import Derived.Test.YtglonedhcljdoaaC4
namespace Go.Proofs.Ytglonedhcljdoaa
open Go.RowKit

theorem E22 : Elem1 Try.prog 22 31 (.slice none 0 0) 24 := ⟨rfl, by kernel_rfl, rfl⟩
/-- The keys of the augmented list at place q. -/
def kx (L : List (List Int)) (q : Nat) : List Int := keyL ((augK (L.drop q)).headD [])
theorem kx_out (L : List (List Int)) {q : Nat} (h : L.length ≤ q) : kx L q = [] := by
  unfold kx; rw [List.drop_eq_nil_of_le h]; rfl
theorem kx_step {L : List (List Int)} {q : Nat} {l : List Int} (h : L[q]? = some l) : kx L q = keyL (mergeB l (oddL (kx L (q + 1)))) := by
  have hl := (List.getElem?_eq_some_iff.1 h).1
  have e : L.drop q = l :: L.drop (q + 1) := by rw [List.drop_eq_getElem_cons hl, (List.getElem?_eq_some_iff.1 h).2]
  unfold kx
  rw [e, augK]; rfl
theorem kx_len {L : List (List Int)} (h : ∀ l ∈ L, l.length ≤ 1000) (q : Nat) : (kx L q).length ≤ 2000 := by
  have key : ∀ M : List (List Int), (∀ l ∈ M, l.length ≤ 1000) → (keyL ((augK M).headD [])).length ≤ 2000 := by
    intro M
    induction M with
    | nil => intro _; simp [augK]
    | cons l M ih =>
      intro hM
      have h1 := hM l (by simp)
      have h2 := ih (fun l hl => hM l (by simp [hl]))
      have e : (augK (l :: M)).headD [] = mergeB l (oddL (keyL ((augK M).headD []))) := by rw [augK]; rfl
      rw [e]
      simp only [keyL, List.length_map, mergeB_len, oddL_len] at *
      omega
  exact key _ (fun l hl => h l (List.mem_of_mem_drop hl))
theorem kx_all (L : List (List Int)) : (List.range L.length).map (kx L) = (augK L).map keyL := by
  induction L with
  | nil => rfl
  | cons l L ih =>
    rw [List.length_cons, List.range_succ_eq_map, List.map_cons, List.map_map, augK, List.map_cons]
    congr 1
/-- A slice of rows that are only read from now on. -/
structure RowsRd (w : World) (a : Option Addr) (n : Nat) (R : List RowV) : Prop where
  rd : Rd w a n (R.map RowV.val)
  row : ∀ (j : Nat) (r : RowV), R[j]? = some r → Rd w r.a r.n (ints r.xs)
theorem RowsRd.fr0 {w w' : World} {a : Option Addr} {n : Nat} {R : List RowV} (h : RowsRd w a n R) (f : Fr F0 w w') : RowsRd w' a n R := ⟨h.rd.fr0 f, fun j r hr => (h.row j r hr).fr0 f⟩
theorem RowsRd.len {w : World} {a : Option Addr} {n : Nat} {R : List RowV} (h : RowsRd w a n R) : R.length = n := by simpa using h.rd.len
theorem RowsRd.ix {w : World} {a : Option Addr} {n : Nat} {R : List RowV} (h : RowsRd w a n R) {i : Nat} (hi : i < n) : ∃ b o r, a = some ⟨b, o, none⟩ ∧ R[i]? = some r ∧ w.cell? ⟨b, o + i, none⟩ = some r.val := by
  obtain ⟨b, o, ha, hc⟩ := h.rd.cells (by omega)
  have hl := h.len
  exact ⟨b, o, R[i]'(by omega), ha, List.getElem?_eq_getElem (by omega), hc i _ (by rw [List.getElem?_map, List.getElem?_eq_getElem (by omega)]; rfl)⟩
theorem ArgRows.rows {w : World} {a : Option Addr} {n c : Nat} {R : List RowV} (h : ArgRows w a n c R) : RowsRd w a n R := ⟨h.rd, h.row⟩

def RlPost (L : List (List Int)) (n : Nat) (w : World) (e : Ending) (w' : World) : Prop :=
  ∃ (a : Option Addr) (c : Nat) (R : List RowV), e = .returned (.slice a n c) ∧ RowsRd w' a n R ∧ catL R = (augK L).map keyL ∧ Fr F0 w w'

set_option maxHeartbeats 4000000 in
theorem refLists_any (a : Option Addr) (n c : Nat) (R : List RowV) (w : World) (hr : ArgRows w a n c R) (hn : n ≤ 1000) (hlen : ∀ l ∈ catL R, l.length ≤ 1000) :
    Calls Try.prog 19 #[.slice a n c] w (RlPost (catL R) n w) := by
  have hpl := hr.len
  have hcl : (catL R).length = n := by simpa [catL] using hpl
  have hmk := run_mk E22 rfl n (by omega) (by omega) w
  have hO := Own.made (w := w) (B := w.heap.size) (T := 31) (z := .slice none 0 0) n (by omega) (by omega)
  have hF : Fr F0 w (w.alloc (.cells (Array.replicate n (.slice none 0 0)) 31)) := (Fr.refl _ _).alloc _
  obtain ⟨L, hL⟩ : ∃ L, L = catL R := ⟨_, rfl⟩
  rw [← hL] at hlen hcl ⊢
  have HL := Lib.hid hL
  have Hcl := Lib.hid hcl
  have Hlen := Lib.hid hlen
  have Hpl := Lib.hid hpl
  obtain ⟨g, hg⟩ : ∃ g, g = w.heap.size := ⟨_, rfl⟩
  have hO2 : Own (w.alloc (.cells (Array.replicate n (.slice none 0 0)) 31)) w.heap.size 31 (some ⟨g, 0, none⟩) n n ((List.replicate n (⟨none, 0, 0, []⟩ : RowV)).map RowV.val) := by rw [hg]; simpa using hO
  clear hL hcl hlen hpl hO
  go_enter Try.func19, Try.ntmps19
  go_wp2_with fail
  rw [← hg]
  generalize w.alloc (.cells (Array.replicate n (.slice none 0 0)) 31) = W at *
  have hgw : Hid (w.heap.size ≤ g) := Lib.hid (by omega)
  clear hg hmk
  go_loopw [4, 5, 6, 7] (fun s i _ _ wr => ∃ (j : Nat) (Q : List RowV) (an : Option Addr) (nn cn : Nat), j ≤ n ∧ i = .int .i64 ((j : Int) - 1) ∧ s = .slice an nn cn ∧ nn ≤ 2000 ∧ Rd wr an nn (ints (kx L j)) ∧ ¬ onBlk an g ∧ Own wr w.heap.size 31 (some ⟨g, 0, none⟩) n n (Q.map RowV.val) ∧
    (∀ (q : Nat) (r : RowV), j ≤ q → Q[q]? = some r → r.xs = kx L q ∧ Rd wr r.a r.n (ints r.xs) ∧ ¬ onBlk r.a g) ∧ Fr F0 w wr) (fun _ i _ _ _ => (intOf i + 1).toNat)
  case atStart => exact ⟨n, _, none, 0, 0, by omega, by go_num, rfl, by omega, by rw [kx_out L (by rw [Hcl.out]; omega)]; exact Rd.nil _ _, onBlk_none _, hO2, fun q r h1 h2 => by have := (List.getElem?_eq_some_iff.1 h2).1; simp at this; omega, hF⟩
  case round =>
    obtain ⟨j, Q, an, nn, cn, hj, rfl, rfl, hnn, hnx, hng, hO, hQ, hF⟩ := hrel
    have hnxl : (kx L j).length = nn := by simpa using hnx.len
    by_cases hlt : 0 < j
    · obtain ⟨m, hm⟩ : ∃ m, j = m + 1 := ⟨j - 1, by omega⟩
      have hmn : m < n := by omega
      have e1 : (j : Int) - 1 = (m : Int) := by omega
      rw [e1]
      have hnx' := Lib.hid hnx
      have hO' := Lib.hid hO
      have hQ' := Lib.hid hQ
      have hF' := Lib.hid hF
      have hng' := Lib.hid hng
      have Hm := Lib.hid hm
      have Hnxl := Lib.hid hnxl
      have hgl := (hO.blk g ((onBlk_some _ _ _ _).2 rfl)).2
      obtain ⟨wo, hwo⟩ : ∃ wo : World, wo = wr := ⟨_, rfl⟩
      rw [← hwo] at hnx' hO' hF' hgl
      have hQo : Hid (∀ (q : Nat) (r : RowV), j ≤ q → Q[q]? = some r → r.xs = kx L q ∧ Rd wo r.a r.n (ints r.xs) ∧ ¬ onBlk r.a g) := by rw [hwo]; exact hQ'
      have hFi : Fr F0 wo wr := by rw [hwo]; exact Fr.refl _ _
      clear hnx hO hQ hF hng hm hnxl hQ' e1 hlt hwo
      go_wp2_with fail
      go_loopw [6, 7] (fun s k wr2 => ∃ (p : Nat) (a1 : Option Addr) (u c1 : Nat), 2 * p ≤ nn ∧ u = p ∧ k = .int .i64 (2 * (p : Int) + 1) ∧ s = .slice a1 u c1 ∧ Own wr2 wo.heap.size 3 a1 u c1 (ints (oddL ((kx L j).take (2 * p)))) ∧ Fr F0 wo wr2) (fun _ k _ => nn + 1 - (intOf k).toNat)
      case atStart => exact ⟨0, none, 0, 0, by omega, rfl, by go_num, rfl, by simpa [oddL] using Own.nil _ _ _, hFi⟩
      case round =>
        obtain ⟨p, a1, u, c1, hp, hu, rfl, rfl, hO1, hF1⟩ := hrel
        by_cases hk : 2 * p + 1 < nn
        · obtain ⟨b, o, x, hb, hx, hcx⟩ := (hnx'.out.fr0 hF1).ix hk
          have et := oddL_take (kx L j) p (by rw [Hnxl.out]; exact hk)
          have ex : (kx L j).getD (2 * p + 1) 0 = x := by simp [hx]
          rw [ex] at et
          have Et := Lib.hid et
          have k1 : (0 : Int) ≤ 2 * (p : Int) + 1 := by omega
          have k2 : 2 * (p : Int) + 1 < (nn : Int) := by omega
          have t1 : (2 * (p : Int) + 1).toNat = 2 * p + 1 := by omega
          have hub : u ≤ 2000 := by omega
          have Hu := Lib.hid hu
          have bO := Lib.hid hO1.blk
          have hsz := hF1.size
          subst hb
          clear et ex hx hu
          go_wp2_with (at_builtin; refine wpAppAt E3 hO1 (by omega) (by omega) (by omega) rfl rfl rfl ?_; intro a' c' w' own' fr' at')
          have hF2 : Fr F0 wo w' := hF1.trans fr' (fun k hk hs => absurd (bO.out _ hs).1 (by omega))
          replace at' := Lib.hid at'
          clear fr'
          go_roundw
          case rel => exact ⟨p + 1, a', u + 1, c', by omega, by have := Hu.out; omega, by go_num, rfl, by rw [show 2 * (p + 1) = 2 * p + 2 by omega, Et.out]; simpa using own', hF2⟩
          case measure => simp [intOf]; omega
        · have eo := oddL_take_all (kx L j) (j := p) (by rw [Hnxl.out]; omega)
          rw [eo] at hO1
          have hF2 := hF'.out.trans0 hF1
          obtain ⟨b, o, r, hb, hrm, hcr⟩ := (hr.fr0 hF2).ix hmn
          have hrow := (hr.fr0 hF2).row m r hrm
          have hLm : L[m]? = some r.xs := by rw [HL.out]; simp [catL, hrm]
          have hrn : r.n ≤ 1000 := by
            have h1 := Hlen.out r.xs (List.mem_of_getElem? hLm)
            have h2 := hr.rlen hrm
            omega
          have hks := Lib.hid (kx_step hLm)
          have hub : u ≤ 2000 := by omega
          have hul : Hid (u = (oddL (kx L j)).length) := Lib.hid (by have := hO1.lens; omega)
          have Hu := Lib.hid hu
          have m1 : (0 : Int) ≤ (m : Int) := by omega
          have m2 : (m : Int) < (n : Int) := by omega
          obtain ⟨ra, rn, rc, rxs⟩ := r
          simp only [RowV.val] at *
          subst hb
          have hkn : decide ((2 * (p : Int) + 1) < (nn : Int)) = false := by simp; omega
          clear eo hrm hLm hu
          go_wp2_with fail
          refine (refMerge_any _ _ _ _ _ _ _ _ _ hrow hO1.rd (by omega) (by omega)).mono ?_; rintro e w5 ⟨a5, c5, rfl, O5, F5⟩
          have hF5 := hF1.trans0 F5
          have hOg := hO'.out.fr0 hF5
          obtain ⟨g', hg', _, _, hgc, hgf⟩ := hOg.at (by omega)
          injection hg' with hg'
          injection hg' with hg'
          subst hg'
          have hQl : Q.length = n := by have := hO'.out.len; simpa using this
          have hcm := hgc m (Q[m]'(by omega)).val (by rw [List.getElem?_map, List.getElem?_eq_getElem (by omega)]; rfl)
          have hfm := hgf m
          obtain ⟨vm, hvm⟩ : ∃ vm, vm = (Q[m]'(by omega)).val := ⟨_, rfl⟩
          rw [← hvm] at hcm
          have n5 : Hid (¬ onBlk a5 g) := Lib.hid (fun h => by have := (O5.blk _ h).1; have := hF1.size; omega)
          have hset := Lib.hid (hOg.set (i := m) (.slice a5 (rn + u) c5))
          have R5 := Lib.hid (O5.rd.other (p := ⟨g, m, none⟩) n5.out (.slice a5 (rn + u) c5))
          have F6 := Lib.hid ((hF'.out.trans0 hF5).setCell (p := ⟨g, m, none⟩) (fun h => absurd h (by have := hgw.out; simp only; omega)) (.slice a5 (rn + u) c5))
          have hQ5 : Hid (∀ (q : Nat) (r : RowV), j ≤ q → Q[q]? = some r → r.xs = kx L q ∧ Rd (w5.setCell ⟨g, m, none⟩ (.slice a5 (rn + u) c5)) r.a r.n (ints r.xs) ∧ ¬ onBlk r.a g) := Lib.hid (fun q r h1 h2 => by
            obtain ⟨z1, z2, z3⟩ := hQo.out q r h1 h2
            exact ⟨z1, (z2.fr0 hF5).other (p := ⟨g, m, none⟩) z3 _, z3⟩)
          have hQl' := Lib.hid hQl
          clear hgc hgf hvm hOg O5 F5 hF5 hQl
          go_wp2_with fail
          go_roundw
          case rel =>
            refine ⟨m, Q.set m ⟨a5, rn + u, c5, kx L m⟩, a5, rn + u, c5, by omega, by go_num, rfl, by have := Hnxl.out; have h1 := oddL_len (kx L j); have h2 := hul.out; omega, ?_, n5.out, ?_, ?_, F6.out⟩
            · rw [hks.out, ← Hm.out]; exact R5.out
            · rw [List.map_set]; exact hset.out
            · intro q r h1 h2
              rw [List.getElem?_set] at h2
              split at h2
              · rename_i he
                subst he
                rw [if_pos (by rw [hQl'.out]; exact hmn)] at h2
                injection h2 with h2
                subst h2
                refine ⟨rfl, ?_, n5.out⟩
                show Rd _ a5 (rn + u) (ints (kx L m))
                rw [hks.out, ← Hm.out]; exact R5.out
              · rename_i he
                exact hQ5.out q r (by have := Hm.out; omega) h2
          case measure => simp [intOf]
    · have hj0 : j = 0 := by omega
      have hRR : Hid (RowsRd wr (some ⟨g, 0, none⟩) n Q ∧ catL Q = (augK L).map keyL) := Lib.hid (by
        have hQl : Q.length = n := by have := hO.len; simpa using this
        refine ⟨⟨hO.rd, fun q r h => (hQ q r (by omega) h).2.1⟩, ?_⟩
        rw [← kx_all, Hcl.out]
        apply List.ext_getElem?
        intro q
        by_cases hq : q < n
        · have h1 : Q[q]? = some (Q[q]'(by omega)) := List.getElem?_eq_getElem (by omega)
          have h2 := (hQ q _ (by omega) h1).1
          simp [catL, h1, hq, h2]
        · rw [List.getElem?_eq_none (by simp [catL]; omega), List.getElem?_eq_none (by simp; omega)])
      replace hF := Lib.hid hF
      subst hj0
      clear hO hQ hnx hng hnxl
      go_wp2_with fail
      go_ret
      exact ⟨some ⟨g, 0, none⟩, n, Q, rfl, hRR.out.1, hRR.out.2, hF.out⟩

end Go.Proofs.Ytglonedhcljdoaa
