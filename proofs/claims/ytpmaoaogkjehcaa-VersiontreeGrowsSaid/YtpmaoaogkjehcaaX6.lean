/- Nearest. -/
import Derived.Test.YtpmaoaogkjehcaaX5
import Derived.Test.YtpmaoaogkjehcaaSlClone
import Derived.Test.YtpmaoaogkjehcaaCom6
namespace Go.Proofs.Ytpmaoaogkjehcaa
open Go.RowKit

theorem E70 : Elem1 Try.prog 70 4 (.bool false) 1 := ⟨rfl, by kernel_rfl, rfl⟩
abbrev bools (l : List Bool) : List Value := l.map Value.bool
/-- What is marked. -/
def markB (n : Nat) (l : List Int) : List Bool := (List.range n).map fun (i : Nat) => decide ((i : Int) ∈ l)
/-- The first marked version of a chain. -/
def nearL (l : List Int) (ch : List Int) : Int × Int := match ch.find? (fun x => decide (x ∈ l)) with | some x => (x, 0) | none => (0, 12)
def nearE (P : List Int) (l : List Int) (v : Int) : Int × Int :=
  if 1000 < l.length then (0, 4) else if checkI P.length (l ++ [v]) = 0 then nearL l (chain P v) else (0, 24)
theorem markB_set {n : Nat} {l : List Int} {m : Nat} (hm : m < n) : (markB n l).set m true = markB n (l ++ [(m : Int)]) := by
  apply List.ext_getElem?
  intro i
  rw [List.getElem?_set]
  unfold markB
  simp only [List.getElem?_map, List.length_map, List.length_range]
  by_cases hi : i < n
  · by_cases hmi : m = i
    · subst hmi
      simp [hi]
    · rw [if_neg hmi]
      have h2 : ¬ i = m := fun h => hmi h.symm
      simp [hi, Int.ofNat_inj, h2]
  · rw [if_neg (by omega)]
    simp [hi]
theorem checkI_zero {n : Nat} {l : List Int} (h : checkI n l = 0) : ∀ v ∈ l, 0 ≤ v ∧ v < n := by
  intro v hv
  rcases Classical.em (0 ≤ v ∧ v < n) with h1 | h1
  · exact h1
  · have := checkI_out hv h1; omega
theorem checkI_or (n : Nat) (l : List Int) : checkI n l = 0 ∨ checkI n l = 24 := by unfold checkI; split <;> simp

/-- slices.Clone, nil too. -/
theorem Clone_all (a : Option Addr) (n c : Nat) (xs : List Int) (w : World) (hr : Rd w a n (ints xs)) (hn2 : n ≤ 1000000) :
    Calls Try.prog 40 #[.slice a n c] w fun e w' => ∃ a' c', e = .returned (.slice a' n c') ∧ Own w' w.heap.size 3 a' n c' (ints xs) ∧ Fr F0 w w' := by
  have hnil := fun (w : World) (a : Option Addr) (l c : Nat) => Lib.run_eql_slice_nil (P := Try.prog) w 22 3 a l c 0 0 Try.underlying22
  cases a with
  | none =>
    have hn : n = 0 := by
      rcases Nat.eq_zero_or_pos n with h | h
      · exact h
      · obtain ⟨_, _, h, _⟩ := hr.cells h; cases h
    subst hn
    have hx : xs = [] := by simpa using hr.len
    subst hx
    go_enter Try.func40, Try.ntmps40
    go_wp2_with fail
    go_ret
    exact ⟨none, 0, rfl, Own.nil _ _ _, Fr.refl _ _⟩
  | some ad =>
    have hO : Own (w.alloc (.cells (#[] : Array Value) 3)) w.heap.size 3 (some ⟨w.heap.size, 0, none⟩) 0 0 (ints []) := Own.lit [] 0 rfl (by omega) (by omega)
    have hF : Fr F0 w (w.alloc (.cells (#[] : Array Value) 3)) := (Fr.refl _ _).alloc _
    have hr2 := Lib.hid (hr.fr0 hF)
    replace hO := Lib.hid hO
    replace hF := Lib.hid hF
    go_enter Try.func40, Try.ntmps40
    go_wp2_with (at_builtin; refine wpAppRd E3 hO.out hr2.out (oneCell_ints xs) (by omega) (by omega) (by simp) n (by omega) rfl rfl ?_; intro a' c' w' own' fr' at')
    go_ret
    refine ⟨a', c', ?_, by simpa using own', hF.out.trans fr' (fun k hk hs => ?_)⟩
    · rfl
    · have := (onBlk_some _ _ _ _).1 hs
      omega

def NearPost (r : Int × Int) (w : World) (e : Ending) (w' : World) : Prop := e = .returned (.tuple #[.int .i64 r.1, .int .i64 r.2]) ∧ Fr F0 w w'
set_option maxHeartbeats 1000000 in
theorem Nearest_any (w : World) (B x : Nat) (sa : Option Addr) (c : Nat) (P : List Int) (h : IX w B x sa c P) (hv : validB P = true) (la : Option Addr) (ln lc : Nat) (l : List Int) (hr : Rd w la ln (ints l)) (v : Int) :
    Calls Try.prog 30 #[.pointer (some ⟨x, 0, none⟩), .slice la ln lc, .int .i64 v] w (NearPost (nearE P l v) w) := by
  have hll : l.length = ln := by simpa using hr.len
  have hm := hr.max
  have hlen := (valid_len hv).2.1
  replace hv := Lib.hid hv
  by_cases h0 : 1000 < ln
  · have E : Hid (nearE P l v = (0, 4)) := Lib.hid (by unfold nearE; rw [if_pos (by omega)])
    clear hll
    go_enter Try.func30, Try.ntmps30
    go_wp2_with fail
    go_ret2
    exact ⟨ret2 (val_int (congrArg Prod.fst E.out).symm) (val_int (congrArg Prod.snd E.out).symm), Fr.refl _ _⟩
  · have hz : decide ((1000 : Int) < (ln : Int)) = false := by simp; omega
    have hlnb : ln ≤ 1000000 := by omega
    have hH0 := Lib.hid h0
    have Hll := Lib.hid hll
    have Hlen := Lib.hid hlen
    clear h0 hll hlen
    rcases checkI_or P.length (l ++ [v]) with hck | hck
    · have hck2 := Lib.hid (checkI_zero hck)
      have hvin := hck2.out v (by simp)
      have E : Hid (nearE P l v = nearL l (chain P v)) := Lib.hid (by unfold nearE; rw [if_neg (by have := hH0.out; have := Hll.out; omega), if_pos hck])
      have Hck := Lib.hid hck
      clear hck
      go_enter Try.func30, Try.ntmps30
      go_wp2_with fail
      refine (Clone_all la ln lc l _ hr hlnb).mono ?_; rintro e w1 ⟨a1, c1, rfl, hO, F1⟩
      have h1 := h.fr0 F1
      have bO := Lib.hid hO.blk
      have Fa := Lib.hid F1
      clear F1
      go_wp2_with (at_builtin; refine wpAppAt E3 hO (by omega) (by omega) (by have := Fa.out.size; omega) rfl rfl rfl ?_; intro a2 c2 w2 hO2 fr2 at2)
      have F2 : Fr F0 w w2 := Fa.out.trans fr2 (fun k hk hs => absurd (bO.out _ hs).1 (by omega))
      have HX := h.fr0 F2
      have hRd : Rd w2 a2 (ln + 1) (ints (l ++ [v])) := by have := hO2.rd; simpa using this
      clear fr2 at2 hO2 h1
      refine (checkI_any _ B x sa c P HX _ _ _ _ hRd).mono ?_; rintro e w3 ⟨rfl, F3⟩
      rw [Hck.out]
      replace HX := HX.fr0 F3
      replace F3 := F2.trans0 F3
      have hc := HX.one.cell
      have hmk := run_mk E70 rfl P.length (by have := Hlen.out; omega) (by have := Hlen.out; omega) w3
      have hMk := Own.made (w := w3) (B := w.heap.size) (T := 4) (z := .bool false) P.length F3.size (by have := Hlen.out; omega)
      have F4 := F3.alloc (.cells (Array.replicate P.length (.bool false)) 4)
      have HX4 := HX.alloc (.cells (Array.replicate P.length (.bool false)) 4)
      have hxl : x < w3.heap.size := HX.one.lt
      clear F2 hRd hO
      go_wp2_with fail
      obtain ⟨bw, hbw⟩ : ∃ bw, bw = w3.heap.size := ⟨_, rfl⟩
      have hbx : Hid (x ≠ bw) := Lib.hid (by omega)
      rw [← hbw] at hMk
      simp only [← hbw]
      have hwb : Hid (w.heap.size ≤ bw) := Lib.hid (by rw [hbw]; exact F3.size)
      obtain ⟨W, hW⟩ : ∃ W, W = w3.alloc (.cells (Array.replicate P.length (.bool false)) 4) := ⟨_, rfl⟩
      rw [← hW] at hMk F4 HX4
      have hM0 : Own W w.heap.size 4 (some ⟨bw, 0, none⟩) P.length P.length (bools (markB P.length (l.take 0))) := by
        have e : bools (markB P.length (l.take 0)) = List.replicate P.length (.bool false) := by
          apply List.ext_getElem?
          intro i
          simp [markB, List.getElem?_replicate]
          by_cases hi : i < P.length
          · simp [hi]
          · simp [hi]
        rw [e]; exact hMk
      have HX4h := Lib.hid HX4
      have F4h := Lib.hid F4
      have hgW : Hid (∀ k, onBlk sa k → k < bw) := Lib.hid (fun k hk => by rw [hbw]; exact (HX.own.blk k hk).2)
      clear HX HX4 F3 F4 hc hmk hMk hxl
      rw [← hW]
      clear hW hbw
      go_loopw [11, 35] (fun _ i wr => ∃ k : Nat, k ≤ ln ∧ i = .int .i64 k ∧ Own wr w.heap.size 4 (some ⟨bw, 0, none⟩) P.length P.length (bools (markB P.length (l.take k))) ∧ Fr (onB bw) W wr) (fun _ i _ => ln - (intOf i).toNat)
      case atStart => exact ⟨0, by omega, rfl, hM0, Fr.refl _ _⟩
      case round =>
        obtain ⟨k, hk, rfl, hO, hF⟩ := hrel
        by_cases hlt : k < ln
        · obtain ⟨g, o, z, hab, hz, hcell⟩ := hr.ix hlt
          have hzin := hck2.out z (by simp [List.mem_of_getElem? hz])
          obtain ⟨hz0, hz1⟩ := hzin
          obtain ⟨q, rfl⟩ := Int.eq_ofNat_of_zero_le hz0
          have hq : q < P.length := by omega
          have hgb : Hid (¬ g = bw) := Lib.hid (by
            have := World.block_lt_of_cell? _ _ hcell
            have := hwb.out
            simp only at *; omega)
          have hcell2 := hF.cell (F4h.out.cell hcell id) hgb.out
          obtain ⟨g', hg, _, _, hgc, hgf⟩ := hO.at (by omega)
          injection hg with hg
          injection hg with hg
          subst hg
          have hcq := hgc q (.bool (decide ((q : Int) ∈ l.take k))) (by simp [markB, hq])
          have hfq := hgf q
          have hset := hO.set (i := q) (.bool true)
          have e : (bools (markB P.length (l.take k))).set q (.bool true) = bools (markB P.length (l.take (k + 1))) := by
            rw [← List.map_set, markB_set hq, List.take_add_one, hz]; rfl
          rw [e] at hset
          have hFs := hF.setB q (.bool true)
          replace hset := Lib.hid hset
          replace hFs := Lib.hid hFs
          subst hab
          clear hgc hgf e hz
          go_wp2_with fail
          go_roundw
          case rel => exact ⟨k + 1, by omega, by go_num, hset.out, hFs.out⟩
          case measure => simp [intOf]; omega
        · obtain rfl : k = ln := by omega
          have et : l.take k = l := List.take_of_length_le (by have := Hll.out; omega)
          rw [et] at hO
          have HX5 := HX4h.out.fr hF hbx.out (fun j hj hs => by have h1 := hgW.out j hj; have h2 : j = bw := hs; omega)
          have hF5 := Lib.hid (F4h.out.trans hF (fun j hj hs => by have h2 : j = bw := hs; have := hwb.out; omega))
          have hc := HX5.one.cell
          have hmx := HX5.own.max
          clear et
          go_wp2_with fail
          go_loop [2] (fun i => ∃ y : Int, -1 ≤ y ∧ y < P.length ∧ i = .int .i64 y ∧ Hid (nearL l (chain P v) = nearL l (chain P y))) (fun i => (intOf i + 1).toNat)
          case atStart => exact ⟨v, by omega, by omega, rfl, Lib.hid rfl⟩
          case round =>
            obtain ⟨y, hy0, hy1, rfl, hI⟩ := hrel
            by_cases h0 : 0 ≤ y
            · obtain ⟨q, rfl⟩ := Int.eq_ofNat_of_zero_le h0
              have hq : q < P.length := by omega
              have e4 := chain_pos hv.out hq
              have e5 := valid_par hv.out hq
              obtain ⟨g, rfl, d1, d2, d3⟩ := HX5.at hq
              obtain ⟨p, hp⟩ : ∃ p, p = P.getD q 0 := ⟨_, rfl⟩
              rw [← hp] at d1 e4 e5
              obtain ⟨e5, e6, _⟩ := e5
              obtain ⟨g', hg, _, _, hgc, hgf⟩ := hO.at (by omega)
              injection hg with hg
              injection hg with hg
              subst hg
              have hcq := hgc q (.bool (decide ((q : Int) ∈ l))) (by simp [markB, hq])
              clear hp hgc hgf
              by_cases hin : (q : Int) ∈ l
              · have E2 : Hid (nearL l (chain P v) = ((q : Int), 0)) := Lib.hid (by rw [hI.out, e4]; simp [nearL, hin])
                rw [show decide ((q : Int) ∈ l) = true by simpa using hin] at hcq
                clear e4 hin
                go_wp2_with fail
                go_ret2
                exact ⟨ret2 (val_int (by rw [E.out, E2.out])) (val_int (by rw [E.out, E2.out])), hF5.out⟩
              · have hI2 : Hid (nearL l (chain P v) = nearL l (chain P p)) := Lib.hid (by rw [hI.out, e4]; simp [nearL, hin])
                rw [show decide ((q : Int) ∈ l) = false by simpa using hin] at hcq
                clear e4 hin
                go_wp2_with fail
                go_round
                case rel => exact ⟨p, by omega, by omega, rfl, hI2⟩
                case measure => simp [intOf]; omega
            · have E2 : Hid (nearL l (chain P v) = (0, 12)) := Lib.hid (by rw [hI.out, chain_neg P (by omega)]; rfl)
              go_wp2_with fail
              go_ret2
              exact ⟨ret2 (val_int (by rw [E.out, E2.out])) (val_int (by rw [E.out, E2.out])), hF5.out⟩
    · have E : Hid (nearE P l v = (0, 24)) := Lib.hid (by unfold nearE; rw [if_neg (by have := hH0.out; have := Hll.out; omega), if_neg (by rw [hck]; omega)])
      have Hck := Lib.hid hck
      clear hck
      go_enter Try.func30, Try.ntmps30
      go_wp2_with fail
      refine (Clone_all la ln lc l _ hr hlnb).mono ?_; rintro e w1 ⟨a1, c1, rfl, hO, F1⟩
      have bO := Lib.hid hO.blk
      have Fa := Lib.hid F1
      clear F1
      go_wp2_with (at_builtin; refine wpAppAt E3 hO (by omega) (by omega) (by have := Fa.out.size; omega) rfl rfl rfl ?_; intro a2 c2 w2 hO2 fr2 at2)
      have F2 : Fr F0 w w2 := Fa.out.trans fr2 (fun k hk hs => absurd (bO.out _ hs).1 (by omega))
      have HX := h.fr0 F2
      have hRd : Rd w2 a2 (ln + 1) (ints (l ++ [v])) := by have := hO2.rd; simpa using this
      clear fr2 at2 hO2
      refine (checkI_any _ B x sa c P HX _ _ _ _ hRd).mono ?_; rintro e w3 ⟨rfl, F3⟩
      rw [Hck.out]
      replace F3 := Lib.hid (F2.trans0 F3)
      clear F2 hRd hO HX
      go_wp2_with fail
      go_ret2
      exact ⟨ret2 (val_int (congrArg Prod.fst E.out).symm) (val_int (congrArg Prod.snd E.out).symm), F3.out⟩

end Go.Proofs.Ytpmaoaogkjehcaa
