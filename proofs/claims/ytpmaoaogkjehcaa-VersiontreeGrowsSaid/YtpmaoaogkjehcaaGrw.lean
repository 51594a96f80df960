/- VersiontreeGrows: the walk. -/
import Derived.Test.YtpmaoaogkjehcaaGrw1
namespace Go.Proofs.Ytpmaoaogkjehcaa
open Go.RowKit
attribute [local go_sem ↓] Go.wp_at_zero Go.wp_at_succ

theorem fld24' (w : World) (a : Option Addr) (n c : Nat) : (Instr.field 24 (VA a n c) 0).run Try.prog w = .ok (.slice a n c) w := by kernel_rfl
/-- What a call of Branch keeps. -/
structure GK (w wr : World) (b21 x : Nat) (sa : Option Addr) (c : Nat) (va : Option Addr) (n c' : Nat) (P0 P : List Int) : Prop where
  ix : IX wr w.heap.size x sa c P
  v : One wr b21 24 (.slice va n c')
  rd : Rd wr va n (ints P0)
  ap : ∀ k, onBlk va k → k ≠ x ∧ ¬ onBlk sa k
  s21 : ¬ onBlk sa b21
  x21 : x ≠ b21
  fr : Fr F0 w wr
theorem GK.fr0 {w wr w' : World} {b21 x : Nat} {sa : Option Addr} {c : Nat} {va : Option Addr} {n c' : Nat} {P0 P : List Int} (h : GK w wr b21 x sa c va n c' P0 P) (f : Fr F0 wr w') : GK w w' b21 x sa c va n c' P0 P :=
  ⟨h.ix.fr0 f, h.v.fr f id, h.rd.fr0 f, h.ap, h.s21, h.x21, h.fr.trans0 f⟩
theorem GK.branch {w wr w' : World} {b21 x : Nat} {sa sa' : Option Addr} {c c1 : Nat} {va : Option Addr} {n c' : Nat} {P0 P P' : List Int} (h : GK w wr b21 x sa c va n c' P0 P) (hn : 0 < n)
    (i1 : IX w' w.heap.size x sa' c1 P') (f : Fr (onIx x sa) wr w') (at1 : ∀ k, onBlk sa' k → onBlk sa k ∨ wr.heap.size ≤ k) : GK w w' b21 x sa' c1 va n c' P0 P' := by
  have hl := h.rd.lt hn
  have l21 := h.v.lt
  refine ⟨i1, h.v.fr f (by rintro (h1 | h1); exact h.x21 h1.symm; exact h.s21 h1), h.rd.fr f (fun k hk hs => by rcases hs with h1 | h1; exact (h.ap k hk).1 h1; exact (h.ap k hk).2 h1), fun k hk => ⟨(h.ap k hk).1, fun h1 => (at1 k h1).elim (h.ap k hk).2 (fun h2 => by have := hl k hk; omega)⟩, fun h1 => (at1 _ h1).elim h.s21 (fun h2 => by omega), h.x21, h.fr.trans f ?_⟩
  rintro k hk (h1 | h1)
  · have := h.ix.from'; omega
  · have := (h.ix.own.blk k h1).1; omega

set_option maxRecDepth 100000 in
set_option maxHeartbeats 8000000 in
theorem Grw_skip1 (la : Option Addr) (ln lc : Nat) (l : List Int) (ma : Option Addr) (mn mc : Nat) (ms : List Int) (a b : Int) (w : World) (hl : Rd w la ln (ints l)) (hm : Rd w ma mn (ints ms)) (h : 40 < ln) :
    Calls Try.prog 8 #[.slice la ln lc, .slice ma mn mc, .int .i64 a, .int .i64 b] w fun e w' => e = .returned (.bool true) ∧ Fr F0 w w' := by
  have hm1 := hl.max
  have hm2 := hm.max
  have d1 : decide ((40 : Int) < (ln : Int)) = true := by simp; omega
  replace h := Lib.hid h
  have hfld := fld24'
  go_enter Try.func8, Try.ntmps8
  go_wp2_with fail
  refine (awake_any _).mono ?_; rintro e w1 ⟨rfl, F⟩
  go_wp2_with fail
  refine (Branch_nil _ _).mono ?_; rintro e w2 ⟨rfl, F1⟩
  replace F := F.trans0 F1
  clear F1
  go_wp2_with fail
  refine (Depth_nil _ _).mono ?_; rintro e w3 ⟨rfl, F1⟩
  replace F := F.trans0 F1
  clear F1
  go_wp2_with fail
  refine (Ancestor_nil _ _ _).mono ?_; rintro e w4 ⟨rfl, F1⟩
  replace F := F.trans0 F1
  clear F1
  go_wp2_with fail
  refine (Common_nil _ _ _).mono ?_; rintro e w5 ⟨rfl, F1⟩
  replace F := F.trans0 F1
  clear F1
  go_wp2_with fail
  refine (Nearest_nil _ _ _ _ _).mono ?_; rintro e w6 ⟨rfl, F1⟩
  replace F := F.trans0 F1
  clear F1
  go_wp2_with fail
  refine (Len_nil _).mono ?_; rintro e w' ⟨rfl, rfl⟩
  go_wp2_with fail
  refine (Tree_nil _).mono ?_; rintro e w7 ⟨rfl, F1⟩
  replace F := F.trans0 F1
  clear F1
  replace F := Lib.hid F
  go_wp2_with fail
  go_ret
  exact ⟨rfl, F.out⟩

set_option maxRecDepth 100000 in
set_option maxHeartbeats 8000000 in
theorem Grw_skip2 (la : Option Addr) (ln lc : Nat) (l : List Int) (ma : Option Addr) (mn mc : Nat) (ms : List Int) (a b : Int) (w : World) (hl : Rd w la ln (ints l)) (hm : Rd w ma mn (ints ms)) (h : ln ≤ 40) (h2 : 40 < mn) :
    Calls Try.prog 8 #[.slice la ln lc, .slice ma mn mc, .int .i64 a, .int .i64 b] w fun e w' => e = .returned (.bool true) ∧ Fr F0 w w' := by
  have hm1 := hl.max
  have hm2 := hm.max
  have d1 : decide ((40 : Int) < (ln : Int)) = false := by simp; omega
  have d2 : decide ((40 : Int) < (mn : Int)) = true := by simp; omega
  replace h := Lib.hid h
  replace h2 := Lib.hid h2
  have hfld := fld24'
  go_enter Try.func8, Try.ntmps8
  go_wp2_with fail
  refine (awake_any _).mono ?_; rintro e w1 ⟨rfl, F⟩
  go_wp2_with fail
  refine (Branch_nil _ _).mono ?_; rintro e w2 ⟨rfl, F1⟩
  replace F := F.trans0 F1
  clear F1
  go_wp2_with fail
  refine (Depth_nil _ _).mono ?_; rintro e w3 ⟨rfl, F1⟩
  replace F := F.trans0 F1
  clear F1
  go_wp2_with fail
  refine (Ancestor_nil _ _ _).mono ?_; rintro e w4 ⟨rfl, F1⟩
  replace F := F.trans0 F1
  clear F1
  go_wp2_with fail
  refine (Common_nil _ _ _).mono ?_; rintro e w5 ⟨rfl, F1⟩
  replace F := F.trans0 F1
  clear F1
  go_wp2_with fail
  refine (Nearest_nil _ _ _ _ _).mono ?_; rintro e w6 ⟨rfl, F1⟩
  replace F := F.trans0 F1
  clear F1
  go_wp2_with fail
  refine (Len_nil _).mono ?_; rintro e w' ⟨rfl, rfl⟩
  go_wp2_with fail
  refine (Tree_nil _).mono ?_; rintro e w7 ⟨rfl, F1⟩
  replace F := F.trans0 F1
  clear F1
  replace F := Lib.hid F
  go_wp2_with fail
  go_ret
  exact ⟨rfl, F.out⟩

set_option maxRecDepth 100000 in
set_option maxHeartbeats 8000000 in
theorem Grw_out (la : Option Addr) (ln lc : Nat) (l : List Int) (ma : Option Addr) (mn mc : Nat) (ms : List Int) (a b : Int) (w : World) (hl : Rd w la ln (ints l)) (hm : Rd w ma mn (ints ms)) (h : ln ≤ 40) (h2 : mn ≤ 40) (P : List Int) (hP : growP l = P) (ha : ¬ inB P a) :
    Calls Try.prog 8 #[.slice la ln lc, .slice ma mn mc, .int .i64 a, .int .i64 b] w fun e w' => e = .returned (.bool true) ∧ Fr F0 w w' := by
  have hm1 := hl.max
  have hm2 := hm.max
  have d1 : decide ((40 : Int) < (ln : Int)) = false := by simp; omega
  have d2 : decide ((40 : Int) < (mn : Int)) = false := by simp; omega
  replace h := Lib.hid h
  replace h2 := Lib.hid h2
  have hv := Lib.hid (show validB P = true by rw [← hP]; exact growP_valid l)
  have HP := Lib.hid hP
  have hml : ms.length = mn := by simpa using hm.len
  have Hml := Lib.hid hml
  have ED : Hid (depE P a = (0, 24)) := Lib.hid (by unfold depE; exact if_neg ha)
  have EA : Hid (ancE P a b = (false, 24)) := Lib.hid (by unfold ancE; rw [if_neg (fun h => ha h.1)])
  have EC : Hid (comE P a b = (0, 24)) := Lib.hid (by unfold comE; rw [if_neg (fun h => ha h.1)])
  clear ha
  clear hP hml
  have hfld := fld24'
  go_enter Try.func8, Try.ntmps8
  go_wp2_with fail
  refine (awake_any _).mono ?_; rintro e w1 ⟨rfl, F⟩
  go_wp2_with fail
  refine (Branch_nil _ _).mono ?_; rintro e w2 ⟨rfl, F1⟩
  replace F := F.trans0 F1
  clear F1
  go_wp2_with fail
  refine (Depth_nil _ _).mono ?_; rintro e w3 ⟨rfl, F1⟩
  replace F := F.trans0 F1
  clear F1
  go_wp2_with fail
  refine (Ancestor_nil _ _ _).mono ?_; rintro e w4 ⟨rfl, F1⟩
  replace F := F.trans0 F1
  clear F1
  go_wp2_with fail
  refine (Common_nil _ _ _).mono ?_; rintro e w5 ⟨rfl, F1⟩
  replace F := F.trans0 F1
  clear F1
  go_wp2_with fail
  refine (Nearest_nil _ _ _ _ _).mono ?_; rintro e w6 ⟨rfl, F1⟩
  replace F := F.trans0 F1
  clear F1
  go_wp2_with fail
  refine (Len_nil _).mono ?_; rintro e w' ⟨rfl, rfl⟩
  go_wp2_with fail
  refine (Tree_nil _).mono ?_; rintro e w7 ⟨rfl, F1⟩
  replace F := F.trans0 F1
  clear F1
  go_wp2_with fail
  refine (grown_any la ln lc l _ (hl.fr0 F) (by have := h.out; omega)).mono ?_; rintro e w8 ⟨x, sa, sc, va, n, c', rfl, HX, Rv, hc', hap, F2⟩
  rw [HP.out] at HX Rv
  have hpl : P.length = n := by simpa using Rv.len
  have hn1 : n ≤ 1000 := by have := (valid_len hv.out).2.1; omega
  have hn0 : 0 < n := by have := (valid_len hv.out).1; omega
  have hG : GK w (w8.alloc (.cells #[.slice va n c'] 24)) w8.heap.size x sa sc va n c' P P := by
    have hxl := HX.one.lt
    have hsl := HX.own.blk
    exact ⟨(HX.mono F.size).alloc _, One.new _ _, Rv.alloc _, fun k hk => ⟨(hap k hk).2.1, (hap k hk).2.2⟩, fun h => by have := (hsl _ h).2; omega, by omega, (F.trans0 F2).alloc _⟩
  have Hpl := Lib.hid hpl
  clear HX Rv hap F2 F hpl
  go_wp2_with fail
  obtain ⟨b21, hb⟩ : ∃ b21, b21 = w8.heap.size := ⟨_, rfl⟩
  rw [← hb] at hG
  simp only [← hb]
  generalize w8.alloc (.cells #[.slice va n c'] 24) = W at *
  clear hb
  refine (Depth_any _ _ x sa sc P hG.ix a).mono ?_; rintro e w9 ⟨rfl, F1⟩
  rw [ED.out]
  replace hG := hG.fr0 F1
  clear F1
  go_wp2_with fail
  refine (Ancestor_any _ _ x sa sc P hG.ix hv.out a b).mono ?_; rintro e w10 ⟨rfl, F1⟩
  rw [EA.out]
  replace hG := hG.fr0 F1
  clear F1
  go_wp2_with fail
  refine (Common_any _ _ x sa sc P hG.ix hv.out a b).mono ?_; rintro e w11 ⟨rfl, F1⟩
  rw [EC.out]
  replace hG := hG.fr0 F1
  clear F1
  go_wp2_with fail
  refine (Tree_any _ _ x sa sc P hG.ix (by rw [Hpl.out]; exact hn1)).mono ?_; rintro e w12 ⟨ta, tc, rfl, tO, F1⟩
  rw [Hpl.out] at tO
  rw [Hpl.out]
  have hIl := Lib.hid hG.ix.own.blk
  have hIx := Lib.hid hG.ix.one.lt
  have hIv := Lib.hid (hG.rd.lt hn0)
  have hI21 := Lib.hid hG.v.lt
  have hIw := Lib.hid hG.fr.size
  replace hG := hG.fr0 F1
  clear F1
  have k26 : One (w12.alloc (.cells #[.slice ta n tc] 24)) w12.heap.size 24 (.slice ta n tc) := One.new _ _
  have k26c := k26.cell
  have tO2 := tO.alloc (.cells #[.slice ta n tc] 24)
  have tOb := Lib.hid tO.blk
  have hG2 := hG.fr0 ((Fr.refl F0 w12).alloc (.cells #[.slice ta n tc] 24))
  replace hG := Lib.hid hG2
  clear hG2 tO
  go_wp2_with fail
  obtain ⟨b26, hb⟩ : ∃ b26, b26 = w12.heap.size := ⟨_, rfl⟩
  have h26t : Hid (¬ onBlk ta b26) := Lib.hid (fun h => by have := (tOb.out _ h).2; omega)
  rw [← hb] at k26
  simp only [← hb]
  generalize w12.alloc (.cells #[.slice ta n tc] 24) = V at *
  have hGV := hG
  clear hb k26c
  go_loopw [27, 135] (fun _ i wr => ∃ (k : Nat) (xs : List Int), k ≤ n ∧ i = .int .i64 k ∧ Own wr w11.heap.size 3 ta n tc (ints xs) ∧ One wr b26 24 (.slice ta n tc) ∧ Fr (onBlk ta) V wr) (fun _ i _ => n - (intOf i).toNat)
  case atStart => exact ⟨0, P, by omega, rfl, tO2, k26, Fr.refl _ _⟩
  case round =>
    obtain ⟨k, xs, hk, rfl, hO, k26, hF⟩ := hrel
    have kc := k26.cell
    by_cases hlt : k < n
    · obtain ⟨g, hg, _, _, hgc, hgf⟩ := hO.at hn0
      subst hg
      have hxl : xs.length = n := hO.lens
      have c1 := hgc k (.int .i64 (xs[k]'(by omega))) (by simp)
      have f1 := hgf k
      have hO2 := Lib.hid (hO.set (i := k) (.int .i64 (-9)))
      have e : (ints xs).set k (.int .i64 (-9)) = ints (xs.set k (-9)) := List.map_set.symm
      have hF2 := Lib.hid (hF.setOn k (.int .i64 (-9)))
      have hk26 := Lib.hid (k26.other (p := ⟨g, k, none⟩) (fun h => h26t.out ((onBlk_some _ _ _ _).2 h)) (.int .i64 (-9)))
      obtain ⟨y, hy⟩ : ∃ y, y = xs[k]'(by omega) := ⟨_, rfl⟩
      rw [← hy] at c1
      replace e := Lib.hid e
      clear hgc hgf hO hF hxl hy
      go_wp2_with fail
      go_roundw
      case rel => exact ⟨k + 1, xs.set k (-9), by omega, by go_num, by rw [← e.out]; exact hO2.out, hk26.out, hF2.out⟩
      case measure => simp [intOf]; omega
    · obtain rfl : k = n := by omega
      have hG9 : GK w wr b21 x sa sc va k c' P P := by
        have h0 := hGV.out
        have tb : ∀ j, onBlk ta j → w11.heap.size ≤ j := fun j hj => (tOb.out j hj).1
        refine ⟨h0.ix.fr hF (fun h => by have := tb _ h; have := hIx.out; omega) (fun j hj hs => by have := tb j hs; have := (hIl.out j hj).2; omega), h0.v.fr hF (fun h => by have := tb _ h; have := hI21.out; omega), h0.rd.fr hF (fun j hj hs => by have := tb j hs; have := hIv.out j hj; omega), h0.ap, h0.s21, h0.x21, h0.fr.trans hF (fun j hj hs => by have := tb j hs; have := hIw.out; omega)⟩
      clear hO k26 kc hF
      have hGh := Lib.hid hG9
      have hmr := hm.fr0 hG9.fr
      clear hG9
      go_wp2_with fail
      have hG9 := hGh.out
      have hGg : GK w wr b21 x sa sc va k c' P (growF P (ms.take 0)) := hG9
      clear hG9
      go_loopw [29, 145] (fun _ i wr2 => ∃ (q : Nat) (sa : Option Addr) (sc : Nat), q ≤ mn ∧ i = .int .i64 q ∧ GK w wr2 b21 x sa sc va k c' P (growF P (ms.take q))) (fun _ i _ => mn - (intOf i).toNat)
      case atStart => exact ⟨0, sa, sc, by omega, rfl, hGg⟩
      case round =>
        obtain ⟨q, sa, sc, hq, rfl, hG⟩ := hrel
        by_cases hlt : q < mn
        · obtain ⟨g, o, p, hab, hp, hcell⟩ := (hm.fr0 hG.fr).ix hlt
          have ht : Hid (growF P (ms.take (q + 1)) = branP (growF P (ms.take q)) p) := Lib.hid (by rw [List.take_add_one, hp]; exact growF_snoc _ _ _)
          have hvq := Lib.hid (growF_valid hv.out (ms.take q))
          obtain ⟨Pq, hPq⟩ : ∃ Pq, Pq = growF P (ms.take q) := ⟨_, rfl⟩
          rw [← hPq] at ht hG hvq
          subst hab
          clear hp hPq
          go_wp2_with fail
          refine (Branch_any _ _ x sa sc Pq hG.ix hG.fr.size hvq.out p).mono ?_; rintro e w14 ⟨sa1, c1, rfl, i1, f1, at1⟩
          have hG2 := Lib.hid (hG.branch hn0 i1 f1 at1)
          replace at1 := Lib.hid at1
          clear i1 f1 hG
          go_wp2_with fail
          go_roundw
          case rel => exact ⟨q + 1, sa1, c1, by omega, by go_num, by rw [ht.out]; exact hG2.out⟩
          case measure => simp [intOf]; omega
        · obtain rfl : q = mn := by omega
          have et : ms.take q = ms := List.take_of_length_le (by have := Hml.out; omega)
          rw [et] at hG
          have hvq := Lib.hid (growF_valid hv.out ms)
          have hsm := growF_same hv.out ms
          obtain ⟨s1, s2, _⟩ := hsm
          have hle := (valid_len hvq.out).2.1
          obtain ⟨Q, hQ⟩ : ∃ Q, Q = growF P ms := ⟨_, rfl⟩
          rw [← hQ] at hG hvq s1 s2 hle
          rw [Hpl.out] at s1 s2
          have S1 := Lib.hid s1
          have Hle := Lib.hid hle
          have HQ := Lib.hid hQ
          clear et s1 hle hQ
          go_wp2_with fail
          refine (Tree_any _ _ x sa sc Q hG.ix Hle.out).mono ?_; rintro e w15 ⟨ya, yc, rfl, yO, F1⟩
          replace hG := hG.fr0 F1
          clear F1
          obtain ⟨yn, hyn⟩ : ∃ yn, yn = Q.length := ⟨_, rfl⟩
          rw [← hyn] at yO s2 ⊢
          have Hyn := Lib.hid hyn
          have hyl : Hid (yn ≤ 1000) := Lib.hid (by rw [hyn]; exact Hle.out)
          clear hyn
          have hycap := yO.cap
          have yT := Lib.hid (yO.take (k := k) s2).rd
          have yE : Hid ((ints Q).take k = ints P) := Lib.hid (by rw [← List.map_take, S1.out])
          have bl : decide ((yn : Int) < (k : Int)) = false := by simp; omega
          have bl2 : decide (yn < k) = false := by simp; omega
          have i0 : (0 : Int) ≤ (k : Int) := by omega
          have i1 : (k : Int) ≤ (yn : Int) := by omega
          have i2 : (k : Int) ≤ (yc : Int) := by omega
          have k21c := hG.v.cell
          have hGd := Lib.hid (hG.fr0 (Fr.refl F0 _).drew)
          have hym : (yn : Int) ≤ 1000 := by have := hyl.out; omega
          clear yO
          go_wp2_with fail
          go_region_held3 (fun w' => w'.cell? ⟨b21, 0, none⟩ = some (.slice va k c')) (go_keep)
            ((go_at_call 16; refine (Equal_any _ _ _ _ _ _ P P _ (by have h := yT.out; rw [yE.out] at h; exact h.fr0 (Fr.refl F0 _).drew) hGd.out.rd).mono ?_; rintro e w16 ⟨rfl, qq, rfl⟩; rw [show decide (P = P) = true by simp]))
          replace hG := hG.fr0 ((Fr.refl F0 w15).drewN (1 + qq))
          clear k21c hGd
          replace hG := Lib.hid hG
          go_wp2_with fail
          go_ret
          exact ⟨rfl, hG.out.fr⟩

set_option maxRecDepth 100000 in
set_option maxHeartbeats 8000000 in
theorem Grw_half (la : Option Addr) (ln lc : Nat) (l : List Int) (ma : Option Addr) (mn mc : Nat) (ms : List Int) (a b : Int) (w : World) (hl : Rd w la ln (ints l)) (hm : Rd w ma mn (ints ms)) (h : ln ≤ 40) (h2 : mn ≤ 40) (P : List Int) (hP : growP l = P) (ha : inB P a) (hb : ¬ inB P b) :
    Calls Try.prog 8 #[.slice la ln lc, .slice ma mn mc, .int .i64 a, .int .i64 b] w fun e w' => e = .returned (.bool true) ∧ Fr F0 w w' := by
  have hm1 := hl.max
  have hm2 := hm.max
  have d1 : decide ((40 : Int) < (ln : Int)) = false := by simp; omega
  have d2 : decide ((40 : Int) < (mn : Int)) = false := by simp; omega
  replace h := Lib.hid h
  replace h2 := Lib.hid h2
  have hv := Lib.hid (show validB P = true by rw [← hP]; exact growP_valid l)
  have HP := Lib.hid hP
  have hml : ms.length = mn := by simpa using hm.len
  have Hml := Lib.hid hml
  have ED : Hid (depE P a = ((dep P a.toNat : Int), 0)) := Lib.hid (by unfold depE; exact if_pos ha)
  have EA : Hid (ancE P a b = (false, 24)) := Lib.hid (by unfold ancE; rw [if_neg (fun h => hb h.2)])
  have EC : Hid (comE P a b = (0, 24)) := Lib.hid (by unfold comE; rw [if_neg (fun h => hb h.2)])
  clear ha hb
  clear hP hml
  have hfld := fld24'
  go_enter Try.func8, Try.ntmps8
  go_wp2_with fail
  refine (awake_any _).mono ?_; rintro e w1 ⟨rfl, F⟩
  go_wp2_with fail
  refine (Branch_nil _ _).mono ?_; rintro e w2 ⟨rfl, F1⟩
  replace F := F.trans0 F1
  clear F1
  go_wp2_with fail
  refine (Depth_nil _ _).mono ?_; rintro e w3 ⟨rfl, F1⟩
  replace F := F.trans0 F1
  clear F1
  go_wp2_with fail
  refine (Ancestor_nil _ _ _).mono ?_; rintro e w4 ⟨rfl, F1⟩
  replace F := F.trans0 F1
  clear F1
  go_wp2_with fail
  refine (Common_nil _ _ _).mono ?_; rintro e w5 ⟨rfl, F1⟩
  replace F := F.trans0 F1
  clear F1
  go_wp2_with fail
  refine (Nearest_nil _ _ _ _ _).mono ?_; rintro e w6 ⟨rfl, F1⟩
  replace F := F.trans0 F1
  clear F1
  go_wp2_with fail
  refine (Len_nil _).mono ?_; rintro e w' ⟨rfl, rfl⟩
  go_wp2_with fail
  refine (Tree_nil _).mono ?_; rintro e w7 ⟨rfl, F1⟩
  replace F := F.trans0 F1
  clear F1
  go_wp2_with fail
  refine (grown_any la ln lc l _ (hl.fr0 F) (by have := h.out; omega)).mono ?_; rintro e w8 ⟨x, sa, sc, va, n, c', rfl, HX, Rv, hc', hap, F2⟩
  rw [HP.out] at HX Rv
  have hpl : P.length = n := by simpa using Rv.len
  have hn1 : n ≤ 1000 := by have := (valid_len hv.out).2.1; omega
  have hn0 : 0 < n := by have := (valid_len hv.out).1; omega
  have hG : GK w (w8.alloc (.cells #[.slice va n c'] 24)) w8.heap.size x sa sc va n c' P P := by
    have hxl := HX.one.lt
    have hsl := HX.own.blk
    exact ⟨(HX.mono F.size).alloc _, One.new _ _, Rv.alloc _, fun k hk => ⟨(hap k hk).2.1, (hap k hk).2.2⟩, fun h => by have := (hsl _ h).2; omega, by omega, (F.trans0 F2).alloc _⟩
  have Hpl := Lib.hid hpl
  clear HX Rv hap F2 F hpl
  go_wp2_with fail
  obtain ⟨b21, hb⟩ : ∃ b21, b21 = w8.heap.size := ⟨_, rfl⟩
  rw [← hb] at hG
  simp only [← hb]
  generalize w8.alloc (.cells #[.slice va n c'] 24) = W at *
  clear hb
  refine (Depth_any _ _ x sa sc P hG.ix a).mono ?_; rintro e w9 ⟨rfl, F1⟩
  rw [ED.out]
  replace hG := hG.fr0 F1
  clear F1
  go_wp2_with fail
  refine (Ancestor_any _ _ x sa sc P hG.ix hv.out a b).mono ?_; rintro e w10 ⟨rfl, F1⟩
  rw [EA.out]
  replace hG := hG.fr0 F1
  clear F1
  go_wp2_with fail
  refine (Common_any _ _ x sa sc P hG.ix hv.out a b).mono ?_; rintro e w11 ⟨rfl, F1⟩
  rw [EC.out]
  replace hG := hG.fr0 F1
  clear F1
  go_wp2_with fail
  refine (Tree_any _ _ x sa sc P hG.ix (by rw [Hpl.out]; exact hn1)).mono ?_; rintro e w12 ⟨ta, tc, rfl, tO, F1⟩
  rw [Hpl.out] at tO
  rw [Hpl.out]
  have hIl := Lib.hid hG.ix.own.blk
  have hIx := Lib.hid hG.ix.one.lt
  have hIv := Lib.hid (hG.rd.lt hn0)
  have hI21 := Lib.hid hG.v.lt
  have hIw := Lib.hid hG.fr.size
  replace hG := hG.fr0 F1
  clear F1
  have k26 : One (w12.alloc (.cells #[.slice ta n tc] 24)) w12.heap.size 24 (.slice ta n tc) := One.new _ _
  have k26c := k26.cell
  have tO2 := tO.alloc (.cells #[.slice ta n tc] 24)
  have tOb := Lib.hid tO.blk
  have hG2 := hG.fr0 ((Fr.refl F0 w12).alloc (.cells #[.slice ta n tc] 24))
  replace hG := Lib.hid hG2
  clear hG2 tO
  go_wp2_with fail
  obtain ⟨b26, hb⟩ : ∃ b26, b26 = w12.heap.size := ⟨_, rfl⟩
  have h26t : Hid (¬ onBlk ta b26) := Lib.hid (fun h => by have := (tOb.out _ h).2; omega)
  rw [← hb] at k26
  simp only [← hb]
  generalize w12.alloc (.cells #[.slice ta n tc] 24) = V at *
  have hGV := hG
  clear hb k26c
  go_loopw [27, 135] (fun _ i wr => ∃ (k : Nat) (xs : List Int), k ≤ n ∧ i = .int .i64 k ∧ Own wr w11.heap.size 3 ta n tc (ints xs) ∧ One wr b26 24 (.slice ta n tc) ∧ Fr (onBlk ta) V wr) (fun _ i _ => n - (intOf i).toNat)
  case atStart => exact ⟨0, P, by omega, rfl, tO2, k26, Fr.refl _ _⟩
  case round =>
    obtain ⟨k, xs, hk, rfl, hO, k26, hF⟩ := hrel
    have kc := k26.cell
    by_cases hlt : k < n
    · obtain ⟨g, hg, _, _, hgc, hgf⟩ := hO.at hn0
      subst hg
      have hxl : xs.length = n := hO.lens
      have c1 := hgc k (.int .i64 (xs[k]'(by omega))) (by simp)
      have f1 := hgf k
      have hO2 := Lib.hid (hO.set (i := k) (.int .i64 (-9)))
      have e : (ints xs).set k (.int .i64 (-9)) = ints (xs.set k (-9)) := List.map_set.symm
      have hF2 := Lib.hid (hF.setOn k (.int .i64 (-9)))
      have hk26 := Lib.hid (k26.other (p := ⟨g, k, none⟩) (fun h => h26t.out ((onBlk_some _ _ _ _).2 h)) (.int .i64 (-9)))
      obtain ⟨y, hy⟩ : ∃ y, y = xs[k]'(by omega) := ⟨_, rfl⟩
      rw [← hy] at c1
      replace e := Lib.hid e
      clear hgc hgf hO hF hxl hy
      go_wp2_with fail
      go_roundw
      case rel => exact ⟨k + 1, xs.set k (-9), by omega, by go_num, by rw [← e.out]; exact hO2.out, hk26.out, hF2.out⟩
      case measure => simp [intOf]; omega
    · obtain rfl : k = n := by omega
      have hG9 : GK w wr b21 x sa sc va k c' P P := by
        have h0 := hGV.out
        have tb : ∀ j, onBlk ta j → w11.heap.size ≤ j := fun j hj => (tOb.out j hj).1
        refine ⟨h0.ix.fr hF (fun h => by have := tb _ h; have := hIx.out; omega) (fun j hj hs => by have := tb j hs; have := (hIl.out j hj).2; omega), h0.v.fr hF (fun h => by have := tb _ h; have := hI21.out; omega), h0.rd.fr hF (fun j hj hs => by have := tb j hs; have := hIv.out j hj; omega), h0.ap, h0.s21, h0.x21, h0.fr.trans hF (fun j hj hs => by have := tb j hs; have := hIw.out; omega)⟩
      clear hO k26 kc hF
      have hGh := Lib.hid hG9
      have hmr := hm.fr0 hG9.fr
      clear hG9
      go_wp2_with fail
      have hG9 := hGh.out
      have hGg : GK w wr b21 x sa sc va k c' P (growF P (ms.take 0)) := hG9
      clear hG9
      go_loopw [29, 145] (fun _ i wr2 => ∃ (q : Nat) (sa : Option Addr) (sc : Nat), q ≤ mn ∧ i = .int .i64 q ∧ GK w wr2 b21 x sa sc va k c' P (growF P (ms.take q))) (fun _ i _ => mn - (intOf i).toNat)
      case atStart => exact ⟨0, sa, sc, by omega, rfl, hGg⟩
      case round =>
        obtain ⟨q, sa, sc, hq, rfl, hG⟩ := hrel
        by_cases hlt : q < mn
        · obtain ⟨g, o, p, hab, hp, hcell⟩ := (hm.fr0 hG.fr).ix hlt
          have ht : Hid (growF P (ms.take (q + 1)) = branP (growF P (ms.take q)) p) := Lib.hid (by rw [List.take_add_one, hp]; exact growF_snoc _ _ _)
          have hvq := Lib.hid (growF_valid hv.out (ms.take q))
          obtain ⟨Pq, hPq⟩ : ∃ Pq, Pq = growF P (ms.take q) := ⟨_, rfl⟩
          rw [← hPq] at ht hG hvq
          subst hab
          clear hp hPq
          go_wp2_with fail
          refine (Branch_any _ _ x sa sc Pq hG.ix hG.fr.size hvq.out p).mono ?_; rintro e w14 ⟨sa1, c1, rfl, i1, f1, at1⟩
          have hG2 := Lib.hid (hG.branch hn0 i1 f1 at1)
          replace at1 := Lib.hid at1
          clear i1 f1 hG
          go_wp2_with fail
          go_roundw
          case rel => exact ⟨q + 1, sa1, c1, by omega, by go_num, by rw [ht.out]; exact hG2.out⟩
          case measure => simp [intOf]; omega
        · obtain rfl : q = mn := by omega
          have et : ms.take q = ms := List.take_of_length_le (by have := Hml.out; omega)
          rw [et] at hG
          have hvq := Lib.hid (growF_valid hv.out ms)
          have hsm := growF_same hv.out ms
          obtain ⟨s1, s2, _⟩ := hsm
          have hle := (valid_len hvq.out).2.1
          obtain ⟨Q, hQ⟩ : ∃ Q, Q = growF P ms := ⟨_, rfl⟩
          rw [← hQ] at hG hvq s1 s2 hle
          rw [Hpl.out] at s1 s2
          have S1 := Lib.hid s1
          have Hle := Lib.hid hle
          have HQ := Lib.hid hQ
          clear et s1 hle hQ
          go_wp2_with fail
          refine (Tree_any _ _ x sa sc Q hG.ix Hle.out).mono ?_; rintro e w15 ⟨ya, yc, rfl, yO, F1⟩
          replace hG := hG.fr0 F1
          clear F1
          obtain ⟨yn, hyn⟩ : ∃ yn, yn = Q.length := ⟨_, rfl⟩
          rw [← hyn] at yO s2 ⊢
          have Hyn := Lib.hid hyn
          have hyl : Hid (yn ≤ 1000) := Lib.hid (by rw [hyn]; exact Hle.out)
          clear hyn
          have hycap := yO.cap
          have yT := Lib.hid (yO.take (k := k) s2).rd
          have yE : Hid ((ints Q).take k = ints P) := Lib.hid (by rw [← List.map_take, S1.out])
          have bl : decide ((yn : Int) < (k : Int)) = false := by simp; omega
          have bl2 : decide (yn < k) = false := by simp; omega
          have i0 : (0 : Int) ≤ (k : Int) := by omega
          have i1 : (k : Int) ≤ (yn : Int) := by omega
          have i2 : (k : Int) ≤ (yc : Int) := by omega
          have k21c := hG.v.cell
          have hGd := Lib.hid (hG.fr0 (Fr.refl F0 _).drew)
          have hym : (yn : Int) ≤ 1000 := by have := hyl.out; omega
          clear yO
          go_wp2_with fail
          go_region_held3 (fun w' => w'.cell? ⟨b21, 0, none⟩ = some (.slice va k c')) (go_keep)
            ((go_at_call 16; refine (Equal_any _ _ _ _ _ _ P P _ (by have h := yT.out; rw [yE.out] at h; exact h.fr0 (Fr.refl F0 _).drew) hGd.out.rd).mono ?_; rintro e w16 ⟨rfl, qq, rfl⟩; rw [show decide (P = P) = true by simp]))
          replace hG := hG.fr0 ((Fr.refl F0 w15).drewN (1 + qq))
          clear k21c hGd
          replace hG := Lib.hid hG
          go_wp2_with fail
          go_ret
          exact ⟨rfl, hG.out.fr⟩

set_option maxRecDepth 100000 in
set_option maxHeartbeats 8000000 in
theorem Grw_both (la : Option Addr) (ln lc : Nat) (l : List Int) (ma : Option Addr) (mn mc : Nat) (ms : List Int) (a b : Int) (w : World) (hl : Rd w la ln (ints l)) (hm : Rd w ma mn (ints ms)) (h : ln ≤ 40) (h2 : mn ≤ 40) (P : List Int) (hP : growP l = P) (ha : inB P a) (hb : inB P b) :
    Calls Try.prog 8 #[.slice la ln lc, .slice ma mn mc, .int .i64 a, .int .i64 b] w fun e w' => e = .returned (.bool true) ∧ Fr F0 w w' := by
  have hm1 := hl.max
  have hm2 := hm.max
  have d1 : decide ((40 : Int) < (ln : Int)) = false := by simp; omega
  have d2 : decide ((40 : Int) < (mn : Int)) = false := by simp; omega
  replace h := Lib.hid h
  replace h2 := Lib.hid h2
  have hv := Lib.hid (show validB P = true by rw [← hP]; exact growP_valid l)
  have HP := Lib.hid hP
  have hml : ms.length = mn := by simpa using hm.len
  have Hml := Lib.hid hml
  obtain ⟨dv, hdv⟩ : ∃ dv, dv = (dep P a.toNat : Int) := ⟨_, rfl⟩
  obtain ⟨bl, hbl⟩ : ∃ bl, bl = decide (a.toNat ∈ chN P b.toNat) := ⟨_, rfl⟩
  obtain ⟨cv, hcv⟩ : ∃ cv, cv = (comV P a.toNat b.toNat : Int) := ⟨_, rfl⟩
  have ED : Hid (depE P a = (dv, 0)) := Lib.hid (by rw [hdv]; unfold depE; exact if_pos ha)
  have EA : Hid (ancE P a b = (bl, 0)) := Lib.hid (by rw [hbl]; unfold ancE; rw [if_pos ⟨ha, hb⟩])
  have EC : Hid (comE P a b = (cv, 0)) := Lib.hid (by rw [hcv]; unfold comE; rw [if_pos ⟨ha, hb⟩])
  have ES : Hid (depE (growF P ms) a = (dv, 0) ∧ ancE (growF P ms) a b = (bl, 0) ∧ comE (growF P ms) a b = (cv, 0)) := Lib.hid (by
    rw [depE_same hv.out ms ha, ancE_same hv.out ms ha hb, comE_same hv.out ms ha hb]; exact ⟨ED.out, EA.out, EC.out⟩)
  have bb : (bl == bl) = true := by simp
  have bd : (dv == dv) = true := by simp
  have bc : (cv == cv) = true := by simp
  clear ha hb hdv hbl hcv
  clear hP hml
  have hfld := fld24'
  go_enter Try.func8, Try.ntmps8
  go_wp2_with fail
  refine (awake_any _).mono ?_; rintro e w1 ⟨rfl, F⟩
  go_wp2_with fail
  refine (Branch_nil _ _).mono ?_; rintro e w2 ⟨rfl, F1⟩
  replace F := F.trans0 F1
  clear F1
  go_wp2_with fail
  refine (Depth_nil _ _).mono ?_; rintro e w3 ⟨rfl, F1⟩
  replace F := F.trans0 F1
  clear F1
  go_wp2_with fail
  refine (Ancestor_nil _ _ _).mono ?_; rintro e w4 ⟨rfl, F1⟩
  replace F := F.trans0 F1
  clear F1
  go_wp2_with fail
  refine (Common_nil _ _ _).mono ?_; rintro e w5 ⟨rfl, F1⟩
  replace F := F.trans0 F1
  clear F1
  go_wp2_with fail
  refine (Nearest_nil _ _ _ _ _).mono ?_; rintro e w6 ⟨rfl, F1⟩
  replace F := F.trans0 F1
  clear F1
  go_wp2_with fail
  refine (Len_nil _).mono ?_; rintro e w' ⟨rfl, rfl⟩
  go_wp2_with fail
  refine (Tree_nil _).mono ?_; rintro e w7 ⟨rfl, F1⟩
  replace F := F.trans0 F1
  clear F1
  go_wp2_with fail
  refine (grown_any la ln lc l _ (hl.fr0 F) (by have := h.out; omega)).mono ?_; rintro e w8 ⟨x, sa, sc, va, n, c', rfl, HX, Rv, hc', hap, F2⟩
  rw [HP.out] at HX Rv
  have hpl : P.length = n := by simpa using Rv.len
  have hn1 : n ≤ 1000 := by have := (valid_len hv.out).2.1; omega
  have hn0 : 0 < n := by have := (valid_len hv.out).1; omega
  have hG : GK w (w8.alloc (.cells #[.slice va n c'] 24)) w8.heap.size x sa sc va n c' P P := by
    have hxl := HX.one.lt
    have hsl := HX.own.blk
    exact ⟨(HX.mono F.size).alloc _, One.new _ _, Rv.alloc _, fun k hk => ⟨(hap k hk).2.1, (hap k hk).2.2⟩, fun h => by have := (hsl _ h).2; omega, by omega, (F.trans0 F2).alloc _⟩
  have Hpl := Lib.hid hpl
  clear HX Rv hap F2 F hpl
  go_wp2_with fail
  obtain ⟨b21, hb⟩ : ∃ b21, b21 = w8.heap.size := ⟨_, rfl⟩
  rw [← hb] at hG
  simp only [← hb]
  generalize w8.alloc (.cells #[.slice va n c'] 24) = W at *
  clear hb
  refine (Depth_any _ _ x sa sc P hG.ix a).mono ?_; rintro e w9 ⟨rfl, F1⟩
  rw [ED.out]
  replace hG := hG.fr0 F1
  clear F1
  go_wp2_with fail
  refine (Ancestor_any _ _ x sa sc P hG.ix hv.out a b).mono ?_; rintro e w10 ⟨rfl, F1⟩
  rw [EA.out]
  replace hG := hG.fr0 F1
  clear F1
  go_wp2_with fail
  refine (Common_any _ _ x sa sc P hG.ix hv.out a b).mono ?_; rintro e w11 ⟨rfl, F1⟩
  rw [EC.out]
  replace hG := hG.fr0 F1
  clear F1
  go_wp2_with fail
  refine (Tree_any _ _ x sa sc P hG.ix (by rw [Hpl.out]; exact hn1)).mono ?_; rintro e w12 ⟨ta, tc, rfl, tO, F1⟩
  rw [Hpl.out] at tO
  rw [Hpl.out]
  have hIl := Lib.hid hG.ix.own.blk
  have hIx := Lib.hid hG.ix.one.lt
  have hIv := Lib.hid (hG.rd.lt hn0)
  have hI21 := Lib.hid hG.v.lt
  have hIw := Lib.hid hG.fr.size
  replace hG := hG.fr0 F1
  clear F1
  have k26 : One (w12.alloc (.cells #[.slice ta n tc] 24)) w12.heap.size 24 (.slice ta n tc) := One.new _ _
  have k26c := k26.cell
  have tO2 := tO.alloc (.cells #[.slice ta n tc] 24)
  have tOb := Lib.hid tO.blk
  have hG2 := hG.fr0 ((Fr.refl F0 w12).alloc (.cells #[.slice ta n tc] 24))
  replace hG := Lib.hid hG2
  clear hG2 tO
  go_wp2_with fail
  obtain ⟨b26, hb⟩ : ∃ b26, b26 = w12.heap.size := ⟨_, rfl⟩
  have h26t : Hid (¬ onBlk ta b26) := Lib.hid (fun h => by have := (tOb.out _ h).2; omega)
  rw [← hb] at k26
  simp only [← hb]
  generalize w12.alloc (.cells #[.slice ta n tc] 24) = V at *
  have hGV := hG
  clear hb k26c
  go_loopw [27, 135] (fun _ i wr => ∃ (k : Nat) (xs : List Int), k ≤ n ∧ i = .int .i64 k ∧ Own wr w11.heap.size 3 ta n tc (ints xs) ∧ One wr b26 24 (.slice ta n tc) ∧ Fr (onBlk ta) V wr) (fun _ i _ => n - (intOf i).toNat)
  case atStart => exact ⟨0, P, by omega, rfl, tO2, k26, Fr.refl _ _⟩
  case round =>
    obtain ⟨k, xs, hk, rfl, hO, k26, hF⟩ := hrel
    have kc := k26.cell
    by_cases hlt : k < n
    · obtain ⟨g, hg, _, _, hgc, hgf⟩ := hO.at hn0
      subst hg
      have hxl : xs.length = n := hO.lens
      have c1 := hgc k (.int .i64 (xs[k]'(by omega))) (by simp)
      have f1 := hgf k
      have hO2 := Lib.hid (hO.set (i := k) (.int .i64 (-9)))
      have e : (ints xs).set k (.int .i64 (-9)) = ints (xs.set k (-9)) := List.map_set.symm
      have hF2 := Lib.hid (hF.setOn k (.int .i64 (-9)))
      have hk26 := Lib.hid (k26.other (p := ⟨g, k, none⟩) (fun h => h26t.out ((onBlk_some _ _ _ _).2 h)) (.int .i64 (-9)))
      obtain ⟨y, hy⟩ : ∃ y, y = xs[k]'(by omega) := ⟨_, rfl⟩
      rw [← hy] at c1
      replace e := Lib.hid e
      clear hgc hgf hO hF hxl hy
      go_wp2_with fail
      go_roundw
      case rel => exact ⟨k + 1, xs.set k (-9), by omega, by go_num, by rw [← e.out]; exact hO2.out, hk26.out, hF2.out⟩
      case measure => simp [intOf]; omega
    · obtain rfl : k = n := by omega
      have hG9 : GK w wr b21 x sa sc va k c' P P := by
        have h0 := hGV.out
        have tb : ∀ j, onBlk ta j → w11.heap.size ≤ j := fun j hj => (tOb.out j hj).1
        refine ⟨h0.ix.fr hF (fun h => by have := tb _ h; have := hIx.out; omega) (fun j hj hs => by have := tb j hs; have := (hIl.out j hj).2; omega), h0.v.fr hF (fun h => by have := tb _ h; have := hI21.out; omega), h0.rd.fr hF (fun j hj hs => by have := tb j hs; have := hIv.out j hj; omega), h0.ap, h0.s21, h0.x21, h0.fr.trans hF (fun j hj hs => by have := tb j hs; have := hIw.out; omega)⟩
      clear hO k26 kc hF
      have hGh := Lib.hid hG9
      have hmr := hm.fr0 hG9.fr
      clear hG9
      go_wp2_with fail
      have hG9 := hGh.out
      have hGg : GK w wr b21 x sa sc va k c' P (growF P (ms.take 0)) := hG9
      clear hG9
      go_loopw [29, 145] (fun _ i wr2 => ∃ (q : Nat) (sa : Option Addr) (sc : Nat), q ≤ mn ∧ i = .int .i64 q ∧ GK w wr2 b21 x sa sc va k c' P (growF P (ms.take q))) (fun _ i _ => mn - (intOf i).toNat)
      case atStart => exact ⟨0, sa, sc, by omega, rfl, hGg⟩
      case round =>
        obtain ⟨q, sa, sc, hq, rfl, hG⟩ := hrel
        by_cases hlt : q < mn
        · obtain ⟨g, o, p, hab, hp, hcell⟩ := (hm.fr0 hG.fr).ix hlt
          have ht : Hid (growF P (ms.take (q + 1)) = branP (growF P (ms.take q)) p) := Lib.hid (by rw [List.take_add_one, hp]; exact growF_snoc _ _ _)
          have hvq := Lib.hid (growF_valid hv.out (ms.take q))
          obtain ⟨Pq, hPq⟩ : ∃ Pq, Pq = growF P (ms.take q) := ⟨_, rfl⟩
          rw [← hPq] at ht hG hvq
          subst hab
          clear hp hPq
          go_wp2_with fail
          refine (Branch_any _ _ x sa sc Pq hG.ix hG.fr.size hvq.out p).mono ?_; rintro e w14 ⟨sa1, c1, rfl, i1, f1, at1⟩
          have hG2 := Lib.hid (hG.branch hn0 i1 f1 at1)
          replace at1 := Lib.hid at1
          clear i1 f1 hG
          go_wp2_with fail
          go_roundw
          case rel => exact ⟨q + 1, sa1, c1, by omega, by go_num, by rw [ht.out]; exact hG2.out⟩
          case measure => simp [intOf]; omega
        · obtain rfl : q = mn := by omega
          have et : ms.take q = ms := List.take_of_length_le (by have := Hml.out; omega)
          rw [et] at hG
          have hvq := Lib.hid (growF_valid hv.out ms)
          have hsm := growF_same hv.out ms
          obtain ⟨s1, s2, _⟩ := hsm
          have hle := (valid_len hvq.out).2.1
          obtain ⟨Q, hQ⟩ : ∃ Q, Q = growF P ms := ⟨_, rfl⟩
          rw [← hQ] at hG hvq s1 s2 hle
          rw [Hpl.out] at s1 s2
          have S1 := Lib.hid s1
          have Hle := Lib.hid hle
          have HQ := Lib.hid hQ
          clear et s1 hle hQ
          go_wp2_with fail
          refine (Tree_any _ _ x sa sc Q hG.ix Hle.out).mono ?_; rintro e w15 ⟨ya, yc, rfl, yO, F1⟩
          replace hG := hG.fr0 F1
          clear F1
          obtain ⟨yn, hyn⟩ : ∃ yn, yn = Q.length := ⟨_, rfl⟩
          rw [← hyn] at yO s2 ⊢
          have Hyn := Lib.hid hyn
          have hyl : Hid (yn ≤ 1000) := Lib.hid (by rw [hyn]; exact Hle.out)
          clear hyn
          have hycap := yO.cap
          have yT := Lib.hid (yO.take (k := k) s2).rd
          have yE : Hid ((ints Q).take k = ints P) := Lib.hid (by rw [← List.map_take, S1.out])
          have bl : decide ((yn : Int) < (k : Int)) = false := by simp; omega
          have bl2 : decide (yn < k) = false := by simp; omega
          have i0 : (0 : Int) ≤ (k : Int) := by omega
          have i1 : (k : Int) ≤ (yn : Int) := by omega
          have i2 : (k : Int) ≤ (yc : Int) := by omega
          have k21c := hG.v.cell
          have hGd := Lib.hid (hG.fr0 (Fr.refl F0 _).drew)
          have hym : (yn : Int) ≤ 1000 := by have := hyl.out; omega
          clear yO
          go_wp2_with fail
          go_region_held3 (fun w' => w'.cell? ⟨b21, 0, none⟩ = some (.slice va k c')) (go_keep)
            ((go_at_call 16; refine (Equal_any _ _ _ _ _ _ P P _ (by have h := yT.out; rw [yE.out] at h; exact h.fr0 (Fr.refl F0 _).drew) hGd.out.rd).mono ?_; rintro e w16 ⟨rfl, qq, rfl⟩; rw [show decide (P = P) = true by simp]))
          replace hG := hG.fr0 ((Fr.refl F0 w15).drewN (1 + qq))
          clear k21c hGd
          go_wp2_with fail
          refine (Depth_any _ _ x sa sc Q hG.ix a).mono ?_; rintro e w17 ⟨rfl, F1⟩
          rw [HQ.out, ES.out.1]
          replace hG := hG.fr0 F1
          clear F1
          go_wp2_with fail
          refine (Ancestor_any _ _ x sa sc Q hG.ix hvq.out a b).mono ?_; rintro e w18 ⟨rfl, F1⟩
          rw [HQ.out, ES.out.2.1]
          replace hG := hG.fr0 F1
          clear F1
          go_wp2_with fail
          refine (Common_any _ _ x sa sc Q hG.ix hvq.out a b).mono ?_; rintro e w19 ⟨rfl, F1⟩
          rw [HQ.out, ES.out.2.2]
          replace hG := Lib.hid (hG.fr0 F1)
          clear F1
          go_wp2_with fail
          go_ret
          exact ⟨rfl, hG.out.fr⟩

theorem LGrw_any (la : Option Addr) (ln lc : Nat) (l : List Int) (ma : Option Addr) (mn mc : Nat) (ms : List Int) (a b : Int) (w : World) (hl : ArgSl w la ln lc l) (hm : ArgSl w ma mn mc ms) :
    Calls Try.prog 8 #[.slice la ln lc, .slice ma mn mc, .int .i64 a, .int .i64 b] w fun e w' => e = .returned (.bool true) ∧ Fr F0 w w' := by
  by_cases h1 : 40 < ln
  · exact Grw_skip1 la ln lc l ma mn mc ms a b w hl.rd hm.rd h1
  · by_cases h2 : 40 < mn
    · exact Grw_skip2 la ln lc l ma mn mc ms a b w hl.rd hm.rd (by omega) h2
    · by_cases ha : inB (growP l) a
      · by_cases hb : inB (growP l) b
        · exact Grw_both la ln lc l ma mn mc ms a b w hl.rd hm.rd (by omega) (by omega) _ rfl ha hb
        · exact Grw_half la ln lc l ma mn mc ms a b w hl.rd hm.rd (by omega) (by omega) _ rfl ha hb
      · exact Grw_out la ln lc l ma mn mc ms a b w hl.rd hm.rd (by omega) (by omega) _ rfl ha

end Go.Proofs.Ytpmaoaogkjehcaa
