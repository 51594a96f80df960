/- The Euler tour: the children first. -/
import Derived.Test.YtpmaoaogkjehcaaV6p
import Derived.Test.YtpmaoaogkjehcaaCom5
namespace Go.Proofs.Ytpmaoaogkjehcaa
open Go.RowKit

theorem E59 : Elem1 Try.prog 59 22 (.slice none 0 0) 24 := ⟨rfl, by kernel_rfl, rfl⟩

set_option maxHeartbeats 2000000 in
theorem Euler_any (a : Option Addr) (n c : Nat) (P : List Int) (w : World) (hr : Rd w a n (ints P)) (hc : n ≤ c) :
    Calls Try.prog 13 #[VA a n c] w fun e w' => ∃ a' m c', e = .returned (.tuple #[.slice a' m c', .int .i64 (if validB P = true then 0 else 1)]) ∧ Own w' w.heap.size 3 a' m c' (ints (if validB P = true then nats (tour P 0) else [])) ∧ Fr F0 w w' := by
  have hpl : P.length = n := by simpa using hr.len
  have hF : Fr F0 w (boxW w a n c) := (Fr.refl _ _).alloc _
  have hone : One (boxW w a n c) w.heap.size 24 (.slice a n c) := One.new 24 _
  by_cases hv : validB P = true
  · have hl := valid_len hv
    have htl := tour_len hv
    have hn1 : 1 ≤ n ∧ n ≤ 1000 := by omega
    obtain ⟨hn0, hn1⟩ := hn1
    have Hpl := Lib.hid hpl
    have hvh := Lib.hid hv
    replace htl := Lib.hid htl
    rw [if_pos hv, if_pos hv]
    clear hpl hl hv
    go_enter Try.func13, Try.ntmps13
    go_wp2_with fail
    refine (Valid_any a n c P _ (hr.fr0 hF) hc).mono ?_; rintro e w1 ⟨rfl, F1⟩
    rw [hvh.out]
    replace hone := hone.fr F1 id
    replace hF := hF.trans0 F1
    have hcell := hone.cell
    have hgS : w.heap.size < w1.heap.size := hone.lt
    have hmk := run_mk E59 rfl n (by omega) (by omega) w1
    have hG := Grid.made (w := w1) (B := w.heap.size + 1) (T := 22) n (by have := hone.lt; omega) (by omega)
    replace hF := hF.alloc (.cells (Array.replicate n (.slice none 0 0)) 22)
    replace hone := hone.alloc (.cells (Array.replicate n (.slice none 0 0)) 22)
    have hcell2 := hone.cell
    clear F1
    go_wp2_with fail
    go_loopw [21] (fun x wr => ∃ (k : Nat) (R : List RowV), k ≤ n ∧ x = .int .i64 k ∧ Grid wr (w.heap.size + 1) w1.heap.size 22 n n R ∧ Hid (∀ (j : Nat) (r : RowV), R[j]? = some r → r.xs = kids P j k) ∧ Fr F0 w wr) (fun x _ => n - (intOf x).toNat)
    case atStart => 
      refine ⟨0, _, by omega, rfl, hG, Lib.hid ?_, hF⟩
      intro j r h
      rw [(List.mem_replicate.1 (List.mem_of_getElem? h)).2]; rfl
    case round =>
      obtain ⟨k, R, hk, rfl, hG1, hR, hF1⟩ := hrel
      have hsz := hF1.size
      by_cases hlt : k < n
      · obtain ⟨b, o, z, hab, hz, hcellk⟩ := (hr.fr0 hF1).ix hlt
        have hpar := valid_par hvh.out (x := k) (by rw [Hpl.out]; omega)
        have ez : P.getD k 0 = z := by simp [hz]
        rw [ez] at hpar
        obtain ⟨hz1, hz2, _⟩ := hpar
        subst hab
        by_cases hz0 : 0 ≤ z
        · obtain ⟨q, rfl⟩ := Int.eq_ofNat_of_zero_le hz0
          have hRl := hG1.len
          obtain ⟨r, hrq⟩ : ∃ r, R[q]? = some r := ⟨R[q]'(by omega), by simp⟩
          have hrow := hG1.row q r hrq
          obtain ⟨g', hgg, _, hgl, hgc, hgf⟩ := hG1.own.at hn0
          injection hgg with hgg
          injection hgg with hgg
          subst hgg
          have hcq := hgc q r.val (by simp [hrq])
          have hfq := hgf q
          clear hgc hgf
          have hxs := hR.out q r hrq
          have hrn := hrow.lens
          have hkl := kids_len P q k
          rw [hxs] at hrn
          have bR := Lib.hid hrow.blk
          have hRq := Lib.hid hrq
          have hez := Lib.hid ez
          have hxs2 := Lib.hid hxs
          have hoff := Lib.hid (hG1.off q r hrq)
          replace hG1 := Lib.hid hG1
          obtain ⟨ra, rn, rc, rxs⟩ := r
          simp only [RowV.val] at *
          clear hz ez hxs
          go_wp2_with (at_builtin; refine wpAppAt E3 hrow (by omega) (by omega) (by omega) rfl rfl rfl ?_; intro a' c' w' own' fr' at'; have hG2 := hG1.out.put hRq.out (r' := ⟨a', rn + 1, c', rxs ++ [(k : Int)]⟩) (by simpa using own') fr' at'; have hF2 : Fr F0 w w' := hF1.trans fr' (fun k hk hs => absurd (bR.out _ hs).1 (by omega)); have hf2 : w'.frozen? ⟨w1.heap.size, q, none⟩ = false := (fr'.frozen hgl hoff.out).trans hfq; have hc2 : w'.cell? ⟨w1.heap.size, q, none⟩ = some (.slice ra rn rc) := fr'.cell hcq hoff.out)
          go_roundw
          case rel =>
            refine ⟨k + 1, _, by omega, by go_num, hG2, Lib.hid ?_, hF2.setCell (fun h => absurd h (by simp; omega)) _⟩
            intro j s hs
            rw [kids_succ]
            rw [List.getElem?_set] at hs
            split at hs
            · rename_i he
              subst he
              rw [if_pos hez.out]
              have hq1 : q < R.length := by omega
              simp only [hq1, if_true] at hs
              injection hs with hs
              rw [← hs, ← hxs2.out]
            · rename_i he
              rw [if_neg (by rw [hez.out]; omega), List.append_nil]
              exact hR.out j s hs
          case measure => simp [intOf] <;> omega
        · have hzm : z = -1 := by omega
          have hR2 : Hid (∀ (j : Nat) (r : RowV), R[j]? = some r → r.xs = kids P j (k + 1)) := Lib.hid (by
            intro j r h
            rw [kids_succ, if_neg (by omega), List.append_nil]
            exact hR.out j r h)
          subst hzm
          clear hz ez
          go_wp2_with fail
          go_roundw
          case rel => exact ⟨k + 1, R, by omega, by go_num, hG1, hR2, hF1⟩
          case measure => simp [intOf] <;> omega
      · obtain rfl : n = k := by omega
        have hS0 : Own (wr.alloc (.cells #[.int .i64 0] 3)) wr.heap.size 3 (some ⟨wr.heap.size, 0, none⟩) 1 1 (ints (nats [0])) := by
          have h := Own.lit (w := wr) (B := wr.heap.size) (T := 3) (ints [0]) 1 rfl (by omega) (by omega)
          simpa using h
        have hf0 : Fr F0 wr (wr.alloc (.cells #[.int .i64 0] 3)) := (Fr.refl _ _).alloc _
        have hgl : w1.heap.size < wr.heap.size := (hG1.own.blk _ ((onBlk_some _ _ _ _).2 rfl)).2
        replace hS0 := Lib.hid hS0
        replace hf0 := Lib.hid hf0
        replace hG1 := Lib.hid hG1
        go_wp2_with (at_builtin; refine wpAppAt E3 (Own.nil _ wr.heap.size 3) (by omega) (by omega) (by simp) rfl rfl (by show Value.slice (some ⟨wr.heap.size + 1, 0, none⟩) 1 1 = _; simp) ?_; intro a2 c2 w2 hO2 fr2 at2; have hS2 := hS0.out.fr fr2 (fun k _ h => onBlk_none _ h); have hf2 : Fr F0 wr w2 := hf0.out.trans fr2 (fun k _ h => absurd h (onBlk_none _)); have hap2 : Hid (Apart (some ⟨wr.heap.size, 0, none⟩) a2) := Lib.hid (Apart.symm (Apart.app (none_apart _) at2 (fun k h => (hS0.out.blk k h).2))))
        have hG2 := hG1.out.own.fr0 hf2
        have hrows : Hid (∀ (j : Nat) (r : RowV), R[j]? = some r → Rd wr r.a r.n (ints r.xs) ∧ ¬ onBlk r.a w1.heap.size ∧ r.n ≤ r.c ∧ ∀ k, onBlk r.a k → k < wr.heap.size) := Lib.hid (fun j r h => ⟨(hG1.out.row j r h).rd, hG1.out.off j r h, (hG1.out.row j r h).cap, fun k hk => ((hG1.out.row j r h).blk k hk).2⟩)
        have hD0 : Hid (∀ (j : Nat) (r : RowV), R[j]? = some r → r.xs = nats (kN P P.length j)) := Lib.hid (fun j r h => by rw [hR.out j r h, kids_kN, Hpl.out])
        have hI0 := Lib.hid (Inv.start hvh.out)
        have hF1' := Lib.hid hF1
        have hRl := hG1.out.len
        have hg2 : Fr (onB w1.heap.size) wr w2 := hf2.mono (fun _ _ h => h.elim)
        obtain ⟨W, hW⟩ : ∃ W, W = wr := ⟨_, rfl⟩
        rw [← hW] at hrows hg2 hgl hF1'
        have hO2' : Own w2 W.heap.size 3 a2 1 c2 (ints (nats [0])) := by rw [hW]; simpa using hO2
        have hS2' : Own w2 W.heap.size 3 (some ⟨wr.heap.size, 0, none⟩) 1 1 (ints (nats [0])) := by rw [hW]; exact hS2
        clear hO2 hS2 hf2 hS0 hf0 hG1 hR fr2 at2 hcell hcell2 hone hG hF hmk
        go_loopw [8, 7] (fun x s wr2 => ∃ (D : Nat → List Nat) (st out : List Nat) (R : List RowV) (a1 : Option Addr) (m1 c1 : Nat) (a2 : Option Addr) (m2 c2 : Nat), x = .slice a1 m1 c1 ∧ s = .slice a2 m2 c2 ∧
          Hid (Inv P D st out) ∧ Hid (∀ (j : Nat) (r : RowV), R[j]? = some r → r.xs = nats (D j)) ∧
          Hid (∀ (j : Nat) (r : RowV), R[j]? = some r → Rd W r.a r.n (ints r.xs) ∧ ¬ onBlk r.a w1.heap.size ∧ r.n ≤ r.c ∧ ∀ k, onBlk r.a k → k < W.heap.size) ∧
          Own wr2 (w.heap.size + 1) 22 (some ⟨w1.heap.size, 0, none⟩) n n (R.map RowV.val) ∧ Own wr2 W.heap.size 3 a1 m1 c1 (ints (nats st)) ∧ Own wr2 W.heap.size 3 a2 m2 c2 (ints (nats out)) ∧ Hid (Apart a1 a2) ∧ Fr (onB w1.heap.size) W wr2)
          (fun _ s _ => n * 2 - (match s with | .slice _ m _ => m | _ => 0))
        case atStart => exact ⟨kN P P.length, [0], [0], R, _, 1, 1, a2, 1, c2, rfl, rfl, hI0, hD0, hrows, hG2, hS2', hO2', hap2, hg2⟩
        case round =>
          obtain ⟨D, st, out, R, a1, m1, c1, a2, m2, c2, rfl, rfl, hI, hD, hrows, hG, hS, hO, hap, hFW⟩ := hrel
          have hsz := hFW.size
          have hlen := hI.out.len hvh.out
          have hsl := hS.lens
          have hol := hO.lens
          simp only [List.length_map] at hsl hol
          rw [Hpl.out, hsl, hol] at hlen
          have bO := Lib.hid hO.blk
          have bS := Lib.hid hS.blk
          rcases List.eq_nil_or_concat st with hst | ⟨st1, t, hst⟩
          · have hx : Hid (tour P 0 = out) := Lib.hid (by rw [← hI.out.all, hst]; simp [unw2])
            have hm0 : m1 = 0 := by rw [← hsl, hst]; rfl
            subst hm0
            clear hsl
            replace hO := Lib.hid hO
            have hFe : Hid (Fr F0 w wr) := Lib.hid (hF1'.out.trans hFW (fun k hk hs => by have : k = w1.heap.size := hs; omega))
            clear hS hG
            go_wp2_with fail
            go_ret2
            refine ⟨_, _, _, rfl, ?_, hFe.out⟩
            rw [show ints (nats (tour P 0)) = ints (nats out) by rw [hx.out]]
            exact hO.out.mono (by have := hF1'.out.size; omega)
          · rw [List.concat_eq_append] at hst
            subst hst
            obtain ⟨htn, hto⟩ := hI.out.st t (by simp)
            rw [Hpl.out] at htn
            obtain ⟨m, rfl⟩ : ∃ m, m1 = m + 1 := ⟨st1.length, by rw [← hsl]; simp⟩
            have hcap := hS.cap
            replace hcap : m ≤ c1 := by omega
            have hm : st1.length = m := by simp at hsl; omega
            obtain ⟨b, o, z, hab, hz, hcell⟩ := hS.rd.ix (i := m) (by omega)
            have ez : z = (t : Int) := by
              rw [← hm] at hz
              simp at hz
              exact hz.symm
            subst ez
            have hRl : R.length = n := by simpa using hG.len
            obtain ⟨r, hrq⟩ : ∃ r, R[t]? = some r := ⟨R[t]'(by omega), by simp⟩
            obtain ⟨hrd, hroff, hrc, hrb⟩ := hrows.out t r hrq
            have hrx := hD.out t r hrq
            obtain ⟨g', hgg, _, hgl2, hgc, hgf⟩ := hG.at hn0
            injection hgg with hgg
            injection hgg with hgg
            subst hgg
            have hcq := hgc t r.val (by simp [hrq])
            have hfq := hgf t
            obtain ⟨ra, rn, rc, rxs⟩ := r
            simp only [RowV.val] at hcq
            simp only at hrd hroff hrc hrb hrx
            subst hrx
            have hrn : (D t).length = rn := by simpa using hrd.len
            have hS1 := hS.take (k := m) (by omega)
            have hS1e : (ints (nats (st1 ++ [t]))).take m = ints (nats st1) := by simp [← hm]
            rw [hS1e] at hS1
            clear hgc hgf hz hS1e
            subst hab
            cases hDt : D t with
            | nil =>
              have hI2 := Lib.hid (hI.out.pop hDt)
              rw [hDt] at hrn
              have hrn0 : rn = 0 := by rw [← hrn]; rfl
              subst hrn0
              have hng : Hid (¬ onBlk a2 w1.heap.size) := Lib.hid (fun h => absurd (bO.out _ h).1 (by omega))
              clear hrd hsl hrn
              go_wp2_with (at_builtin; refine wpAppAt E3 hO (by omega) (by omega) (by omega) rfl rfl rfl ?_; intro a' c' w' hO2 fr' at'; have hS2 := hS1.fr fr' hap.out; have hG2 := hG.fr fr' (fun k hk hs => hng.out (by rw [(onBlk_some _ _ _ _).1 hk] at hs; exact hs)); have hap2 : Hid (Apart (some ⟨b, o, none⟩) a') := Lib.hid (Apart.symm (Apart.app hap.out.symm at' (fun k h => (bS.out k h).2))); have hF2 : Fr (onB w1.heap.size) W w' := hFW.trans fr' (fun k hk hs => absurd (bO.out _ hs).1 (by omega)))
              go_roundw
              case rel => exact ⟨D, st1, out ++ [t], R, _, m, c1, a', m2 + 1, c', rfl, rfl, hI2, hD, hrows, hG2, hS2, by simpa using hO2, hap2, hF2⟩
              case measure => simp; omega
            | cons c0 l =>
              obtain ⟨D', hD'⟩ : ∃ D' : Nat → List Nat, D' = fun v => if v = t then l else D v := ⟨_, rfl⟩
              have hD1 : D' t = l := by rw [hD']; simp
              have hD2 : ∀ v, v ≠ t → D' v = D v := fun v hv => by rw [hD']; simp [hv]
              have hI2 := Lib.hid (hI.out.push hvh.out hDt hD1 hD2)
              rw [hDt] at hrn hrd
              obtain ⟨q, hq⟩ : ∃ q, q = l.length := ⟨_, rfl⟩
              have hkn : rn = 1 + q := by simp at hrn; omega
              obtain ⟨rb, ro, z0, hra, hz0, hrcell⟩ := hrd.ix (i := 0) (by omega)
              have ez0 : z0 = (c0 : Int) := by simpa using hz0.symm
              subst ez0
              have hrcell2 := hFW.cell hrcell (fun h => hroff (by rw [hra]; exact (onBlk_some _ _ _ _).2 h.symm))
              have hrz : ((rn : Int) == 0) = false := by simp; omega
              have hrn0 : 0 < rn := by omega
              have hcut := hrd.cut hrc hkn
              simp only [List.map_cons, List.drop_succ_cons, List.drop_zero, Nat.add_zero] at hcut hrcell2
              have hrows2 : Hid (∀ (j : Nat) (r : RowV), (R.set t ⟨cutA ra rc 1, q, rc - 1, nats l⟩)[j]? = some r → Rd W r.a r.n (ints r.xs) ∧ ¬ onBlk r.a w1.heap.size ∧ r.n ≤ r.c ∧ ∀ k, onBlk r.a k → k < W.heap.size) := Lib.hid (by
                intro j r hj
                rw [List.getElem?_set] at hj
                split at hj
                · have ht2 : t < R.length := by omega
                  simp only [ht2, if_true] at hj
                  injection hj with hj
                  subst hj
                  exact ⟨hcut, fun h => hroff (onBlk_cut h), by show q ≤ rc - 1; omega, fun k hk => hrb k (onBlk_cut hk)⟩
                · exact hrows.out j r hj)
              have hDD : Hid (∀ (j : Nat) (r : RowV), (R.set t ⟨cutA ra rc 1, q, rc - 1, nats l⟩)[j]? = some r → r.xs = nats (D' j)) := Lib.hid (by
                intro j r hj
                rw [List.getElem?_set] at hj
                split at hj
                · rename_i he
                  have ht2 : t < R.length := by omega
                  simp only [ht2, if_true] at hj
                  injection hj with hj
                  subst hj he
                  rw [hD1]
                · rename_i he
                  rw [hD2 j (fun e => he e.symm)]
                  exact hD.out j r hj)
              have hnO : ¬ onBlk a2 w1.heap.size := fun h => absurd (bO.out _ h).1 (by omega)
              have hnS : ¬ onBlk (some ⟨b, o, none⟩) w1.heap.size := fun h => absurd (bS.out _ h).1 (by omega)
              have hGq : Own (wr.setCell ⟨w1.heap.size, t, none⟩ (.slice (cutA ra rc 1) q (rc - 1))) (w.heap.size + 1) 22 (some ⟨w1.heap.size, 0, none⟩) n n ((R.set t ⟨cutA ra rc 1, q, rc - 1, nats l⟩).map RowV.val) := by
                rw [List.map_set]
                exact hG.set (i := t) _
              have hSq := hS.other (p := ⟨w1.heap.size, t, none⟩) hnS (.slice (cutA ra rc 1) q (rc - 1))
              have hOq := hO.other (p := ⟨w1.heap.size, t, none⟩) hnO (.slice (cutA ra rc 1) q (rc - 1))
              have hFq := hFW.setB t (.slice (cutA ra rc 1) q (rc - 1))
              replace hnO := Lib.hid hnO
              replace hnS := Lib.hid hnS
              have Hkn := Lib.hid hkn
              replace hroff := Lib.hid hroff
              replace hGq := Lib.hid hGq
              replace hFq := Lib.hid hFq
              subst hra
              clear hrn hrd hkn hz0 hcut hD' hD1 hD2 hDt hS1 hO hS hG hq
              go_wp2_with (first
                | (refine wpCut (k := 1) E3 Hkn.out rfl rfl ?_)
                | (at_builtin; refine wpAppAt E3 hOq (by omega) (by omega) (by simp; omega) rfl rfl (by first | rfl | (show Value.slice (some ⟨wr.heap.size, 0, none⟩) 1 1 = _; simp)) ?_; intro a' c' w' hO2 fr' at'; have hS2 := hSq.fr fr' hap.out; have hG2 := hGq.out.fr fr' (fun k hk hs => hnO.out (by rw [(onBlk_some _ _ _ _).1 hk] at hs; exact hs)); have hap2 : Hid (Apart (some ⟨b, o, none⟩) a') := Lib.hid (Apart.symm (Apart.app hap.out.symm at' (fun k h => by have := (bS.out k h).2; simp; omega))); have hF2 : Fr (onB w1.heap.size) W w' := hFq.out.trans fr' (fun k hk hs => absurd (bO.out _ hs).1 (by omega)); have hsz2 := hF2.size; have bO2 := Lib.hid hO2.blk)
                | (at_builtin; refine wpAppAt E3 hS2 (by omega) (by omega) (by omega) rfl rfl rfl ?_; intro a'' c'' w'' hS3 fr'' at''; have hO3 := hO2.fr fr'' hap2.out.symm; have hG3 := hG2.fr fr'' (fun k hk hs => hnS.out (by rw [(onBlk_some _ _ _ _).1 hk] at hs; exact hs)); have hap3 : Hid (Apart a'' a') := Lib.hid (Apart.app hap2.out at'' (fun k h => (bO2.out k h).2)); have hF3 : Fr (onB w1.heap.size) W w'' := hF2.trans fr'' (fun k hk hs => absurd (bS.out _ hs).1 (by omega))))
              go_roundw
              case rel => exact ⟨D', st1 ++ [t] ++ [c0], out ++ [c0], R.set t ⟨cutA (some ⟨rb, ro, none⟩) rc 1, q, rc - 1, nats l⟩, a'', m + 1 + 1, c'', a', m2 + 1, c', rfl, rfl, hI2, hDD, hrows2, hG3, by simpa using hS3, by simpa using hO3, hap3, hF3⟩
              case measure => simp; omega
  · have hv' : validB P = false := by simpa using hv
    have Hv := Lib.hid hv'
    rw [if_neg hv, if_neg hv]
    clear hpl hv hv' hone
    go_enter Try.func13, Try.ntmps13
    go_wp2_with fail
    refine (Valid_any a n c P _ (hr.fr0 hF) hc).mono ?_; rintro e w1 ⟨rfl, F1⟩
    rw [Hv.out]
    replace hF := Lib.hid (hF.trans0 F1)
    clear F1
    go_wp2_with fail
    go_ret2
    exact ⟨_, _, _, rfl, Own.nil _ _ _, hF.out⟩

end Go.Proofs.Ytpmaoaogkjehcaa
