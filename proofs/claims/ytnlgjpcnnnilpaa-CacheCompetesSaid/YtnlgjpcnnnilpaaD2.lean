/- distances. -/
import Derived.Test.YtnlgjpcnnnilpaaM3
namespace Go.Proofs.Ytnlgjpcnnnilpaa
open Go.RowKit
attribute [local go_sem ↓] Go.wp_at_zero Go.wp_at_succ
attribute [local irreducible] lw bef addS
theorem pad_set {D : List Int} {n k : Nat} (v : Int) (hD : D.length = k) (hk : k < n) : (D ++ List.replicate (n - k) 0).set k v = (D ++ [v]) ++ List.replicate (n - (k + 1)) 0 := by
  rw [List.set_append_right _ _ (by omega), hD, Nat.sub_self, show n - k = (n - (k + 1)) + 1 by omega, List.replicate_succ, List.set_cons_zero]
  simp
theorem pad_0 {D : List Int} {n k : Nat} (hk : k < n) : D ++ List.replicate (n - k) 0 = (D ++ [0]) ++ List.replicate (n - (k + 1)) 0 := by
  rw [show n - k = (n - (k + 1)) + 1 by omega, List.replicate_succ]
  simp
theorem Bd.mono {sm : List Int} {M M' : Int} (h : Bd sm M) (hM : M ≤ M') : Bd sm M' := fun t => by have := h t; omega
theorem take_all {l : List Int} {n : Nat} (h : l.length = n) : l.take n = l := List.take_of_length_le (by omega)
set_option maxRecDepth 100000 in
set_option maxHeartbeats 4000000 in
theorem distances_any (a : Option Addr) (n c : Nat) (l : List Int) (w : World) (hr : Rd w a n (ints l)) (hlb : ∀ b ∈ l, 0 ≤ b ∧ b ≤ 1048576) (hn : n ≤ 200) :
    Calls Try.prog 39 #[.slice a n c] w fun e w' => ∃ a' c', e = .returned (.slice a' n c') ∧ Own w' w.heap.size 3 a' n c' (ints (distL l)) ∧ Fr F0 w w' := by
  have hll : l.length = n := by simpa using hr.len
  have hmm := @run_makeMap Try.prog
  have hmf : ∀ (fn : Fn) (first cap : Array Value) (w : World), (Instr.makeFunc fn first cap).run Try.prog w = .ok (.func fn first cap) w := fun _ _ _ _ => rfl
  have hmk := run_mk E3 rfl (n + 1) (by omega) (by omega) w
  have hmk2 := run_mk E3 rfl n (by omega) (by omega)
  have e1 : ((n + 1 : Nat) : Int) = (n : Int) + 1 := by omega
  rw [e1] at hmk
  obtain ⟨bS, hbS⟩ : ∃ b, b = w.heap.size := ⟨_, rfl⟩
  obtain ⟨bP, hbP⟩ : ∃ b, b = w.heap.size + 1 := ⟨_, rfl⟩
  obtain ⟨bM, hbM⟩ : ∃ b, b = w.heap.size + 1 + 1 := ⟨_, rfl⟩
  obtain ⟨bO, hbO⟩ : ∃ b, b = w.heap.size + 1 + 1 + 1 := ⟨_, rfl⟩
  have HB : Hid (bP = bS + 1 ∧ bM = bS + 2 ∧ bO = bS + 3) := Lib.hid (by omega)
  obtain ⟨wa, hwa⟩ : ∃ wa, wa = w.alloc (.cells (Array.replicate (n + 1) (.int .i64 0)) 3) := ⟨_, rfl⟩
  obtain ⟨wb, hwb⟩ : ∃ wb, wb = wa.alloc (.cells #[.slice (some ⟨bS, 0, none⟩) (n + 1) (n + 1)] 22) := ⟨_, rfl⟩
  obtain ⟨wc, hwc⟩ : ∃ wc, wc = wb.alloc (.map #[] 0) := ⟨_, rfl⟩
  obtain ⟨wd, hwd⟩ : ∃ wd, wd = wc.alloc (.cells (Array.replicate n (.int .i64 0)) 3) := ⟨_, rfl⟩
  have sa : wa.heap.size = bP := by rw [hwa, size_alloc, hbP]
  have sb : wb.heap.size = bM := by rw [hwb, size_alloc, sa, hbM, hbP]
  have sc : wc.heap.size = bO := by rw [hwc, size_alloc, sb, hbO, hbM]
  have Fab : Fr F0 wa wb := hwb ▸ (Fr.refl _ _).alloc _
  have Fbc : Fr F0 wb wc := hwc ▸ (Fr.refl _ _).alloc _
  have Fcd : Fr F0 wc wd := hwd ▸ (Fr.refl _ _).alloc _
  have F1 : Hid (Fr F0 w wd) := Lib.hid (((((hwa ▸ (Fr.refl _ _).alloc _ : Fr F0 w wa)).trans0 Fab).trans0 Fbc).trans0 Fcd)
  have O1 : Hid (Own wd bS 3 (some ⟨bS, 0, none⟩) (n + 1) (n + 1) (ints (List.replicate (n + 1) 0))) := Lib.hid (by
    have h := (Own.made (w := w) (B := bS) (T := 3) (z := .int .i64 0) (n + 1) (by omega) (by omega))
    rw [← hwa, ← hbS] at h
    have h2 := ((h.fr0 Fab).fr0 Fbc).fr0 Fcd
    simpa [ints] using h2)
  have P1 : Hid (One wd bP 22 (.slice (some ⟨bS, 0, none⟩) (n + 1) (n + 1))) := Lib.hid (by
    have h := One.new (w := wa) 22 (.slice (some ⟨bS, 0, none⟩) (n + 1) (n + 1))
    rw [← hwb, sa] at h
    exact (h.fr Fbc id).fr Fcd id)
  have M1 : Hid (MapV wd 3 bM 0 (fun _ => none)) := Lib.hid (by
    have h := MapV.made wb 3
    rw [← hwc, sb] at h
    exact h.fr Fcd id)
  have O2 : Hid (Own wd bS 3 (some ⟨bO, 0, none⟩) n n (ints (List.replicate n 0))) := Lib.hid (by
    have h := (Own.made (w := wc) (B := bS) (T := 3) (z := .int .i64 0) n (by omega) (by omega))
    rw [← hwd, sc] at h
    simpa [ints] using h)
  have E0 : Hid (wd = (((w.alloc (Obj.cells (Array.replicate (n + 1) (Value.int IntKind.i64 0)) 3)).alloc (Obj.cells #[Value.slice (some { block := w.heap.size, off := 0, spot := none }) (n + 1) (n + 1)] 22)).alloc (Obj.map #[] 0)).alloc (Obj.cells (Array.replicate n (Value.int IntKind.i64 0)) 3)) := Lib.hid (by rw [hwd, hwc, hwb, hwa, hbS])
  clear Fab Fbc Fcd sa sb sc hwa hwb hwc hwd
  have Hb1 := Lib.hid hbS
  have Hb2 := Lib.hid hbP
  have Hb3 := Lib.hid hbM
  have Hb4 := Lib.hid hbO
  clear hbS hbP hbM hbO wa wb wc
  have Hr := Lib.hid hr
  have Hll := Lib.hid hll
  have Hlb := Lib.hid hlb
  clear hr hll hlb e1
  go_enter Try.func39, Try.ntmps39
  go_wp2_with fail
  rw [← E0.out, ← Hb4.out, ← Hb3.out, ← Hb2.out, ← Hb1.out]
  clear E0 Hb2 Hb3 Hb4 hmk hmk2 hmm hmf
  go_loopw [8, 9, 10, 11, 24] (fun _ _ _ _ s24 wr => ∃ (k cnt : Nat) (Z : List (Int × Nat)) (D sm : List Int) (f : Int → Option Value), k ≤ n ∧ s24 = .int .i64 k ∧ cnt ≤ k ∧ Z.length ≤ k ∧ Hid ((l.take k).foldl distF ([], []) = (Z.map Prod.fst, D)) ∧ Hid (D.length = k) ∧ Hid (PosOk Z k) ∧ Hid (FOf f Z) ∧ Hid (MapV wr 3 bM cnt f) ∧ Hid (Own wr bS 3 (some ⟨bS, 0, none⟩) (n + 1) (n + 1) (ints sm)) ∧ Hid (Bd sm (2 * k)) ∧ Hid (∀ x, x ≤ n → bef (n + 1) sm x = cntP Z x) ∧ Hid (One wr bP 22 (.slice (some ⟨bS, 0, none⟩) (n + 1) (n + 1))) ∧ Hid (Own wr bS 3 (some ⟨bO, 0, none⟩) n n (ints (D ++ List.replicate (n - k) 0))) ∧ Hid (Fr F0 w wr)) (fun _ _ _ _ s24 _ => n - (intOf s24).toNat)
  case atStart => exact ⟨0, 0, [], [], _, _, by omega, rfl, by omega, by simp, Lib.hid rfl, Lib.hid rfl, Lib.hid posOk_nil, Lib.hid fOf_nil, M1, O1, Lib.hid (fun t => by rw [List.getD_eq_getElem?_getD, List.getElem?_replicate]; split <;> simp), Lib.hid (fun x _ => by rw [bef_zero, cntP_nil]; rfl), P1, by simpa using O2, F1⟩
  case round =>
    clear F1 M1 O1 O2 P1
    obtain ⟨k, cnt, Z, D, sm, f, hk, rfl, hcnt, hZk, hD, hDl, hZ, hf, hM, hS, hBd, hbf, hP, hO, hF⟩ := hrel
    by_cases hlt : k < n
    · obtain ⟨b, o, x, hb, hx, d⟩ := (Hr.out.fr0 hF.out).ix hlt
      subst hb
      have hst := fold_take (f := distF) (s := ([], [])) hx
      rw [hD.out] at hst
      have hxb := Hlb.out x (List.mem_of_getElem? hx)
      have hwx : wfI x := wfI_of (by omega) (by omega)
      have hlook := hM.out.look_ok under50 plainI hwx
      have hwk := Lib.hid (wfI_of (k := (k : Int)) (by omega) (by omega))
      have hsl : Hid (sm.length = n + 1) := Lib.hid hS.out.lens
      have Hwx := Lib.hid hwx
      have Hst := Lib.hid hst
      have i0 : (0 : Int) ≤ (k : Int) := by omega
      have i1 : (k : Int) < (n : Int) := by omega
      clear hxb hwx hst hx
      cases hany : (Z.map Prod.fst).any (· == x) with
      | true =>
        obtain ⟨e, p, he, hep⟩ := seen_at hany
        have hpk : p < k := hZ.out.lt _ (List.mem_of_getElem? hep)
        have hfx := hf.out.hit _ (List.mem_of_getElem? hep)
        rw [hfx] at hlook
        simp only [Option.getD_some, Option.isSome_some] at hlook
        have c1 := cntP_all hZ.out
        have c2 := cntP_at hZ.out hep
        obtain ⟨N, hN⟩ : ∃ N, N = Z.length := ⟨_, rfl⟩
        have heN : e < N := by rw [hN]; exact (List.getElem?_eq_some_iff.1 hep).1
        have hNk : N ≤ k := by omega
        have b1 : bef (n + 1) sm k = (N : Int) := by rw [hbf.out k (by omega), c1, hN]
        have b2 : bef (n + 1) sm p = (N : Int) - ((e : Int) + 1) := by rw [hbf.out p (by omega)]; omega
        have b3 : Hid ((N : Int) - ((N : Int) - ((e : Int) + 1)) = (e : Int) + 1) := Lib.hid (by omega)
        have k1 := before_any bP bS (n + 1) (n + 1) sm k wr hP.out.cell hS.out.rd (by omega) (by omega) (hBd.out.mono (by omega))
        have k2 := before_any bP bS (n + 1) (n + 1) sm p wr hP.out.cell hS.out.rd (by omega) (by omega) (hBd.out.mono (by omega))
        rw [b1] at k1
        rw [b2] at k2
        clear b1 b2 c1 c2 hfx
        replace hN := Lib.hid hN
        replace hep := Lib.hid hep
        replace he := Lib.hid he
        go_wp2_with fail
        refine k1.mono ?_; rintro e1 w1 ⟨rfl, rfl⟩
        go_wp2_with fail
        refine k2.mono ?_; rintro e1 w1 ⟨rfl, rfl⟩
        have hOf : wr.frozen? ⟨bO, k, none⟩ = false := (own_facts hO.out (v := k) (by omega)).2
        obtain ⟨y0, hy0, _⟩ := (own_facts hO.out (v := k) (by omega)).1
        have Fs : Fr (onB bO) wr (wr.setCell ⟨bO, k, none⟩ (.int .i64 ((e : Int) + 1))) := (Fr.refl _ _).setB k _
        have nOS : ¬ onB bO bS := fun h => by have e : bS = bO := h; have := HB.out; omega
        have nOP : ¬ onB bO bP := fun h => by have e : bP = bO := h; have := HB.out; omega
        have nOM : ¬ onB bO bM := fun h => by have e : bM = bO := h; have := HB.out; omega
        go_wp2_with fail
        rw [b3.out]
        have F2 := hF.out.trans Fs (fun q hq h => by have e : q = bO := h; have := HB.out; have := Hb1.out; omega)
        have S2 := hS.out.fr Fs (fun q hq h => nOS ((onBlk_some _ _ _ _).1 hq ▸ h))
        have P2 := hP.out.fr Fs nOP
        have M2 := Lib.hid (hM.out.fr Fs nOM)
        have O2 : Hid (Own (wr.setCell ⟨bO, k, none⟩ (.int .i64 ((e : Int) + 1))) bS 3 (some ⟨bO, 0, none⟩) n n (ints ((D ++ [(e : Int) + 1]) ++ List.replicate (n - (k + 1)) 0))) := Lib.hid (by
          have h := hO.out.set (i := k) (.int .i64 ((e : Int) + 1))
          rw [show (ints (D ++ List.replicate (n - k) 0)).set k (.int .i64 ((e : Int) + 1)) = ints ((D ++ List.replicate (n - k) 0).set k ((e : Int) + 1)) by simp only [ints, List.map_set], pad_set _ hDl.out hlt] at h
          exact h)
        refine (add_any bP bS (n + 1) (n + 1) bS sm p (-1) _ P2.cell S2 (by have := HB.out; omega) (by omega) (by omega) (hBd.out.mono (by omega)) (by omega)).mono ?_
        rintro e1 w1 ⟨rfl, S3, F3⟩
        have nSO : ¬ onB bS bO := fun h => by have e : bO = bS := h; have := HB.out; omega
        have nSP : ¬ onB bS bP := fun h => by have e : bP = bS := h; have := HB.out; omega
        have nSM : ¬ onB bS bM := fun h => by have e : bM = bS := h; have := HB.out; omega
        replace F2 := F2.trans F3 (fun q hq h => by have e : q = bS := h; have := HB.out; have := Hb1.out; omega)
        replace P2 := P2.fr F3 nSP
        replace M2 := Lib.hid (M2.out.fr F3 nSM)
        replace O2 := Lib.hid (O2.out.fr F3 (fun q hq h => nSO ((onBlk_some _ _ _ _).1 hq ▸ h)))
        have hB3 : Hid (Bd (addS (n + 1) sm (p + 1) (-1)) (2 * (k : Int) + 1)) := Lib.hid (hBd.out.add (by omega) (by omega) (by rw [hsl.out]; omega) (by omega) (by rw [hsl.out]; omega))
        clear Fs F3 hM hO hP hS k1 k2 hlook d S2
        replace S3 := Lib.hid S3
        replace F2 := Lib.hid F2
        replace P2 := Lib.hid P2
        go_wp2_with fail
        refine (add_any bP bS (n + 1) (n + 1) bS _ k 1 _ P2.out.cell S3.out (by have := HB.out; omega) (by omega) (by omega) (hB3.out.mono (by omega)) (by omega)).mono ?_
        rintro e1 w2 ⟨rfl, S4, F4⟩
        replace F2 := Lib.hid (F2.out.trans F4 (fun q hq h => by have e : q = bS := h; have := HB.out; have := Hb1.out; omega))
        replace P2 := Lib.hid (P2.out.fr F4 nSP)
        replace M2 := Lib.hid (M2.out.fr F4 nSM)
        replace O2 := Lib.hid (O2.out.fr F4 (fun q hq h => nSO ((onBlk_some _ _ _ _).1 hq ▸ h)))
        replace S4 := Lib.hid S4
        clear F4 S3
        go_wp2_with (refine wpMapStore M2.out under50 (by omega) Hwx.out ⟨_, plainElem_int (by kernel_rfl) hwk.out⟩ rfl rfl rfl ?_; intro w3 hM3 hF3)
        have nMO : ¬ onB bM bO := fun h => by have e : bO = bM := h; have := HB.out; omega
        have nMP : ¬ onB bM bP := fun h => by have e : bP = bM := h; have := HB.out; omega
        have nMS : ¬ onB bM bS := fun h => by have e : bS = bM := h; have := HB.out; omega
        replace F2 := Lib.hid (F2.out.trans hF3 (fun q hq h => by have e : q = bM := h; have := HB.out; have := Hb1.out; omega))
        replace P2 := Lib.hid (P2.out.fr hF3 nMP)
        replace S4 := Lib.hid (S4.out.fr hF3 (fun q hq h => nMS ((onBlk_some _ _ _ _).1 hq ▸ h)))
        replace O2 := Lib.hid (O2.out.fr hF3 (fun q hq h => nMO ((onBlk_some _ _ _ _).1 hq ▸ h)))
        have hfin : Hid ((l.take (k + 1)).foldl distF ([], []) = (((x, k) :: Z.eraseIdx e).map Prod.fst, D ++ [(e : Int) + 1])) := Lib.hid (by rw [Hst.out]; exact distF_hit hany he.out)
        have hl1 : (addS (n + 1) sm (p + 1) (-1)).length = n + 1 := by rw [addS_len]; exact hsl.out
        have hfit : Hid (∀ y, y ≤ n → bef (n + 1) (addS (n + 1) (addS (n + 1) sm (p + 1) (-1)) (k + 1) 1) y = cntP ((x, k) :: Z.eraseIdx e) y) := Lib.hid (fun y hy => by
          rw [bef_add 1 (by omega) (by omega) (by omega) (n + 1) y (by omega) (by omega), bef_add (-1) (by rw [hsl.out]; omega) (by omega) (by rw [hsl.out]; omega) (n + 1) y (by omega) (by rw [hsl.out]; omega), hbf.out y hy, cntP_cons]
          have h1 := cntP_erase hep.out y
          by_cases q1 : p < y
          · rw [if_pos q1] at h1
            rw [if_pos (show p + 1 ≤ y by omega)]
            by_cases q2 : k < y
            · rw [if_pos (show k + 1 ≤ y by omega), if_pos q2]; omega
            · rw [if_neg (show ¬ k + 1 ≤ y by omega), if_neg q2]; omega
          · rw [if_neg q1] at h1
            rw [if_neg (show ¬ p + 1 ≤ y by omega), if_neg (show ¬ k + 1 ≤ y by omega), if_neg (show ¬ k < y by omega)]; omega)
        have hB4 : Hid (Bd (addS (n + 1) (addS (n + 1) sm (p + 1) (-1)) (k + 1) 1) (2 * ((k + 1 : Nat) : Int))) := Lib.hid ((hB3.out.add (by omega) (by omega) (by omega) (by omega) (by omega)).mono (by omega))
        have hZ2 : Hid (PosOk ((x, k) :: Z.eraseIdx e) (k + 1)) := Lib.hid (PosOk.miss (hZ.out.erase e) (by rw [mapErase]; exact any_erase hZ.out.nd (by rw [List.getElem?_map, hep.out]; rfl)))
        exact ⟨⟨k + 1, _, (x, k) :: Z.eraseIdx e, D ++ [(e : Int) + 1], _, _, by omega, by go_num, by split <;> omega, by rw [List.length_cons, List.length_eraseIdx]; split <;> omega, hfin, Lib.hid (by simp [hDl.out]), hZ2, Lib.hid (hf.out.swap hZ.out.nd hep.out), Lib.hid hM3, S4, hB4, hfit, P2, O2, F2⟩, by simp [intOf]; omega⟩
      | false =>
        have hfx := hf.out.miss _ hany
        have Hfx := Lib.hid hfx
        rw [hfx] at hlook
        simp only [Option.getD_none, Option.isSome_none] at hlook
        clear hfx
        go_wp2_with fail
        refine (add_any bP bS (n + 1) (n + 1) bS _ k 1 _ hP.out.cell hS.out (by have := HB.out; omega) (by omega) (by omega) (hBd.out.mono (by omega)) (by omega)).mono ?_
        rintro e1 w2 ⟨rfl, S4, F4⟩
        have nSO : ¬ onB bS bO := fun h => by have e : bO = bS := h; have := HB.out; omega
        have nSP : ¬ onB bS bP := fun h => by have e : bP = bS := h; have := HB.out; omega
        have nSM : ¬ onB bS bM := fun h => by have e : bM = bS := h; have := HB.out; omega
        have F2 := Lib.hid (hF.out.trans F4 (fun q hq h => by have e : q = bS := h; have := HB.out; have := Hb1.out; omega))
        have P2 := Lib.hid (hP.out.fr F4 nSP)
        have M2 := Lib.hid (hM.out.fr F4 nSM)
        have O2 := Lib.hid (hO.out.fr F4 (fun q hq h => nSO ((onBlk_some _ _ _ _).1 hq ▸ h)))
        replace S4 := Lib.hid S4
        clear F4 hS hP hM hO hF d hlook
        go_wp2_with (refine wpMapStore M2.out under50 (by omega) Hwx.out ⟨_, plainElem_int (by kernel_rfl) hwk.out⟩ rfl rfl rfl ?_; intro w3 hM3 hF3)
        have nMO : ¬ onB bM bO := fun h => by have e : bO = bM := h; have := HB.out; omega
        have nMP : ¬ onB bM bP := fun h => by have e : bP = bM := h; have := HB.out; omega
        have nMS : ¬ onB bM bS := fun h => by have e : bS = bM := h; have := HB.out; omega
        replace F2 := Lib.hid (F2.out.trans hF3 (fun q hq h => by have e : q = bM := h; have := HB.out; have := Hb1.out; omega))
        replace P2 := Lib.hid (P2.out.fr hF3 nMP)
        replace S4 := Lib.hid (S4.out.fr hF3 (fun q hq h => nMS ((onBlk_some _ _ _ _).1 hq ▸ h)))
        replace O2 := Lib.hid (O2.out.fr hF3 (fun q hq h => nMO ((onBlk_some _ _ _ _).1 hq ▸ h)))
        rw [pad_0 hlt] at O2
        have hfin : Hid ((l.take (k + 1)).foldl distF ([], []) = (((x, k) :: Z).map Prod.fst, D ++ [0])) := Lib.hid (by rw [Hst.out]; exact distF_miss hany)
        have hfit : Hid (∀ y, y ≤ n → bef (n + 1) (addS (n + 1) sm (k + 1) 1) y = cntP ((x, k) :: Z) y) := Lib.hid (fun y hy => by
          rw [bef_add 1 (by rw [hsl.out]; omega) (by omega) (by rw [hsl.out]; omega) (n + 1) y (by omega) (by rw [hsl.out]; omega), hbf.out y hy, cntP_cons]
          by_cases q2 : k < y
          · rw [if_pos (show k + 1 ≤ y by omega), if_pos q2]; omega
          · rw [if_neg (show ¬ k + 1 ≤ y by omega), if_neg q2]; omega)
        have hB4 : Hid (Bd (addS (n + 1) sm (k + 1) 1) (2 * ((k + 1 : Nat) : Int))) := Lib.hid ((hBd.out.add (by omega) (by omega) (by rw [hsl.out]; omega) (by omega) (by rw [hsl.out]; omega)).mono (by omega))
        have hZ2 : Hid (PosOk ((x, k) :: Z) (k + 1)) := Lib.hid (PosOk.miss hZ.out hany)
        exact ⟨⟨k + 1, _, (x, k) :: Z, D ++ [0], _, _, by omega, by go_num, by split <;> omega, by rw [List.length_cons]; omega, hfin, Lib.hid (by simp [hDl.out]), hZ2, Lib.hid (hf.out.put hany), Lib.hid hM3, S4, hB4, hfit, P2, O2, F2⟩, by simp [intOf]; omega⟩
    · have : k = n := by omega
      subst this
      go_wp2_with fail
      go_ret
      refine ⟨_, _, rfl, ?_, hF.out⟩
      have h := hO.out
      have e : distL l = D := by unfold distL; have h2 := hD.out; rw [take_all Hll.out] at h2; rw [h2]
      rw [e, Hb1.out.symm]
      simpa using h
end Go.Proofs.Ytnlgjpcnnnilpaa
