/- Buffer trees: the law of what a tree has. -/
import Derived.Test.YtkmnnfflibamnaaL11
import Derived.Test.YtkmnnfflibamnaaComMapR
import Derived.Deep.DeepCutAuto
import Derived.Deep.CutBlock
import Derived.BigQuiet
namespace Go.Proofs.Ytkmnnfflibamnaa
open Go.RowKit
attribute [local go_sem ↓] Go.wp_at_zero Go.wp_at_succ
theorem in_any (k : Int) (w : World) : Calls Try.prog 28 #[.int .i64 k] w fun e w' => e = .returned (.bool (inK k)) ∧ w = w' := by
  unfold inK
  by_cases h1 : -1048576 ≤ k
  · have e1 : decide (-1048576 ≤ k) = true := decide_eq_true h1
    have e2 : k ≥ -1048576 := h1
    rw [e1, Bool.true_and]
    go_enter Try.func28, Try.ntmps28
    go_wp2_with fail
    go_ret
    exact ⟨by first | rfl | simp, rfl⟩
  · have e1 : decide (-1048576 ≤ k) = false := decide_eq_false h1
    have e2 : ¬ k ≥ -1048576 := h1
    rw [e1, Bool.false_and]
    go_enter Try.func28, Try.ntmps28
    go_wp2_with fail
    go_ret
    exact ⟨by first | rfl | simp, rfl⟩
set_option maxRecDepth 100000 in
theorem zero65 (w : World) : (zeroValue 65).run Try.prog w = .ok (mk3 (0, 0, 0)) w := by kernel_rfl
theorem plain65 : PlainR rd3 65 (mk3 (0, 0, 0)) := plainR3 zero65
set_option maxRecDepth 100000 in
theorem und63 : Try.prog.underlying 63 = some (.map 3 65) := by kernel_rfl
def fMap (R : Nat → Nat → Int) (i : Nat) : Int → Option Value := fun z => (lastS R i z).map mk3
theorem fMap_succ {R : Nat → Nat → Int} {i : Nat} (h : effS (R i 0) (R i 1) (R i 2) = true) : fMap R (i + 1) = setV (fMap R i) (R i 1) (some (mk3 (R i 0, R i 1, R i 2))) := by
  funext z
  show Option.map mk3 (if effS (R i 0) (R i 1) (R i 2) = true ∧ R i 1 = z then some (R i 0, R i 1, R i 2) else lastS R i z) = if z = R i 1 then some (mk3 (R i 0, R i 1, R i 2)) else Option.map mk3 (lastS R i z)
  by_cases e : z = R i 1
  · rw [if_pos ⟨h, e.symm⟩, if_pos e]; rfl
  · rw [if_neg (fun c => e c.2.symm), if_neg e]
theorem fMap_same {R : Nat → Nat → Int} {i : Nat} (h : effS (R i 0) (R i 1) (R i 2) = false) : fMap R (i + 1) = fMap R i := by
  funext z
  show Option.map mk3 (if effS (R i 0) (R i 1) (R i 2) = true ∧ R i 1 = z then some (R i 0, R i 1, R i 2) else lastS R i z) = Option.map mk3 (lastS R i z)
  rw [if_neg (fun c => by rw [h] at c; exact absurd c.1 (by decide))]
theorem LOf.key {L : List En} {R : Nat → Nat → Int} {n : Nat} (h : LOf L (upsR R n)) {e : En} (he : e ∈ L) : fMap R n e.1 = some (mk3 (1, e.1, e.2.1)) ∧ inK e.1 = true ∧ eV (vl (lk (upsR R n).reverse e.1)) = (e.2.1, 0) := by
  have h1 := h.2.2 e.1
  rw [lk_mem h.1 he] at h1
  have h2 : vl (some e) = some e.2.1 := by
    unfold vl
    dsimp only
    rw [h.2.1 e he]; rfl
  rw [h2] at h1
  have h3 := ups_last R e.1 n
  rw [← h1] at h3
  refine ⟨?_, ?_, by rw [← h1]; rfl⟩
  · unfold fMap
    cases hl : lastS R n e.1 with
    | none => rw [hl] at h3; cases h3
    | some c =>
      rw [hl] at h3
      obtain ⟨q1, _⟩ := lastS_some hl
      obtain ⟨c1, c2, c3⟩ := c
      unfold vlS at h3
      dsimp only at h3 q1
      split at h3
      · rename_i e1
        injection h3 with h3
        subst e1 h3 q1
        rfl
      · cases h3
  · cases hl : lastS R n e.1 with
    | none => rw [hl] at h3; cases h3
    | some c => exact (lastS_some hl).2
/-- What a key's last update says to a search. -/
theorem last_eV (R : Nat → Nat → Int) (n : Nat) (k : Int) : (fMap R n k = none ∧ eV (vl (lk (upsR R n).reverse k)) = (0, 12)) ∨ (∃ c : Int × Int × Int, fMap R n k = some (mk3 c) ∧ c.1 ≠ 1 ∧ eV (vl (lk (upsR R n).reverse k)) = (0, 12)) ∨ ∃ c : Int × Int × Int, fMap R n k = some (mk3 c) ∧ c.1 = 1 ∧ eV (vl (lk (upsR R n).reverse k)) = (c.2.2, 0) := by
  rw [ups_last]
  unfold fMap
  cases hl : lastS R n k with
  | none => exact .inl ⟨rfl, rfl⟩
  | some c =>
    by_cases h1 : c.1 = 1
    · refine .inr (.inr ⟨c, rfl, h1, ?_⟩)
      unfold vlS
      dsimp only
      rw [if_pos h1]; rfl
    · refine .inr (.inl ⟨c, rfl, h1, ?_⟩)
      unfold vlS
      dsimp only
      rw [if_neg h1]; rfl
theorem LOf.cnt {L : List En} {R : Nat → Nat → Int} {n : Nat} (h : LOf L (upsR R n)) {k c1 c2 c3 : Int} (hf : fMap R n k = some (mk3 (c1, c2, c3))) : (lk L k).isSome = decide (c1 = 1) := by
  have h1 := (h.2.2 k).trans (ups_last R k n)
  have h2 : lastS R n k = some (c1, c2, c3) := by
    unfold fMap at hf
    cases hl : lastS R n k with
    | none => rw [hl] at hf; cases hf
    | some c =>
      rw [hl] at hf
      injection hf with hf
      injection hf with hf
      have hf2 := congrArg Array.toList hf
      obtain ⟨d1, d2, d3⟩ := c
      simp at hf2
      obtain ⟨q1, q2, q3⟩ := hf2
      rw [q1, q2, q3]
  rw [h2] at h1
  rw [live_vl h.2.1 k, h1]
  unfold vlS
  dsimp only
  by_cases e : c1 = 1
  · rw [if_pos e, decide_eq_true e]; rfl
  · rw [if_neg e, decide_eq_false e]; rfl
theorem cntD_le (L : List En) (todo : Int → Bool) : cntD L todo ≤ L.length := List.length_filter_le _ _
theorem inK_wf {k : Int} (h : inK k = true) : wfI k := by
  unfold inK at h
  simp at h
  exact wfI_of (by omega) (by omega)
set_option maxRecDepth 100000 in
set_option maxHeartbeats 16000000 in
theorem Has_law (b m : Int) (a : Option Addr) (n c : Nat) (R : Nat → Nat → Int) (key : Int) (w : World) (h : ArgSt w a n c stK R) :
    Calls Try.prog 8 #[.int .i64 b, .int .i64 m, .slice a n c, .int .i64 key] w fun e w' => e = .returned (.bool true) ∧ Fr F0 w w' := by
  have HA := Lib.hid (awake_any w)
  have HM := Lib.hid (fun W => many_any a n c W)
  have HP : Hid (∀ W, Fr F0 w W → n ≤ 120 → Calls Try.prog 24 #[.int .i64 b, .int .i64 m, .slice a n c] W (PlayS W b m R n)) := Lib.hid (fun W F hn => play_law b m W (h.fr0 F) hn)
  have HAr := Lib.hid h
  clear h
  by_cases hn : 120 < n
  · have hd : decide (120 < (n : Int)) = true := by simp; omega
    rw [hd] at HM
    go_enter Try.func8, Try.ntmps8
    go_wp2_with (first | (go_at_call 10; refine HA.out.mono ?_; rintro e w1 ⟨rfl, F1⟩; have X1 := Lib.hid F1; clear F1) | (go_at_call 23; refine (HM.out _).mono ?_; rintro e w2 ⟨rfl, rfl⟩))
    go_ret
    exact ⟨rfl, X1.out⟩
  · have hd : decide (120 < (n : Int)) = false := by simp; omega
    rw [hd] at HM
    have hn2 : n ≤ 120 := by omega
    clear hd hn
    go_enter Try.func8, Try.ntmps8
    go_upto_region 5 with (first | (go_at_call 10; refine HA.out.mono ?_; rintro e w1 ⟨rfl, F1⟩; have X1 := Lib.hid F1; clear F1) | (go_at_call 23; refine (HM.out _).mono ?_; rintro e w2 ⟨rfl, rfl⟩))
    go_wp2_with fail
    refine (HP.out _ X1.out hn2).mono ?_
    rintro e w3 (⟨_, rfl, F3⟩ | ⟨B, M, t, s, g, c9, col, T, r, vb, vc, ba, bc, ra, rn, rc, hsz, rfl, rfl, rfl, hM, hU, hS⟩)
    · have X3 := Lib.hid (X1.out.trans0 F3)
      clear F3
      go_wp2_with fail
      go_ret
      exact ⟨rfl, X3.out.alloc _⟩
    · have X3 := Lib.hid (X1.out.trans0 hM.fr)
      have hBM := szB_iff.1 hsz
      have HBM : Hid ((1 ≤ B ∧ B ≤ 64) ∧ (2 * B ≤ M ∧ M ≤ 1000)) := Lib.hid (by omega)
      obtain ⟨nb, hnb⟩ : ∃ z, z = T.buf.length := ⟨_, rfl⟩
      obtain ⟨mv, hmv⟩ : ∃ z, z = T.mv := ⟨_, rfl⟩
      by_cases hk1 : key < -1048576
      · rw [← hnb, ← hmv]
        clear hM hU hnb hmv hS hBM hsz HP HAr
        go_wp2_with fail
        go_ret
        exact ⟨rfl, X3.out.alloc _⟩
      by_cases hk2 : key > 1048576
      · rw [← hnb, ← hmv]
        clear hM hU hnb hmv hS hBM hsz HP HAr
        go_wp2_with fail
        go_ret
        exact ⟨rfl, X3.out.alloc _⟩
      have hkey : Hid (inK key = true) := Lib.hid (by unfold inK; simp; omega)
      have HS0 : Hid (HSt (fun k => k < w.heap.size) w3 t B M (upsR R n) 240 600000) := Lib.hid (by
        obtain ⟨a9, p1, p2, p3, p4, p5⟩ := hU
        have l1 := X1.out.size
        have l3 := X3.out.size
        exact ⟨col, T, a9, hM.ts, p1.mono (Nat.le_refl _) (by omega) (by omega), by omega, p4, hS, fun k hk => ⟨by omega, hM.old k (by omega)⟩⟩)
      rw [← hnb, ← hmv]
      clear hM hU hnb hmv hS hBM hsz HP X1
      obtain ⟨L, hL⟩ : ∃ L, LOf L (upsR R n) := by
        obtain ⟨_, T0, _, _, _, _, _, h5, _⟩ := HS0.out
        exact ⟨_, LOf.of h5⟩
      have HL := Lib.hid hL
      have hmm := @run_makeMap Try.prog
      have HIn := Lib.hid in_any
      clear hL
      go_upto_block 0 with fail
      have HMp : Hid (MapR ((w3.alloc (.cells #[.int .i64 (B : Int), .int .i64 (M : Int), .int .i64 (mv : Int), .slice ba nb bc, .slice ra rn rc] 51)).alloc (.map #[] 0)) rd3 (w3.heap.size + 1) 0 (fMap R 0) ∧ Fr F0 w3 ((w3.alloc (.cells #[.int .i64 (B : Int), .int .i64 (M : Int), .int .i64 (mv : Int), .slice ba nb bc, .slice ra rn rc] 51)).alloc (.map #[] 0))) := Lib.hid ⟨by
        have h1 := MapR.made (w3.alloc (.cells #[.int .i64 (B : Int), .int .i64 (M : Int), .int .i64 (mv : Int), .slice ba nb bc, .slice ra rn rc] 51)) rd3
        rw [size_alloc] at h1
        exact h1, ((Fr.refl _ _).alloc _).alloc _⟩
      generalize (w3.alloc (.cells #[.int .i64 (B : Int), .int .i64 (M : Int), .int .i64 (mv : Int), .slice ba nb bc, .slice ra rn rc] 51)).alloc (.map #[] 0) = W at *
      obtain ⟨mb, hmb⟩ : ∃ mb, mb = w3.heap.size + 1 := ⟨_, rfl⟩
      have hmb2 : Hid (w3.heap.size ≤ mb) := Lib.hid (by omega)
      rw [← hmb] at HMp ⊢
      clear hmb hmm HM HA
      go_wp2_with fail
      go_loopw [60] (fun s60 wr => ∃ (i nn : Nat), i ≤ n ∧ nn ≤ i ∧ s60 = .int .i64 (i : Int) ∧ Hid (MapR wr rd3 mb nn (fMap R i) ∧ Fr F0 w3 wr)) (fun s60 _ => n - (intOf s60).toNat)
      case atStart => exact ⟨0, 0, Nat.zero_le _, Nat.le_refl _, rfl, HMp⟩
      case round =>
        obtain ⟨i, nn, hi, hnn, rfl, H⟩ := hrel
        by_cases hlt : i < n
        · as_aux_lemma =>
          have hlt' : (i : Int) < (n : Int) := by omega
          obtain ⟨b, o, rfl, hc⟩ := HAr.out.cells (by omega)
          obtain ⟨ky, hky⟩ : ∃ x, x = R i 1 := ⟨_, rfl⟩
          obtain ⟨val, hval⟩ : ∃ x, x = R i 2 := ⟨_, rfl⟩
          obtain ⟨kd, hkd⟩ : ∃ x, x = R i 0 := ⟨_, rfl⟩
          have FW := X3.out.trans0 H.out.2
          have d0 : wr.cell? ⟨b, o + i * 3, none⟩ = some (.int .i64 kd) := by have := FW.cell (hc i 0 .i64 hlt rfl).1 id; rw [hkd]; simpa using this
          have d1 : wr.cell? ⟨b, o + i * 3 + 1, none⟩ = some (.int .i64 ky) := by have := FW.cell (hc i 1 .i64 hlt rfl).1 id; rw [hky, Nat.add_assoc]; simpa using this
          have d2 : wr.cell? ⟨b, o + i * 3 + 2, none⟩ = some (.int .i64 val) := by have := FW.cell (hc i 2 .i64 hlt rfl).1 id; rw [hval, Nat.add_assoc]; simpa using this
          have hst := Lib.hid (show effS kd ky val = true → fMap R (i + 1) = setV (fMap R i) ky (some (mk3 (kd, ky, val))) by rw [hkd, hky, hval]; exact fMap_succ)
          have hst0 := Lib.hid (show effS kd ky val = false → fMap R (i + 1) = fMap R i by rw [hkd, hky, hval]; exact fMap_same)
          have Bx := Blk.new wr 65 [.int .i64 kd, .int .i64 ky, .int .i64 val]
          have x0 := Bx.cell (i := 0) rfl
          have x1 := Bx.cell (i := 1) rfl
          have x2 := Bx.cell (i := 2) rfl
          have H2 : Hid (MapR (wr.alloc (.cells #[.int .i64 kd, .int .i64 ky, .int .i64 val] 65)) rd3 mb nn (fMap R i) ∧ Fr F0 w3 (wr.alloc (.cells #[.int .i64 kd, .int .i64 ky, .int .i64 val] 65))) := Lib.hid ⟨H.out.1.fr ((Fr.refl F0 wr).alloc _) id, H.out.2.alloc _⟩
          clear hc hky hval hkd FW Bx H
          obtain ⟨ek, hek⟩ : ∃ z, z = inK ky := ⟨_, rfl⟩
          obtain ⟨ev, hev⟩ : ∃ z, z = inK val := ⟨_, rfl⟩
          have HK : Hid (∀ W, Calls Try.prog 28 #[.int .i64 ky] W fun e w' => e = .returned (.bool ek) ∧ W = w') := Lib.hid (fun W => by rw [hek]; exact HIn.out ky W)
          have HV : Hid (∀ W, Calls Try.prog 28 #[.int .i64 val] W fun e w' => e = .returned (.bool ev) ∧ W = w') := Lib.hid (fun W => by rw [hev]; exact HIn.out val W)
          have hyes : Hid (ek = true → wfI ky) := Lib.hid (fun e => inK_wf (by rw [← hek]; exact e))
          have heff : Hid (effS kd ky val = ((decide (kd = 2) && ek) || (decide (kd = 1) && (ek && ev)))) := Lib.hid (by unfold effS; rw [hek, hev])
          clear hek hev HIn
          have hkk : kd = 2 ∨ kd = 1 ∨ (kd ≠ 1 ∧ kd ≠ 2) := by omega
          go_upto_region 13 with fail
          generalize wr.alloc (.cells #[.int .i64 kd, .int .i64 ky, .int .i64 val] 65) = wz at *
          clear d0 d1 d2
          rcases hkk with rfl | rfl | ⟨k1, k2⟩
          · cases ek
            · have HST : Hid (fMap R (i + 1) = fMap R i) := Lib.hid (hst0.out (by rw [heff.out]; simp))
              clear hst hst0 heff hyes
              go_wp2_with (first | (go_at_call 28; with_reducible (refine (HK.out _).mono ?_); rintro e w' ⟨rfl, rfl⟩) | (go_at_call 28; with_reducible (refine (HV.out _).mono ?_); rintro e w' ⟨rfl, rfl⟩))
              go_roundw
              case rel => exact ⟨i + 1, nn, by omega, by omega, by go_num, Lib.hid ⟨by rw [HST.out]; exact H2.out.1, H2.out.2⟩⟩
              case measure => simp [intOf]; omega
            · have HST : Hid (fMap R (i + 1) = setV (fMap R i) ky (some (mk3 (2, ky, val)))) := Lib.hid (hst.out (by rw [heff.out]; simp))
              have HWf := Lib.hid (hyes.out rfl)
              clear hst hst0 heff hyes
              go_wp2_with (first | (go_at_call 28; with_reducible (refine (HK.out _).mono ?_); rintro e w' ⟨rfl, rfl⟩) | (go_at_call 28; with_reducible (refine (HV.out _).mono ?_); rintro e w' ⟨rfl, rfl⟩) | (at_mapUpdate; refine wpMapRStore H2.out.1 und63 (by omega) HWf.out (v := mk3 (2, ky, val)) ⟨_, rfl⟩ rfl rfl rfl ?_; intro w5 m5 F5; obtain ⟨n5, hn5, m5⟩ : ∃ n5, n5 ≤ i + 1 ∧ MapR w5 rd3 mb n5 (setV (fMap R i) ky (some (mk3 (2, ky, val)))) := ⟨_, (by split <;> omega), m5⟩; have H5 := Lib.hid (And.intro m5 (H2.out.2.trans F5 (fun k hk e => by have := hmb2.out; have e : k = mb := e; omega))); clear m5 F5))
              go_roundw
              case rel => exact ⟨i + 1, n5, by omega, by omega, by go_num, Lib.hid ⟨by rw [HST.out]; exact H5.out.1, H5.out.2⟩⟩
              case measure => simp [intOf]; omega
          · cases ek
            · have HST : Hid (fMap R (i + 1) = fMap R i) := Lib.hid (hst0.out (by rw [heff.out]; simp))
              clear hst hst0 heff hyes
              go_wp2_with (first | (go_at_call 28; with_reducible (refine (HK.out _).mono ?_); rintro e w' ⟨rfl, rfl⟩) | (go_at_call 28; with_reducible (refine (HV.out _).mono ?_); rintro e w' ⟨rfl, rfl⟩))
              go_roundw
              case rel => exact ⟨i + 1, nn, by omega, by omega, by go_num, Lib.hid ⟨by rw [HST.out]; exact H2.out.1, H2.out.2⟩⟩
              case measure => simp [intOf]; omega
            · cases ev
              · have HST : Hid (fMap R (i + 1) = fMap R i) := Lib.hid (hst0.out (by rw [heff.out]; simp))
                clear hst hst0 heff hyes
                go_wp2_with (first | (go_at_call 28; with_reducible (refine (HK.out _).mono ?_); rintro e w' ⟨rfl, rfl⟩) | (go_at_call 28; with_reducible (refine (HV.out _).mono ?_); rintro e w' ⟨rfl, rfl⟩))
                go_roundw
                case rel => exact ⟨i + 1, nn, by omega, by omega, by go_num, Lib.hid ⟨by rw [HST.out]; exact H2.out.1, H2.out.2⟩⟩
                case measure => simp [intOf]; omega
              · have HST : Hid (fMap R (i + 1) = setV (fMap R i) ky (some (mk3 (1, ky, val)))) := Lib.hid (hst.out (by rw [heff.out]; simp))
                have HWf := Lib.hid (hyes.out rfl)
                clear hst hst0 heff hyes
                go_wp2_with (first | (go_at_call 28; with_reducible (refine (HK.out _).mono ?_); rintro e w' ⟨rfl, rfl⟩) | (go_at_call 28; with_reducible (refine (HV.out _).mono ?_); rintro e w' ⟨rfl, rfl⟩) | (at_mapUpdate; refine wpMapRStore H2.out.1 und63 (by omega) HWf.out (v := mk3 (1, ky, val)) ⟨_, rfl⟩ rfl rfl rfl ?_; intro w5 m5 F5; obtain ⟨n5, hn5, m5⟩ : ∃ n5, n5 ≤ i + 1 ∧ MapR w5 rd3 mb n5 (setV (fMap R i) ky (some (mk3 (1, ky, val)))) := ⟨_, (by split <;> omega), m5⟩; have H5 := Lib.hid (And.intro m5 (H2.out.2.trans F5 (fun k hk e => by have := hmb2.out; have e : k = mb := e; omega))); clear m5 F5))
                go_roundw
                case rel => exact ⟨i + 1, n5, by omega, by omega, by go_num, Lib.hid ⟨by rw [HST.out]; exact H5.out.1, H5.out.2⟩⟩
                case measure => simp [intOf]; omega
          · have HST : Hid (fMap R (i + 1) = fMap R i) := Lib.hid (hst0.out (by rw [heff.out]; simp [k1, k2]))
            clear hst hst0 heff hyes
            go_wp2_with (first | (go_at_call 28; with_reducible (refine (HK.out _).mono ?_); rintro e w' ⟨rfl, rfl⟩) | (go_at_call 28; with_reducible (refine (HV.out _).mono ?_); rintro e w' ⟨rfl, rfl⟩))
            go_roundw
            case rel => exact ⟨i + 1, nn, by omega, by omega, by go_num, Lib.hid ⟨by rw [HST.out]; exact H2.out.1, H2.out.2⟩⟩
            case measure => simp [intOf]; omega
        · obtain rfl : i = n := by omega
          have H0 := H
          clear HIn HMp HAr
          go_upto_region 17 with fail
          clear H
          go_wp2_with (at_range; refine wpRangeR H0.out.1 und63 rfl ?_; intro w4 hrg0 F4; have HR := Lib.hid (And.intro hrg0 (H0.out.2.trans0 F4)); clear hrg0 F4)
          go_frame
          obtain ⟨rI, hrI⟩ : ∃ r, r = wr.heap.size := ⟨_, rfl⟩
          rw [← hrI] at HR ⊢
          have hrI2 : Hid (w3.heap.size ≤ rI) := Lib.hid (by rw [hrI]; exact H0.out.2.size)
          clear hrI H0
          go_loopw [16] (fun s16 wr => ∃ (todo : Int → Bool) (cnt q : Nat), q ≤ 120 ∧ s16 = .int .i64 (q : Int) ∧ Hid (q = cntD L todo ∧ RgR wr rd3 mb rI nn (fMap R i) todo cnt ∧ Fr F0 w3 wr)) (fun _ wr => wr.rangeLeft mb rI)
          case atStart => exact ⟨_, _, 0, by omega, rfl, Lib.hid ⟨(cntD_start (fun e he => by rw [(HL.out.key he).1]; rfl)).symm, HR.out.1, HR.out.2⟩⟩
          case round =>
            obtain ⟨todo, cnt, q, hq, rfl, H⟩ := hrel
            go_wp2_with (at_next; refine wpNextR H.out.2.1 plain65 mk3 (fun v y hv => (rd3_inv hv).elim fun c hc => ⟨c, hc.1⟩) rfl ?_ ?_)
            · intro hall
              have hqL : Hid (q = L.length) := Lib.hid (H.out.1.trans (cntD_end (fun e he => hall e.1 (inK_wf (HL.out.key he).2.1))))
              have HW0 : Hid (MapR wr rd3 mb nn (fMap R i) ∧ Fr F0 w3 wr) := Lib.hid ⟨H.out.2.1.map, H.out.2.2⟩
              clear hall H HR
              obtain ⟨wS, rfl⟩ : ∃ W : World, W = wr := ⟨_, rfl⟩
              have HX0 : Hid (HSt (fun k => k < w.heap.size ∨ k = mb) wS t B M (upsR R i) 240 600000) := Lib.hid ((HS0.out.more HW0.out.2).mono (fun k hk => by
                rcases hk with e | e
                · exact .inl e
                · exact .inr ⟨by rw [e]; exact hmb2.out, by rw [e]; exact HW0.out.1.lt⟩) (Nat.le_refl _) (Nat.le_refl _))
              have HFS := Lib.hid (X3.out.trans0 HW0.out.2)
              have HMS := Lib.hid HW0.out.1
              have hq0 : q = L.length := hqL.out
              clear HS0 HW0 X3 hmb2 hrI2 hq0
              go_wp2_with fail
              go_loopw [106] (fun s106 wr => ∃ p : Nat, p ≤ 2 ∧ s106 = .int .i64 (p : Int) ∧ Hid (HSt (fun k => k < w.heap.size ∨ k = mb) wr t B M (upsR R i) (240 + 2 * p) (600000 + 100000 * p) ∧ MapR wr rd3 mb nn (fMap R i) ∧ Fr F0 w wr)) (fun s106 _ => 2 - (intOf s106).toNat)
              case atStart => exact ⟨0, by omega, rfl, Lib.hid ⟨HX0.out, HMS.out, HFS.out⟩⟩
              case round =>
                obtain ⟨p, hp, rfl, H⟩ := hrel
                clear HX0 HFS HMS
                by_cases hp2 : p < 2
                · have hp2' : (p : Int) < 2 := by omega
                  have HLi := Lib.hid (H.out.1.list (by omega) HL.out hqL.out.symm)
                  go_upto_block 6 with (go_at_call 27; refine HLi.out.mono ?_; rintro e wl ⟨al, cl, rfl, rl, bl, Fl⟩; have XL := Lib.hid (And.intro rl (And.intro bl Fl)); clear rl bl Fl)
                  have HX2 : Hid (HSt (fun k => (k < w.heap.size ∨ k = mb) ∨ (wr.heap.size ≤ k ∧ k < wl.heap.size)) wl t B M (upsR R i) (240 + 2 * p) (600000 + 100000 * p) ∧ RdZ wl 2 al q (prs L) ∧ MapR wl rd3 mb nn (fMap R i) ∧ Fr F0 w wl) := Lib.hid ⟨H.out.1.more XL.out.2.2, XL.out.1, H.out.2.1.fr XL.out.2.2 id, H.out.2.2.trans0 XL.out.2.2⟩
                  have hbl := Lib.hid XL.out.2.1
                  obtain ⟨X2, hX2⟩ : ∃ X : Nat → Prop, X = fun k => (k < w.heap.size ∨ k = mb) ∨ (wr.heap.size ≤ k ∧ k < wl.heap.size) := ⟨_, rfl⟩
                  have HXs : Hid ((∀ k, onBlk al k → X2 k) ∧ (∀ k, k < w.heap.size → X2 k) ∧ X2 mb ∧ (∀ k, (k < w.heap.size ∨ k = mb) → X2 k)) := Lib.hid (by
                    subst hX2
                    exact ⟨fun k hk => .inr (hbl.out k hk), fun k hk => .inl (.inl hk), .inl (.inr rfl), fun k hk => .inl hk⟩)
                  rw [← hX2] at HX2
                  clear hX2 XL HLi H hbl
                  go_wp2_with fail
                  go_loopw [116] (fun s116 wx => ∃ j : Nat, j ≤ q ∧ s116 = .int .i64 (j : Int) ∧ Hid (HSt X2 wx t B M (upsR R i) (240 + 2 * p) (600000 + 100000 * p + 300 * j) ∧ RdZ wx 2 al q (prs L) ∧ MapR wx rd3 mb nn (fMap R i) ∧ Fr F0 w wx)) (fun s116 _ => q - (intOf s116).toNat)
                  case atStart => exact ⟨0, Nat.zero_le _, rfl, Lib.hid HX2.out⟩
                  case round =>
                    obtain ⟨j, hj, rfl, H⟩ := hrel
                    clear HX2
                    by_cases hjq : j < q
                    · as_aux_lemma =>
                      obtain ⟨⟨x1, x2, x3⟩, hx⟩ : ∃ x, L[j]? = some x := ⟨_, List.getElem?_eq_getElem (by have := hqL.out; omega)⟩
                      have hxk := HL.out.key (List.mem_of_getElem? hx)
                      obtain ⟨bl0, ol, rfl, d0, d1⟩ := RdZ_pr H.out.2.1 hx
                      dsimp only at hxk d0 d1
                      have hl1 : (Instr.lookup 63 (.map (some mb)) (.int .i64 x1) true).run Try.prog (wr.alloc (.cells #[.int .i64 x1, .int .i64 x2] 59)) = .ok (.tuple #[.agg #[.int .i64 1, .int .i64 x1, .int .i64 x2], .bool true]) (wr.alloc (.cells #[.int .i64 x1, .int .i64 x2] 59)) := by
                        have h1 := (H.out.2.2.1.fr ((Fr.refl F0 wr).alloc (.cells #[.int .i64 x1, .int .i64 x2] 59)) id).look_ok und63 plain65 (inK_wf hxk.2.1)
                        rw [hxk.1] at h1
                        exact h1
                      have HGx : Hid (∀ X W c9, HSt X W t B M (upsR R i) (240 + 2 * p) c9 → c9 ≤ 900000000 → Calls Try.prog 29 #[.pointer (some ⟨t, 0, none⟩), .int .i64 x1] W fun e w' => e = .returned (.tuple #[.int .i64 x2, .int .i64 0]) ∧ HSt X w' t B M (upsR R i) (240 + 2 * p) (c9 + (240 + 2 * p)) ∧ Fr (fun k => ¬ X k) W w') := Lib.hid (fun X W c9 hW hc9 => by
                        have h1 := hW.get (by omega) hc9 x1 hxk.2.1
                        rw [hxk.2.2] at h1
                        exact h1)
                      have By := Blk.new wr 59 [.int .i64 x1, .int .i64 x2]
                      have z0 := By.cell (i := 0) rfl
                      have z1 := By.cell (i := 1) rfl
                      go_upto_region 31 with fail
                      have F2 : Fr F0 wr ((wr.alloc (.cells #[.int .i64 x1, .int .i64 x2] 59)).alloc (.cells #[.int .i64 1, .int .i64 x1, .int .i64 x2] 65)) := ((Fr.refl _ _).alloc _).alloc _
                      have B1 := By.alloc (.cells #[.int .i64 1, .int .i64 x1, .int .i64 x2] 65)
                      have B2 := Blk.new (wr.alloc (.cells #[.int .i64 x1, .int .i64 x2] 59)) 65 [.int .i64 1, .int .i64 x1, .int .i64 x2]
                      rw [size_alloc] at B2
                      change Blk ((wr.alloc (.cells #[.int .i64 x1, .int .i64 x2] 59)).alloc (.cells #[.int .i64 1, .int .i64 x1, .int .i64 x2] 65)) _ _ _ at B1
                      change Blk ((wr.alloc (.cells #[.int .i64 x1, .int .i64 x2] 59)).alloc (.cells #[.int .i64 1, .int .i64 x1, .int .i64 x2] 65)) _ _ _ at B2
                      have hX3 := H.out.1.more F2
                      have hl9 : wr.heap.size < ((wr.alloc (.cells #[.int .i64 x1, .int .i64 x2] 59)).alloc (.cells #[.int .i64 1, .int .i64 x1, .int .i64 x2] 65)).heap.size := by rw [size_alloc, size_alloc]; omega
                      generalize (wr.alloc (.cells #[.int .i64 x1, .int .i64 x2] 59)).alloc (.cells #[.int .i64 1, .int .i64 x1, .int .i64 x2] 65) = W2 at *
                      obtain ⟨g1, hg1⟩ : ∃ g, g = wr.heap.size := ⟨_, rfl⟩
                      rw [← hg1] at B1 B2 hl9 ⊢
                      have HW2 := Lib.hid (And.intro hX3 (And.intro (H.out.2.1.fr0 F2) (And.intro (H.out.2.2.1.fr F2 id) (H.out.2.2.2.trans0 F2))))
                      have HXg : Hid (g1 < W2.heap.size ∧ wr.heap.size ≤ g1) := Lib.hid ⟨hl9, by omega⟩
                      have HB12 := Lib.hid (And.intro B1 B2)
                      have Hx := Lib.hid hx
                      have y0 := B1.cell (i := 0) rfl
                      have y1 := B1.cell (i := 1) rfl
                      have v0 := B2.cell (i := 0) rfl
                      have v2 := B2.cell (i := 2) rfl
                      clear hl1 By z0 z1 d0 d1 F2 B1 B2 hX3 hl9 hg1 hx hxk
                      go_cut [156] (fun s156 wc9 => s156 = .bool false ∧ ∃ nq, wc9 = W2.drewN nq)
                      case first =>
                        rcases Nat.eq_zero_or_pos j with rfl | hj0
                        · have hj0 : ¬ (((0 : Nat) : Int) > 0) := by omega
                          go_wp2_with fail
                          go_quiet (fail)
                          go_wp2_with fail
                          go_meet
                          exact ⟨rfl, _, rfl⟩
                        · obtain ⟨j1, rfl⟩ : ∃ j1, j = j1 + 1 := ⟨j - 1, by omega⟩
                          obtain ⟨⟨u1, u2, u3⟩, hu⟩ : ∃ x, L[j1]? = some x := ⟨_, List.getElem?_eq_getElem (by have := hqL.out; omega)⟩
                          obtain ⟨b9, o9, e9, p0, _⟩ := RdZ_pr HW2.out.2.1 hu
                          injection e9 with e9
                          injection e9 with e9 e8
                          subst e9 e8
                          have hlt9 : ¬ (x1 ≤ u1) := by
                            have h1 := HL.out.1
                            unfold Sd at h1
                            rw [List.pairwise_iff_getElem] at h1
                            obtain ⟨q1, e1⟩ := List.getElem?_eq_some_iff.1 hu
                            obtain ⟨q2, e2⟩ := List.getElem?_eq_some_iff.1 Hx.out
                            have h2 := h1 j1 (j1 + 1) q1 q2 (by omega)
                            rw [e1, e2] at h2
                            exact Int.not_le.2 h2
                          have hlt8 : ¬ (u1 ≥ x1) := hlt9
                          have hsub : IntKind.i64.wrap (((j1 + 1 : Nat) : Int) - 1) = (j1 : Int) := by rw [wI (by omega) (by omega)]; omega
                          have hsub2 : IntKind.i64.wrap ((j1 : Int) + 1 - 1) = (j1 : Int) := by rw [wI (by omega) (by omega)]; omega
                          have hgt : ((j1 + 1 : Nat) : Int) > 0 := by omega
                          have hgt2 : (0 : Int) < (j1 : Int) + 1 := by omega
                          have hj1q : (j1 : Int) < (q : Int) := by omega
                          dsimp only at p0
                          have Hlt9 := Lib.hid hlt9
                          clear hu
                          go_wp2_with fail
                          go_quiet (fail)
                          go_wp2_with fail
                          go_meet
                          exact ⟨congrArg Value.bool (decide_eq_false (Int.not_le.2 Hlt9.out)), _, rfl⟩
                      case rest =>
                        obtain ⟨rfl, nq, rfl⟩ := hcut
                        have F3 : Fr F0 W2 (W2.drewN nq) := (Fr.refl F0 W2).drewN nq
                        have HW3 := Lib.hid (And.intro (HW2.out.1.fr0 F3) (And.intro (HW2.out.2.1.fr0 F3) (And.intro (HW2.out.2.2.1.fr F3 id) (HW2.out.2.2.2.trans0 F3))))
                        have HB3 := Lib.hid (HB12.out.1.fr F3 id)
                        clear y0 y1 v0 v2 F3 HW2 HB12
                        generalize W2.drewN nq = W3 at *
                        have HG3 := Lib.hid (HGx.out _ W3 _ HW3.out.1 (by omega))
                        have z0 := HB3.out.cell (i := 0) rfl
                        clear HGx Hx
                        obtain ⟨bb, hb5⟩ : ∃ bb, ((j : Int) % 5 == 0) = bb := ⟨_, rfl⟩
                        cases bb with
                        | false =>
                          go_wp2_with fail
                          go_roundw
                          case rel => exact ⟨j + 1, by omega, by go_num, Lib.hid ⟨HW3.out.1.mono (fun k hk => .inl hk) (Nat.le_refl _) (by omega), HW3.out.2⟩⟩
                          case measure => simp [intOf]; omega
                        | true =>
                          go_upto_region 35 with (go_at_call 29; refine HG3.out.mono ?_; rintro e w9 ⟨rfl, q1, q2⟩; have X9 := Lib.hid (And.intro q1 (And.intro (HW3.out.2.1.fr q2 (fun k hk hn => hn (.inl (HXs.out.1 k hk)))) (And.intro (HW3.out.2.2.1.fr q2 (fun hn => hn (.inl HXs.out.2.2.1))) (Fr.outX HW3.out.2.2.2 q2 (fun k hk => .inl (HXs.out.2.1 k hk)))))); have HB9 := Lib.hid (HB3.out.fr q2 (fun hn => hn (.inr ⟨HXg.out.2, HXg.out.1⟩))); have z1 := HB9.out.cell (i := 1) rfl; clear q1 q2)
                          go_wp2_with fail
                          go_roundw
                          case rel => exact ⟨j + 1, by omega, by go_num, Lib.hid ⟨X9.out.1.mono (fun k hk => .inl hk) (Nat.le_refl _) (by omega), X9.out.2⟩⟩
                          case measure => simp [intOf]; omega
                    · obtain rfl : q = j := by omega
                      have hq120 : q ≤ 120 := hq
                      have HG := Lib.hid (H.out.1.get (by omega) (by omega) key hkey.out)
                      have hwk := Lib.hid (inK_wf hkey.out)
                      rcases last_eV R i key with ⟨f1, f2⟩ | ⟨⟨c1, c2, c3⟩, f1, f2, f3⟩ | ⟨⟨c1, c2, c3⟩, f1, f2, f3⟩
                      · as_aux_lemma =>
                        rw [f2] at HG
                        have hlk : Hid (∀ W, MapR W rd3 mb nn (fMap R i) → (Instr.lookup 63 (.map (some mb)) (.int .i64 key) true).run Try.prog W = .ok (.tuple #[.agg #[.int .i64 0, .int .i64 0, .int .i64 0], .bool false]) W) := Lib.hid (fun W hW => by
                          have h1 := hW.look_ok und63 plain65 hwk.out
                          rw [f1] at h1
                          exact h1)
                        clear f1 f2
                        go_upto_region 39 with (go_at_call 29; refine HG.out.mono ?_; rintro e w6 ⟨rfl, g1, g2⟩; have X6 := Lib.hid (And.intro g1 (And.intro (H.out.2.2.1.fr g2 (fun hn => hn HXs.out.2.2.1)) (Fr.outX H.out.2.2.2 g2 HXs.out.2.1))); clear g1 g2)
                        have hl6 := hlk.out w6 X6.out.2.1
                        have X7 : Hid (HSt X2 (w6.alloc (.cells #[.int .i64 0, .int .i64 0, .int .i64 0] 65)) t B M (upsR R i) (240 + 2 * p) (600000 + 100000 * p + 300 * q + (240 + 2 * p)) ∧ MapR (w6.alloc (.cells #[.int .i64 0, .int .i64 0, .int .i64 0] 65)) rd3 mb nn (fMap R i) ∧ Fr F0 w (w6.alloc (.cells #[.int .i64 0, .int .i64 0, .int .i64 0] 65))) := Lib.hid ⟨X6.out.1.fr0 ((Fr.refl _ _).alloc _), X6.out.2.1.fr ((Fr.refl F0 _).alloc _) id, X6.out.2.2.alloc _⟩
                        have HF := Lib.hid (X7.out.1.flush (by omega) (by omega) HBM.out.1 HBM.out.2)
                        have Bx := Blk.new w6 65 [.int .i64 0, .int .i64 0, .int .i64 0]
                        have z0 := Bx.cell (i := 0) rfl
                        have z2 := Bx.cell (i := 2) rfl
                        clear Bx HG
                        go_wp2_with (first | (go_at_call 30; refine HF.out.mono ?_; rintro e w8 ⟨rfl, g1, g2, g3⟩; have X8 := Lib.hid (And.intro g1 (And.intro (X7.out.2.1.fr g2 (fun hn => hn HXs.out.2.2.1)) (Fr.outX X7.out.2.2 g2 HXs.out.2.1))); have HB8 := Lib.hid g3; clear g1 g2 g3) | (go_at_call 31; refine HB8.out.mono ?_; rintro e w' ⟨rfl, rfl⟩))
                        go_roundw
                        case rel => exact ⟨p + 1, by omega, by go_num, Lib.hid ⟨X8.out.1.mono HXs.out.2.2.2 (by omega) (by omega), X8.out.2.1, X8.out.2.2⟩⟩
                        case measure => simp [intOf]; omega
                      · as_aux_lemma =>
                        rw [f3] at HG
                        have hc1 : ¬ c1 = 1 := f2
                        have hlk : Hid (∀ W, MapR W rd3 mb nn (fMap R i) → (Instr.lookup 63 (.map (some mb)) (.int .i64 key) true).run Try.prog W = .ok (.tuple #[.agg #[.int .i64 c1, .int .i64 c2, .int .i64 c3], .bool true]) W) := Lib.hid (fun W hW => by
                          have h1 := hW.look_ok und63 plain65 hwk.out
                          rw [f1] at h1
                          exact h1)
                        clear f1 f2 f3
                        go_upto_region 39 with (go_at_call 29; refine HG.out.mono ?_; rintro e w6 ⟨rfl, g1, g2⟩; have X6 := Lib.hid (And.intro g1 (And.intro (H.out.2.2.1.fr g2 (fun hn => hn HXs.out.2.2.1)) (Fr.outX H.out.2.2.2 g2 HXs.out.2.1))); clear g1 g2)
                        have hl6 := hlk.out w6 X6.out.2.1
                        have X7 : Hid (HSt X2 (w6.alloc (.cells #[.int .i64 c1, .int .i64 c2, .int .i64 c3] 65)) t B M (upsR R i) (240 + 2 * p) (600000 + 100000 * p + 300 * q + (240 + 2 * p)) ∧ MapR (w6.alloc (.cells #[.int .i64 c1, .int .i64 c2, .int .i64 c3] 65)) rd3 mb nn (fMap R i) ∧ Fr F0 w (w6.alloc (.cells #[.int .i64 c1, .int .i64 c2, .int .i64 c3] 65))) := Lib.hid ⟨X6.out.1.fr0 ((Fr.refl _ _).alloc _), X6.out.2.1.fr ((Fr.refl F0 _).alloc _) id, X6.out.2.2.alloc _⟩
                        have HF := Lib.hid (X7.out.1.flush (by omega) (by omega) HBM.out.1 HBM.out.2)
                        have Bx := Blk.new w6 65 [.int .i64 c1, .int .i64 c2, .int .i64 c3]
                        have z0 := Bx.cell (i := 0) rfl
                        have z2 := Bx.cell (i := 2) rfl
                        clear Bx HG
                        go_wp2_with (first | (go_at_call 30; refine HF.out.mono ?_; rintro e w8 ⟨rfl, g1, g2, g3⟩; have X8 := Lib.hid (And.intro g1 (And.intro (X7.out.2.1.fr g2 (fun hn => hn HXs.out.2.2.1)) (Fr.outX X7.out.2.2 g2 HXs.out.2.1))); have HB8 := Lib.hid g3; clear g1 g2 g3) | (go_at_call 31; refine HB8.out.mono ?_; rintro e w' ⟨rfl, rfl⟩))
                        go_roundw
                        case rel => exact ⟨p + 1, by omega, by go_num, Lib.hid ⟨X8.out.1.mono HXs.out.2.2.2 (by omega) (by omega), X8.out.2.1, X8.out.2.2⟩⟩
                        case measure => simp [intOf]; omega
                      · as_aux_lemma =>
                        rw [f3] at HG
                        have hc1 : c1 = 1 := f2
                        subst hc1
                        have hlk : Hid (∀ W, MapR W rd3 mb nn (fMap R i) → (Instr.lookup 63 (.map (some mb)) (.int .i64 key) true).run Try.prog W = .ok (.tuple #[.agg #[.int .i64 1, .int .i64 c2, .int .i64 c3], .bool true]) W) := Lib.hid (fun W hW => by
                          have h1 := hW.look_ok und63 plain65 hwk.out
                          rw [f1] at h1
                          exact h1)
                        clear f1 f3
                        go_upto_region 39 with (go_at_call 29; refine HG.out.mono ?_; rintro e w6 ⟨rfl, g1, g2⟩; have X6 := Lib.hid (And.intro g1 (And.intro (H.out.2.2.1.fr g2 (fun hn => hn HXs.out.2.2.1)) (Fr.outX H.out.2.2.2 g2 HXs.out.2.1))); clear g1 g2)
                        have hl6 := hlk.out w6 X6.out.2.1
                        have X7 : Hid (HSt X2 (w6.alloc (.cells #[.int .i64 1, .int .i64 c2, .int .i64 c3] 65)) t B M (upsR R i) (240 + 2 * p) (600000 + 100000 * p + 300 * q + (240 + 2 * p)) ∧ MapR (w6.alloc (.cells #[.int .i64 1, .int .i64 c2, .int .i64 c3] 65)) rd3 mb nn (fMap R i) ∧ Fr F0 w (w6.alloc (.cells #[.int .i64 1, .int .i64 c2, .int .i64 c3] 65))) := Lib.hid ⟨X6.out.1.fr0 ((Fr.refl _ _).alloc _), X6.out.2.1.fr ((Fr.refl F0 _).alloc _) id, X6.out.2.2.alloc _⟩
                        have HF := Lib.hid (X7.out.1.flush (by omega) (by omega) HBM.out.1 HBM.out.2)
                        have Bx := Blk.new w6 65 [.int .i64 1, .int .i64 c2, .int .i64 c3]
                        have z0 := Bx.cell (i := 0) rfl
                        have z2 := Bx.cell (i := 2) rfl
                        clear Bx HG
                        go_wp2_with (first | (go_at_call 30; refine HF.out.mono ?_; rintro e w8 ⟨rfl, g1, g2, g3⟩; have X8 := Lib.hid (And.intro g1 (And.intro (X7.out.2.1.fr g2 (fun hn => hn HXs.out.2.2.1)) (Fr.outX X7.out.2.2 g2 HXs.out.2.1))); have HB8 := Lib.hid g3; clear g1 g2 g3) | (go_at_call 31; refine HB8.out.mono ?_; rintro e w' ⟨rfl, rfl⟩))
                        go_roundw
                        case rel => exact ⟨p + 1, by omega, by go_num, Lib.hid ⟨X8.out.1.mono HXs.out.2.2.2 (by omega) (by omega), X8.out.2.1, X8.out.2.2⟩⟩
                        case measure => simp [intOf]; omega
                · obtain rfl : p = 2 := by omega
                  go_wp2_with fail
                  go_ret
                  exact ⟨rfl, H.out.2.2⟩
            · rintro k ⟨c1, c2, c3⟩ w5 cnt5 hwf hto hf hrg5 hlt5 F5 hen
              as_aux_lemma =>
              have hcn := HL.out.cnt hf
              have hq2 : cntD L (fun z => todo z && decide (z ≠ k)) = q + (if c1 = 1 then 1 else 0) := by
                rw [cntD_step hto HL.out.1, ← H.out.1, hcn]
                by_cases e : c1 = 1 <;> simp [e]
              have hq3 := Nat.le_trans (cntD_le L (fun z => todo z && decide (z ≠ k))) (HS0.out.len HL.out)
              rw [hq2] at hq3
              have Hq2 := Lib.hid hq2
              have H5 := Lib.hid (And.intro hrg5 (H.out.2.2.trans F5 (fun z hz e => by have := hrI2.out; have e : z = rI := e; omega)))
              have hme : w5.rangeLeft mb rI < wr.rangeLeft mb rI := by rw [hrg5.left_eq, H.out.2.1.left_eq]; exact hlt5
              have Hme := Lib.hid hme
              have Bx := Blk.new w5 65 [.int .i64 c1, .int .i64 c2, .int .i64 c3]
              have x0 := Bx.cell (i := 0) rfl
              have H6 : Hid (RgR (w5.alloc (.cells #[.int .i64 c1, .int .i64 c2, .int .i64 c3] 65)) rd3 mb rI nn (fMap R i) (fun z => todo z && decide (z ≠ k)) cnt5 ∧ Fr F0 w3 (w5.alloc (.cells #[.int .i64 c1, .int .i64 c2, .int .i64 c3] 65))) := Lib.hid ⟨H5.out.1.fr ((Fr.refl F0 w5).alloc _) id id, H5.out.2.alloc _⟩
              have Hme6 : Hid ((w5.alloc (.cells #[.int .i64 c1, .int .i64 c2, .int .i64 c3] 65)).rangeLeft mb rI < wr.rangeLeft mb rI) := Lib.hid (by rw [H6.out.1.left_eq, ← hrg5.left_eq]; exact hme)
              clear hq2 hrg5 hlt5 F5 hme Bx hwf hto hf hcn
              by_cases e1 : c1 = 1
              · subst e1
                rw [if_pos rfl] at Hq2 hq3
                go_wp2_with fail
                go_roundw
                case rel => exact ⟨_, _, q + 1, by omega, by go_num, Lib.hid ⟨Hq2.out.symm, H6.out.1, H6.out.2⟩⟩
                case measure => exact Hme6.out
              · rw [if_neg e1] at Hq2 hq3
                go_wp2_with fail
                go_roundw
                case rel => exact ⟨_, _, q, by omega, rfl, Lib.hid ⟨Hq2.out.symm, H6.out.1, H6.out.2⟩⟩
                case measure => exact Hme6.out
end Go.Proofs.Ytkmnnfflibamnaa
