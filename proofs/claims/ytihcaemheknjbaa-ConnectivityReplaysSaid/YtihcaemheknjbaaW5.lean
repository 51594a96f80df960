/- The law Replays: the walk. -/
import Derived.Test.YtihcaemheknjbaaF37
import Derived.Test.YtihcaemheknjbaaF38
import Derived.Test.YtihcaemheknjbaaU1
import Derived.Test.YtihcaemheknjbaaU3
import Derived.Deep.DeepCutAuto
import Derived.BigQuiet
namespace Go.Proofs.Ytihcaemheknjbaa
open Go.RowKit
attribute [local go_sem ↓] Go.wp_at_zero Go.wp_at_succ
/-- A forest of this round: all its blocks are new. -/
def Rp (w5 w : World) (f n k : Nat) (p : List Nat) : Prop := ∃ (N : Nat → Prop) (ps : List (List Nat)), Fh w w5.heap.size N f n ps p ∧ (∀ j, N j → w5.heap.size ≤ j) ∧ ps.length ≤ k ∧ Fr F0 w5 w
section
variable {w5 w w' : World} {f n k : Nat} {p : List Nat}
theorem Rp.fr (h : Rp w5 w f n k p) : Fr F0 w5 w := by obtain ⟨N, ps, _, _, _, h⟩ := h; exact h
theorem Rp.fr0 (h : Rp w5 w f n k p) (F : Fr F0 w w') : Rp w5 w' f n k p := by
  obtain ⟨N, ps, h1, h2, h3, h4⟩ := h
  exact ⟨N, ps, h1.fr0 F, h2, h3, h4.trans0 F⟩
theorem Rp.more (h : Rp w5 w f n k p) : Rp w5 w f n (k + 1) p := by
  obtain ⟨N, ps, h1, h2, h3, h4⟩ := h
  exact ⟨N, ps, h1, h2, by omega, h4⟩
theorem Rp.union (h : Rp w5 w f n k p) (hn : n ≤ 1000) (hk : k ≤ 1000) {v u : Nat} (hv : v < n) (hu : u < n) :
    Calls Try.prog 23 #[.pointer (some ⟨f, 0, none⟩), .int .i64 v, .int .i64 u] w fun e w' => ∃ b, e = .returned (.tuple #[.bool b, .int .i64 0]) ∧ Rp w5 w' f n (k + 1) (joinP p v u) := by
  obtain ⟨N, ps, h1, h2, h3, h4⟩ := h
  refine (Union_h h1 hn (by omega) hv hu).mono ?_
  rintro e w' ⟨he, g1, g2⟩
  refine ⟨_, he, ext N w w', ps ++ [p], g1, fun j hj => ?_, by rw [List.length_append]; simp; omega, h4.trans g2 (fun j hj hN => by have := h2 j hN; omega)⟩
  rcases hj with hj | hj
  · exact h2 j hj
  · have := h4.size; omega
theorem Rp.count (h : Rp w5 w f n k p) : Calls Try.prog 24 #[.pointer (some ⟨f, 0, none⟩)] w fun e w' => e = .returned (.int .i64 (cntP p : Int)) ∧ w = w' := by
  obtain ⟨N, ps, h1, h2, h3, h4⟩ := h
  exact Count_h h1
theorem Rp.find (h : Rp w5 w f n k p) (hn : n ≤ 1000) {v : Nat} (hv : v < n) : Calls Try.prog 25 #[.pointer (some ⟨f, 0, none⟩), .int .i64 v] w fun e w' => e = .returned (.tuple #[.int .i64 ((p.getD v 0 : Nat) : Int), .int .i64 0]) ∧ Fr F0 w w' := by
  obtain ⟨N, ps, h1, h2, h3, h4⟩ := h
  have := Find_h (v : Int) h1 hn
  rw [fndS_in hv] at this
  exact this
end
set_option maxRecDepth 100000 in
set_option maxHeartbeats 100000000 in
theorem law5_go {w : World} {nn : Nat} {a : Option Addr} {N c : Nat} {l : List Ev} {out : List Iv} (h : ArgE w a N c l) (hn : 1 ≤ nn ∧ nn ≤ 40) (hN : N ≤ 60) (ho : readS (nn : Int) l = some out) :
    Calls Try.prog 5 #[.int .i64 (nn : Int), .slice a N c] w fun e w' => e = .returned (.bool true) ∧ Fr F0 w w' := by
  have HA := Lib.hid h
  have HO := Lib.hid ho
  have hml := h.len
  have hcap := h.cap
  have hmax := h.max
  have HW := Lib.hid awake_any
  have HL := Lib.hid (fun w => large_any (nn : Int) (N : Int) w)
  rw [show lg (nn : Int) (N : Int) = false by unfold lg; simp; omega] at HL
  have H18 : Hid (∀ w1, Fr F0 w w1 → Calls Try.prog 18 #[.int .i64 (nn : Int), .slice a N c] w1 fun e w' => e = .returned (.bool true) ∧ Fr F0 w1 w') := Lib.hid (fun w1 F => by
    have := Valid_any (n := (nn : Int)) (h.fr0 F)
    rw [ho] at this; exact this)
  have H16 : Hid (∀ w1, Fr F0 w w1 → Calls Try.prog 16 #[.int .i64 (nn : Int), .slice a N c] w1 fun e w' => ∃ a c, e = .returned (.tuple #[.slice a out.length c, .int .i64 0]) ∧ OwnZ w' w1.heap.size 41 4 a out.length c (ivs out) ∧ Fr F0 w1 w') := Lib.hid (fun w1 F => by
    have := Intervals_any (n := (nn : Int)) (h.fr0 F)
    rw [ho] at this; exact this)
  have H11 : Hid (∀ w1, Fr F0 w w1 → Calls Try.prog 11 #[.int .i64 (nn : Int), .slice a N c] w1 fun e w' => ∃ (aA : Option Addr) (cA : Nat) (aC : Option Addr) (cC : Nat), e = .returned (.tuple #[.slice aA (refA nn l N).length cA, .slice aC N cC, .int .i64 0]) ∧ Rd w' aA (refA nn l N).length (bls (refA nn l N)) ∧ Rd w' aC N (nv (refC nn l N)) ∧ Fr F0 w1 w') := Lib.hid (fun w1 F => by
    have := Solve_ref (n := (nn : Int)) (h.fr0 F)
    rw [ho] at this; exact this)
  have H17 : Hid (∀ w1, Fr F0 w w1 → Calls Try.prog 17 #[.int .i64 (nn : Int), .slice a N c] w1 fun e w' => e = .returned (.tuple #[.int .i64 (unS N out : Int), .int .i64 0]) ∧ Fr F0 w1 w') := Lib.hid (fun w1 F => by
    have := Unions_any (n := (nn : Int)) (h.fr0 F)
    rw [ho] at this; exact this)
  have hxl : out.length ≤ N := by have := (readS_len ho).1; omega
  have hal : (refA nn l N).length ≤ N := refA_len nn l N
  have hbd : ∀ x ∈ out, x.2.2.1 < x.2.2.2 ∧ x.2.2.2 ≤ N := fun x hx => by have := readS_bd ho x hx; omega
  have hvt : ∀ x ∈ out, x.1 < nn ∧ x.2.1 < nn := fun x hx => by have := readS_bd ho x hx; omega
  have hok : ∀ (i : Nat) (x : Ev), l[i]? = some x → okE nn x = true := (readS_ok ho).1
  obtain ⟨lx, hlx⟩ : ∃ z, z = out.length := ⟨_, rfl⟩
  obtain ⟨la, hla⟩ : ∃ z, z = (refA nn l N).length := ⟨_, rfl⟩
  obtain ⟨un, hun⟩ : ∃ z, z = unS N out := ⟨_, rfl⟩
  rw [← hlx] at H16 hxl
  rw [← hla] at H11 hal
  rw [← hun] at H17
  have Hlx := Lib.hid hlx
  have Hla := Lib.hid hla
  have Hun := Lib.hid hun
  have Hbd := Lib.hid (And.intro hbd (And.intro hvt hok))
  have HM := Lib.hid (fun w => made_ok nn w hn.1 (by omega))
  clear h ho hlx hla hun hbd hvt hok
  go_enter Try.func5, Try.ntmps5
  go_wp2_with fail
  refine (HW.out w).mono ?_; rintro e w1 ⟨rfl, F1⟩; have HF1 := Lib.hid F1; clear F1 HW
  go_wp2_with fail
  refine (HL.out w1).mono ?_; rintro e w2 ⟨rfl, rfl⟩
  go_wp2_with fail
  refine (H18.out w1 HF1.out).mono ?_; rintro e w2 ⟨rfl, F2⟩; have HF2 := Lib.hid (HF1.out.trans0 F2); clear F2 HF1 HL H18
  go_wp2_with fail
  refine (H16.out w2 HF2.out).mono ?_; rintro e w3 ⟨aI, cI, rfl, oI, F3⟩; have HF3 := Lib.hid (HF2.out.trans0 F3); have RI3 := Lib.hid (OwnZ.rd oI); clear F3 HF2 oI H16
  go_wp2_with fail
  refine (H11.out w3 HF3.out).mono ?_; rintro e w4 ⟨aA, cA, aC, cC, rfl, rA, rC, F4⟩; have HF4 := Lib.hid (HF3.out.trans0 F4); have RI4 := Lib.hid (RI3.out.fr0 F4); have R4 := Lib.hid (And.intro rA rC); clear F4 HF3 RI3 rA rC H11
  go_wp2_with fail
  refine (H17.out w4 HF4.out).mono ?_; rintro e w5 ⟨rfl, F5⟩; have HF5 := Lib.hid (HF4.out.trans0 F5); have RI5 := Lib.hid (RI4.out.fr0 F5); have R5 := Lib.hid (And.intro (R4.out.1.fr F5 (fun _ _ h => h)) (R4.out.2.fr F5 (fun _ _ h => h))); clear F5 HF4 RI4 R4 H17
  go_wp2_with fail
  go_loop [12, 13] (fun s12 s13 => ∃ h P : Nat, s12 = .int .i64 (h : Int) ∧ s13 = .int .i64 (P : Int) ∧ h ≤ 6 ∧ P ≤ 64 ∧ 1 ≤ P ∧ Hid (P = 2 ^ h)) (fun s12 _ => 7 - (intOf s12).toNat)
  case atStart => exact ⟨0, 1, rfl, rfl, by omega, by omega, by omega, Lib.hid rfl⟩
  case round =>
    obtain ⟨h, P, rfl, rfl, hh, hP, hP1, HP⟩ := hrel
    by_cases hlt : P ≤ N
    · have hlt' : (P : Int) ≤ (N : Int) := by omega
      have hh5 : h ≤ 5 := by
        by_cases c : h ≤ 5
        · exact c
        · have e1 := HP.out
          rw [show h = 6 by omega] at e1
          omega
      have hP32 : P ≤ 32 := by
        rw [HP.out]; exact Nat.pow_le_pow_right (n := 2) (by omega) hh5
      have hw2 : IntKind.i64.wrap (2 * (P : Int)) = 2 * (P : Int) := wI (by omega) (by omega)
      go_wp2_with fail
      go_round
      case rel => exact ⟨h + 1, 2 * P, by go_num, by go_num, by omega, by omega, by omega, Lib.hid (by rw [HP.out, Nat.pow_succ]; omega)⟩
      case measure => simp [intOf]; omega
    · have hlt' : ¬ (P : Int) ≤ (N : Int) := by omega
      have hub : lx ≤ un ∧ un ≤ 2 * h * lx := by
        rw [Hlx.out, Hun.out]
        by_cases c : N = 0
        · have e0 : out = [] := List.length_eq_zero_iff.1 (by have := Hlx.out; omega)
          rw [e0]; simp [unS]
        · refine unS_bounds (by have := HP.out; omega) ?_ out Hbd.out.1
          by_cases c2 : h = 0
          · subst c2; have := HP.out; omega
          · omega
      obtain ⟨q, hq⟩ : ∃ q, q = 2 * h * lx := ⟨_, rfl⟩
      rw [← hq] at hub
      have hq2 : q ≤ 12 * 60 := by rw [hq]; exact Nat.mul_le_mul (by omega) (by omega)
      have hqI : 2 * (h : Int) * (lx : Int) = (q : Int) := by rw [hq]; simp
      have hw3 : IntKind.i64.wrap (2 * (h : Int)) = 2 * (h : Int) := wI (by omega) (by omega)
      have hw4 : IntKind.i64.wrap (2 * (h : Int) * (lx : Int)) = (q : Int) := by rw [hqI]; exact wI (by omega) (by omega)
      have hu1 : ¬ (un : Int) < (lx : Int) := by omega
      have hu2 : ¬ (q : Int) < (un : Int) := by omega
      clear hq
      go_wp2_with fail
      obtain ⟨wq, hwq⟩ : ∃ z, z = w5 := ⟨_, rfl⟩
      subst hwq
      go_loopw [14, 121] (fun s14 s121 wr => ∃ i t : Nat, i ≤ N ∧ s121 = .int .i64 (i : Int) ∧ s14 = .int .i64 (t : Int) ∧ t ≤ 60 ∧ Hid (t = (refA nn l i).length ∧ Fr F0 wq wr)) (fun _ s121 _ => N - (intOf s121).toNat)
      case atStart => exact ⟨0, 0, Nat.zero_le _, rfl, rfl, by omega, Lib.hid ⟨rfl, Fr.refl _ _⟩⟩
      case round =>
        obtain ⟨i, t, hi, rfl, rfl, ht, H⟩ := hrel
        by_cases hlt2 : i < N
        · have hlt2' : (i : Int) < (N : Int) := by omega
          obtain ⟨x, hx⟩ : ∃ x, l[i]? = some x := ⟨_, List.getElem?_eq_getElem (by omega)⟩
          obtain ⟨x1, x2, x3⟩ := x
          have hxo := Hbd.out.2.2 i _ hx
          have hxr : 0 ≤ x2 ∧ x2 < (nn : Int) ∧ 0 ≤ x3 ∧ x3 < (nn : Int) := by
            unfold okE at hxo; simp at hxo; omega
          obtain ⟨xa, rfl⟩ := Int.eq_ofNat_of_zero_le hxr.1
          obtain ⟨xb, rfl⟩ := Int.eq_ofNat_of_zero_le hxr.2.2.1
          have hab : xa < nn ∧ xb < nn := by omega
          obtain ⟨b, o, hb, e0, e1, e2⟩ := (HA.out.fr0 (HF5.out.trans0 H.out.2)).cells i _ hx
          subst hb
          dsimp only at e0 e1 e2
          have HX := Lib.hid hx
          clear hxo hxr hx
          go_upto_region 19 with fail
          have FE := (Fr.refl F0 wr).alloc (.cells #[.int .i64 x1, .int .i64 (xa : Int), .int .i64 (xb : Int)] 45)
          have PE := Blk.new wr 45 [.int .i64 x1, .int .i64 (xa : Int), .int .i64 (xb : Int)]
          obtain ⟨ge, hg⟩ : ∃ b, b = wr.heap.size := ⟨_, rfl⟩
          obtain ⟨we, hwe⟩ : ∃ W, W = wr.alloc (.cells #[.int .i64 x1, .int .i64 (xa : Int), .int .i64 (xb : Int)] 45) := ⟨_, rfl⟩
          change Blk (wr.alloc (.cells #[.int .i64 x1, .int .i64 (xa : Int), .int .i64 (xb : Int)] 45)) _ _ _ at PE
          rw [← hwe] at FE PE ⊢
          rw [← hg] at PE ⊢
          have HE := Lib.hid (And.intro PE (H.out.2.trans0 FE))
          clear hwe hg FE PE e0 e1 e2
          go_wp2_with fail
          refine (HM.out we).mono ?_
          rintro e w6 ⟨f, rfl, hFh, F6⟩
          have HR6 : Hid (Rp we w6 f nn 0 (List.range nn)) := Lib.hid ⟨_, [], hFh, fun _ h => h, Nat.le_refl _, F6⟩
          clear hFh F6
          go_wp2_with fail
          go_loopw [139] (fun s139 wr2 => ∃ j : Nat, j ≤ lx ∧ s139 = .int .i64 (j : Int) ∧ Hid (Rp we wr2 f nn j (((out.take j).filter (covB i)).foldl joinE (List.range nn)))) (fun s139 _ => lx - (intOf s139).toNat)
          case atStart => exact ⟨0, Nat.zero_le _, rfl, HR6⟩
          case round =>
            obtain ⟨j, hj, rfl, HRp⟩ := hrel
            by_cases hlt3 : j < lx
            · have hlt3' : (j : Int) < (lx : Int) := by omega
              obtain ⟨y, hy⟩ : ∃ y, out[j]? = some y := ⟨_, List.getElem?_eq_getElem (by rw [← Hlx.out]; exact hlt3)⟩
              obtain ⟨ya, yb, yf, yt⟩ := y
              have hyv := Hbd.out.2.1 _ (List.mem_of_getElem? hy)
              dsimp only at hyv
              obtain ⟨bI, oI, rfl, cc⟩ := (RI5.out.fr0 ((HE.out.2).trans0 HRp.out.fr)).cells (by omega)
              have g0 := cc _ _ (ivs_get hy 0 (by omega))
              have g1 := cc _ _ (ivs_get hy 1 (by omega))
              have g2 := cc _ _ (ivs_get hy 2 (by omega))
              have g3 := cc _ _ (ivs_get hy 3 (by omega))
              rw [← Nat.add_assoc] at g0 g1 g2 g3
              replace g0 : wr.cell? ⟨bI, oI + j * 4, none⟩ = some (.int .i64 (ya : Int)) := g0
              replace g1 : wr.cell? ⟨bI, oI + j * 4 + 1, none⟩ = some (.int .i64 (yb : Int)) := g1
              replace g2 : wr.cell? ⟨bI, oI + j * 4 + 2, none⟩ = some (.int .i64 (yf : Int)) := g2
              replace g3 : wr.cell? ⟨bI, oI + j * 4 + 3, none⟩ = some (.int .i64 (yt : Int)) := g3
              have hst : (out.take (j + 1)).filter (covB i) = (out.take j).filter (covB i) ++ (if covB i (ya, yb, yf, yt) then [(ya, yb, yf, yt)] else []) := by
                rw [take_snoc hy, List.filter_append, List.filter_cons, List.filter_nil]
              have HST := Lib.hid hst
              clear cc hst hy
              go_upto_region 25 with fail
              have FI := (Fr.refl F0 wr).alloc (.cells #[.int .i64 (ya : Int), .int .i64 (yb : Int), .int .i64 (yf : Int), .int .i64 (yt : Int)] 41)
              have PI := Blk.new wr 41 [.int .i64 (ya : Int), .int .i64 (yb : Int), .int .i64 (yf : Int), .int .i64 (yt : Int)]
              obtain ⟨gi, hg⟩ : ∃ b, b = wr.heap.size := ⟨_, rfl⟩
              obtain ⟨wi, hwi⟩ : ∃ W, W = wr.alloc (.cells #[.int .i64 (ya : Int), .int .i64 (yb : Int), .int .i64 (yf : Int), .int .i64 (yt : Int)] 41) := ⟨_, rfl⟩
              change Blk (wr.alloc (.cells #[.int .i64 (ya : Int), .int .i64 (yb : Int), .int .i64 (yf : Int), .int .i64 (yt : Int)] 41)) _ _ _ at PI
              rw [← hwi] at FI PI ⊢
              rw [← hg] at PI ⊢
              have z0 := PI.cell (i := 0) rfl
              have z1 := PI.cell (i := 1) rfl
              have z2 := PI.cell (i := 2) rfl
              have z3 := PI.cell (i := 3) rfl
              have HRi := Lib.hid (HRp.out.fr0 FI)
              clear hwi hg FI PI g0 g1 g2 g3
              by_cases c1 : yf ≤ i ∧ i < yt
              · have c1' : (yf : Int) ≤ (i : Int) := by omega
                have c2' : (i : Int) < (yt : Int) := by omega
                have hcv : covB i (ya, yb, yf, yt) = true := by unfold covB; simp; omega
                have HU := Lib.hid (HRi.out.union (by omega) (by omega) hyv.1 hyv.2)
                have HCV := Lib.hid hcv
                clear hcv c1
                go_wp2_with fail
                refine HU.out.mono ?_
                rintro e w7 ⟨bb, rfl, hR7⟩
                have H7 : Hid (Rp we w7 f nn (j + 1) (((out.take (j + 1)).filter (covB i)).foldl joinE (List.range nn))) := Lib.hid (by rw [HST.out, HCV.out, if_pos rfl, List.foldl_append]; exact hR7)
                clear hR7 HU
                go_wp2_with fail
                go_roundw
                case rel => exact ⟨j + 1, by omega, by go_num, H7⟩
                case measure => simp [intOf]; omega
              · have hcv : covB i (ya, yb, yf, yt) = false := by unfold covB; simp; omega
                have H7 : Hid (Rp we wi f nn (j + 1) (((out.take (j + 1)).filter (covB i)).foldl joinE (List.range nn))) := Lib.hid (by rw [HST.out, hcv, if_neg (by decide), List.append_nil]; exact HRi.out.more)
                clear hcv HST
                by_cases c2 : yf ≤ i
                · have c1' : (yf : Int) ≤ (i : Int) := by omega
                  have c2' : ¬ (i : Int) < (yt : Int) := by omega
                  clear c1
                  go_wp2_with fail
                  go_roundw
                  case rel => exact ⟨j + 1, by omega, by go_num, H7⟩
                  case measure => simp [intOf]; omega
                · have c1' : ¬ (yf : Int) ≤ (i : Int) := by omega
                  clear c1
                  go_wp2_with fail
                  go_roundw
                  case rel => exact ⟨j + 1, by omega, by go_num, H7⟩
                  case measure => simp [intOf]; omega
            · obtain rfl : lx = j := by omega
              have HF : Hid (Rp we wr f nn lx (foldP nn (edS nn l (i + 1)))) := Lib.hid (by
                have h1 := HRp.out
                have h2 := cov_fold HO.out (i := i) (by omega)
                rw [List.take_of_length_le (by rw [Hlx.out]; exact Nat.le_refl _)] at h1
                have h3 : ((out.filter (covB i)).foldl joinE (List.range nn)) = foldP nn (edS nn l (i + 1)) := h2
                rw [h3] at h1; exact h1)
              obtain ⟨q2, hq2'⟩ : ∃ z, z = foldP nn (edS nn l (i + 1)) := ⟨_, rfl⟩
              rw [← hq2'] at HF
              have hCi : (refC nn l N)[i]? = some (cntP q2) := by
                unfold refC; rw [List.getElem?_map, range_get hlt2, hq2']; rfl
              obtain ⟨bC, oC, rfl, cc⟩ := (R5.out.2.fr (HE.out.2.trans0 HF.out.fr) (fun _ _ h => h)).cells (by omega)
              have dC := cc i _ (nv_get hCi)
              clear cc hCi HRp
              obtain ⟨wd, hwd⟩ : ∃ wz, wz = wr.drew := ⟨_, rfl⟩
              have Fd : Fr F0 wr wd := by rw [hwd]; exact (Fr.refl F0 _).drew
              have HFd := Lib.hid (HF.out.fr0 Fd)
              have HCt := Lib.hid HFd.out.count
              have dC2 := Fd.cell dC id
              obtain ⟨cn, hcn⟩ : ∃ z, z = cntP q2 := ⟨_, rfl⟩
              rw [← hcn] at HCt dC dC2
              clear Fd hcn
              go_upto_region 30 with fail
              refine wp_region_held_drew (S := (fun w' : World => w'.cell? ⟨bC, oC + i, none⟩ = some (.int .i64 (cn : Int)))) (by kernel_rfl) (dC) (fun hHeld => ?_)
              change wpAnyH _ _ _ _ _ _ _ _ wr.drew
              rw [← hwd]
              clear hwd
              have hHeld : (fun w' : World => w'.cell? ⟨bC, oC + i, none⟩ = some (.int .i64 (cn : Int))) wd := dC2
              refine wpAnyH_take (i := 0) (v := ?_) (by simp only [List.getElem?_toArray, List.getElem?_cons_succ, List.getElem?_cons_zero] <;> rfl) (by kernel_rfl) (by kernel_rfl) (by kernel_rfl) (by exact fun _ _ _ h => h) (Or.inl ⟨by rfl, ?_⟩) (by assumption) ?_
              rotate_left
              · intro w hSw
                try dsimp only at hSw
                go_simp <;> with_reducible rfl
              (try simp only [Act.put, List.setIfInBounds_toArray, List.set_cons_zero, List.set_cons_succ])
              refine wpAnyH_take (i := 2) (v := ?_) (by simp only [List.getElem?_toArray, List.getElem?_cons_succ, List.getElem?_cons_zero] <;> rfl) (by kernel_rfl) (by kernel_rfl) (by kernel_rfl) (by exact fun _ _ _ h => h) (Or.inl ⟨by rfl, ?_⟩) (by assumption) ?_
              rotate_left
              · intro w hSw
                try dsimp only at hSw
                go_simp <;> with_reducible rfl
              (try simp only [Act.put, List.setIfInBounds_toArray, List.set_cons_zero, List.set_cons_succ])
              refine wpAnyH_take (i := 3) (v := ?_) (by simp only [List.getElem?_toArray, List.getElem?_cons_succ, List.getElem?_cons_zero] <;> rfl) (by kernel_rfl) (by kernel_rfl) (by kernel_rfl) (by exact fun _ _ _ h => h) (Or.inl ⟨by rfl, ?_⟩) (by assumption) ?_
              rotate_left
              · intro w hSw
                try dsimp only at hSw
                go_simp <;> with_reducible rfl
              (try simp only [Act.put, List.setIfInBounds_toArray, List.set_cons_zero, List.set_cons_succ])
              refine wpAnyH_take (i := 4) (v := ?_) (by simp only [List.getElem?_toArray, List.getElem?_cons_succ, List.getElem?_cons_zero] <;> rfl) (by kernel_rfl) (by kernel_rfl) (by kernel_rfl) (by exact fun _ _ _ h => h) (Or.inl ⟨by rfl, ?_⟩) (by assumption) ?_
              rotate_left
              · intro w hSw
                try dsimp only at hSw
                go_simp <;> with_reducible rfl
              (try simp only [Act.put, List.setIfInBounds_toArray, List.set_cons_zero, List.set_cons_succ])
              refine wpAnyH_take (i := 5) (v := ?_) (by simp only [List.getElem?_toArray, List.getElem?_cons_succ, List.getElem?_cons_zero] <;> rfl) (by kernel_rfl) (by kernel_rfl) (by kernel_rfl) (by exact fun _ _ _ h => h) (Or.inl ⟨by rfl, ?_⟩) (by assumption) ?_
              rotate_left
              · intro w hSw
                try dsimp only at hSw
                go_simp <;> with_reducible rfl
              (try simp only [Act.put, List.setIfInBounds_toArray, List.set_cons_zero, List.set_cons_succ])
              refine wpAnyH_ready (rs := [1]) (by kernel_rfl) (by simp) ?_
              refine AllReadyH.cons (by simp only [List.getElem?_toArray, List.getElem?_cons_succ, List.getElem?_cons_zero] <;> rfl) (fun KK hKK => ?_) AllReadyH.nil
              go_simp
              refine HCt.out.mono ?_
              rintro e w' ⟨rfl, rfl⟩
              refine hKK.out _ _ (dC2) (fun hHeld => ?_)
              clear hKK KK
              (try simp only [Act.put, List.setIfInBounds_toArray, List.set_cons_zero, List.set_cons_succ])
              refine wpAnyH_take (i := 6) (v := ?_) (by simp only [List.getElem?_toArray, List.getElem?_cons_succ, List.getElem?_cons_zero] <;> rfl) (by kernel_rfl) (by kernel_rfl) (by kernel_rfl) (by exact fun _ _ _ h => h) (Or.inl ⟨by rfl, ?_⟩) (by assumption) ?_
              rotate_left
              · intro w hSw
                try dsimp only at hSw
                go_simp <;> with_reducible rfl
              (try simp only [Act.put, List.setIfInBounds_toArray, List.set_cons_zero, List.set_cons_succ])
              refine wpAnyH_done (by kernel_rfl) ?_ _
              clear dC dC2 HCt
              have b0 := (HE.out.1.fr HFd.out.fr id).cell (i := 0) rfl
              have b1 := (HE.out.1.fr HFd.out.fr id).cell (i := 1) rfl
              have b2 := (HE.out.1.fr HFd.out.fr id).cell (i := 2) rfl
              by_cases hk3 : x1 = 3
              · obtain ⟨ra, rb⟩ := refA_at (n := nn) hlt2 HX.out hk3
                subst hk3
                rw [← hq2', ← H.out.1] at ra
                rw [← H.out.1] at rb
                simp only [Int.toNat_natCast] at ra
                obtain ⟨pa, hpa⟩ : ∃ z, z = q2.getD xa 0 := ⟨_, rfl⟩
                obtain ⟨pb, hpb⟩ : ∃ z, z = q2.getD xb 0 := ⟨_, rfl⟩
                rw [← hpa, ← hpb] at ra
                have hta : t < la := by rw [Hla.out]; exact (List.getElem?_eq_some_iff.1 ra).1
                have hF1 := Lib.hid (HFd.out.find (by omega) hab.1)
                rw [← hpa] at hF1
                have RA := Lib.hid ra
                have RB := Lib.hid rb
                have HPB := Lib.hid hpb
                clear ra rb hpa hpb
                go_wp2_with fail
                refine hF1.out.mono ?_
                rintro e w7 ⟨rfl, F7⟩
                have HF7 := Lib.hid (HFd.out.fr0 F7)
                have b2' := F7.cell b2 id
                have hF2 := Lib.hid (HF7.out.find (by omega) hab.2)
                rw [← HPB.out] at hF2
                clear F7 hF1 b0 b1 b2 HFd
                go_wp2_with fail
                refine hF2.out.mono ?_
                rintro e w8 ⟨rfl, F8⟩
                have HF8 := Lib.hid (HF7.out.fr0 F8)
                obtain ⟨bA, oA, rfl, cc⟩ := (R5.out.1.fr (HE.out.2.trans0 HF8.out.fr) (fun _ _ h => h)).cells (by omega)
                have dA := cc t (.bool (pa == pb)) (by unfold bls; rw [List.getElem?_map, RA.out]; rfl)
                have hta' : ¬ (la : Int) ≤ (t : Int) := by omega
                clear cc F8 hF2 b2' HF7
                by_cases hpp : pa = pb
                all_goals
                  first
                    | (have q1 : (pa == pb) = true := by simp [hpp]
                       have q3 : ((pa : Int) == (pb : Int)) = true := by simp [hpp])
                    | (have q1 : (pa == pb) = false := by simp [hpp]
                       have q3 : ((pa : Int) == (pb : Int)) = false := by simp; omega)
                  rw [q1] at dA
                  go_wp2_with fail
                  go_roundw
                  case rel => exact ⟨i + 1, t + 1, by omega, by go_num, by go_num, by omega, Lib.hid ⟨RB.out.symm, HE.out.2.trans0 HF8.out.fr⟩⟩
                  case measure => simp [intOf]; omega
              · have rb := refA_skip (n := nn) HX.out hk3
                rw [← H.out.1] at rb
                have RB := Lib.hid rb
                clear rb
                go_wp2_with fail
                go_roundw
                case rel => exact ⟨i + 1, t, by omega, by go_num, rfl, ht, Lib.hid ⟨RB.out.symm, HE.out.2.trans0 HFd.out.fr⟩⟩
                case measure => simp [intOf]; omega
        · obtain rfl : N = i := by omega
          have htl : t = la := by rw [H.out.1, Hla.out]
          subst htl
          go_wp2_with fail
          go_ret
          exact ⟨rfl, HF5.out.trans0 H.out.2⟩
set_option maxRecDepth 100000 in
set_option maxHeartbeats 8000000 in
theorem law5 {w : World} {n : Int} {a : Option Addr} {N c : Nat} {l : List Ev} (h : ArgE w a N c l) :
    Calls Try.prog 5 #[.int .i64 n, .slice a N c] w fun e w' => e = .returned (.bool true) ∧ Fr F0 w w' := by
  have HW := Lib.hid awake_any
  have HL := Lib.hid (fun w => large_any n (N : Int) w)
  have HA := Lib.hid h
  have hml := h.len
  have hcap := h.cap
  have hmax := h.max
  cases hlg : lg n (N : Int) with
  | true =>
    rw [hlg] at HL
    clear hlg h
    go_enter Try.func5, Try.ntmps5
    go_wp2_with fail
    refine (HW.out w).mono ?_; rintro e w1 ⟨rfl, F1⟩; have HF1 := Lib.hid F1; clear F1
    go_wp2_with fail
    refine (HL.out w1).mono ?_; rintro e w2 ⟨rfl, rfl⟩
    go_wp2_with fail
    go_ret
    exact ⟨rfl, HF1.out⟩
  | false =>
    cases ho : readS n l with
    | none =>
      rw [hlg] at HL
      have H18 : Hid (∀ w1, Fr F0 w w1 → Calls Try.prog 18 #[.int .i64 n, .slice a N c] w1 fun e w' => e = .returned (.bool false) ∧ Fr F0 w1 w') := Lib.hid (fun w1 F => by
        have := Valid_any (n := n) (HA.out.fr0 F)
        rw [ho] at this; exact this)
      clear hlg ho h
      go_enter Try.func5, Try.ntmps5
      go_wp2_with fail
      refine (HW.out w).mono ?_; rintro e w1 ⟨rfl, F1⟩; have HF1 := Lib.hid F1; clear F1
      go_wp2_with fail
      refine (HL.out w1).mono ?_; rintro e w2 ⟨rfl, rfl⟩
      go_wp2_with fail
      refine (H18.out w1 HF1.out).mono ?_; rintro e w2 ⟨rfl, F2⟩; have HF2 := Lib.hid (HF1.out.trans0 F2); clear F2 HF1
      go_wp2_with fail
      go_ret
      exact ⟨rfl, HF2.out⟩
    | some out =>
      obtain ⟨_, hn1, hn2, hN⟩ := readS_ok ho
      have hl2 : ¬ ((40 < n ∧ n ≤ 1000) ∨ (60 < (N : Int) ∧ (N : Int) ≤ 2000) ∨ 3000 < (N : Int)) := fun hh => by have := (lg_iff n (N : Int)).2 hh; rw [hlg] at this; cases this
      obtain ⟨nn, rfl⟩ := Int.eq_ofNat_of_zero_le (show 0 ≤ n by omega)
      exact law5_go h (by omega) (by omega) ho
theorem walkReplays (n : Int) (a : Option Addr) (m c : Nat) (R : Nat → Nat → Int) (W : World) (h : ArgSt W a m c [.i64, .i64, .i64] R) : Calls Try.prog 5 #[.int .i64 n, .slice a m c] W fun e w' => e = .returned (.bool true) ∧ Fr F0 W w' := law5 (argE_of h)
end Go.Proofs.Ytihcaemheknjbaa
