/- FingertreePlays: the walk. -/
import Derived.Test.YtdihajeccjdhkaaA27
import Derived.Test.YtdihajeccjdhkaaComArg
import Derived.Test.YtdihajeccjdhkaaN6
namespace Go.Proofs.Ytdihajeccjdhkaa
open Go.RowKit
attribute [local go_sem ↓] Go.wp_at_zero Go.wp_at_succ
abbrev stepK : List IntKind := [.i64, .u8, .u8, .i64, .i64]
theorem step_cells {w : World} {a : Option Addr} {n c : Nat} {R : Nat → Nat → Int} (h : ArgSt w a n c stepK R) {i : Nat} (hi : i < n) :
    ∃ b o, a = some ⟨b, o, none⟩ ∧ ∃ (A B : Nat), A ≤ 255 ∧ B ≤ 255 ∧ w.cell? ⟨b, o + i * 5, none⟩ = some (.int .i64 (R i 0)) ∧ w.cell? ⟨b, o + i * 5 + 1, none⟩ = some (.int .u8 A) ∧ w.cell? ⟨b, o + i * 5 + 2, none⟩ = some (.int .u8 B) ∧
      w.cell? ⟨b, o + i * 5 + 3, none⟩ = some (.int .i64 (R i 3)) ∧ w.cell? ⟨b, o + i * 5 + 4, none⟩ = some (.int .i64 (R i 4)) := by
  obtain ⟨b, o, ha, hc⟩ := h.cells (by omega)
  obtain ⟨A, hA, hA'⟩ := u8_nat (hc i 1 .u8 hi rfl).2
  obtain ⟨B, hB, hB'⟩ := u8_nat (hc i 2 .u8 hi rfl).2
  refine ⟨b, o, ha, A, B, hA', hB', (hc i 0 .i64 hi rfl).1, ?_, ?_, (hc i 3 .i64 hi rfl).1, (hc i 4 .i64 hi rfl).1⟩
  · rw [← hA]; exact (hc i 1 .u8 hi rfl).1
  · rw [← hB]; exact (hc i 2 .u8 hi rfl).1
set_option maxRecDepth 100000 in
set_option maxHeartbeats 16000000 in
theorem Plays_main {l : Option Addr} {m cl : Nat} {xs : List Int} {st : Option Addr} {n2 c2 : Nat} {R : Nat → Nat → Int} {w : World} (rl : Rd w l m (ints xs)) (hcl : m ≤ cl) (hm : m ≤ 100) (hz : madeI xs = 0) (hs : ArgSt w st n2 c2 stepK R) (hn : n2 ≤ 40) :
    Calls Try.prog 7 #[.slice l m cl, .slice st n2 c2] w fun e w' => e = .returned (.bool true) ∧ Fr F0 w w' := by
  have xl : xs.length = m := by simpa using rl.len
  obtain ⟨sx, _⟩ := madeI_ok hz
  have Rl := Lib.hid rl
  have Sx := Lib.hid sx
  have Hs := Lib.hid hs
  have Hl := Lib.hid (And.intro xl (And.intro hcl (And.intro hm hn)))
  have hmade := Lib.hid (fun (W : World) (f : Fr F0 w W) => Made_any (rl.fr0 f) (c := cl))
  rw [hz] at hmade
  have d1 : decide ((100 : Int) < (m : Int)) = false := by simp; omega
  have d2 : decide ((40 : Int) < (n2 : Int)) = false := by simp; omega
  clear rl sx xl hcl hm hz hs hn
  go_enter Try.func7, Try.ntmps7
  go_wp2_with fail
  refine (awake_any _).mono ?_
  rintro e w1 ⟨rfl, F⟩
  have FW := Lib.hid F
  clear F
  go_wp2_with fail
  refine (hmade.out _ FW.out).mono ?_; rintro e w2 ⟨rfl, rfl⟩
  clear hmade d1 d2
  obtain ⟨bx, hbx⟩ : ∃ b, b = w1.heap.size := ⟨_, rfl⟩
  obtain ⟨W2, hW2⟩ : ∃ W, W = w1.alloc (.cells #[.slice none 0 0, .slice none 0 0] 56) := ⟨_, rfl⟩
  have X0 : XS W2 bx 300 [] none 0 none 0 0 := by
    rw [hW2, hbx]
    exact ⟨Blk.new w1 56 _, Own.nil _ _ _, Own.nil _ _ _, apart_none _, by simp, rfl⟩
  have F2 : Fr F0 w W2 := by rw [hW2]; exact FW.out.alloc _
  have Hmk := Lib.hid (Make_tk (Rl.out.fr0 F2) Hl.out.2.1 Sx.out (by have := Hl.out; omega))
  have HX0 := Lib.hid X0
  have Hbx := Lib.hid (show w.heap.size ≤ bx by rw [hbx]; exact FW.out.size)
  replace FW := Lib.hid F2
  go_wp2_with fail
  rw [← hW2, ← hbx]
  clear hW2 hbx X0 F2
  refine Hmk.out.mono ?_
  rintro e w3 ⟨bt, rfl, T1, F⟩
  replace HX0 := Lib.hid (HX0.out.fr0 F)
  replace FW := Lib.hid (FW.out.trans0 F)
  have hE : EOk (Nb bx none none) w3 300 (some ⟨bt, 0, none⟩, ⟨l, m, cl, xs⟩) := by
    refine ⟨T1.st HX0.out.noT, fun w' f => ?_, Hl.out.2.1, Sx.out, by have := Hl.out; simp only; omega⟩
    exact Rl.out.fr0 (FW.out.trans f (fun k hk h => by have := HX0.out.ge k h; have := Hbx.out; omega))
  have hadd := Lib.hid (add_ok HX0.out T1 hE (by omega) (by omega))
  clear F T1 hE Hmk
  go_wp2_with fail
  refine hadd.out.mono ?_
  rintro e w4 ⟨rfl, M1, hM1, t1, ct1, l1, cl1, k1, X1, G1, N1⟩
  have hk1 : k1 = 1 := by have h := X1.len; rw [hM1] at h; simpa using h.symm
  replace FW := Lib.hid (FW.out.trans G1 (fun k hk h => by have := HX0.out.ge k h; have := Hbx.out; omega))
  have HX1 := Lib.hid X1
  clear hadd HX0 X1 G1 N1 hM1
  subst hk1
  go_wp2_with fail
  go_loopw [45] (fun s45 wr => ∃ (j : Nat) (L : List Ent) (t : Option Addr) (ct : Nat) (l' : Option Addr) (cl' k : Nat), j ≤ n2 ∧ s45 = .int .i64 j ∧ Hid (XS wr bx (300 + j) L t ct l' cl' k) ∧ Hid (Fr F0 w wr) ∧ Hid (0 < k ∧ k ≤ 1 + 2 * j)) (fun s45 _ => n2 - (intOf s45).toNat)
  case atStart => exact ⟨0, _, _, _, _, _, _, by omega, rfl, HX1, FW, Lib.hid ⟨by omega, by omega⟩⟩
  case round =>
    clear HX1 FW
    obtain ⟨j, L, t, ct, l', cl', k, hj, rfl, HX, FW, HK⟩ := hrel
    have hn40 : n2 ≤ 40 := Hl.out.2.2.2
    by_cases hlt : j < n2
    · obtain ⟨b, o, rfl, A, B, hA, hB, q0, q1, q2, q3, q4⟩ := step_cells (Hs.out.fr0 FW.out) hlt
      have i0 : (0 : Int) ≤ (j : Int) := by omega
      have i1 : (j : Int) < (n2 : Int) := by omega
      generalize R j 0 = kd at *
      generalize R j 3 = I at *
      generalize R j 4 = X at *
      have A1 : Fr F0 wr (wr.alloc (.cells #[.int .i64 kd, .int .u8 A, .int .u8 B, .int .i64 I, .int .i64 X] 59)) := (Fr.refl _ _).alloc _
      have hdo := Lib.hid (do_any (HX.out.fr0 A1) (by omega) (by have := Hl.out; omega) (by have := HK.out; have := Hl.out; omega) HK.out.1 kd I X hA hB)
      have G := Lib.hid (FW.out.trans0 A1)
      have hge := Lib.hid HX.out.ge
      have hlen := Lib.hid HX.out.len
      clear A1 FW HX
      go_wp2_with fail
      refine hdo.out.mono ?_
      rintro e w5 ⟨rfl, M, hM, t', ct', l2, cl2, k2, X2, G2, N2⟩
      have F5 := Lib.hid (G.out.trans G2 (fun q hq h => by have := hge.out q h; have := Hbx.out; omega))
      have HK2 : Hid (0 < k2 ∧ k2 ≤ 1 + 2 * (j + 1)) := Lib.hid (by
        have h := X2.len
        rw [List.length_append, hlen.out] at h
        have := HK.out
        have hM' : M.length ≤ 2 := hM
        omega)
      have HX2 := Lib.hid X2
      clear X2 G2 N2 hM hdo G hge hlen
      go_wp2_with fail
      go_round
      case rel => exact ⟨j + 1, _, _, _, _, _, _, by omega, by go_num, HX2, F5, HK2⟩
      case measure => simp [intOf]; omega
    · obtain rfl : j = n2 := by omega
      have c0 : wr.cell? ⟨bx, 0, none⟩ = some (.slice t k ct) := HX.out.blk.cell rfl
      go_wp2_with fail
      have hk81 : k ≤ 81 := by have := HK.out; omega
      generalize wr = wA at *
      go_loopw [59] (fun s59 wr => ∃ (i : Nat), i ≤ k ∧ s59 = .int .i64 i ∧ Hid (Fr F0 wA wr)) (fun s59 _ => k - (intOf s59).toNat)
      case atStart => exact ⟨0, by omega, rfl, Lib.hid (Fr.refl _ _)⟩
      case round =>
        obtain ⟨i, hi, rfl, F⟩ := hrel
        by_cases hlt2 : i < k
        · obtain ⟨gt, rfl, _, _, tcell, _⟩ := HX.out.ot.at (by omega)
          obtain ⟨gl, rfl, _, _, lcell, _⟩ := HX.out.ol.at (by omega)
          obtain ⟨⟨pi, ri⟩, hei⟩ : ∃ e, L[i]? = some e := ⟨_, List.getElem?_eq_getElem (by rw [HX.out.len]; exact hlt2)⟩
          have ei := HX.out.all _ (List.mem_of_getElem? hei)
          obtain ⟨bi, hbi⟩ := ei.t.now.nn
          have hbi' : pi = some ⟨bi, 0, none⟩ := hbi
          subst hbi'
          obtain ⟨ai, ni, ci, xi⟩ := ri
          have c0' := F.out.cell c0 id
          have c1' : wr.cell? ⟨bx, 1, none⟩ = some (.slice (some ⟨gl, 0, none⟩) k cl') := F.out.cell (HX.out.blk.cell rfl) id
          have ti : wr.cell? ⟨gt, i, none⟩ = some (.pointer (some ⟨bi, 0, none⟩)) := F.out.cell (tcell i _ (by rw [List.getElem?_map, hei]; rfl)) id
          have li : wr.cell? ⟨gl, i, none⟩ = some (.slice ai ni ci) := F.out.cell (lcell i _ (by rw [List.getElem?_map, hei]; rfl)) id
          have hT : TK wA xi (some ⟨bi, 0, none⟩) := ei.t.now
          have hR : Rd wA ai ni (ints xi) := ei.r.now
          have hk9 : ni ≤ 300 + j := ei.k
          have his := Lib.hid (is_tk (hT.fr0 F.out) (show ni ≤ 100000 by have := Hl.out; omega) (hR.fr0 F.out) (c := ci))
          have i0 : (0 : Int) ≤ (i : Int) := by omega
          have i1 : (i : Int) < (k : Int) := by omega
          clear ei hei hT hR tcell lcell hbi hk9
          go_wp2_with fail
          refine his.out.mono ?_
          rintro e w6 ⟨rfl, F6⟩
          have F7 := Lib.hid (F.out.trans0 F6)
          clear F F6 his
          go_wp2_with fail
          go_round
          case rel => exact ⟨i + 1, by omega, by go_num, F7⟩
          case measure => simp [intOf]; omega
        · obtain rfl : i = k := by omega
          go_wp2_with fail
          go_ret
          exact ⟨rfl, FW.out.trans0 F.out⟩
set_option maxRecDepth 100000 in
theorem Plays_skip {l : Option Addr} {m cl : Nat} {xs : List Int} {st : Option Addr} {n2 c2 : Nat} {w : World} (rl : Rd w l m (ints xs)) (hcase : 100 < m ∨ 40 < n2 ∨ madeI xs ≠ 0) :
    Calls Try.prog 7 #[.slice l m cl, .slice st n2 c2] w fun e w' => e = .returned (.bool true) ∧ Fr F0 w w' := by
  have hmade := Lib.hid (fun (W : World) (f : Fr F0 w W) => Made_any (rl.fr0 f) (c := cl))
  generalize madeI xs = E at *
  have fin : ∀ W, Fr F0 w W → Calls Try.prog 9 #[] W fun e w' => e = .returned (.bool true) ∧ Fr F0 w w' := fun W f => (awake_any W).mono fun e w' ⟨h1, h2⟩ => ⟨h1, f.trans0 h2⟩
  have Fin := Lib.hid fin
  clear fin
  by_cases h1 : 100 < m
  · have d1 : decide ((100 : Int) < (m : Int)) = true := by simp; omega
    clear rl hcase
    go_enter Try.func7, Try.ntmps7
    go_wp2_with fail
    refine (awake_any _).mono ?_
    rintro e w1 ⟨rfl, F⟩
    have FW := Lib.hid F
    clear F
    go_wp2_with fail
    refine (Fin.out _ FW.out).mono ?_
    rintro e w2 ⟨rfl, F⟩
    replace F := Lib.hid F
    go_wp2_with fail
    go_ret
    exact ⟨rfl, F.out⟩
  · have d1 : decide ((100 : Int) < (m : Int)) = false := by simp; omega
    by_cases h2 : 40 < n2
    · have d2 : decide ((40 : Int) < (n2 : Int)) = true := by simp; omega
      clear rl hcase
      go_enter Try.func7, Try.ntmps7
      go_wp2_with fail
      refine (awake_any _).mono ?_
      rintro e w1 ⟨rfl, F⟩
      have FW := Lib.hid F
      clear F
      go_wp2_with fail
      refine (Fin.out _ FW.out).mono ?_
      rintro e w2 ⟨rfl, F⟩
      replace F := Lib.hid F
      go_wp2_with fail
      go_ret
      exact ⟨rfl, F.out⟩
    · have d2 : decide ((40 : Int) < (n2 : Int)) = false := by simp; omega
      have d3 : (E == 0) = false := by simp; omega
      clear rl hcase
      go_enter Try.func7, Try.ntmps7
      go_wp2_with fail
      refine (awake_any _).mono ?_
      rintro e w1 ⟨rfl, F⟩
      have FW := Lib.hid F
      clear F
      go_wp2_with fail
      refine (hmade.out _ FW.out).mono ?_; rintro e w2 ⟨rfl, rfl⟩
      go_wp2_with fail
      refine (Fin.out _ FW.out).mono ?_
      rintro e w2 ⟨rfl, F⟩
      replace F := Lib.hid F
      go_wp2_with fail
      go_ret
      exact ⟨rfl, F.out⟩
theorem Plays_law (l : Option Addr) (m cl : Nat) (xs : List Int) (st : Option Addr) (n2 c2 : Nat) (R : Nat → Nat → Int) (w : World) (h1 : ArgSl w l m cl xs) (h2 : ArgSt w st n2 c2 [.i64, .u8, .u8, .i64, .i64] R) :
    Calls Try.prog 7 #[.slice l m cl, .slice st n2 c2] w fun e w' => e = .returned (.bool true) ∧ Fr F0 w w' := by
  by_cases h : 100 < m ∨ 40 < n2 ∨ madeI xs ≠ 0
  · exact Plays_skip h1.rd h
  · exact Plays_main h1.rd h1.cap (by omega) (by
      by_cases hz : madeI xs = 0
      · exact hz
      · exact absurd (.inr (.inr hz)) h) h2 (by omega)
end Go.Proofs.Ytdihajeccjdhkaa
