/- Make. -/
import Derived.Test.YtglonedhcljdoaaM3
namespace Go.Proofs.Ytglonedhcljdoaa
open Go.RowKit
attribute [local go_sem ↓] Go.wp_at_zero Go.wp_at_succ
theorem E44 : Elem1 Try.prog 44 49 (.slice none 0 0) 24 := ⟨rfl, by kernel_rfl, rfl⟩

set_option maxRecDepth 100000 in
set_option maxHeartbeats 8000000 in
theorem Make_any (a : Option Addr) (n c : Nat) (R : List RowV) (w : World) (hr : ArgRows w a n c R) : Calls Try.prog 9 #[.slice a n c] w (MkPost (catL R) w) := by
  have hpl := hr.len
  have hm := hr.rd.max
  have hcl : (catL R).length = n := by simpa [catL] using hpl
  have h24 := ContainsFunc24_any a n c R w hr
  have h25 : ∀ w1, Fr F0 w w1 → Calls Try.prog 23 #[.slice a n c, .func (.func 25) #[] #[]] w1 fun e w' => e = .returned (.bool ((catL R).any badB)) ∧ Fr F0 w1 w' := fun w1 f => ContainsFunc25_any a n c R w1 (hr.fr0 f)
  obtain ⟨L, hL⟩ : ∃ L, L = catL R := ⟨_, rfl⟩
  rw [← hL] at h24 h25 hcl ⊢
  have HL := Lib.hid hL
  have Hcl := Lib.hid hcl
  have Hpl := Lib.hid hpl
  have Hr := Lib.hid hr
  cases d1 : decide ((32 : Int) < (n : Int)) with
  | true =>
    have hck : checkC L = 4 := by unfold checkC; rw [if_pos (by simp at d1; omega)]
    have hfin : Hid (MkPost L w (.returned (.tuple #[.pointer none, .int .i64 4])) w) := Lib.hid ⟨Fr.refl _ _, .inl ⟨by rw [hck]; decide, by rw [hck]⟩⟩
    clear h24 h25 hL hcl hpl hr hck
    go_enter Try.func9, Try.ntmps9
    go_wp2_with fail
    go_ret2
    exact hfin.out
  | false =>
    have hn : n ≤ 32 := by simp at d1; omega
    cases d2 : L.any longB with
    | true =>
      have hck : checkC L = 4 := by unfold checkC; rw [if_neg (by omega), if_pos d2]
      rw [d2] at h24
      have hfin : Hid (∀ w1, Fr F0 w w1 → MkPost L w (.returned (.tuple #[.pointer none, .int .i64 4])) w1) := Lib.hid fun w1 f => ⟨f, .inl ⟨by rw [hck]; decide, by rw [hck]⟩⟩
      clear h25 hL hcl hpl hr hck hn
      go_enter Try.func9, Try.ntmps9
      go_wp2_with (refine h24.mono ?_; rintro e w1 ⟨rfl, F1⟩)
      go_ret2
      exact hfin.out _ F1
    | false =>
      rw [d2] at h24
      cases d3 : ((n : Int) == 0) with
      | true =>
        have hck : checkC L = 1 := by unfold checkC; rw [if_neg (by omega), if_neg (by rw [d2]; decide), if_pos (by rw [← List.length_eq_zero_iff]; simp at d3; omega)]
        have hfin : Hid (∀ w1, Fr F0 w w1 → MkPost L w (.returned (.tuple #[.pointer none, .int .i64 1])) w1) := Lib.hid fun w1 f => ⟨f, .inl ⟨by rw [hck]; decide, by rw [hck]⟩⟩
        have d3' : (n == 0) = true := by simpa using d3
        clear h25 hL hcl hpl hr hck hn
        go_enter Try.func9, Try.ntmps9
        go_wp2_with (refine h24.mono ?_; rintro e w1 ⟨rfl, F1⟩)
        go_ret2
        exact hfin.out _ F1
      | false =>
        have hn0 : 0 < n := by simp at d3; omega
        have d3' : (n == 0) = false := by simpa using d3
        have hLn : L ≠ [] := by intro h; rw [h] at hcl; simp at hcl; omega
        cases d4 : L.any badB with
        | true =>
          have hck : checkC L = 1 := by unfold checkC; rw [if_neg (by omega), if_neg (by rw [d2]; decide), if_neg hLn, if_pos d4]
          have hfin : Hid (∀ w1, Fr F0 w w1 → MkPost L w (.returned (.tuple #[.pointer none, .int .i64 1])) w1) := Lib.hid fun w1 f => ⟨f, .inl ⟨by rw [hck]; decide, by rw [hck]⟩⟩
          rw [d4] at h25
          clear hL hcl hpl hr hck hn hLn hn0
          go_enter Try.func9, Try.ntmps9
          go_wp2_with (first
            | (refine h24.mono ?_; rintro e w1 ⟨rfl, F1⟩; have F1' := F1; have h25a := h25 _ F1; clear F1)
            | (refine h25a.mono ?_; rintro e w2 ⟨rfl, F2⟩))
          go_ret2
          exact hfin.out _ (F1'.trans0 F2)
        | false =>
          have hck : checkC L = 0 := by unfold checkC; rw [if_neg (by omega), if_neg (by rw [d2]; decide), if_neg hLn, if_neg (by rw [d4]; decide)]
          have hlen : ∀ l ∈ L, l.length ≤ 1000 := by
            intro l hl
            have h := (List.any_eq_false.1 d2) l hl
            unfold longB at h; simp at h; omega
          rw [d4] at h25
          have Hck := Lib.hid hck
          have Hlen := Lib.hid hlen
          have hmk := fun W => run_mk E44 rfl n (by omega) (by omega) W
          clear hL hcl hpl hr hck hLn hlen
          go_enter Try.func9, Try.ntmps9
          go_wp2_with (first
            | (refine h24.mono ?_; rintro e w1 ⟨rfl, F1⟩; have F1' := F1; have h25a := h25 _ F1; clear F1)
            | (refine h25a.mono ?_; rintro e w2 ⟨rfl, F2⟩; have hmk2 := hmk w2))
          have hs0 := start_facts (F1'.trans0 F2) n ((n : Int) - 1) hn w2.heap.size rfl
          dsimp only at hs0
          obtain ⟨f1, f2, f3, f4, f5, f6⟩ := hs0
          generalize ((((w2.alloc (.cells (Array.replicate n (.slice none 0 0)) 49)).alloc (.cells #[.slice (some ⟨w2.heap.size, 0, none⟩) n n, .int .i64 0] 46)).alloc (.cells #[.pointer (some ⟨w2.heap.size + 1, 0, none⟩)] 25)).alloc (.cells #[.int .i64 ((n : Int) - 1)] 3)) = W0 at *
          generalize w2.heap.size = g at *
          have H0 : Hid (OL w W0 g (g + 1 + 1 + 1) n n none 0 L (List.replicate n (.slice none 0 0))) := Lib.hid ⟨f5, by omega, f4, f3, by rw [kx_out L (by rw [Hcl.out]; omega)]; exact Rd.nil _ _, f2,
            fun j h1 h2 => by rw [Hcl.out] at h2; omega, fun j hj => by simp [hj], f1, f6⟩
          clear f1 f2 f3 f4 f5 f6 h24 h25a hmk hmk2 F1' F2 hn0
          go_loopw [5, 6, 7, 8, 9, 10, 11] (fun s5 s6 _ _ _ _ _ wr => ∃ (q b6 : Nat) (hs : List Value) (an : Option Addr) (nn cn : Nat), q ≤ n ∧ s5 = .slice an nn cn ∧ s6 = .pointer (some ⟨b6, 0, none⟩) ∧ nn ≤ 2000 ∧ Hid (OL w wr g b6 n q an nn L hs)) (fun _ s6 _ _ _ _ _ wr => mk6 s6 wr)
          case atStart => exact ⟨n, _, _, none, 0, 0, by omega, rfl, rfl, by omega, H0⟩
          case round =>
            obtain ⟨q, b6, hs, an, nn, cn, hq, rfl, rfl, hnn, O⟩ := hrel
            have k6 := O.out.k6.cell
            by_cases hlt : 0 < q
            · obtain ⟨m, hm⟩ : ∃ m, q = m + 1 := ⟨q - 1, by omega⟩
              subst hm
              have e1 : (((m + 1 : Nat) : Int) - 1) = (m : Int) := by omega
              rw [e1] at k6
              have hmn : m < n := by omega
              have dm : decide ((0 : Int) ≤ (m : Int)) = true := by simp
              have hmk6 := Lib.hid (mk6_at k6)
              have hnxl : Hid ((kx L (m + 1)).length = nn) := Lib.hid (by simpa using O.out.ab.len)
              obtain ⟨wo, hwo⟩ : ∃ wo : World, wo = wr := ⟨_, rfl⟩
              rw [← hwo] at O
              have hFi : Fr F0 wo wr := by rw [hwo]; exact Fr.refl _ _
              have Hk6 : Hid (wo.cell? ⟨b6, 0, none⟩ = some (.int .i64 m)) := Lib.hid (by rw [hwo]; exact k6)
              clear e1 hlt hwo
              go_wp2_with fail
              go_loopw [7, 8] (fun s k wr2 => ∃ (p : Nat) (a1 : Option Addr) (u c1 : Nat), 2 * p ≤ nn ∧ u = p ∧ k = .int .i64 (2 * (p : Int) + 1) ∧ s = .slice a1 u c1 ∧ Own wr2 wo.heap.size 3 a1 u c1 (ints (oddL ((kx L (m + 1)).take (2 * p)))) ∧ Fr F0 wo wr2) (fun _ k _ => nn + 1 - (intOf k).toNat)
              case atStart => exact ⟨0, none, 0, 0, by omega, rfl, by go_num, rfl, by simpa [oddL] using Own.nil _ _ _, hFi⟩
              case round =>
                obtain ⟨p, a1, u, c1, hp, hu, rfl, rfl, hO1, hF1⟩ := hrel
                by_cases hk : 2 * p + 1 < nn
                · obtain ⟨b, o, x, hb, hx, hcx⟩ := (O.out.ab.fr0 hF1).ix hk
                  have et := oddL_take (kx L (m + 1)) p (by rw [hnxl.out]; exact hk)
                  have ex : (kx L (m + 1)).getD (2 * p + 1) 0 = x := by simp [hx]
                  rw [ex] at et
                  have Et := Lib.hid et
                  have k1 : (0 : Int) ≤ 2 * (p : Int) + 1 := by omega
                  have k2 : 2 * (p : Int) + 1 < (nn : Int) := by omega
                  have t1 : (2 * (p : Int) + 1).toNat = 2 * p + 1 := by omega
                  have hub : u ≤ 2000 := by omega
                  have Hu := Lib.hid hu
                  have bO := Lib.hid hO1.blk
                  have hsz := hF1.size
                  subst hb
                  clear et ex hx hu
                  go_wp2_with (at_builtin; refine wpAppAt E3 hO1 (by omega) (by omega) (by omega) rfl rfl rfl ?_; intro a' c' w' own' fr' at')
                  have hF2 : Fr F0 wo w' := hF1.trans fr' (fun k hk hs => absurd (bO.out _ hs).1 (by omega))
                  replace at' := Lib.hid at'
                  clear fr'
                  go_roundw
                  case rel => exact ⟨p + 1, a', u + 1, c', by omega, by have := Hu.out; omega, by go_num, rfl, by rw [show 2 * (p + 1) = 2 * p + 2 by omega, Et.out]; simpa using own', hF2⟩
                  case measure => simp [intOf]; omega
                · have eo := oddL_take_all (kx L (m + 1)) (j := p) (by rw [hnxl.out]; omega)
                  rw [eo] at hO1
                  have hF2 := O.out.fr.trans0 hF1
                  obtain ⟨b, o, r, hb, hrm, hcr⟩ := (Hr.out.fr0 hF2).ix hmn
                  have hrow := (Hr.out.fr0 hF2).row m r hrm
                  have hLm : L[m]? = some r.xs := by rw [HL.out]; simp [catL, hrm]
                  have hrn : r.n ≤ 1000 := by
                    have h1 := Hlen.out r.xs (List.mem_of_getElem? hLm)
                    have h2 := Hr.out.rlen hrm
                    omega
                  have hrc := Hr.out.rcap m r hrm
                  have hul : u ≤ 1000 := by
                    have h1 := hO1.lens
                    have h2 := oddL_len (kx L (m + 1))
                    have h3 := hnxl.out
                    omega
                  have hks := kq_step hLm
                  have hkl := kq_len Hlen.out m
                  have k6' := hF1.cell Hk6.out id
                  have kW : (((wr.alloc (.cells #[.int .i64 0] 3)).alloc (.cells #[.int .i64 0] 3)).alloc (.cells #[.slice none 0 0] 31)).cell? ⟨b6, 0, none⟩ = some (.int .i64 m) := (wm_facts wr).2.2.2.2.cell k6' id
                  have cW : (((wr.alloc (.cells #[.int .i64 0] 3)).alloc (.cells #[.int .i64 0] 3)).alloc (.cells #[.slice none 0 0] 31)).cell? ⟨b, o + m, none⟩ = some (.slice r.a r.n r.c) := (wm_facts wr).2.2.2.2.cell (show wr.cell? ⟨b, o + m, none⟩ = some (.slice r.a r.n r.c) from hcr) id
                  have dk : decide (2 * (p : Int) + 1 < (nn : Int)) = false := by simp; omega
                  have m1 : (0 : Int) ≤ (m : Int) := by omega
                  have m2 : (m : Int) < (n : Int) := by omega
                  obtain ⟨v, hv⟩ : ∃ v : World, v = wr := ⟨_, rfl⟩
                  obtain ⟨HC, HM⟩ := round_facts O.out hn hmn hF1
                  have hcap := hO1.cap
                  have l4 := O.out.k4.lt
                  have lv := hF1.size
                  have lw := O.out.fr.size
                  have lg := O.out.wg
                  have FW := (wm_facts wr).2.2.2.2
                  have hmerge := merge4_any HC r.a r.n r.c r.xs a1 u c1 (oddL (kx L (m + 1))) (hrow.fr0 FW) (hO1.rd.fr0 FW)
                    (fun h0 k hk h => by
                      have h1 := (Hr.out.row m r hrm).lt h0 k hk
                      have h2 : k = wr.heap.size ∨ k = wr.heap.size + 1 ∨ k = wr.heap.size + 1 + 1 ∨ k = g := h
                      omega)
                    (fun k hk h => by
                      have h1 := hO1.blk k hk
                      have h2 : k = wr.heap.size ∨ k = wr.heap.size + 1 ∨ k = wr.heap.size + 1 + 1 ∨ k = g := h
                      omega) hrn hul hrc hcap HM
                  rw [← hks] at hmerge
                  have HMC := Lib.hid HC
                  have HF1 := Lib.hid hF1
                  subst hb
                  have hub : u ≤ 1000 := hul
                  have Hkl := Lib.hid hkl
                  clear HC HM hF1 hF2 hks hkl hrm hrow hcr hLm hO1 eo lw l4 lv lg FW hv hu hk hp hul
                  go_wp2_with (first
                    | (refine hmerge.mono ?_; rintro e w5 ⟨rfl, ra, rc, ka, kc, M⟩))
                  have k4 := (HMC.out.k4.fr M.fr HMC.out.e4).cell
                  have k6 := (HMC.out.k6.fr M.fr HMC.out.e6).cell
                  have hx : w5.heap[g + 1]? = some (.cells #[.slice (some ⟨g, 0, none⟩) n n, .int .i64 0] 46 (0, 0)) := by
                    rw [M.fr.block (g + 1) (lt_of_block HMC.out.kx) HMC.out.ex]; exact HMC.out.kx
                  have kx5 := (two_cells hx).1
                  have c9 := M.c9.cell
                  have c10 := M.c10.cell
                  obtain ⟨g', hg', _, _, hgc, hgf⟩ := M.hd.at (by omega)
                  injection hg' with hg'
                  injection hg' with hg'
                  subst hg'
                  have cgi := hgc m (.slice ra (kq L m).length rc) (by rw [List.getElem?_set_self (by rw [HMC.out.hl]; exact hmn)])
                  obtain ⟨kn, hkn⟩ : ∃ kn, kn = (kq L m).length := ⟨_, rfl⟩
                  obtain ⟨vo, hvo⟩ : ∃ vo : Int, vo = (cO (kq L m) : Int) := ⟨_, rfl⟩
                  obtain ⟨vt, hvt⟩ : ∃ vt : Int, vt = (cT (kq L m) : Int) := ⟨_, rfl⟩
                  rw [← hkn] at cgi
                  rw [← hvo] at c9
                  rw [← hvt] at c10
                  have hHeld : (fun w' : World => w'.cell? ⟨g + 1 + 1, 0, none⟩ = some (.pointer (some ⟨g + 1, 0, none⟩)) ∧ w'.cell? ⟨b6, 0, none⟩ = some (.int .i64 m) ∧ w'.cell? ⟨g + 1, 0, none⟩ = some (.slice (some ⟨g, 0, none⟩) n n) ∧ w'.cell? ⟨wr.heap.size, 0, none⟩ = some (.int .i64 vo) ∧ w'.cell? ⟨wr.heap.size + 1, 0, none⟩ = some (.int .i64 vt) ∧ w'.cell? ⟨g, m, none⟩ = some (.slice ra kn rc)) w5.drew := ⟨k4, k6, kx5, c9, c10, cgi⟩
                  have Hq := Lib.hid hkn
                  have Hvo := Lib.hid hvo
                  have Hvt := Lib.hid hvt
                  have HM := Lib.hid M
                  clear hkn hvo hvt hgc hgf M k4 k6 kx5 c9 c10 cgi hx k6' kW cW hmerge
                  refine wp_region_last 18 (fun w' : World => w'.cell? ⟨g + 1 + 1, 0, none⟩ = some (.pointer (some ⟨g + 1, 0, none⟩)) ∧ w'.cell? ⟨b6, 0, none⟩ = some (.int .i64 m) ∧ w'.cell? ⟨g + 1, 0, none⟩ = some (.slice (some ⟨g, 0, none⟩) n n) ∧ w'.cell? ⟨wr.heap.size, 0, none⟩ = some (.int .i64 vo) ∧ w'.cell? ⟨wr.heap.size + 1, 0, none⟩ = some (.int .i64 vt) ∧ w'.cell? ⟨g, m, none⟩ = some (.slice ra kn rc)) (by kernel_rfl) ?_
                  refine anyP_take 0 (v := ?_) rfl rfl (by kernel_rfl) (fun _ _ _ h => h) (Or.inl ⟨by rfl, ?_⟩) hHeld ?_
                  rotate_left 1
                  · (intro w0 hSw; (try dsimp only at hSw); go_simp; (try (with_reducible rfl)))
                  simp only [Act.put, List.setIfInBounds_toArray, List.set_cons_zero, List.set_cons_succ]
                  refine anyP_take 1 (v := ?_) rfl rfl (by kernel_rfl) (fun _ _ _ h => h) (Or.inl ⟨by rfl, ?_⟩) hHeld ?_
                  rotate_left 1
                  · (intro w0 hSw; (try dsimp only at hSw); go_simp; (try (with_reducible rfl)))
                  simp only [Act.put, List.setIfInBounds_toArray, List.set_cons_zero, List.set_cons_succ]
                  refine anyP_take 2 (v := ?_) rfl rfl (by kernel_rfl) (fun _ _ _ h => h) (Or.inl ⟨by rfl, ?_⟩) hHeld ?_
                  rotate_left 1
                  · (intro w0 hSw; (try dsimp only at hSw); go_simp; (try (with_reducible rfl)))
                  simp only [Act.put, List.setIfInBounds_toArray, List.set_cons_zero, List.set_cons_succ]
                  refine anyP_take 3 (v := ?_) rfl rfl (by kernel_rfl) (fun _ _ _ h => h) (Or.inl ⟨by rfl, ?_⟩) hHeld ?_
                  rotate_left 1
                  · (intro w0 hSw; (try dsimp only at hSw); go_simp; (try (with_reducible rfl)))
                  simp only [Act.put, List.setIfInBounds_toArray, List.set_cons_zero, List.set_cons_succ]
                  refine anyP_take 4 (v := ?_) rfl rfl (by kernel_rfl) (fun _ _ _ h => h) (Or.inl ⟨by rfl, ?_⟩) hHeld ?_
                  rotate_left 1
                  · (intro w0 hSw; (try dsimp only at hSw); go_simp; (try (with_reducible rfl)))
                  simp only [Act.put, List.setIfInBounds_toArray, List.set_cons_zero, List.set_cons_succ]
                  refine anyP_take 5 (v := ?_) rfl rfl (by kernel_rfl) (fun _ _ _ h => h) (Or.inl ⟨by rfl, ?_⟩) hHeld ?_
                  rotate_left 1
                  · (intro w0 hSw; (try dsimp only at hSw); go_simp; (try (with_reducible rfl)))
                  simp only [Act.put, List.setIfInBounds_toArray, List.set_cons_zero, List.set_cons_succ]
                  refine anyP_take 6 (v := ?_) rfl rfl (by kernel_rfl) (fun _ _ _ h => h) (Or.inl ⟨by rfl, ?_⟩) hHeld ?_
                  rotate_left 1
                  · (intro w0 hSw; (try dsimp only at hSw); go_simp; (try (with_reducible rfl)))
                  simp only [Act.put, List.setIfInBounds_toArray, List.set_cons_zero, List.set_cons_succ]
                  refine anyP_take 7 (v := ?_) rfl rfl (by kernel_rfl) (fun _ _ _ h => h) (Or.inl ⟨by rfl, ?_⟩) hHeld ?_
                  rotate_left 1
                  · (intro w0 hSw; (try dsimp only at hSw); go_simp; (try (with_reducible rfl)))
                  simp only [Act.put, List.setIfInBounds_toArray, List.set_cons_zero, List.set_cons_succ]
                  refine anyP_take 8 (v := ?_) rfl rfl (by kernel_rfl) (fun _ _ _ h => h) (Or.inl ⟨by rfl, ?_⟩) hHeld ?_
                  rotate_left 1
                  · (intro w0 hSw; (try dsimp only at hSw); go_simp; (try (with_reducible rfl)))
                  simp only [Act.put, List.setIfInBounds_toArray, List.set_cons_zero, List.set_cons_succ]
                  refine anyP_take 9 (v := ?_) rfl rfl (by kernel_rfl) (fun _ _ _ h => h) (Or.inl ⟨by rfl, ?_⟩) hHeld ?_
                  rotate_left 1
                  · (intro w0 hSw; (try dsimp only at hSw); go_simp; (try (with_reducible rfl)))
                  simp only [Act.put, List.setIfInBounds_toArray, List.set_cons_zero, List.set_cons_succ]
                  refine anyP_take 10 (v := ?_) rfl rfl (by kernel_rfl) (fun _ _ _ h => h) (Or.inl ⟨by rfl, ?_⟩) hHeld ?_
                  rotate_left 1
                  · (intro w0 hSw; (try dsimp only at hSw); go_simp; (try (with_reducible rfl)))
                  simp only [Act.put, List.setIfInBounds_toArray, List.set_cons_zero, List.set_cons_succ]
                  refine anyP_take 11 (v := ?_) rfl rfl (by kernel_rfl) (fun _ _ _ h => h) (Or.inl ⟨by rfl, ?_⟩) hHeld ?_
                  rotate_left 1
                  · (intro w0 hSw; (try dsimp only at hSw); go_simp; (try (with_reducible rfl)))
                  simp only [Act.put, List.setIfInBounds_toArray, List.set_cons_zero, List.set_cons_succ]
                  refine anyP_take 12 (v := ?_) rfl rfl (by kernel_rfl) (fun _ _ _ h => h) (Or.inl ⟨by rfl, ?_⟩) hHeld ?_
                  rotate_left 1
                  · (intro w0 hSw; (try dsimp only at hSw); go_simp; (try (with_reducible rfl)))
                  simp only [Act.put, List.setIfInBounds_toArray, List.set_cons_zero, List.set_cons_succ]
                  refine anyP_take 13 (v := ?_) rfl rfl (by kernel_rfl) (fun _ _ _ h => h) (Or.inl ⟨by rfl, ?_⟩) hHeld ?_
                  rotate_left 1
                  · (intro w0 hSw; (try dsimp only at hSw); go_simp; (try (with_reducible rfl)))
                  simp only [Act.put, List.setIfInBounds_toArray, List.set_cons_zero, List.set_cons_succ]
                  refine anyP_take 14 (v := ?_) rfl rfl (by kernel_rfl) (fun _ _ _ h => h) (Or.inl ⟨by rfl, ?_⟩) hHeld ?_
                  rotate_left 1
                  · (intro w0 hSw; (try dsimp only at hSw); go_simp; (try (with_reducible rfl)))
                  simp only [Act.put, List.setIfInBounds_toArray, List.set_cons_zero, List.set_cons_succ]
                  refine anyP_one 15 (by kernel_rfl) rfl (fun K hK => ?_)
                  replace hK := Lib.hid hK
                  go_simp
                  refine hK.out _ _ (.inr ?_) ?_
                  · have F := ((Fr.refl F0 w5.drew).alloc (.cells #[.int .i64 0, .int .i64 vo, .int .i64 vt] 51))
                    exact ⟨F.cell hHeld.1 id, F.cell hHeld.2.1 id, F.cell hHeld.2.2.1 id, F.cell hHeld.2.2.2.1 id, F.cell hHeld.2.2.2.2.1 id, F.cell hHeld.2.2.2.2.2 id⟩
                  try simp only [Act.put, List.setIfInBounds_toArray, List.set_cons_zero, List.set_cons_succ]
                  clear hK K
                  obtain ⟨z0, hi0, hz0, hz1, hz2⟩ := info_parts EZ51.2.1
                  have M := HM.out
                  have C := HMC.out
                  have l4 : g + 1 + 1 < (WM wr).heap.size := C.k4.lt
                  have l6 : b6 < (WM wr).heap.size := C.k6.lt
                  have lx : g + 1 < (WM wr).heap.size := lt_of_block C.kx
                  have hsz := M.fr.size
                  have hro := M.ro
                  have F5 : Fr F0 w5 (w5.alloc (.cells #[.int .i64 0, .int .i64 vo, .int .i64 vt] 51)).drew := ((Fr.refl _ _).alloc _).drew
                  have rb : ∀ k, onBlk ra k → (WM wr).heap.size ≤ k := fun k hk => (M.ro.blk k hk).1
                  have hOA : OwnZ (w5.alloc (.cells #[.int .i64 0, .int .i64 vo, .int .i64 vt] 51)).drew (WM wr).heap.size 51 3 ra kn rc (tri (entP (kq L m))) := by rw [Hq.out]; exact hro.fr0 F5
                  have hOAc : ∀ j u, [Value.int .i64 0, .int .i64 vo, .int .i64 vt][j]? = some u → (w5.alloc (.cells #[.int .i64 0, .int .i64 vo, .int .i64 vt] 51)).drew.cell? ((⟨w5.heap.size, 0, none⟩ : Addr).add j) = some u := fun j u hu => World.news_of_block (heap_alloc_new w5 _) j u hu
                  have hq2 : kn ≤ 2000 := by rw [Hq.out]; exact Hkl.out
                  have fgi : w5.frozen? ⟨g, m, none⟩ = false := by
                    obtain ⟨g', hg', _, _, _, hgf⟩ := M.hd.at (by omega)
                    injection hg' with hg'
                    injection hg' with hg'
                    subst hg'
                    exact hgf m
                  have lg := M.lg
                  have l9 := M.l9
                  have l10 := M.l10
                  clear M C hro
                  refine anyP_one 16 (by kernel_rfl) rfl (fun K hK => ?_)
                  replace hK := Lib.hid hK
                  refine step_append_lies _ (by rfl) (.tmp 69) (.tmp 73) 49 (by rfl) (WM wr).heap.size 51 z0 _ 3 24 EZ51.1 hi0 hz0 hz1 hz2 EZ51.2.2 (by omega) (.slice ra kn rc) kn (tri (entP (kq L m))) (by rfl) hOA ⟨w5.heap.size, 0, none⟩ 1 1 [.int .i64 0, .int .i64 vo, .int .i64 vt] (by rfl) rfl hOAc (tri_oneCell (_, _, _)) (by omega) (by unfold maxLen; omega) (by omega) (by simp; omega) (w5.heap.size + 1) (by simp) ?_
                  intro g2 cap w6 hown6 hgrow hat hlt
                  have FG : Fr (onBlk ra) (w5.alloc (.cells #[.int .i64 0, .int .i64 vo, .int .i64 vt] 51)).drew w6 := Fr.of_grown rfl hgrow
                  have nb : ∀ k, k < (WM wr).heap.size → ¬ onBlk ra k := fun k hk h => by have := rb k h; omega
                  have hHeld6 : (fun w' : World => w'.cell? ⟨g + 1 + 1, 0, none⟩ = some (.pointer (some ⟨g + 1, 0, none⟩)) ∧ w'.cell? ⟨b6, 0, none⟩ = some (.int .i64 m) ∧ w'.cell? ⟨g + 1, 0, none⟩ = some (.slice (some ⟨g, 0, none⟩) n n) ∧ w'.cell? ⟨wr.heap.size, 0, none⟩ = some (.int .i64 vo) ∧ w'.cell? ⟨wr.heap.size + 1, 0, none⟩ = some (.int .i64 vt) ∧ w'.cell? ⟨g, m, none⟩ = some (.slice ra kn rc)) w6 := by
                    have F := F5
                    exact ⟨FG.cell (F.cell hHeld.1 id) (nb _ l4), FG.cell (F.cell hHeld.2.1 id) (nb _ l6), FG.cell (F.cell hHeld.2.2.1 id) (nb _ lx), FG.cell (F.cell hHeld.2.2.2.1 id) (nb _ l9), FG.cell (F.cell hHeld.2.2.2.2.1 id) (nb _ l10), FG.cell (F.cell hHeld.2.2.2.2.2 id) (nb _ lg)⟩
                  have fgi6 : w6.frozen? ⟨g, m, none⟩ = false := (FG.frozen (by simp; omega) (nb _ lg)).trans ((F5.frozen (show g < w5.heap.size by omega) id).trans fgi)
                  refine hK.out _ _ (.inr hHeld6) ?_
                  clear hK K
                  try simp only [Act.put, List.setIfInBounds_toArray, List.set_cons_zero, List.set_cons_succ]
                  refine anyP_take 17 (v := ?_) rfl rfl (by kernel_rfl) (fun _ _ _ h => h) (Or.inl ⟨by rfl, ?_⟩) hHeld6 ?_
                  rotate_left 1
                  · (intro w0 hSw; (try dsimp only at hSw); go_simp; (try (with_reducible rfl)))
                  try simp only [Act.put, List.setIfInBounds_toArray, List.set_cons_zero, List.set_cons_succ]
                  refine anyP_one 18 (by kernel_rfl) rfl (fun K hK => ?_)
                  replace hK := Lib.hid hK
                  have cgi6 := hHeld6.2.2.2.2.2
                  go_simp
                  refine hK.out _ _ (.inl (by kernel_rfl)) ?_
                  refine anyP_done (by kernel_rfl) ?_ _
                  refine NoPanic.normal ?_
                  clear hK K
                  try simp only [Act.put, List.setIfInBounds_toArray, List.set_cons_zero, List.set_cons_succ]

                  have hend := end_facts O.out Hcl.out hmn HF1.out Hq.out Hvo.out Hvt.out HM.out ((F5.mono (fun _ _ h => h.elim)).trans FG (fun _ _ h => h)) hown6
                  have l11 := HM.out.l11
                  have d11 := HMC.out.d
                  have F6' : Fr (onBlk ra) w5 w6 := (F5.mono (fun _ _ h => h.elim)).trans FG (fun _ _ h => h)
                  have c11 := ((HM.out.c11.fr F6' (nb _ l11)).other (p := ⟨g, m, none⟩) d11.2.2.2.2.2 (.slice (some ⟨g2, 0, none⟩) (kn + 1) cap)).cell
                  rw [← Hq.out] at c11
                  have c6 := (Fr.cell ((Fr.refl (onB g) w6).setB m (.slice (some ⟨g2, 0, none⟩) (kn + 1) cap)) hHeld6.2.1 (fun h => HMC.out.e6 (.inr (.inr (.inr h)))))
                  have s7 : (w6.setCell ⟨g, m, none⟩ (.slice (some ⟨g2, 0, none⟩) (kn + 1) cap)).heap.size = w6.heap.size := by simp
                  clear F5 FG F6' hHeld hHeld6 cgi6 fgi fgi6 hOA hOAc hown6 hgrow hat hlt nb rb hsz l4 l6 lx lg l9 l10 l11 d11
                  generalize w6.setCell ⟨g, m, none⟩ (.slice (some ⟨g2, 0, none⟩) (kn + 1) cap) = w7 at *
                  rw [← s7] at hend
                  have hend := Lib.hid hend
                  clear s7
                  go_wp2_with fail
                  go_roundw
                  case rel => exact ⟨m, _, _, ka, kn, kc, by omega, rfl, rfl, hq2, hend⟩
                  case measure => rw [hmk6.out, mk6_at hend.out.k6.cell]; omega
            · have q0 : q = 0 := by omega
              subst q0
              have kk : wr.cell? ⟨b6, 0, none⟩ = some (.int .i64 (-1)) := k6
              have k4 := O.out.k4.cell
              have hfin := Lib.hid (done_facts O.out Hcl.out Hck.out)
              clear k6
              go_wp2_with fail
              go_ret2
              exact hfin.out

end Go.Proofs.Ytglonedhcljdoaa
