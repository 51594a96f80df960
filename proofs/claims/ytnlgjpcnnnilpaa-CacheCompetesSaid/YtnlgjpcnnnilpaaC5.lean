/- FIFO. -/
import Derived.Test.YtnlgjpcnnnilpaaC4
import Derived.Test.YtnlgjpcnnnilpaaComMap
import Derived.Test.YtnlgjpcnnnilpaaComTail
namespace Go.Proofs.Ytnlgjpcnnnilpaa
open Go.RowKit
attribute [local go_sem ↓] Go.wp_at_zero Go.wp_at_succ

/-- The set of a list. -/
def fC (C : List Int) : Int → Option Value := fun k => if C.any (· == k) = true then some (.bool true) else none
theorem fC_in {C : List Int} {k : Int} (h : C.any (· == k) = true) : fC C k = some (.bool true) := by unfold fC; rw [if_pos h]
theorem fC_out {C : List Int} {k : Int} (h : C.any (· == k) = false) : fC C k = none := by unfold fC; rw [if_neg (by rw [h]; decide)]
theorem fC_del {y : Int} {C : List Int} (h : (y :: C).Nodup) : setV (fC (y :: C)) y none = fC C := by
  have hy := (List.nodup_cons.1 h).1
  funext k
  by_cases e : k = y
  · subst e
    rw [setV_same, fC_out (by rw [List.any_eq_false]; intro z hz hzk; simp at hzk; subst hzk; exact hy hz)]
  · rw [setV_other e]
    unfold fC
    rw [List.any_cons, show (y == k) = false by simpa using fun h => e h.symm, Bool.false_or]
theorem fC_add (C : List Int) (b : Int) : setV (fC C) b (some (.bool true)) = fC (C ++ [b]) := by
  funext k
  unfold fC
  rw [List.any_append]
  by_cases e : k = b
  · subst e; rw [setV_same]; simp
  · rw [setV_other e]
    have : ([b].any (· == k)) = false := by simpa using fun h => e h.symm
    rw [this, Bool.or_false]
theorem under53 : Try.prog.underlying 53 = some (.map 3 4) := by kernel_rfl
theorem nodup_snoc {C : List Int} {b : Int} (h : C.Nodup) (hb : C.any (· == b) = false) : (C ++ [b]).Nodup := by
  rw [List.nodup_append]
  refine ⟨h, by simp, fun x hx y hy => ?_⟩
  simp at hy
  subst hy
  intro e
  subst e
  have := List.any_eq_false.1 hb x hx
  simp at this
theorem any_mem {C : List Int} {b : Int} (h : C.any (· == b) = false) : b ∉ C := fun hb => by have := List.any_eq_false.1 h b hb; simp at this
theorem FIFO_bad (a : Option Addr) (n c : Nat) (l : List Int) (m : Int) (w : World) (hr : Rd w a n (ints l)) (hz : ¬ chk l m = 0) :
    Calls Try.prog 10 #[.slice a n c, .int .i64 m] w fun e w' => e = .returned (.tuple #[.int .i64 0, .int .i64 (chk l m)]) ∧ w = w' := by
  have hck := check_any a n c l m w hr
  obtain ⟨z, hzz⟩ : ∃ z, z = chk l m := ⟨_, rfl⟩
  rw [← hzz] at hck ⊢
  have e0 : (z != 0) = true := by rw [hzz]; simpa using hz
  clear hz hzz
  go_enter Try.func10, Try.ntmps10
  go_wp2_with (refine hck.mono ?_; rintro e w' ⟨rfl, rfl⟩)
  go_ret2
  exact ⟨rfl, rfl⟩
set_option maxHeartbeats 4000000 in
theorem FIFO_any (a : Option Addr) (n c m : Nat) (l : List Int) (w : World) (hr : Rd w a n (ints l)) (hz : chk l m = 0) :
    Calls Try.prog 10 #[.slice a n c, .int .i64 m] w fun e w' => e = .returned (.tuple #[.int .i64 (fifoN l m), .int .i64 0]) ∧ Fr F0 w w' := by
  have hck := check_any a n c l m w hr
  rw [hz] at hck
  obtain ⟨hlb, hm, hm2, hn⟩ := chk_ok hz
  have hll : l.length = n := by simpa using hr.len
  have hmm := @run_makeMap Try.prog
  have M0 := MapV.made w 4
  have hm0 : 1 ≤ m := by omega
  have hm1 : m ≤ 1000 := by omega
  have hn0 : n ≤ 65536 := by omega
  have F1 : Fr F0 w (w.alloc (.map #[] 0)) := (Fr.refl _ _).alloc _
  have Hr := Lib.hid hr
  have Hll := Lib.hid hll
  have Hlb := Lib.hid hlb
  replace M0 := Lib.hid M0
  clear hz hlb hm hm2 hn hll hr
  go_enter Try.func10, Try.ntmps10
  go_wp2_with (refine hck.mono ?_; rintro e w' ⟨rfl, rfl⟩)
  obtain ⟨bm, hbm⟩ : ∃ bm, bm = w.heap.size := ⟨_, rfl⟩
  rw [← hbm] at M0
  simp only [← hbm]
  have Hbm := Lib.hid hbm
  clear hbm hck
  go_loopw [8, 9, 11, 21] (fun s8 s9 _ s21 wr => ∃ (k t n1 c1 : Nat) (a1 : Option Addr) (C : List Int), k ≤ n ∧ s21 = .int .i64 k ∧ s9 = .int .i64 t ∧ s8 = .slice a1 n1 c1 ∧ t ≤ k ∧ n1 ≤ m ∧ Hid ((l.take k).foldl (fifoF m) ([], 0) = (C, t)) ∧ Hid C.Nodup ∧ Hid (OwnT wr (bm + 1) 3 a1 n1 c1 (ints C)) ∧ Hid (MapV wr 4 bm n1 (fC C)) ∧ Hid (∀ b ∈ C, 0 ≤ b ∧ b ≤ 1048576) ∧ Fr F0 w wr) (fun _ _ _ s21 _ => n - (intOf s21).toNat)
  case atStart => exact ⟨0, 0, 0, 0, none, [], by omega, rfl, rfl, rfl, by omega, by omega, Lib.hid rfl, Lib.hid List.nodup_nil, Lib.hid (OwnT.nil _ _ _), M0, Lib.hid (by simp), F1⟩
  case round =>
    clear F1 M0
    obtain ⟨k, t, n1, c1, a1, C, hk, rfl, rfl, rfl, ht, hn1, hC, hnd, hO, hM, hCb, hF⟩ := hrel
    by_cases hlt : k < n
    · obtain ⟨b, o, x, hb, hx, d⟩ := (Hr.out.fr0 hF).ix hlt
      have hst := fold_take (f := fifoF m) (s := ([], 0)) hx
      rw [hC.out] at hst
      have hxb := Hlb.out x (List.mem_of_getElem? hx)
      have hwx : wfI x := wfI_of (by omega) (by omega)
      have hlook := hM.out.look under53 plainB hwx
      have hCl : Hid (C.length = n1) := Lib.hid (by simpa using hO.out.len)
      have Hwx := Lib.hid hwx
      have Hxb := Lib.hid hxb
      have hbl := Lib.hid hM.out.lt
      subst hb
      clear hx hwx hxb
      cases hany : C.any (· == x) with
      | true =>
        obtain ⟨j, hj, hidx, _, _⟩ := idxI_at hany
        rw [fifo_hit (by rw [hidx]; omega)] at hst
        rw [fC_in hany] at hlook
        simp only [Option.getD_some] at hlook
        have Hst := Lib.hid hst
        clear hst hany hidx hj
        go_wp2_with fail
        go_roundw
        case rel => exact ⟨k + 1, t, n1, c1, a1, C, by omega, by go_num, rfl, rfl, by omega, hn1, Hst, hnd, hO, hM, hCb, hF⟩
        case measure => simp [intOf]; omega
      | false =>
        rw [fifo_miss hany] at hst
        rw [fC_out hany] at hlook
        simp only [Option.getD_none] at hlook
        have hnd2 := Lib.hid (nodup_snoc hnd.out hany)
        by_cases h2 : n1 = m
        · rw [if_pos (by rw [hCl.out]; exact h2)] at hst
          subst h2
          cases C with
          | nil => have := hCl.out; simp at this; omega
          | cons y C' =>
            obtain ⟨q, hq1, hq2⟩ : ∃ q, q + 1 ≤ n1 ∧ n1 ≤ q + 1 := ⟨n1 - 1, by omega, by omega⟩
            have hq : Hid (n1 = q + 1) := Lib.hid (by omega)
            obtain ⟨b0, o0, ha, hc0⟩ := hO.out.rd.cells (by omega)
            have d0 := hc0 0 (.int .i64 y) (by simp)
            rw [Nat.add_zero] at d0
            have s1 : ∀ w, (Instr.sliceAt 22 (.slice a1 n1 c1) (some (.int .i64 1)) none none).run Try.prog w = .ok (.slice (cutA a1 c1 1) q (c1 - 1)) w := fun w => run_cutLo E3 w a1 (by omega) rfl
            have hO1 : Hid (OwnT wr (bm + 1) 3 (cutA a1 c1 1) q (c1 - 1) (ints C')) := Lib.hid (by have h := hO.out; rw [hq.out] at h; exact h.cut1)
            have hyb := hCb.out y (by simp)
            have hwy := Lib.hid (wfI_of (k := y) (by omega) (by omega))
            have hxy : (y == x) = false ∧ C'.any (· == x) = false := by simpa using hany
            have hnd3 := Lib.hid (nodup_snoc (List.nodup_cons.1 hnd.out).2 hxy.2)
            have hno : Hid (fC C' x = none) := Lib.hid (fC_out hxy.2)
            have hin : Hid (fC (y :: C') y = some (.bool true)) := Lib.hid (fC_in (by simp))
            have hfd := Lib.hid (fC_del hnd.out)
            have Hst : Hid ((l.take (k + 1)).foldl (fifoF n1) ([], 0) = (C' ++ [x], t + 1)) := Lib.hid (by simpa using hst)
            have hCb2 : Hid (∀ b ∈ C' ++ [x], 0 ≤ b ∧ b ≤ 1048576) := Lib.hid (fun b hb => by
              rcases List.mem_append.1 hb with h | h
              · exact hCb.out b (by simp [h])
              · simp at h; subst h; exact Hxb.out)
            have i0 : (0 : Int) < (n1 : Int) := by omega
            have hbc : Hid (∀ k, onBlk (cutA a1 c1 1) k → bm + 1 ≤ k) := Lib.hid (fun k hk => (hO1.out.blk k hk).1)
            subst ha
            clear hst hany hc0 hxy hyb
            go_wp2_with (first | (refine wpMapDrop hM.out under53 hwy.out rfl rfl ?_; intro w2 hM2 hF2; rw [hin.out, if_pos (by decide), hfd.out] at hM2; have hn1q : n1 - 1 = q := (by omega); rw [hn1q] at hM2; have hFm := Lib.hid (hF.trans hF2 (fun k hk h => by have e : k = bm := h; have := Hbm.out; omega)); have hO2 := Lib.hid (hO1.out.fr hF2 (fun k hk h => by have e : k = bm := h; have := (hO1.out.blk k hk).1; omega)); replace hM2 := Lib.hid hM2; have hs2 := Lib.hid hF2.size; clear hF2 hn1q) | (refine wpMapStore hM2.out under53 (by omega) Hwx.out ⟨_, plainElem_bool (by kernel_rfl) true⟩ rfl rfl rfl ?_; intro w3 hM3 hF3; rw [hno.out, if_neg (by decide), fC_add] at hM3; have hFn := Lib.hid (hFm.out.trans hF3 (fun k hk h => by have e : k = bm := h; have := Hbm.out; omega)); have hO3 := Lib.hid (hO2.out.fr hF3 (fun k hk h => by have e : k = bm := h; have := (hO2.out.blk k hk).1; omega)); replace hM3 := Lib.hid hM3; have hs3 := Lib.hid hF3.size; clear hF3) | (at_builtin; refine wpAppT E3 hO3.out (by omega) (by omega) (by have := hs3.out; have := hs2.out; have := hbl.out; omega) rfl rfl rfl ?_; intro a' c' w' own' fr' at'))
            exact ⟨⟨k + 1, t + 1, q + 1, c', a', C' ++ [x], by omega, by go_num, by go_num, rfl, by omega, hq1, Hst, hnd3, Lib.hid (by simpa [ints] using own'), Lib.hid (hM3.out.fr fr' (fun h => by have := (hO3.out.blk _ h).1; omega)), hCb2, hFn.out.trans fr' (fun k hk h => by have := (hO3.out.blk _ h).1; have := Hbm.out; omega)⟩, by simp [intOf]; omega⟩
        · rw [if_neg (by rw [hCl.out]; exact h2)] at hst
          have Hst := Lib.hid hst
          have d1 : ((n1 : Int) == (m : Int)) = false := by simp; omega
          have d2 : (n1 == m) = false := by simpa using h2
          have hn2 : n1 + 1 ≤ m := by omega
          have hno : Hid (fC C x = none) := Lib.hid (fC_out hany)
          have hCb2 : Hid (∀ b ∈ C ++ [x], 0 ≤ b ∧ b ≤ 1048576) := Lib.hid (fun b hb => by
            rcases List.mem_append.1 hb with h | h
            · exact hCb.out b h
            · simp at h; subst h; exact Hxb.out)
          clear hst hany h2
          go_wp2_with (first | (refine wpMapStore hM.out under53 (by omega) Hwx.out ⟨_, plainElem_bool (by kernel_rfl) true⟩ rfl rfl rfl ?_; intro w2 hM2 hF2; rw [hno.out, if_neg (by decide), fC_add] at hM2; have hFm := Lib.hid (hF.trans hF2 (fun k hk h => by have e : k = bm := h; have := Hbm.out; omega)); have hO2 := Lib.hid (hO.out.fr hF2 (fun k hk h => by have e : k = bm := h; have := (hO.out.blk k hk).1; omega)); replace hM2 := Lib.hid hM2; have hs2 := Lib.hid hF2.size; clear hF2) | (at_builtin; refine wpAppT E3 hO2.out (by omega) (by omega) (by have := hs2.out; have := hbl.out; omega) rfl rfl rfl ?_; intro a' c' w' own' fr' at'))
          exact ⟨⟨k + 1, t + 1, n1 + 1, c', a', C ++ [x], by omega, by go_num, by go_num, rfl, by omega, hn2, Hst, hnd2, Lib.hid (by simpa [ints] using own'), Lib.hid (hM2.out.fr fr' (fun h => by have := (hO2.out.blk _ h).1; omega)), hCb2, hFm.out.trans fr' (fun k hk h => by have := (hO2.out.blk _ h).1; have := Hbm.out; omega)⟩, by simp [intOf]; omega⟩
    · obtain rfl : k = n := by omega
      have E : Hid (fifoN l m = t) := Lib.hid (by
        have h := hC.out
        rw [List.take_of_length_le (by have := Hll.out; omega)] at h
        unfold fifoN; rw [h])
      go_wp2_with fail
      go_ret2
      exact ⟨by rw [E.out]; rfl, hF⟩
end Go.Proofs.Ytnlgjpcnnnilpaa
