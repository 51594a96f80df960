/- The reference's Distances; Distances. -/
import Derived.Test.YtnlgjpcnnnilpaaD2
namespace Go.Proofs.Ytnlgjpcnnnilpaa
open Go.RowKit
attribute [local go_sem ↓] Go.wp_at_zero Go.wp_at_succ
set_option maxHeartbeats 4000000 in
theorem refDistances_any (a : Option Addr) (n c : Nat) (l : List Int) (w : World) (hr : Rd w a n (ints l)) (hn : n ≤ 65536) :
    Calls Try.prog 24 #[.slice a n c] w fun e w' => ∃ a' c', e = .returned (.slice a' n c') ∧ Own w' w.heap.size 3 a' n c' (ints (distL l)) ∧ Fr F0 w w' := by
  have hll : l.length = n := by simpa using hr.len
  have Hr := Lib.hid hr
  have Hll := Lib.hid hll
  clear hr hll
  go_enter Try.func24, Try.ntmps24
  go_wp2_with fail
  go_loopw [3, 4, 5, 6] (fun s3 s4 s5 _ wr => ∃ (k n4 c3 c4 : Nat) (a3 a4 : Option Addr) (C D : List Int), k ≤ n ∧ s5 = .int .i64 k ∧ s3 = .slice a3 k c3 ∧ s4 = .slice a4 n4 c4 ∧ n4 ≤ k ∧ n4 ≤ c4 ∧ Hid ((l.take k).foldl distF ([], []) = (C, D)) ∧ Hid (Own wr w.heap.size 3 a3 k c3 (ints D)) ∧ Hid (Own wr w.heap.size 3 a4 n4 c4 (ints C)) ∧ Hid (Apart a3 a4) ∧ w.heap.size ≤ wr.heap.size ∧ Hid (Fr F0 w wr)) (fun _ _ s5 _ _ => n - (intOf s5).toNat)
  case atStart => exact ⟨0, 0, 0, 0, none, none, [], [], by omega, rfl, rfl, rfl, by omega, by omega, Lib.hid rfl, Lib.hid (Own.nil _ _ _), Lib.hid (Own.nil _ _ _), Lib.hid (apart_none _), by omega, Lib.hid (Fr.refl _ _)⟩
  case round =>
    obtain ⟨k, n4, c3, c4, a3, a4, C, D, hk, rfl, rfl, rfl, hn4, hc4, hD, hO, hC, hap, hsz, hF⟩ := hrel
    by_cases hlt : k < n
    · obtain ⟨b, o, x, hb, hx, d⟩ := (Hr.out.fr0 hF.out).ix hlt
      subst hb
      have hst := fold_take (f := distF) (s := ([], [])) hx
      rw [hD.out] at hst
      have Hst := Lib.hid hst
      have hCl : Hid (C.length = n4) := Lib.hid (by simpa using hC.out.len)
      have i0 : (0 : Int) ≤ (k : Int) := by omega
      have i1 : (k : Int) < (n : Int) := by omega
      have hf := Find_any a4 n4 c4 C x wr hC.out.rd
      have hbl : Hid (b < w.heap.size) := Lib.hid ((Hr.out.lt (by omega)) b ((onBlk_some _ _ _ _).2 rfl))
      clear hst hx
      cases hany : C.any (· == x) with
      | true =>
        obtain ⟨e, he, hidx, _, heq⟩ := idxI_at hany
        rw [hidx] at hf
        rw [hCl.out] at he
        replace heq := Lib.hid heq
        have w1 : wrap64 ((e : Int) + 1) = (e : Int) + 1 := IntWalk.wrap64_in _ (by omega)
        have hst2 : Hid ((l.take (k + 1)).foldl distF ([], []) = (x :: C.eraseIdx e, D ++ [(e : Int) + 1])) := Lib.hid (by rw [Hst.out]; unfold distF; simp only [hany, if_true, idxI]; rw [← heq.out])
        clear hany hidx
        go_wp2_with fail
        refine hf.mono ?_; rintro e1 w1 ⟨rfl, rfl⟩
        go_wp2_with (at_builtin; refine wpAppAt E3 hO.out (by omega) (by omega) hsz (u := .int .i64 ((e : Int) + 1)) rfl rfl rfl ?_; intro a5 c5 w5 own5 fr5 at5)
        have d5 := fr5.cell d (fun h => absurd hbl.out (Nat.not_lt.2 (hO.out.blk _ h).1))
        have C5 := hC.out.fr fr5 (fun q h1 h2 => hap.out _ h2 h1)
        have F5 := hF.out.trans fr5 (fun q h1 h2 => absurd (hO.out.blk _ h2).1 (by omega))
        refine (Without_any a4 n4 c4 e C _ C5.rd hc4 he (by omega)).mono ?_
        rintro e1 w6 ⟨a6, c6, rfl, O6, F6⟩
        have d6 := F6.cell d5 id
        have F6' := Lib.hid (F5.trans0 F6)
        have own6 := Lib.hid (own5.fr0 F6)
        have sz6 : Hid (wr.heap.size ≤ w6.heap.size) := Lib.hid (by have := fr5.size; have := F6.size; omega)
        replace O6 := Lib.hid O6
        have i6 := fun q h => (own6.out.blk q h).2
        have I6 := Lib.hid i6
        have OA : Hid (Own (w6.alloc (.cells #[.int .i64 x] 3)) w6.heap.size 3 (some ⟨w6.heap.size, 0, none⟩) 1 1 (ints [x])) := Lib.hid (Own.lit (ints [x]) 1 rfl (by omega) (by omega))
        have FA : Hid (Fr F0 w6 (w6.alloc (.cells #[.int .i64 x] 3))) := Lib.hid ((Fr.refl _ _).alloc _)
        have en : Hid (1 + (n4 - 1) = n4) := Lib.hid (by omega)
        clear hap hO hC F5 C5 own5 at5 d5 fr5 F6 i6 d hf w1
        go_wp2_with (at_builtin; refine wpAppRd E3 OA.out (O6.out.rd.fr0 FA.out) (oneCell_ints _) (by omega) (by omega) (by simp) n4 en.out rfl rfl ?_; intro a7 c7 w7 own7 fr7 at7)
        have F7 := FA.out.trans fr7 (fun q h1 h2 => absurd (OA.out.blk _ h2).1 (by omega))
        exact ⟨⟨k + 1, n4, c5, c7, a5, a7, _, _, by omega, by go_num, rfl, rfl, by omega, own7.cap, hst2, Lib.hid (by have h := own6.out.fr0 F7; simpa [ints] using h), Lib.hid ((by simpa [ints] using own7 : Own _ _ _ _ _ _ (ints (x :: C.eraseIdx e))).mono (by have := sz6.out; omega)), Lib.hid (fun q h1 h2 => by
          have := I6.out q h1
          rcases at7 q h2 with h3 | h3
          · have := (OA.out.blk _ h3).1; omega
          · simp at h3; omega), by have := F7.size; have := sz6.out; omega, Lib.hid (F6'.out.trans0 F7)⟩, by simp [intOf]; omega⟩
      | false =>
        have hidx : idxI C x = -1 := by unfold idxI; rw [hany]; rfl
        rw [hidx] at hf
        have hst2 : Hid ((l.take (k + 1)).foldl distF ([], []) = (x :: C, D ++ [0])) := Lib.hid (by rw [Hst.out]; unfold distF; simp only [hany, idxI]; rfl)
        clear hany hidx
        go_wp2_with fail
        refine hf.mono ?_; rintro e1 w1 ⟨rfl, rfl⟩
        go_wp2_with (first | (at_builtin; refine wpAppAt E3 hO.out (by omega) (by omega) hsz (u := .int .i64 0) rfl rfl rfl ?_; intro a5 c5 w5 own5 fr5 at5; have d5 := fr5.cell d (fun h => absurd hbl.out (Nat.not_lt.2 (hO.out.blk _ h).1)); have C5 := Lib.hid (hC.out.fr fr5 (fun q h1 h2 => hap.out _ h2 h1)); have F5 := Lib.hid (hF.out.trans fr5 (fun q h1 h2 => absurd (hO.out.blk _ h2).1 (by omega))); replace own5 := Lib.hid own5; have sz5 := Lib.hid fr5.size; have OA : Hid (Own (w5.alloc (.cells #[.int .i64 x] 3)) w5.heap.size 3 (some ⟨w5.heap.size, 0, none⟩) 1 1 (ints [x])) := Lib.hid (Own.lit (ints [x]) 1 rfl (by omega) (by omega)); have FA : Hid (Fr F0 w5 (w5.alloc (.cells #[.int .i64 x] 3))) := Lib.hid ((Fr.refl _ _).alloc _); clear fr5 at5) | (at_builtin; refine wpAppRd E3 OA.out (C5.out.rd.fr0 FA.out) (oneCell_ints _) (by omega) (by omega) (by simp) (n4 + 1) (by omega) rfl rfl ?_; intro a7 c7 w7 own7 fr7 at7))
        have F7 := FA.out.trans fr7 (fun q h1 h2 => absurd (OA.out.blk _ h2).1 (by omega))
        exact ⟨⟨k + 1, n4 + 1, c5, c7, a5, a7, _, _, by omega, by go_num, rfl, rfl, by omega, own7.cap, hst2, Lib.hid (by have h := own5.out.fr0 F7; simpa [ints] using h), Lib.hid ((by simpa [ints] using own7 : Own _ _ _ _ _ _ (ints (x :: C))).mono (by have := sz5.out; omega)), Lib.hid (fun q h1 h2 => by
          have := (own5.out.blk q h1).2
          rcases at7 q h2 with h3 | h3
          · have := (OA.out.blk _ h3).1; omega
          · simp at h3; omega), by have := F7.size; have := sz5.out; omega, Lib.hid (F5.out.trans0 F7)⟩, by simp [intOf]; omega⟩
    · have : k = n := by omega
      subst this
      go_wp2_with fail
      go_ret
      refine ⟨_, _, rfl, ?_, hF.out⟩
      have e : distL l = D := by unfold distL; have h2 := hD.out; rw [take_all Hll.out] at h2; rw [h2]
      rw [e]; exact hO.out
end Go.Proofs.Ytnlgjpcnnnilpaa
