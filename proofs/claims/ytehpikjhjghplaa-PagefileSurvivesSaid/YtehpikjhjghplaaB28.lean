/- What all pages of a disk show; whether rows are equal. -/
import Derived.Test.YtehpikjhjghplaaB27
import Derived.Test.YtehpikjhjghplaaB23
namespace Go.Proofs.Ytehpikjhjghplaa
open Go.RowKit
attribute [local go_sem ↓] Go.wp_at_zero Go.wp_at_succ
set_option maxHeartbeats 2000000 in
theorem EqualFunc_any (a1 a2 : Option Addr) (n c1 c2 : Nat) (P : List (List UInt8)) (vs1 vs2 : List Value) (S1 S2 : Nat → Prop) (w : World) (h1 : Rd w a1 n vs1) (h2 : Rd w a2 n vs2) (R1 : RowsM w S1 vs1 P) (R2 : RowsM w S2 vs2 P) :
    Calls Try.prog 60 #[.slice a1 n c1, .slice a2 n c2, .func (.func 25) #[] #[]] w fun e w' => e = .returned (.bool true) ∧ w = w' := by
  have hmax := h1.max
  have H1 := Lib.hid h1
  have H2 := Lib.hid h2
  have HR1 := Lib.hid R1
  have HR2 := Lib.hid R2
  clear h1 h2 R1 R2
  go_enter Try.func60, Try.ntmps60
  go_wp2_with fail
  go_loop [7, 8, 9, 17] (fun _ _ _ i => ∃ k : Nat, k ≤ n ∧ i = .int .i64 k) (fun _ _ _ i => n - (intOf i).toNat)
  case atStart => exact ⟨0, by omega, rfl⟩
  case round =>
    obtain ⟨k, hk, rfl⟩ := hrel
    by_cases hlt : k < n
    · obtain ⟨b1, o1, r1, e1, d, hb1, hd1, x1, hr1⟩ := rows_ix H1.out HR1.out hlt
      obtain ⟨b2, o2, r2, e2, d2, hb2, hd2, x2, hr2⟩ := rows_ix H2.out HR2.out hlt
      obtain rfl : d = d2 := by rw [hd1] at hd2; injection hd2
      obtain ⟨_, _, q1, _, k1, _⟩ := hr1
      obtain ⟨_, _, q2, _, k2, _⟩ := hr2
      cases q1
      cases q2
      have hcall := Equal_any r1 r2 d.length e1 e2 d w k1 k2
      obtain ⟨dl, hdl⟩ : ∃ dl, dl = d.length := ⟨_, rfl⟩
      rw [← hdl] at x1 x2 hcall
      have Hcall := Lib.hid hcall
      have i0 : (0 : Int) ≤ (k : Int) := by omega
      have i1 : (k : Int) < (n : Int) := by omega
      subst hb1
      subst hb2
      clear hd1 hd2 hdl k1 k2 hcall
      go_wp2_with fail
      refine Hcall.out.mono ?_
      rintro e w' ⟨rfl, rfl⟩
      go_wp2_with fail
      go_round
      case rel => exact ⟨k + 1, by omega, by go_num⟩
      case measure => simp [intOf]; omega
    · obtain rfl : k = n := by omega
      go_wp2_with fail
      go_ret
      exact ⟨rfl, rfl⟩
theorem same_any (a1 a2 : Option Addr) (n c1 c2 : Nat) (P : List (List UInt8)) (vs1 vs2 : List Value) (S1 S2 : Nat → Prop) (w : World) (h1 : Rd w a1 n vs1) (h2 : Rd w a2 n vs2) (R1 : RowsM w S1 vs1 P) (R2 : RowsM w S2 vs2 P) :
    Calls Try.prog 31 #[.slice a1 n c1, .slice a2 n c2] w fun e w' => e = .returned (.bool true) ∧ w = w' := by
  have Hcall := Lib.hid (EqualFunc_any a1 a2 n c1 c2 P vs1 vs2 S1 S2 w h1 h2 R1 R2)
  clear h1 h2 R1 R2
  go_enter Try.func31, Try.ntmps31
  go_wp2_with fail
  refine Hcall.out.mono ?_
  rintro e w' ⟨rfl, rfl⟩
  go_wp2_with fail
  go_ret
  exact ⟨rfl, rfl⟩
/-- Rows that the call has made. -/
def ShPost (P : List (List UInt8)) (w : World) (e : Ending) (w' : World) : Prop :=
  ∃ a' n' c' vs, ∃ S : Nat → Prop, n' = P.length ∧ e = .returned (.tuple #[.slice a' n' c', .bool true]) ∧ Rd w' a' n' vs ∧ RowsM w' S vs P ∧ Fr F0 w w'
theorem in_range {P : List (List UInt8)} {p : Nat} {d : List UInt8} {pg sy af : Int} {bs : List UInt8} (hv : validB pg bs sy af = true) (hP : dpgs pg bs = P) (h : P[p]? = some d) : getS pg bs sy af p = (d, 0) := by
  have hl := (List.getElem?_eq_some_iff.1 h).1
  unfold getS
  rw [hv, if_pos rfl, hP, if_neg (by omega), Int.toNat_natCast, h]
  rfl
set_option maxHeartbeats 4000000 in
theorem shown_any (a : Option Addr) (n c : Nat) (pg sy af : Int) (bs : List UInt8) (w : World) (hr : Rd w a n (byt bs)) (hc : n ≤ c) (hv : validB pg bs sy af = true) :
    Calls Try.prog 30 #[.agg (dskI pg a n c sy af)] w (ShPost (dpgs pg bs) w) := by
  have FA : Fr F0 w (w.alloc (.cells (dskI pg a n c sy af) 24)) := (Fr.refl _ _).alloc _
  have B0 : Blk (w.alloc (.cells (dskI pg a n c sy af) 24)) w.heap.size 24 [.int .i64 pg, .slice a n c, .int .i64 sy, .int .i64 af] := Blk.new w 24 [.int .i64 pg, .slice a n c, .int .i64 sy, .int .i64 af]
  obtain ⟨bD, hbD⟩ : ∃ b, b = w.heap.size := ⟨_, rfl⟩
  rw [← hbD] at B0
  have HbD := Lib.hid hbD
  have hlen : (dpgs pg bs).length ≤ 1000 := by
    obtain ⟨⟨hp1, hp2⟩, _⟩ := valid_of hv
    obtain ⟨page, rfl⟩ := Int.eq_ofNat_of_zero_le (show 0 ≤ pg by omega)
    exact (pg_ok page bs).1
  obtain ⟨P, hP⟩ : ∃ P, P = dpgs pg bs := ⟨_, rfl⟩
  have hS : pgS pg bs sy af = ((P.length : Int), 0) := by unfold pgS; rw [hv, if_pos rfl, hP]
  rw [← hP] at hlen ⊢
  obtain ⟨nP, hnP⟩ : ∃ n, n = P.length := ⟨_, rfl⟩
  rw [← hnP] at hS hlen
  have hget : ∀ (p : Nat) (d : List UInt8), P[p]? = some d → getS pg bs sy af p = (d, 0) := fun p d h => in_range hv hP.symm h
  have Hget := Lib.hid hget
  have HnP := Lib.hid hnP
  have Hr := Lib.hid hr
  have HC := Lib.hid hc
  have HS := Lib.hid hS
  replace FA := Lib.hid FA
  replace B0 := Lib.hid B0
  have m0 : (0 : Int) ≤ (nP : Int) := by omega
  have m1 : ((nP : Int) ≤ 1000) := by omega
  clear hr hc hP hS hget hnP hv
  go_enter Try.func30, Try.ntmps30
  go_wp2_with fail
  refine (PagesN_any a n c pg sy af bs _ (Hr.out.fr0 FA.out) HC.out).mono ?_
  rintro e w1 ⟨rfl, F1⟩
  rw [HS.out]
  rw [← hbD]
  have CA := Lib.hid (B0.out.fr F1 id)
  have FW := Lib.hid (FA.out.trans0 F1)
  have hsz : Hid (w.heap.size + 1 ≤ w1.heap.size) := Lib.hid (by have := CA.out.lt; have := HbD.out; omega)
  clear F1 B0 FA hbD
  go_wp2_with fail
  go_loopw [6, 7, 8, 9, 26] (fun s6 _ _ _ s26 wr => ∃ (k co : Nat) (ao : Option Addr) (vs : List Value) (S : Nat → Prop), k ≤ nP ∧ s26 = .int .i64 k ∧ s6 = .slice ao k co ∧ Hid (Own wr (w.heap.size + 1) 22 ao k co vs) ∧ Hid (RowsM wr S vs (P.take k)) ∧ Hid (∀ j, S j → j < wr.heap.size ∧ ¬ onBlk ao j) ∧ Hid (Blk wr bD 24 [.int .i64 pg, .slice a n c, .int .i64 sy, .int .i64 af]) ∧ Hid (w.heap.size + 1 ≤ wr.heap.size) ∧ Hid (Fr F0 w wr)) (fun _ _ _ _ s26 _ => nP - (intOf s26).toNat)
  case atStart => exact ⟨0, 0, none, [], fun _ => False, by omega, rfl, rfl, Lib.hid (Own.nil _ _ _), Lib.hid (RowsM.nil _ _), Lib.hid (fun j h => h.elim), CA, hsz, FW⟩
  case round =>
    clear CA FW hsz
    obtain ⟨k, co, ao, vs, S, hk, rfl, rfl, hO, hR, hS, CA, hsz, FW⟩ := hrel
    by_cases hlt : k < nP
    · obtain ⟨d, hd⟩ : ∃ d, P[k]? = some d := ⟨P[k]'(by have := HnP.out; omega), List.getElem?_eq_getElem (by have := HnP.out; omega)⟩
      have x0 := CA.out.cell (i := 0) rfl
      have x1 := CA.out.cell (i := 1) rfl
      have x2 := CA.out.cell (i := 2) rfl
      have x3 := CA.out.cell (i := 3) rfl
      have HG := Lib.hid (Hget.out k d hd)
      have Hd := Lib.hid hd
      have Htk : Hid (P.take (k + 1) = P.take k ++ [d]) := Lib.hid (by rw [List.take_add_one, hd]; rfl)
      clear hd
      go_wp2_with fail
      refine (Get_any a n c pg sy af bs (k : Int) _ (Hr.out.fr0 FW.out) HC.out).mono ?_
      rintro e w3 ⟨a3, m3, c3, hm3, rfl, O3, F3⟩
      rw [HG.out] at hm3 O3 ⊢
      have hm3' : m3 = d.length := hm3
      have O3' : Own w3 wr.heap.size 5 a3 m3 c3 (byt d) := O3
      subst hm3'
      have OR := Lib.hid O3'
      have O4 := Lib.hid (hO.out.fr0 F3)
      have R4 := Lib.hid (hR.out.fr0 F3)
      have C4 := Lib.hid (CA.out.fr F3 id)
      have F4 := Lib.hid (FW.out.trans0 F3)
      have s3 : Hid (wr.heap.size ≤ w3.heap.size) := Lib.hid F3.size
      have hB4 : w.heap.size + 1 ≤ w3.heap.size := by have := s3.out; have := hsz.out; omega
      have hco := hO.out.cap
      obtain ⟨dl, hdl⟩ : ∃ n, n = d.length := ⟨_, rfl⟩
      rw [← hdl] at OR
      rw [← hdl]
      have Hdl := Lib.hid hdl
      clear x0 x1 x2 x3 O3 O3' F3 hm3 hdl CA FW
      go_wp2_with (at_builtin; refine wpAppAt ER O4.out (by omega) (by omega) hB4 (u := .slice a3 dl c3) rfl rfl rfl ?_; intro a5 c5 w5 own5 fr5 at5)
      have hob := hO.out.blk
      have hor := OR.out.blk
      have hSl := hS.out
      have s3l := s3.out
      have hszl := hsz.out
      have G1 : Fr (onBlk ao) w3 w5 := fr5
      have dR : RowM w5 (fun j => S j ∨ (onBlk a3 j)) (.slice a3 dl c3) d := ⟨a3, c3, by rw [Hdl.out], by rw [← Hdl.out]; exact OR.out.cap, by rw [← Hdl.out]; exact OR.out.rd.fr fr5 (fun j h h2 => by have := (hor j h).1; have := (hob j h2).2; omega), fun _ j h => .inr h⟩
      have R5 : Hid (RowsM w5 (fun j => S j ∨ (onBlk a3 j)) (vs ++ [.slice a3 dl c3]) (P.take (k + 1))) := Lib.hid (by
        rw [Htk.out]
        exact ((R4.out.fr fr5 (fun j h h2 => (hSl j h).2 h2)).mono (fun _ h => .inl h)).snoc dR)
      have S5 : Hid (∀ j, (S j ∨ onBlk a3 j) → j < w5.heap.size ∧ ¬ onBlk a5 j) := Lib.hid (fun j h => by
        have hz := fr5.size
        have hq : j < w3.heap.size ∧ ¬ onBlk ao j := by
          rcases h with h | h
          · have h2 := hSl j h; exact ⟨by omega, h2.2⟩
          · have h2 := hor j h; exact ⟨h2.2, fun h3 => by have := (hob j h3).2; omega⟩
        exact ⟨by omega, fun h5 => (at5 j h5).elim hq.2 (fun h6 => by omega)⟩)
      have C5 := Lib.hid (C4.out.fr fr5 (fun h => by have := (hob _ h).1; have := HbD.out; omega))
      have z5 : Hid (w.heap.size + 1 ≤ w5.heap.size) := Lib.hid (by have := fr5.size; omega)
      have F5 := Lib.hid (F4.out.trans fr5 (fun j h1 h => by have := (hob j h).1; omega))
      have own5' := Lib.hid own5
      clear hob hor hSl s3l hszl G1 dR fr5 at5 own5
      go_roundw
      case rel => exact ⟨k + 1, c5, a5, _, _, by omega, by go_num, rfl, own5', R5, S5, C5, z5, F5⟩
      case measure => simp [intOf]; omega
    · obtain rfl : k = nP := by omega
      have e : P.take k = P := List.take_of_length_le (by have := HnP.out; omega)
      have R5 := hR.out
      rw [e] at R5
      have R6 := Lib.hid R5
      clear R5 e hR
      go_wp2_with fail
      go_ret2
      exact ⟨ao, k, co, vs, S, HnP.out, rfl, hO.out.rd, R6.out, FW.out⟩
end Go.Proofs.Ytehpikjhjghplaa
