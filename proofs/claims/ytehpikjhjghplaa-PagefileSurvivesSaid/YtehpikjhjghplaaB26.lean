/- Checkpoint. -/
import Derived.Test.YtehpikjhjghplaaB13
import Derived.Test.YtehpikjhjghplaaB20
import Derived.Test.YtehpikjhjghplaaB24
namespace Go.Proofs.Ytehpikjhjghplaa
open Go.RowKit
attribute [local go_sem ↓] Go.wp_at_zero Go.wp_at_succ
/-- The record of all pages. -/
def ckR (P : List (List UInt8)) : List UInt8 := if P.length = 0 then [] else recB (List.range P.length) P
/-- What Checkpoint makes of a disk. -/
def ckptS (pg : Int) (bs : List UInt8) (sy af : Int) : Dk × Int :=
  if validB pg bs sy af = true then
    (if af = 0 ∨ (0 < af ∧ af < (ckR (dpgs pg bs)).length) then (⟨pg, bs, sy, 0⟩, 27) else (⟨pg, ckR (dpgs pg bs), ((ckR (dpgs pg bs)).length : Nat), if 0 < af then af - (ckR (dpgs pg bs)).length else af⟩, 0))
  else (⟨0, [], 0, 0⟩, 1)
/-- 0, 1, .., and noughts behind. -/
def lk (n k : Nat) : List Int := nats (List.range k) ++ List.replicate (n - k) 0
theorem lk_0 (n : Nat) : lk n 0 = List.replicate n 0 := by simp [lk]
theorem lk_all (n : Nat) : lk n n = nats (List.range n) := by simp [lk]
theorem lk_set {n k : Nat} (h : k < n) : (lk n k).set k (k : Int) = lk n (k + 1) := by
  unfold lk
  have hl : (nats (List.range k)).length = k := by simp
  rw [List.set_append_right _ _ (by omega), hl, Nat.sub_self, show n - k = (n - (k + 1)) + 1 by omega, List.replicate_succ, List.set_cons_zero, List.range_succ]
  simp [nats]
theorem ckR_len {P : List (List UInt8)} (h : ∀ d ∈ P, d.length ≤ 300) (hn : P.length ≤ 1000) : (ckR P).length ≤ 400000 := by
  unfold ckR
  split
  · simp
  · exact recB_len h (by simpa using hn)
theorem pg_ok (page : Nat) (bs : List UInt8) : (dpgs page bs).length ≤ 1000 ∧ ∀ d ∈ dpgs page bs, d.length = page := by
  unfold dpgs
  rw [Int.toNat_natCast]
  exact pgsL_ok _ [] (recs_good bs page) (by simp) (by simp)
set_option maxRecDepth 100000 in
set_option maxHeartbeats 16000000 in
theorem Checkpoint_any (a : Option Addr) (n c : Nat) (pg sy af : Int) (bs : List UInt8) (w : World) (hr : Rd w a n (byt bs)) (hc : n ≤ c) :
    Calls Try.prog 28 #[.agg (dskI pg a n c sy af)] w (KPost (ckptS pg bs sy af) w) := by
  have hbl : bs.length = n := by simpa using hr.len
  have FA : Fr F0 w ((w.alloc (.cells (dskI pg a n c sy af) 24)).alloc (.cells (dskI 0 none 0 0 0 0) 24)) := ((Fr.refl _ _).alloc _).alloc _
  have B0 : Blk ((w.alloc (.cells (dskI pg a n c sy af) 24)).alloc (.cells (dskI 0 none 0 0 0 0) 24)) w.heap.size 24 [.int .i64 pg, .slice a n c, .int .i64 sy, .int .i64 af] := (Blk.new w 24 [.int .i64 pg, .slice a n c, .int .i64 sy, .int .i64 af]).alloc _
  have B1 : Blk ((w.alloc (.cells (dskI pg a n c sy af) 24)).alloc (.cells (dskI 0 none 0 0 0 0) 24)) (w.heap.size + 1) 24 [.int .i64 0, .slice none 0 0, .int .i64 0, .int .i64 0] := by
    have h := Blk.new (w.alloc (.cells (dskI pg a n c sy af) 24)) 24 [.int .i64 0, .slice none 0 0, .int .i64 0, .int .i64 0]
    rwa [size_alloc] at h
  have hsz : ((w.alloc (.cells (dskI pg a n c sy af) 24)).alloc (.cells (dskI 0 none 0 0 0 0) 24)).heap.size = w.heap.size + 2 := by rw [size_alloc, size_alloc]
  have hval := Valid_any a n c pg sy af bs _ (hr.fr0 FA) hc
  have Hr := Lib.hid hr
  have Hbl := Lib.hid hbl
  replace FA := Lib.hid FA
  replace B0 := Lib.hid B0
  replace B1 := Lib.hid B1
  replace hsz := Lib.hid hsz
  obtain ⟨bA, hbA⟩ : ∃ b, b = w.heap.size := ⟨_, rfl⟩
  obtain ⟨bB, hbB⟩ : ∃ b, b = w.heap.size + 1 := ⟨_, rfl⟩
  have Hbb : Hid (bA = w.heap.size ∧ bB = w.heap.size + 1) := Lib.hid ⟨hbA, hbB⟩
  have nAB : bA ≠ bB := by omega
  have nBA : bB ≠ bA := by omega
  have Hc := Lib.hid hc
  cases hv : validB pg bs sy af with
  | false =>
    have E : ckptS pg bs sy af = (⟨0, [], 0, 0⟩, 1) := by unfold ckptS; rw [hv, if_neg (by decide)]
    rw [hv] at hval
    rw [E]
    clear hv hr hbl hc E
    go_enter Try.func28, Try.ntmps28
    go_wp2_with fail
    refine hval.mono ?_
    rintro e w1 ⟨rfl, F1⟩
    have C1 := Lib.hid (B1.out.fr F1 id)
    have F2 := Lib.hid (FA.out.trans0 F1)
    rw [← hbB] at C1
    rw [← hbB, ← hbA]
    clear F1 FA B0 B1 hsz hbA hbB hval
    have y0 := C1.out.cell (i := 0) rfl
    have y1 := C1.out.cell (i := 1) rfl
    have y2 := C1.out.cell (i := 2) rfl
    have y3 := C1.out.cell (i := 3) rfl
    have f0 := C1.out.free 0
    have f1 := C1.out.free 1
    have f2 := C1.out.free 2
    have f3 := C1.out.free 3
    go_wp2_with fail
    clear y0 y1 y2 y3 f0 f1 f2 f3
    have g := ((((C1.out.set 0 (.int .i64 0)).set 1 (.slice none 0 0)).set 2 (.int .i64 0)).set 3 (.int .i64 0))
    have g0 := g.cell (i := 0) rfl
    have g1 := g.cell (i := 1) rfl
    have g2 := g.cell (i := 2) rfl
    have g3 := g.cell (i := 3) rfl
    have G : Fr (fun j => j = bB) w1 ((((w1.setCell ⟨bB, 0, none⟩ (.int .i64 0)).setCell ⟨bB, 1, none⟩ (.slice none 0 0)).setCell ⟨bB, 2, none⟩ (.int .i64 0)).setCell ⟨bB, 3, none⟩ (.int .i64 0)) := by
      refine Fr.setCell (p := ⟨bB, 3, none⟩) (Fr.setCell (p := ⟨bB, 2, none⟩) (Fr.setCell (p := ⟨bB, 1, none⟩) (Fr.setCell (p := ⟨bB, 0, none⟩) (Fr.refl _ _) ?_ _) ?_ _) ?_ _) ?_ _
      all_goals exact fun _ => rfl
    refine bodyPost_ret (v := .tuple #[.agg #[.int .i64 0, .slice none 0 0, .int .i64 0, .int .i64 0], .int .i64 1]) ?_ rfl ?_
    · simp [results, Try.results28, go_sem, g0, g1, g2, g3]
    exact ⟨none, 0, 0, rfl, rfl, Own.nil _ _ _, F2.out.trans G (fun j h1 h2 => by have := Hbb.out; omega)⟩
  | true =>
    obtain ⟨⟨hp1, hp2⟩, ⟨ha1, ha2⟩, hlen, _⟩ := valid_of hv
    obtain ⟨page, rfl⟩ := Int.eq_ofNat_of_zero_le (show 0 ≤ pg by omega)
    obtain ⟨hP1, hP2⟩ := pg_ok page bs
    obtain ⟨P, hP⟩ : ∃ P, P = dpgs page bs := ⟨_, rfl⟩
    have hPg : pgsL page (recs bs page).1 = P := by rw [hP]; unfold dpgs; rw [Int.toNat_natCast]
    obtain ⟨R, hR⟩ : ∃ R, R = ckR P := ⟨_, rfl⟩
    obtain ⟨mR, hmR⟩ : ∃ m, m = R.length := ⟨_, rfl⟩
    rw [← hP] at hP1 hP2
    have hmR2 : mR ≤ 400000 := by rw [hmR, hR]; exact ckR_len (fun d hd => by have := hP2 d hd; omega) hP1
    obtain ⟨Q, hQ⟩ : ∃ Q, Q = ckptS page bs sy af := ⟨_, rfl⟩
    rw [← hQ]
    have HQ : Hid (Q = if af = 0 ∨ (0 < af ∧ af < (mR : Int)) then (⟨page, bs, sy, 0⟩, 27) else (⟨page, R, (mR : Int), if 0 < af then af - (mR : Int) else af⟩, 0)) := Lib.hid (by
      rw [hQ]; unfold ckptS; rw [hv, if_pos rfl, ← hP, ← hR, ← hmR])
    rw [hv] at hval
    have Hln : Hid (n ≤ 1048576 ∧ page ≤ 256 ∧ 1 ≤ page) := Lib.hid (by omega)
    have Hn2 : Hid (n ≤ 2000000) := Lib.hid (by omega)
    have HP1 := Lib.hid hP1
    have HP2 := Lib.hid hP2
    have HR := Lib.hid hR
    have HmR := Lib.hid hmR
    clear hv hr hbl hp1 hp2 hlen hc hP hQ hR hmR hP1 hP2
    go_enter Try.func28, Try.ntmps28
    go_wp2_with fail
    refine hval.mono ?_
    rintro e w0 ⟨rfl, F0'⟩
    replace B0 := Lib.hid (B0.out.fr F0' id)
    replace B1 := Lib.hid (B1.out.fr F0' id)
    replace FA := Lib.hid (FA.out.trans0 F0')
    replace hsz : Hid (w.heap.size + 2 ≤ w0.heap.size) := Lib.hid (by have h := F0'.size; rw [hsz.out] at h; exact h)
    have x0 := B0.out.cell (i := 0) rfl
    have x1 := B0.out.cell (i := 1) rfl
    have x2 := B0.out.cell (i := 2) rfl
    have x3 := B0.out.cell (i := 3) rfl
    clear F0' hval
    go_wp2_with fail
    clear x0 x1 x2 x3
    refine (pages_any a n c page sy af bs _ (Hr.out.fr0 FA.out) Hc.out Hln.out.1 Hln.out.2.1).mono ?_
    rintro e w1 ⟨ad, nd, cd, vs, S, hnd, rfl, OD, RD, SD, F1⟩
    rw [hPg] at hnd RD
    have C0 := Lib.hid (B0.out.fr F1 id)
    have C1 := Lib.hid (B1.out.fr F1 id)
    have F2 := Lib.hid (FA.out.trans0 F1)
    have hs2 : Hid (w.heap.size + 2 ≤ w1.heap.size) := Lib.hid (by have := F1.size; have := hsz.out; omega)
    rw [← hbA] at C0
    rw [← hbB] at C1
    rw [← hbB, ← hbA]
    have OD' := Lib.hid OD.rd
    have RD' := Lib.hid RD
    have SD' : Hid (∀ j, S j → j < w1.heap.size) := Lib.hid (fun j h => (SD j h).1)
    have Hnd := Lib.hid hnd
    have hnd2 : nd ≤ 1000 := by rw [hnd]; exact HP1.out
    clear F1 FA B0 B1 hsz hbA hbB OD RD SD hnd hPg
    have z0 := C0.out.cell (i := 0) rfl
    have z1 := C0.out.cell (i := 1) rfl
    have z2 := C0.out.cell (i := 2) rfl
    have z3 := C0.out.cell (i := 3) rfl
    by_cases hnz : nd = 0
    · subst hnz
      have hP0 : R = [] := by rw [HR.out]; unfold ckR; rw [if_pos (by rw [← Hnd.out])]
      have hm0 : mR = 0 := by rw [HmR.out, hP0]; rfl
      subst hP0
      subst hm0
      have Hcase : Hid (af = 0 ∨ (0 < af ∧ af < 0) ∨ af < 0 ∨ (0 < af ∧ 0 ≤ af)) := Lib.hid (by omega)
      have RdN : Hid (Rd w1 none 0 (byt [])) := Lib.hid (Rd.nil _ _)
      rcases Hcase.out with haf | ⟨haf, haf2⟩ | haf | ⟨haf, haf2⟩
      · subst haf
        have E : Hid (Q = (⟨page, bs, sy, 0⟩, 27)) := Lib.hid (by rw [HQ.out, if_pos (.inl rfl)])
        have e2 := E.out
        clear HQ E
        subst e2
        go_wp2_with fail
        refine (copied_any page sy 0 a n c a n c bs _ (Hr.out.fr0 F2.out) Hn2.out).mono ?_
        rintro e w8 ⟨a', c', rfl, O8, F8⟩
        have hs8 : w1.heap.size ≤ w8.heap.size := F8.size
        have hoff : Hid (¬ onBlk a' w8.heap.size) := Lib.hid (fun h => by have := (O8.blk _ h).2; omega)
        have n8 : Hid (w.heap.size + 2 ≤ w8.heap.size) := Lib.hid (by have := hs2.out; omega)
        have hof2 : Hid (∀ j, onBlk a' j → w.heap.size + 2 ≤ j) := Lib.hid (fun j h => by have := (O8.blk _ h).1; have := hs2.out; omega)
        have n8B : w8.heap.size ≠ bB := by have := n8.out; have := Hbb.out; omega
        have nB8 : bB ≠ w8.heap.size := fun e => n8B e.symm
        have n8A : w8.heap.size ≠ bA := by have := n8.out; have := Hbb.out; omega
        have nA8 : bA ≠ w8.heap.size := fun e => n8A e.symm
        clear z0 z1 z2 z3
        have A80 : Fr F0 w1 (w8.alloc (.cells #[.int .i64 page, .slice a' n c', .int .i64 sy, .int .i64 0] 24)) := F8.alloc _
        have K80 := Lib.hid (Blk.new w8 24 [.int .i64 page, .slice a' n c', .int .i64 sy, .int .i64 0])
        have C00 := Lib.hid (C0.out.fr A80 id)
        have C10 := Lib.hid (C1.out.fr A80 id)
        have z0 := C00.out.cell (i := 0) rfl
        have z1 := C00.out.cell (i := 1) rfl
        have z2 := C00.out.cell (i := 2) rfl
        have z3 := C00.out.cell (i := 3) rfl
        have k0 := K80.out.cell (i := 0) rfl
        have k1 := K80.out.cell (i := 1) rfl
        have k2 := K80.out.cell (i := 2) rfl
        have k3 := K80.out.cell (i := 3) rfl
        have y0 := C10.out.cell (i := 0) rfl
        have y1 := C10.out.cell (i := 1) rfl
        have y2 := C10.out.cell (i := 2) rfl
        have y3 := C10.out.cell (i := 3) rfl
        have f0 := K80.out.free 0
        have f1 := K80.out.free 1
        have f2 := K80.out.free 2
        have f3 := K80.out.free 3
        have h0 := C10.out.free 0
        have h1 := C10.out.free 1
        have h2 := C10.out.free 2
        have h3 := C10.out.free 3
        have O9 := Lib.hid ((O8.alloc (.cells #[.int .i64 page, .slice a' n c', .int .i64 sy, .int .i64 0] 24)).mono (B' := w.heap.size + 2) (by have := hs2.out; omega))
        have F9 := Lib.hid (F2.out.trans0 A80)
        clear O8 F8 hs8 A80 C00 K80  C0 C1
        go_wp2_with fail
        clear z0 z1 z2 z3 k0 k1 k2 k3 y0 y1 y2 y3 f0 f1 f2 f3 h0 h1 h2 h3
        generalize (w8.alloc (.cells #[.int .i64 page, .slice a' n c', .int .i64 sy, .int .i64 0] 24)) = W8 at *
        generalize w8.heap.size = b8 at *
        have C1 := C10
        have g := ((((C1.out.set 0 (.int .i64 page)).set 1 (.slice a' n c')).set 2 (.int .i64 sy)).set 3 (.int .i64 0))
        have g0 := g.cell (i := 0) rfl
        have g1 := g.cell (i := 1) rfl
        have g2 := g.cell (i := 2) rfl
        have g3 := g.cell (i := 3) rfl
        have G : Fr (fun j => j = bB ∨ j = b8) W8 ((((W8.setCell ⟨bB, 0, none⟩ (.int .i64 page)).setCell ⟨bB, 1, none⟩ (.slice a' n c')).setCell ⟨bB, 2, none⟩ (.int .i64 sy)).setCell ⟨bB, 3, none⟩ (.int .i64 0)) := by
          refine (Fr.setCell (p := ⟨bB, 3, none⟩) (Fr.setCell (p := ⟨bB, 2, none⟩) (Fr.setCell (p := ⟨bB, 1, none⟩) (Fr.setCell (p := ⟨bB, 0, none⟩) (Fr.refl _ _) ?_ _) ?_ _) ?_ _) ?_ _)
          all_goals first | exact fun _ => Or.inl rfl | exact fun _ => Or.inr rfl
        refine bodyPost_ret (v := .tuple #[.agg #[.int .i64 page, .slice a' n c', .int .i64 sy, .int .i64 0], .int .i64 27]) ?_ rfl ?_
        · simp [results, Try.results28, go_sem, g0, g1, g2, g3]
        exact ⟨a', n, c', Hbl.out.symm, rfl, (O9.out.fr G (fun j h h2 => h2.elim (fun h2 => by have := hof2.out j h; have := Hbb.out; omega) (fun h2 => hoff.out (h2 ▸ h)))).mono (by omega), F9.out.trans G (fun j h1 h2 => by have := Hbb.out; have := n8.out; omega)⟩
      · exact absurd haf2 (by omega)
      · have haf3 : ¬ af = 0 := by omega
        have haf4 : ¬ 0 < af := by omega
        have E : Hid (Q = (⟨page, [], ((0 : Nat) : Int), af⟩, 0)) := Lib.hid (by rw [HQ.out, if_neg (by omega), if_neg haf4])
        have e2 := E.out
        clear HQ E
        subst e2
        go_wp2_with fail
        refine (copied_any page sy af a n c none 0 0 [] _ (RdN.out) (by omega)).mono ?_
        rintro e w8 ⟨a', c', rfl, O8, F8⟩
        have hs8 : w1.heap.size ≤ w8.heap.size := F8.size
        have hoff : Hid (¬ onBlk a' w8.heap.size) := Lib.hid (fun h => by have := (O8.blk _ h).2; omega)
        have n8 : Hid (w.heap.size + 2 ≤ w8.heap.size) := Lib.hid (by have := hs2.out; omega)
        have hof2 : Hid (∀ j, onBlk a' j → w.heap.size + 2 ≤ j) := Lib.hid (fun j h => by have := (O8.blk _ h).1; have := hs2.out; omega)
        have n8B : w8.heap.size ≠ bB := by have := n8.out; have := Hbb.out; omega
        have nB8 : bB ≠ w8.heap.size := fun e => n8B e.symm
        have n8A : w8.heap.size ≠ bA := by have := n8.out; have := Hbb.out; omega
        have nA8 : bA ≠ w8.heap.size := fun e => n8A e.symm
        clear z0 z1 z2 z3
        have A80 : Fr F0 w1 (w8.alloc (.cells #[.int .i64 page, .slice a' 0 c', .int .i64 sy, .int .i64 af] 24)) := F8.alloc _
        have K80 := Lib.hid (Blk.new w8 24 [.int .i64 page, .slice a' 0 c', .int .i64 sy, .int .i64 af])
        have C00 := Lib.hid (C0.out.fr A80 id)
        have C10 := Lib.hid (C1.out.fr A80 id)
        have z0 := C00.out.cell (i := 0) rfl
        have z1 := C00.out.cell (i := 1) rfl
        have z2 := C00.out.cell (i := 2) rfl
        have z3 := C00.out.cell (i := 3) rfl
        have k0 := K80.out.cell (i := 0) rfl
        have k1 := K80.out.cell (i := 1) rfl
        have k2 := K80.out.cell (i := 2) rfl
        have k3 := K80.out.cell (i := 3) rfl
        have y0 := C10.out.cell (i := 0) rfl
        have y1 := C10.out.cell (i := 1) rfl
        have y2 := C10.out.cell (i := 2) rfl
        have y3 := C10.out.cell (i := 3) rfl
        have f0 := K80.out.free 0
        have f1 := K80.out.free 1
        have f2 := K80.out.free 2
        have f3 := K80.out.free 3
        have h0 := C10.out.free 0
        have h1 := C10.out.free 1
        have h2 := C10.out.free 2
        have h3 := C10.out.free 3
        have A81 : Fr F0 w1 (w8.alloc (.cells #[.int .i64 page, .slice a' 0 c', .int .i64 0, .int .i64 af] 24)) := F8.alloc _
        have K81 := Lib.hid (Blk.new w8 24 [.int .i64 page, .slice a' 0 c', .int .i64 0, .int .i64 af])
        have C01 := Lib.hid (C0.out.fr A81 id)
        have C11 := Lib.hid (C1.out.fr A81 id)
        have zx0 := C01.out.cell (i := 0) rfl
        have zx1 := C01.out.cell (i := 1) rfl
        have zx2 := C01.out.cell (i := 2) rfl
        have zx3 := C01.out.cell (i := 3) rfl
        have kx0 := K81.out.cell (i := 0) rfl
        have kx1 := K81.out.cell (i := 1) rfl
        have kx2 := K81.out.cell (i := 2) rfl
        have kx3 := K81.out.cell (i := 3) rfl
        have yx0 := C11.out.cell (i := 0) rfl
        have yx1 := C11.out.cell (i := 1) rfl
        have yx2 := C11.out.cell (i := 2) rfl
        have yx3 := C11.out.cell (i := 3) rfl
        have fx0 := K81.out.free 0
        have fx1 := K81.out.free 1
        have fx2 := K81.out.free 2
        have fx3 := K81.out.free 3
        have hx0 := C11.out.free 0
        have hx1 := C11.out.free 1
        have hx2 := C11.out.free 2
        have hx3 := C11.out.free 3
        have O9 := Lib.hid ((O8.alloc (.cells #[.int .i64 page, .slice a' 0 c', .int .i64 0, .int .i64 af] 24)).mono (B' := w.heap.size + 2) (by have := hs2.out; omega))
        have F9 := Lib.hid (F2.out.trans0 A81)
        clear O8 F8 hs8 A80 A81 C00 K80 C01 K81 C10 C0 C1
        go_wp2_with fail
        clear z0 z1 z2 z3 k0 k1 k2 k3 y0 y1 y2 y3 f0 f1 f2 f3 h0 h1 h2 h3 zx0 zx1 zx2 zx3 kx0 kx1 kx2 kx3 yx0 yx1 yx2 yx3 fx0 fx1 fx2 fx3 hx0 hx1 hx2 hx3
        generalize (w8.alloc (.cells #[.int .i64 page, .slice a' 0 c', .int .i64 0, .int .i64 af] 24)) = W8 at *
        generalize w8.heap.size = b8 at *
        have C1 := C11
        have g := ((((C1.out.set 0 (.int .i64 page)).set 1 (.slice a' 0 c')).set 2 (.int .i64 0)).set 3 (.int .i64 af))
        have g0 := g.cell (i := 0) rfl
        have g1 := g.cell (i := 1) rfl
        have g2 := g.cell (i := 2) rfl
        have g3 := g.cell (i := 3) rfl
        have G : Fr (fun j => j = bB ∨ j = b8) W8 ((((W8.setCell ⟨bB, 0, none⟩ (.int .i64 page)).setCell ⟨bB, 1, none⟩ (.slice a' 0 c')).setCell ⟨bB, 2, none⟩ (.int .i64 0)).setCell ⟨bB, 3, none⟩ (.int .i64 af)) := by
          refine (Fr.setCell (p := ⟨bB, 3, none⟩) (Fr.setCell (p := ⟨bB, 2, none⟩) (Fr.setCell (p := ⟨bB, 1, none⟩) (Fr.setCell (p := ⟨bB, 0, none⟩) (Fr.refl _ _) ?_ _) ?_ _) ?_ _) ?_ _)
          all_goals first | exact fun _ => Or.inl rfl | exact fun _ => Or.inr rfl
        refine bodyPost_ret (v := .tuple #[.agg #[.int .i64 page, .slice a' 0 c', .int .i64 0, .int .i64 af], .int .i64 0]) ?_ rfl ?_
        · simp [results, Try.results28, go_sem, g0, g1, g2, g3]
        exact ⟨a', 0, c', rfl, rfl, (O9.out.fr G (fun j h h2 => h2.elim (fun h2 => by have := hof2.out j h; have := Hbb.out; omega) (fun h2 => hoff.out (h2 ▸ h)))).mono (by omega), F9.out.trans G (fun j h1 h2 => by have := Hbb.out; have := n8.out; omega)⟩
      · have haf3 : ¬ af = 0 := by omega
        have hb0 : (af == 0) = false := by simpa using haf3
        have E : Hid (Q = (⟨page, [], ((0 : Nat) : Int), af⟩, 0)) := Lib.hid (by rw [HQ.out, if_neg (by omega), if_pos haf]; simp)
        have e2 := E.out
        clear HQ E
        subst e2
        go_wp2_with fail
        refine (copied_any page sy af a n c none 0 0 [] _ (RdN.out) (by omega)).mono ?_
        rintro e w8 ⟨a', c', rfl, O8, F8⟩
        have hs8 : w1.heap.size ≤ w8.heap.size := F8.size
        have hoff : Hid (¬ onBlk a' w8.heap.size) := Lib.hid (fun h => by have := (O8.blk _ h).2; omega)
        have n8 : Hid (w.heap.size + 2 ≤ w8.heap.size) := Lib.hid (by have := hs2.out; omega)
        have hof2 : Hid (∀ j, onBlk a' j → w.heap.size + 2 ≤ j) := Lib.hid (fun j h => by have := (O8.blk _ h).1; have := hs2.out; omega)
        have n8B : w8.heap.size ≠ bB := by have := n8.out; have := Hbb.out; omega
        have nB8 : bB ≠ w8.heap.size := fun e => n8B e.symm
        have n8A : w8.heap.size ≠ bA := by have := n8.out; have := Hbb.out; omega
        have nA8 : bA ≠ w8.heap.size := fun e => n8A e.symm
        clear z0 z1 z2 z3
        have A80 : Fr F0 w1 (w8.alloc (.cells #[.int .i64 page, .slice a' 0 c', .int .i64 sy, .int .i64 af] 24)) := F8.alloc _
        have K80 := Lib.hid (Blk.new w8 24 [.int .i64 page, .slice a' 0 c', .int .i64 sy, .int .i64 af])
        have C00 := Lib.hid (C0.out.fr A80 id)
        have C10 := Lib.hid (C1.out.fr A80 id)
        have z0 := C00.out.cell (i := 0) rfl
        have z1 := C00.out.cell (i := 1) rfl
        have z2 := C00.out.cell (i := 2) rfl
        have z3 := C00.out.cell (i := 3) rfl
        have k0 := K80.out.cell (i := 0) rfl
        have k1 := K80.out.cell (i := 1) rfl
        have k2 := K80.out.cell (i := 2) rfl
        have k3 := K80.out.cell (i := 3) rfl
        have y0 := C10.out.cell (i := 0) rfl
        have y1 := C10.out.cell (i := 1) rfl
        have y2 := C10.out.cell (i := 2) rfl
        have y3 := C10.out.cell (i := 3) rfl
        have f0 := K80.out.free 0
        have f1 := K80.out.free 1
        have f2 := K80.out.free 2
        have f3 := K80.out.free 3
        have h0 := C10.out.free 0
        have h1 := C10.out.free 1
        have h2 := C10.out.free 2
        have h3 := C10.out.free 3
        have A81 : Fr F0 w1 (w8.alloc (.cells #[.int .i64 page, .slice a' 0 c', .int .i64 0, .int .i64 af] 24)) := F8.alloc _
        have K81 := Lib.hid (Blk.new w8 24 [.int .i64 page, .slice a' 0 c', .int .i64 0, .int .i64 af])
        have C01 := Lib.hid (C0.out.fr A81 id)
        have C11 := Lib.hid (C1.out.fr A81 id)
        have zx0 := C01.out.cell (i := 0) rfl
        have zx1 := C01.out.cell (i := 1) rfl
        have zx2 := C01.out.cell (i := 2) rfl
        have zx3 := C01.out.cell (i := 3) rfl
        have kx0 := K81.out.cell (i := 0) rfl
        have kx1 := K81.out.cell (i := 1) rfl
        have kx2 := K81.out.cell (i := 2) rfl
        have kx3 := K81.out.cell (i := 3) rfl
        have yx0 := C11.out.cell (i := 0) rfl
        have yx1 := C11.out.cell (i := 1) rfl
        have yx2 := C11.out.cell (i := 2) rfl
        have yx3 := C11.out.cell (i := 3) rfl
        have fx0 := K81.out.free 0
        have fx1 := K81.out.free 1
        have fx2 := K81.out.free 2
        have fx3 := K81.out.free 3
        have hx0 := C11.out.free 0
        have hx1 := C11.out.free 1
        have hx2 := C11.out.free 2
        have hx3 := C11.out.free 3
        have O9 := Lib.hid ((O8.alloc (.cells #[.int .i64 page, .slice a' 0 c', .int .i64 0, .int .i64 af] 24)).mono (B' := w.heap.size + 2) (by have := hs2.out; omega))
        have F9 := Lib.hid (F2.out.trans0 A81)
        clear O8 F8 hs8 A80 A81 C00 K80 C01 K81 C10 C0 C1
        go_wp2_with fail
        clear z0 z1 z2 z3 k0 k1 k2 k3 y0 y1 y2 y3 f0 f1 f2 f3 h0 h1 h2 h3 zx0 zx1 zx2 zx3 kx0 kx1 kx2 kx3 yx0 yx1 yx2 yx3 fx0 fx1 fx2 fx3 hx0 hx1 hx2 hx3
        generalize (w8.alloc (.cells #[.int .i64 page, .slice a' 0 c', .int .i64 0, .int .i64 af] 24)) = W8 at *
        generalize w8.heap.size = b8 at *
        have C1 := C11
        have g := ((((C1.out.set 0 (.int .i64 page)).set 1 (.slice a' 0 c')).set 2 (.int .i64 0)).set 3 (.int .i64 (af)))
        have g0 := g.cell (i := 0) rfl
        have g1 := g.cell (i := 1) rfl
        have g2 := g.cell (i := 2) rfl
        have g3 := g.cell (i := 3) rfl
        have G : Fr (fun j => j = bB ∨ j = b8) W8 ((((W8.setCell ⟨bB, 0, none⟩ (.int .i64 page)).setCell ⟨bB, 1, none⟩ (.slice a' 0 c')).setCell ⟨bB, 2, none⟩ (.int .i64 0)).setCell ⟨bB, 3, none⟩ (.int .i64 (af))) := by
          refine (Fr.setCell (p := ⟨bB, 3, none⟩) (Fr.setCell (p := ⟨bB, 2, none⟩) (Fr.setCell (p := ⟨bB, 1, none⟩) (Fr.setCell (p := ⟨bB, 0, none⟩) (Fr.refl _ _) ?_ _) ?_ _) ?_ _) ?_ _)
          all_goals first | exact fun _ => Or.inl rfl | exact fun _ => Or.inr rfl
        refine bodyPost_ret (v := .tuple #[.agg #[.int .i64 page, .slice a' 0 c', .int .i64 0, .int .i64 (af)], .int .i64 0]) ?_ rfl ?_
        · simp [results, Try.results28, go_sem, g0, g1, g2, g3]
        exact ⟨a', 0, c', rfl, rfl, (O9.out.fr G (fun j h h2 => h2.elim (fun h2 => by have := hof2.out j h; have := Hbb.out; omega) (fun h2 => hoff.out (h2 ▸ h)))).mono (by omega), F9.out.trans G (fun j h1 h2 => by have := Hbb.out; have := n8.out; omega)⟩
    · have hpos : 0 < nd := by omega
      have hRe : R = recB (List.range nd) P := by rw [HR.out]; unfold ckR; rw [← Hnd.out, if_neg (by omega)]
      have HRe := Lib.hid hRe
      clear hRe hnz
      have hmk := run_mk E3 rfl nd (by omega) (by omega)
      have A1 : Fr F0 w1 (w1.alloc (.cells (Array.replicate nd (.int .i64 0)) 3)) := (Fr.refl _ _).alloc _
      have OL : Hid (Own (w1.alloc (.cells (Array.replicate nd (.int .i64 0)) 3)) w1.heap.size 3 (some ⟨w1.heap.size, 0, none⟩) nd nd (ints (lk nd 0))) := Lib.hid (by
        have h := Own.made (w := w1) (B := w1.heap.size) (T := 3) (z := .int .i64 0) nd (Nat.le_refl _) (by omega)
        rwa [show List.replicate nd (Value.int .i64 0) = ints (lk nd 0) by rw [lk_0]; simp] at h)
      have HA1 := Lib.hid A1
      clear A1
      go_wp2_with fail
      obtain ⟨gL, hgL⟩ : ∃ g, g = w1.heap.size := ⟨_, rfl⟩
      have HgL := Lib.hid hgL
      rw [← hgL] at OL
      rw [← hgL]
      clear hgL hmk
      go_loopw [7, 24] (fun _ s24 wr => ∃ k : Nat, k ≤ nd ∧ s24 = .int .i64 k ∧ Hid (Own wr gL 3 (some ⟨gL, 0, none⟩) nd nd (ints (lk nd k))) ∧ Hid (Fr F0 w1 wr)) (fun _ s24 _ => nd - (intOf s24).toNat)
      case atStart => exact ⟨0, by omega, rfl, OL, HA1⟩
      case round =>
        clear OL HA1
        obtain ⟨k, hk, rfl, hO, hF⟩ := hrel
        by_cases hlt : k < nd
        · obtain ⟨⟨y, d1, _⟩, d2⟩ := own_facts hO.out hlt
          have i0 : (0 : Int) ≤ (k : Int) := by omega
          have i1 : (k : Int) < (nd : Int) := by omega
          have O2 : Hid (Own (wr.setCell ⟨gL, k, none⟩ (.int .i64 k)) gL 3 (some ⟨gL, 0, none⟩) nd nd (ints (lk nd (k + 1)))) := Lib.hid (by
            have h := hO.out.set (i := k) (.int .i64 (k : Int))
            rw [← lk_set hlt, ints, List.map_set]
            exact h)
          have G2 : Hid (Fr F0 w1 (wr.setCell ⟨gL, k, none⟩ (.int .i64 k))) := Lib.hid (hF.out.set0 (p := ⟨gL, k, none⟩) (Nat.le_of_eq HgL.out.symm) _)
          clear hO hF
          go_wp2_with fail
          go_roundw
          case rel => exact ⟨k + 1, by omega, by go_num, O2, G2⟩
          case measure => simp [intOf]; omega
        · obtain rfl : k = nd := by omega
          have hOr : Hid (Rd wr (some ⟨gL, 0, none⟩) k (ints (nats (List.range k)))) := Lib.hid (by have h := hO.out.rd; rwa [lk_all] at h)
          have hRe := HRe.out
          have C0' := Lib.hid (C0.out.fr hF.out id)
          have C1' := Lib.hid (C1.out.fr hF.out id)
          have F2' := Lib.hid (F2.out.trans0 hF.out)
          have hs2' : Hid (w.heap.size + 2 ≤ wr.heap.size) := Lib.hid (by have := hF.out.size; have := hs2.out; omega)
          have hSr : Hid (∀ j, S j → j < wr.heap.size) := Lib.hid (fun j h => by have := SD'.out j h; have := hF.out.size; omega)
          have D1 := Lib.hid (OD'.out.fr0 hF.out)
          have D2 := Lib.hid (RD'.out.fr0 hF.out)
          clear C0 C1 F2 hs2 OD' RD' SD' hF hO z0 z1 z2 z3 hRe
          have C0 := C0'
          have C1 := C1'
          have F2 := F2'
          have hs2 := hs2'
          clear C0' C1' F2' hs2'
          go_wp2_with fail
          refine (bytes_any (some ⟨gL, 0, none⟩) ad k k cd (List.range k) P vs S _ hOr.out D1.out D2.out hSr.out (fun p hp => by have := List.mem_range.1 hp; omega) (fun d hd => by have := HP2.out d hd; have := Hln.out.2.1; omega) hnd2).mono ?_
          rintro e w5 ⟨ar, mr, cr, hmr, rfl, O5, F5⟩
          rw [← HRe.out] at hmr O5
          obtain rfl : mr = mR := by rw [hmr, HmR.out]
          have RdN := Lib.hid O5.rd
          replace C0 := Lib.hid (C0.out.fr F5 id)
          replace C1 := Lib.hid (C1.out.fr F5 id)
          replace F2 := Lib.hid (F2.out.trans0 F5)
          replace hs2 : Hid (w.heap.size + 2 ≤ w5.heap.size) := Lib.hid (by have := F5.size; have := hs2.out; omega)
          clear O5 F5 hOr hSr D1 D2 hmr
          have z0 := C0.out.cell (i := 0) rfl
          have z1 := C0.out.cell (i := 1) rfl
          have z2 := C0.out.cell (i := 2) rfl
          have z3 := C0.out.cell (i := 3) rfl
          have Hcase : Hid (af = 0 ∨ (0 < af ∧ af < (mr : Int)) ∨ af < 0 ∨ (0 < af ∧ (mr : Int) ≤ af)) := Lib.hid (by omega)
          rcases Hcase.out with haf | ⟨haf, haf2⟩ | haf | ⟨haf, haf2⟩
          · subst haf
            have E : Hid (Q = (⟨page, bs, sy, 0⟩, 27)) := Lib.hid (by rw [HQ.out, if_pos (.inl rfl)])
            have e2 := E.out
            clear HQ E
            subst e2
            go_wp2_with fail
            refine (copied_any page sy 0 a n c a n c bs _ (Hr.out.fr0 F2.out) Hn2.out).mono ?_
            rintro e w8 ⟨a', c', rfl, O8, F8⟩
            have hs8 : w5.heap.size ≤ w8.heap.size := F8.size
            have hoff : Hid (¬ onBlk a' w8.heap.size) := Lib.hid (fun h => by have := (O8.blk _ h).2; omega)
            have n8 : Hid (w.heap.size + 2 ≤ w8.heap.size) := Lib.hid (by have := hs2.out; omega)
            have hof2 : Hid (∀ j, onBlk a' j → w.heap.size + 2 ≤ j) := Lib.hid (fun j h => by have := (O8.blk _ h).1; have := hs2.out; omega)
            have n8B : w8.heap.size ≠ bB := by have := n8.out; have := Hbb.out; omega
            have nB8 : bB ≠ w8.heap.size := fun e => n8B e.symm
            have n8A : w8.heap.size ≠ bA := by have := n8.out; have := Hbb.out; omega
            have nA8 : bA ≠ w8.heap.size := fun e => n8A e.symm
            clear z0 z1 z2 z3
            have A80 : Fr F0 w5 (w8.alloc (.cells #[.int .i64 page, .slice a' n c', .int .i64 sy, .int .i64 0] 24)) := F8.alloc _
            have K80 := Lib.hid (Blk.new w8 24 [.int .i64 page, .slice a' n c', .int .i64 sy, .int .i64 0])
            have C00 := Lib.hid (C0.out.fr A80 id)
            have C10 := Lib.hid (C1.out.fr A80 id)
            have z0 := C00.out.cell (i := 0) rfl
            have z1 := C00.out.cell (i := 1) rfl
            have z2 := C00.out.cell (i := 2) rfl
            have z3 := C00.out.cell (i := 3) rfl
            have k0 := K80.out.cell (i := 0) rfl
            have k1 := K80.out.cell (i := 1) rfl
            have k2 := K80.out.cell (i := 2) rfl
            have k3 := K80.out.cell (i := 3) rfl
            have y0 := C10.out.cell (i := 0) rfl
            have y1 := C10.out.cell (i := 1) rfl
            have y2 := C10.out.cell (i := 2) rfl
            have y3 := C10.out.cell (i := 3) rfl
            have f0 := K80.out.free 0
            have f1 := K80.out.free 1
            have f2 := K80.out.free 2
            have f3 := K80.out.free 3
            have h0 := C10.out.free 0
            have h1 := C10.out.free 1
            have h2 := C10.out.free 2
            have h3 := C10.out.free 3
            have O9 := Lib.hid ((O8.alloc (.cells #[.int .i64 page, .slice a' n c', .int .i64 sy, .int .i64 0] 24)).mono (B' := w.heap.size + 2) (by have := hs2.out; omega))
            have F9 := Lib.hid (F2.out.trans0 A80)
            clear O8 F8 hs8 A80 C00 K80  C0 C1
            go_wp2_with fail
            clear z0 z1 z2 z3 k0 k1 k2 k3 y0 y1 y2 y3 f0 f1 f2 f3 h0 h1 h2 h3
            generalize (w8.alloc (.cells #[.int .i64 page, .slice a' n c', .int .i64 sy, .int .i64 0] 24)) = W8 at *
            generalize w8.heap.size = b8 at *
            have C1 := C10
            have g := ((((C1.out.set 0 (.int .i64 page)).set 1 (.slice a' n c')).set 2 (.int .i64 sy)).set 3 (.int .i64 0))
            have g0 := g.cell (i := 0) rfl
            have g1 := g.cell (i := 1) rfl
            have g2 := g.cell (i := 2) rfl
            have g3 := g.cell (i := 3) rfl
            have G : Fr (fun j => j = bB ∨ j = b8) W8 ((((W8.setCell ⟨bB, 0, none⟩ (.int .i64 page)).setCell ⟨bB, 1, none⟩ (.slice a' n c')).setCell ⟨bB, 2, none⟩ (.int .i64 sy)).setCell ⟨bB, 3, none⟩ (.int .i64 0)) := by
              refine (Fr.setCell (p := ⟨bB, 3, none⟩) (Fr.setCell (p := ⟨bB, 2, none⟩) (Fr.setCell (p := ⟨bB, 1, none⟩) (Fr.setCell (p := ⟨bB, 0, none⟩) (Fr.refl _ _) ?_ _) ?_ _) ?_ _) ?_ _)
              all_goals first | exact fun _ => Or.inl rfl | exact fun _ => Or.inr rfl
            refine bodyPost_ret (v := .tuple #[.agg #[.int .i64 page, .slice a' n c', .int .i64 sy, .int .i64 0], .int .i64 27]) ?_ rfl ?_
            · simp [results, Try.results28, go_sem, g0, g1, g2, g3]
            exact ⟨a', n, c', Hbl.out.symm, rfl, (O9.out.fr G (fun j h h2 => h2.elim (fun h2 => by have := hof2.out j h; have := Hbb.out; omega) (fun h2 => hoff.out (h2 ▸ h)))).mono (by omega), F9.out.trans G (fun j h1 h2 => by have := Hbb.out; have := n8.out; omega)⟩
          · have haf3 : ¬ af = 0 := by omega
            have E : Hid (Q = (⟨page, bs, sy, 0⟩, 27)) := Lib.hid (by rw [HQ.out, if_pos (.inr ⟨haf, haf2⟩)])
            have e2 := E.out
            clear HQ E
            subst e2
            go_wp2_with fail
            refine (copied_any page sy af a n c a n c bs _ (Hr.out.fr0 F2.out) Hn2.out).mono ?_
            rintro e w8 ⟨a', c', rfl, O8, F8⟩
            have hs8 : w5.heap.size ≤ w8.heap.size := F8.size
            have hoff : Hid (¬ onBlk a' w8.heap.size) := Lib.hid (fun h => by have := (O8.blk _ h).2; omega)
            have n8 : Hid (w.heap.size + 2 ≤ w8.heap.size) := Lib.hid (by have := hs2.out; omega)
            have hof2 : Hid (∀ j, onBlk a' j → w.heap.size + 2 ≤ j) := Lib.hid (fun j h => by have := (O8.blk _ h).1; have := hs2.out; omega)
            have n8B : w8.heap.size ≠ bB := by have := n8.out; have := Hbb.out; omega
            have nB8 : bB ≠ w8.heap.size := fun e => n8B e.symm
            have n8A : w8.heap.size ≠ bA := by have := n8.out; have := Hbb.out; omega
            have nA8 : bA ≠ w8.heap.size := fun e => n8A e.symm
            clear z0 z1 z2 z3
            have A80 : Fr F0 w5 (w8.alloc (.cells #[.int .i64 page, .slice a' n c', .int .i64 sy, .int .i64 af] 24)) := F8.alloc _
            have K80 := Lib.hid (Blk.new w8 24 [.int .i64 page, .slice a' n c', .int .i64 sy, .int .i64 af])
            have C00 := Lib.hid (C0.out.fr A80 id)
            have C10 := Lib.hid (C1.out.fr A80 id)
            have z0 := C00.out.cell (i := 0) rfl
            have z1 := C00.out.cell (i := 1) rfl
            have z2 := C00.out.cell (i := 2) rfl
            have z3 := C00.out.cell (i := 3) rfl
            have k0 := K80.out.cell (i := 0) rfl
            have k1 := K80.out.cell (i := 1) rfl
            have k2 := K80.out.cell (i := 2) rfl
            have k3 := K80.out.cell (i := 3) rfl
            have y0 := C10.out.cell (i := 0) rfl
            have y1 := C10.out.cell (i := 1) rfl
            have y2 := C10.out.cell (i := 2) rfl
            have y3 := C10.out.cell (i := 3) rfl
            have f0 := K80.out.free 0
            have f1 := K80.out.free 1
            have f2 := K80.out.free 2
            have f3 := K80.out.free 3
            have h0 := C10.out.free 0
            have h1 := C10.out.free 1
            have h2 := C10.out.free 2
            have h3 := C10.out.free 3
            have A81 : Fr F0 w5 (w8.alloc (.cells #[.int .i64 page, .slice a' n c', .int .i64 sy, .int .i64 0] 24)) := F8.alloc _
            have K81 := Lib.hid (Blk.new w8 24 [.int .i64 page, .slice a' n c', .int .i64 sy, .int .i64 0])
            have C01 := Lib.hid (C0.out.fr A81 id)
            have C11 := Lib.hid (C1.out.fr A81 id)
            have zx0 := C01.out.cell (i := 0) rfl
            have zx1 := C01.out.cell (i := 1) rfl
            have zx2 := C01.out.cell (i := 2) rfl
            have zx3 := C01.out.cell (i := 3) rfl
            have kx0 := K81.out.cell (i := 0) rfl
            have kx1 := K81.out.cell (i := 1) rfl
            have kx2 := K81.out.cell (i := 2) rfl
            have kx3 := K81.out.cell (i := 3) rfl
            have yx0 := C11.out.cell (i := 0) rfl
            have yx1 := C11.out.cell (i := 1) rfl
            have yx2 := C11.out.cell (i := 2) rfl
            have yx3 := C11.out.cell (i := 3) rfl
            have fx0 := K81.out.free 0
            have fx1 := K81.out.free 1
            have fx2 := K81.out.free 2
            have fx3 := K81.out.free 3
            have hx0 := C11.out.free 0
            have hx1 := C11.out.free 1
            have hx2 := C11.out.free 2
            have hx3 := C11.out.free 3
            have O9 := Lib.hid ((O8.alloc (.cells #[.int .i64 page, .slice a' n c', .int .i64 sy, .int .i64 0] 24)).mono (B' := w.heap.size + 2) (by have := hs2.out; omega))
            have F9 := Lib.hid (F2.out.trans0 A81)
            clear O8 F8 hs8 A80 A81 C00 K80 C01 K81 C10 C0 C1
            go_wp2_with fail
            clear z0 z1 z2 z3 k0 k1 k2 k3 y0 y1 y2 y3 f0 f1 f2 f3 h0 h1 h2 h3 zx0 zx1 zx2 zx3 kx0 kx1 kx2 kx3 yx0 yx1 yx2 yx3 fx0 fx1 fx2 fx3 hx0 hx1 hx2 hx3
            generalize (w8.alloc (.cells #[.int .i64 page, .slice a' n c', .int .i64 sy, .int .i64 0] 24)) = W8 at *
            generalize w8.heap.size = b8 at *
            have C1 := C11
            have g := ((((C1.out.set 0 (.int .i64 page)).set 1 (.slice a' n c')).set 2 (.int .i64 sy)).set 3 (.int .i64 0))
            have g0 := g.cell (i := 0) rfl
            have g1 := g.cell (i := 1) rfl
            have g2 := g.cell (i := 2) rfl
            have g3 := g.cell (i := 3) rfl
            have G : Fr (fun j => j = bB ∨ j = b8) W8 ((((W8.setCell ⟨bB, 0, none⟩ (.int .i64 page)).setCell ⟨bB, 1, none⟩ (.slice a' n c')).setCell ⟨bB, 2, none⟩ (.int .i64 sy)).setCell ⟨bB, 3, none⟩ (.int .i64 0)) := by
              refine (Fr.setCell (p := ⟨bB, 3, none⟩) (Fr.setCell (p := ⟨bB, 2, none⟩) (Fr.setCell (p := ⟨bB, 1, none⟩) (Fr.setCell (p := ⟨bB, 0, none⟩) (Fr.refl _ _) ?_ _) ?_ _) ?_ _) ?_ _)
              all_goals first | exact fun _ => Or.inl rfl | exact fun _ => Or.inr rfl
            refine bodyPost_ret (v := .tuple #[.agg #[.int .i64 page, .slice a' n c', .int .i64 sy, .int .i64 0], .int .i64 27]) ?_ rfl ?_
            · simp [results, Try.results28, go_sem, g0, g1, g2, g3]
            exact ⟨a', n, c', Hbl.out.symm, rfl, (O9.out.fr G (fun j h h2 => h2.elim (fun h2 => by have := hof2.out j h; have := Hbb.out; omega) (fun h2 => hoff.out (h2 ▸ h)))).mono (by omega), F9.out.trans G (fun j h1 h2 => by have := Hbb.out; have := n8.out; omega)⟩
          · have haf3 : ¬ af = 0 := by omega
            have haf4 : ¬ 0 < af := by omega
            have E : Hid (Q = (⟨page, R, ((mr : Nat) : Int), af⟩, 0)) := Lib.hid (by rw [HQ.out, if_neg (by omega), if_neg haf4])
            have e2 := E.out
            clear HQ E
            subst e2
            go_wp2_with fail
            refine (copied_any page sy af a n c ar mr cr R _ (RdN.out) (by omega)).mono ?_
            rintro e w8 ⟨a', c', rfl, O8, F8⟩
            have hs8 : w5.heap.size ≤ w8.heap.size := F8.size
            have hoff : Hid (¬ onBlk a' w8.heap.size) := Lib.hid (fun h => by have := (O8.blk _ h).2; omega)
            have n8 : Hid (w.heap.size + 2 ≤ w8.heap.size) := Lib.hid (by have := hs2.out; omega)
            have hof2 : Hid (∀ j, onBlk a' j → w.heap.size + 2 ≤ j) := Lib.hid (fun j h => by have := (O8.blk _ h).1; have := hs2.out; omega)
            have n8B : w8.heap.size ≠ bB := by have := n8.out; have := Hbb.out; omega
            have nB8 : bB ≠ w8.heap.size := fun e => n8B e.symm
            have n8A : w8.heap.size ≠ bA := by have := n8.out; have := Hbb.out; omega
            have nA8 : bA ≠ w8.heap.size := fun e => n8A e.symm
            clear z0 z1 z2 z3
            have A80 : Fr F0 w5 (w8.alloc (.cells #[.int .i64 page, .slice a' mr c', .int .i64 sy, .int .i64 af] 24)) := F8.alloc _
            have K80 := Lib.hid (Blk.new w8 24 [.int .i64 page, .slice a' mr c', .int .i64 sy, .int .i64 af])
            have C00 := Lib.hid (C0.out.fr A80 id)
            have C10 := Lib.hid (C1.out.fr A80 id)
            have z0 := C00.out.cell (i := 0) rfl
            have z1 := C00.out.cell (i := 1) rfl
            have z2 := C00.out.cell (i := 2) rfl
            have z3 := C00.out.cell (i := 3) rfl
            have k0 := K80.out.cell (i := 0) rfl
            have k1 := K80.out.cell (i := 1) rfl
            have k2 := K80.out.cell (i := 2) rfl
            have k3 := K80.out.cell (i := 3) rfl
            have y0 := C10.out.cell (i := 0) rfl
            have y1 := C10.out.cell (i := 1) rfl
            have y2 := C10.out.cell (i := 2) rfl
            have y3 := C10.out.cell (i := 3) rfl
            have f0 := K80.out.free 0
            have f1 := K80.out.free 1
            have f2 := K80.out.free 2
            have f3 := K80.out.free 3
            have h0 := C10.out.free 0
            have h1 := C10.out.free 1
            have h2 := C10.out.free 2
            have h3 := C10.out.free 3
            have A81 : Fr F0 w5 (w8.alloc (.cells #[.int .i64 page, .slice a' mr c', .int .i64 mr, .int .i64 af] 24)) := F8.alloc _
            have K81 := Lib.hid (Blk.new w8 24 [.int .i64 page, .slice a' mr c', .int .i64 mr, .int .i64 af])
            have C01 := Lib.hid (C0.out.fr A81 id)
            have C11 := Lib.hid (C1.out.fr A81 id)
            have zx0 := C01.out.cell (i := 0) rfl
            have zx1 := C01.out.cell (i := 1) rfl
            have zx2 := C01.out.cell (i := 2) rfl
            have zx3 := C01.out.cell (i := 3) rfl
            have kx0 := K81.out.cell (i := 0) rfl
            have kx1 := K81.out.cell (i := 1) rfl
            have kx2 := K81.out.cell (i := 2) rfl
            have kx3 := K81.out.cell (i := 3) rfl
            have yx0 := C11.out.cell (i := 0) rfl
            have yx1 := C11.out.cell (i := 1) rfl
            have yx2 := C11.out.cell (i := 2) rfl
            have yx3 := C11.out.cell (i := 3) rfl
            have fx0 := K81.out.free 0
            have fx1 := K81.out.free 1
            have fx2 := K81.out.free 2
            have fx3 := K81.out.free 3
            have hx0 := C11.out.free 0
            have hx1 := C11.out.free 1
            have hx2 := C11.out.free 2
            have hx3 := C11.out.free 3
            have O9 := Lib.hid ((O8.alloc (.cells #[.int .i64 page, .slice a' mr c', .int .i64 mr, .int .i64 af] 24)).mono (B' := w.heap.size + 2) (by have := hs2.out; omega))
            have F9 := Lib.hid (F2.out.trans0 A81)
            clear O8 F8 hs8 A80 A81 C00 K80 C01 K81 C10 C0 C1
            go_wp2_with fail
            clear z0 z1 z2 z3 k0 k1 k2 k3 y0 y1 y2 y3 f0 f1 f2 f3 h0 h1 h2 h3 zx0 zx1 zx2 zx3 kx0 kx1 kx2 kx3 yx0 yx1 yx2 yx3 fx0 fx1 fx2 fx3 hx0 hx1 hx2 hx3
            generalize (w8.alloc (.cells #[.int .i64 page, .slice a' mr c', .int .i64 mr, .int .i64 af] 24)) = W8 at *
            generalize w8.heap.size = b8 at *
            have C1 := C11
            have g := ((((C1.out.set 0 (.int .i64 page)).set 1 (.slice a' mr c')).set 2 (.int .i64 mr)).set 3 (.int .i64 af))
            have g0 := g.cell (i := 0) rfl
            have g1 := g.cell (i := 1) rfl
            have g2 := g.cell (i := 2) rfl
            have g3 := g.cell (i := 3) rfl
            have G : Fr (fun j => j = bB ∨ j = b8) W8 ((((W8.setCell ⟨bB, 0, none⟩ (.int .i64 page)).setCell ⟨bB, 1, none⟩ (.slice a' mr c')).setCell ⟨bB, 2, none⟩ (.int .i64 mr)).setCell ⟨bB, 3, none⟩ (.int .i64 af)) := by
              refine (Fr.setCell (p := ⟨bB, 3, none⟩) (Fr.setCell (p := ⟨bB, 2, none⟩) (Fr.setCell (p := ⟨bB, 1, none⟩) (Fr.setCell (p := ⟨bB, 0, none⟩) (Fr.refl _ _) ?_ _) ?_ _) ?_ _) ?_ _)
              all_goals first | exact fun _ => Or.inl rfl | exact fun _ => Or.inr rfl
            refine bodyPost_ret (v := .tuple #[.agg #[.int .i64 page, .slice a' mr c', .int .i64 mr, .int .i64 af], .int .i64 0]) ?_ rfl ?_
            · simp [results, Try.results28, go_sem, g0, g1, g2, g3]
            exact ⟨a', mr, c', HmR.out, rfl, (O9.out.fr G (fun j h h2 => h2.elim (fun h2 => by have := hof2.out j h; have := Hbb.out; omega) (fun h2 => hoff.out (h2 ▸ h)))).mono (by omega), F9.out.trans G (fun j h1 h2 => by have := Hbb.out; have := n8.out; omega)⟩
          · have haf3 : ¬ af = 0 := by omega
            have hb0 : (af == 0) = false := by simpa using haf3
            have E : Hid (Q = (⟨page, R, ((mr : Nat) : Int), af - (mr : Int)⟩, 0)) := Lib.hid (by rw [HQ.out, if_neg (by omega), if_pos haf])
            have e2 := E.out
            clear HQ E
            subst e2
            go_wp2_with fail
            refine (copied_any page sy af a n c ar mr cr R _ (RdN.out) (by omega)).mono ?_
            rintro e w8 ⟨a', c', rfl, O8, F8⟩
            have hs8 : w5.heap.size ≤ w8.heap.size := F8.size
            have hoff : Hid (¬ onBlk a' w8.heap.size) := Lib.hid (fun h => by have := (O8.blk _ h).2; omega)
            have n8 : Hid (w.heap.size + 2 ≤ w8.heap.size) := Lib.hid (by have := hs2.out; omega)
            have hof2 : Hid (∀ j, onBlk a' j → w.heap.size + 2 ≤ j) := Lib.hid (fun j h => by have := (O8.blk _ h).1; have := hs2.out; omega)
            have n8B : w8.heap.size ≠ bB := by have := n8.out; have := Hbb.out; omega
            have nB8 : bB ≠ w8.heap.size := fun e => n8B e.symm
            have n8A : w8.heap.size ≠ bA := by have := n8.out; have := Hbb.out; omega
            have nA8 : bA ≠ w8.heap.size := fun e => n8A e.symm
            clear z0 z1 z2 z3
            have A80 : Fr F0 w5 (w8.alloc (.cells #[.int .i64 page, .slice a' mr c', .int .i64 sy, .int .i64 af] 24)) := F8.alloc _
            have K80 := Lib.hid (Blk.new w8 24 [.int .i64 page, .slice a' mr c', .int .i64 sy, .int .i64 af])
            have C00 := Lib.hid (C0.out.fr A80 id)
            have C10 := Lib.hid (C1.out.fr A80 id)
            have z0 := C00.out.cell (i := 0) rfl
            have z1 := C00.out.cell (i := 1) rfl
            have z2 := C00.out.cell (i := 2) rfl
            have z3 := C00.out.cell (i := 3) rfl
            have k0 := K80.out.cell (i := 0) rfl
            have k1 := K80.out.cell (i := 1) rfl
            have k2 := K80.out.cell (i := 2) rfl
            have k3 := K80.out.cell (i := 3) rfl
            have y0 := C10.out.cell (i := 0) rfl
            have y1 := C10.out.cell (i := 1) rfl
            have y2 := C10.out.cell (i := 2) rfl
            have y3 := C10.out.cell (i := 3) rfl
            have f0 := K80.out.free 0
            have f1 := K80.out.free 1
            have f2 := K80.out.free 2
            have f3 := K80.out.free 3
            have h0 := C10.out.free 0
            have h1 := C10.out.free 1
            have h2 := C10.out.free 2
            have h3 := C10.out.free 3
            have A81 : Fr F0 w5 (w8.alloc (.cells #[.int .i64 page, .slice a' mr c', .int .i64 mr, .int .i64 af] 24)) := F8.alloc _
            have K81 := Lib.hid (Blk.new w8 24 [.int .i64 page, .slice a' mr c', .int .i64 mr, .int .i64 af])
            have C01 := Lib.hid (C0.out.fr A81 id)
            have C11 := Lib.hid (C1.out.fr A81 id)
            have zx0 := C01.out.cell (i := 0) rfl
            have zx1 := C01.out.cell (i := 1) rfl
            have zx2 := C01.out.cell (i := 2) rfl
            have zx3 := C01.out.cell (i := 3) rfl
            have kx0 := K81.out.cell (i := 0) rfl
            have kx1 := K81.out.cell (i := 1) rfl
            have kx2 := K81.out.cell (i := 2) rfl
            have kx3 := K81.out.cell (i := 3) rfl
            have yx0 := C11.out.cell (i := 0) rfl
            have yx1 := C11.out.cell (i := 1) rfl
            have yx2 := C11.out.cell (i := 2) rfl
            have yx3 := C11.out.cell (i := 3) rfl
            have fx0 := K81.out.free 0
            have fx1 := K81.out.free 1
            have fx2 := K81.out.free 2
            have fx3 := K81.out.free 3
            have hx0 := C11.out.free 0
            have hx1 := C11.out.free 1
            have hx2 := C11.out.free 2
            have hx3 := C11.out.free 3
            have A82 : Fr F0 w5 (w8.alloc (.cells #[.int .i64 page, .slice a' mr c', .int .i64 mr, .int .i64 (af - (mr : Int))] 24)) := F8.alloc _
            have K82 := Lib.hid (Blk.new w8 24 [.int .i64 page, .slice a' mr c', .int .i64 mr, .int .i64 (af - (mr : Int))])
            have C02 := Lib.hid (C0.out.fr A82 id)
            have C12 := Lib.hid (C1.out.fr A82 id)
            have zxx0 := C02.out.cell (i := 0) rfl
            have zxx1 := C02.out.cell (i := 1) rfl
            have zxx2 := C02.out.cell (i := 2) rfl
            have zxx3 := C02.out.cell (i := 3) rfl
            have kxx0 := K82.out.cell (i := 0) rfl
            have kxx1 := K82.out.cell (i := 1) rfl
            have kxx2 := K82.out.cell (i := 2) rfl
            have kxx3 := K82.out.cell (i := 3) rfl
            have yxx0 := C12.out.cell (i := 0) rfl
            have yxx1 := C12.out.cell (i := 1) rfl
            have yxx2 := C12.out.cell (i := 2) rfl
            have yxx3 := C12.out.cell (i := 3) rfl
            have fxx0 := K82.out.free 0
            have fxx1 := K82.out.free 1
            have fxx2 := K82.out.free 2
            have fxx3 := K82.out.free 3
            have hxx0 := C12.out.free 0
            have hxx1 := C12.out.free 1
            have hxx2 := C12.out.free 2
            have hxx3 := C12.out.free 3
            have O9 := Lib.hid ((O8.alloc (.cells #[.int .i64 page, .slice a' mr c', .int .i64 mr, .int .i64 (af - (mr : Int))] 24)).mono (B' := w.heap.size + 2) (by have := hs2.out; omega))
            have F9 := Lib.hid (F2.out.trans0 A82)
            clear O8 F8 hs8 A80 A81 A82 C00 K80 C01 K81 C02 K82 C10 C11 C0 C1
            go_wp2_with fail
            clear z0 z1 z2 z3 k0 k1 k2 k3 y0 y1 y2 y3 f0 f1 f2 f3 h0 h1 h2 h3 zx0 zx1 zx2 zx3 kx0 kx1 kx2 kx3 yx0 yx1 yx2 yx3 fx0 fx1 fx2 fx3 hx0 hx1 hx2 hx3 zxx0 zxx1 zxx2 zxx3 kxx0 kxx1 kxx2 kxx3 yxx0 yxx1 yxx2 yxx3 fxx0 fxx1 fxx2 fxx3 hxx0 hxx1 hxx2 hxx3
            generalize (w8.alloc (.cells #[.int .i64 page, .slice a' mr c', .int .i64 mr, .int .i64 (af - (mr : Int))] 24)) = W8 at *
            generalize w8.heap.size = b8 at *
            have C1 := C12
            have g := ((((C1.out.set 0 (.int .i64 page)).set 1 (.slice a' mr c')).set 2 (.int .i64 mr)).set 3 (.int .i64 (af - (mr : Int))))
            have g0 := g.cell (i := 0) rfl
            have g1 := g.cell (i := 1) rfl
            have g2 := g.cell (i := 2) rfl
            have g3 := g.cell (i := 3) rfl
            have G : Fr (fun j => j = bB ∨ j = b8) W8 ((((W8.setCell ⟨bB, 0, none⟩ (.int .i64 page)).setCell ⟨bB, 1, none⟩ (.slice a' mr c')).setCell ⟨bB, 2, none⟩ (.int .i64 mr)).setCell ⟨bB, 3, none⟩ (.int .i64 (af - (mr : Int)))) := by
              refine (Fr.setCell (p := ⟨bB, 3, none⟩) (Fr.setCell (p := ⟨bB, 2, none⟩) (Fr.setCell (p := ⟨bB, 1, none⟩) (Fr.setCell (p := ⟨bB, 0, none⟩) (Fr.refl _ _) ?_ _) ?_ _) ?_ _) ?_ _)
              all_goals first | exact fun _ => Or.inl rfl | exact fun _ => Or.inr rfl
            refine bodyPost_ret (v := .tuple #[.agg #[.int .i64 page, .slice a' mr c', .int .i64 mr, .int .i64 (af - (mr : Int))], .int .i64 0]) ?_ rfl ?_
            · simp [results, Try.results28, go_sem, g0, g1, g2, g3]
            exact ⟨a', mr, c', HmR.out, rfl, (O9.out.fr G (fun j h h2 => h2.elim (fun h2 => by have := hof2.out j h; have := Hbb.out; omega) (fun h2 => hoff.out (h2 ▸ h)))).mono (by omega), F9.out.trans G (fun j h1 h2 => by have := Hbb.out; have := n8.out; omega)⟩
end Go.Proofs.Ytehpikjhjghplaa
