/- The reference's Commit. -/
import Derived.Test.YtehpikjhjghplaaB13
namespace Go.Proofs.Ytehpikjhjghplaa
open Go.RowKit
attribute [local go_sem ↓] Go.wp_at_zero Go.wp_at_succ
set_option maxRecDepth 100000 in
set_option maxHeartbeats 8000000 in
theorem refCommit_any (a : Option Addr) (n c : Nat) (pg sy af : Int) (bs : List UInt8) (a1 : Option Addr) (n1 c1 : Nat) (zs : List Int) (a2 : Option Addr) (n2 c2 : Nat) (vs : List Value) (ds : List (List UInt8)) (S : Nat → Prop) (w : World)
    (hr : Rd w a n (byt bs)) (hc : n ≤ c) (h1 : Rd w a1 n1 (ints zs)) (h2 : Rd w a2 n2 vs) (hR : RowsM w S vs ds) (hS : ∀ j, S j → j < w.heap.size) :
    Calls Try.prog 14 #[.agg (dskI pg a n c sy af), .slice a1 n1 c1, .slice a2 n2 c2] w (KPost (commitS pg bs sy af zs ds) w) := by
  have hbl : bs.length = n := by simpa using hr.len
  have hzl : zs.length = n1 := by simpa using h1.len
  have hdl : ds.length = n2 := by rw [← hR.len, h2.len]
  have hm1 := h1.max
  have hm2 := h2.max
  have FA : Fr F0 w ((w.alloc (.cells (dskI pg a n c sy af) 24)).alloc (.cells (dskI 0 none 0 0 0 0) 24)) := ((Fr.refl _ _).alloc _).alloc _
  have B0 : Blk ((w.alloc (.cells (dskI pg a n c sy af) 24)).alloc (.cells (dskI 0 none 0 0 0 0) 24)) w.heap.size 24 [.int .i64 pg, .slice a n c, .int .i64 sy, .int .i64 af] := (Blk.new w 24 [.int .i64 pg, .slice a n c, .int .i64 sy, .int .i64 af]).alloc _
  have B1 : Blk ((w.alloc (.cells (dskI pg a n c sy af) 24)).alloc (.cells (dskI 0 none 0 0 0 0) 24)) (w.heap.size + 1) 24 [.int .i64 0, .slice none 0 0, .int .i64 0, .int .i64 0] := by
    have h := Blk.new (w.alloc (.cells (dskI pg a n c sy af) 24)) 24 [.int .i64 0, .slice none 0 0, .int .i64 0, .int .i64 0]
    rwa [size_alloc] at h
  have hsz : ((w.alloc (.cells (dskI pg a n c sy af) 24)).alloc (.cells (dskI 0 none 0 0 0 0) 24)).heap.size = w.heap.size + 2 := by rw [size_alloc, size_alloc]
  have hval := refValid_any a n c pg sy af bs _ (hr.fr0 FA) hc
  have Hr := Lib.hid hr
  have H1 := Lib.hid h1
  have H2 := Lib.hid h2
  have HR := Lib.hid hR
  have HS := Lib.hid hS
  have Hbl := Lib.hid hbl
  have Hzl := Lib.hid hzl
  have Hdl := Lib.hid hdl
  have Hc := Lib.hid hc
  have Hval := Lib.hid hval
  obtain ⟨bA, hbA⟩ : ∃ b, b = w.heap.size := ⟨_, rfl⟩
  obtain ⟨bB, hbB⟩ : ∃ b, b = w.heap.size + 1 := ⟨_, rfl⟩
  have Hbb : Hid (bA = w.heap.size ∧ bB = w.heap.size + 1) := Lib.hid ⟨hbA, hbB⟩
  have nAB : bA ≠ bB := by omega
  have nBA : bB ≠ bA := by omega
  obtain ⟨R, hRR⟩ : ∃ R, R = commitS pg bs sy af zs ds := ⟨_, rfl⟩
  rw [← hRR]
  have HRR := Lib.hid hRR
  replace FA := Lib.hid FA
  replace B0 := Lib.hid B0
  replace B1 := Lib.hid B1
  replace hsz := Lib.hid hsz
  have HbA := Lib.hid hbA
  have HbB := Lib.hid hbB
  clear hr h1 h2 hR hS hbl hzl hdl hc hval hRR hbA hbB
  obtain ⟨vb, hvb⟩ : ∃ v, v = validB pg bs sy af := ⟨_, rfl⟩
  rw [← hvb] at Hval
  have Hvb := Lib.hid hvb
  clear hvb
  cases vb with
  | false =>
    have E : Hid (R = (zeroD, 1)) := Lib.hid (by rw [HRR.out]; unfold commitS; rw [← Hvb.out, if_neg (by decide)])
    clear hm1 hm2
    go_enter Try.func14, Try.ntmps14
    go_wp2_with fail
    refine Hval.out.mono ?_
    rintro e w1 ⟨rfl, F1⟩
    have CA := Lib.hid (B0.out.fr F1 id)
    have CB := Lib.hid (B1.out.fr F1 id)
    have FW := Lib.hid (FA.out.trans0 F1)
    have hs1 : Hid (w.heap.size + 2 ≤ w1.heap.size) := Lib.hid (by have := F1.size; rw [hsz.out] at this; omega)
    rw [← HbA.out] at CA
    rw [← HbB.out] at CB
    rw [← HbB.out, ← HbA.out]
    clear F1
    have y0 := CB.out.cell (i := 0) rfl
    have y1 := CB.out.cell (i := 1) rfl
    have y2 := CB.out.cell (i := 2) rfl
    have y3 := CB.out.cell (i := 3) rfl
    have f0 := CB.out.free 0
    have f1 := CB.out.free 1
    have f2 := CB.out.free 2
    have f3 := CB.out.free 3
    go_wp2_with fail
    clear y0 y1 y2 y3 f0 f1 f2 f3
    have g := ((((CB.out.set 0 (.int .i64 0)).set 1 (.slice none 0 0)).set 2 (.int .i64 0)).set 3 (.int .i64 0))
    have g0 := g.cell (i := 0) rfl
    have g1 := g.cell (i := 1) rfl
    have g2 := g.cell (i := 2) rfl
    have g3 := g.cell (i := 3) rfl
    have G : Fr (fun j => j = bB) w1 ((((w1.setCell ⟨bB, 0, none⟩ (.int .i64 0)).setCell ⟨bB, 1, none⟩ (.slice none 0 0)).setCell ⟨bB, 2, none⟩ (.int .i64 0)).setCell ⟨bB, 3, none⟩ (.int .i64 0)) := by
      refine Fr.setCell (p := ⟨bB, 3, none⟩) (Fr.setCell (p := ⟨bB, 2, none⟩) (Fr.setCell (p := ⟨bB, 1, none⟩) (Fr.setCell (p := ⟨bB, 0, none⟩) (Fr.refl _ _) ?_ _) ?_ _) ?_ _) ?_ _
      all_goals exact fun _ => rfl
    refine bodyPost_ret (v := .tuple #[.agg #[.int .i64 0, .slice none 0 0, .int .i64 0, .int .i64 0], .int .i64 1]) ?_ rfl ?_
    · simp [results, Try.results14, go_sem, g0, g1, g2, g3]
    rw [E.out]
    exact ⟨none, 0, 0, rfl, rfl, Own.nil _ _ _, FW.out.trans G (fun j h1 h2 => by have := Hbb.out; omega)⟩
  | true =>
    obtain ⟨⟨hp1, hp2⟩, ⟨ha1, ha2⟩, hlen, hsy, _⟩ := valid_of Hvb.out.symm
    obtain ⟨page, rfl⟩ := Int.eq_ofNat_of_zero_le (show 0 ≤ pg by omega)
    rw [Hbl.out] at hlen
    have HRv : Hid (R = if zs.length ≠ ds.length ∨ ds.any (fun d => decide (¬ (d.length : Int) = (page : Int))) = true then (zeroD, 3) else if 1000 < zs.length then (zeroD, 4) else if zs.any inP = true then (zeroD, 2) else if zs.Nodup then (if ¬ af = 0 ∧ 1048576 < (recs bs page).2 + (recB (zs.map Int.toNat) ds).length then (zeroD, 4) else writeS page bs sy af (recB (zs.map Int.toNat) ds)) else (zeroD, 10)) := Lib.hid (by rw [HRR.out]; unfold commitS; rw [← Hvb.out, if_pos rfl, Int.toNat_natCast])
    by_cases hne : n1 = n2
    case neg =>
      have d : ((n1 : Int) != (n2 : Int)) = true := by simp; omega
      have E : Hid (R = (zeroD, 3)) := Lib.hid (by rw [HRv.out, if_pos (.inl (by rw [Hzl.out, Hdl.out]; exact hne))])
      clear hm1 hm2 hne
      go_enter Try.func14, Try.ntmps14
      go_wp2_with fail
      refine Hval.out.mono ?_
      rintro e w1 ⟨rfl, F1⟩
      have CA := Lib.hid (B0.out.fr F1 id)
      have CB := Lib.hid (B1.out.fr F1 id)
      have FW := Lib.hid (FA.out.trans0 F1)
      have hs1 : Hid (w.heap.size + 2 ≤ w1.heap.size) := Lib.hid (by have := F1.size; rw [hsz.out] at this; omega)
      rw [← HbA.out] at CA
      rw [← HbB.out] at CB
      rw [← HbB.out, ← HbA.out]
      clear F1
      have y0 := CB.out.cell (i := 0) rfl
      have y1 := CB.out.cell (i := 1) rfl
      have y2 := CB.out.cell (i := 2) rfl
      have y3 := CB.out.cell (i := 3) rfl
      have f0 := CB.out.free 0
      have f1 := CB.out.free 1
      have f2 := CB.out.free 2
      have f3 := CB.out.free 3
      go_wp2_with fail
      clear y0 y1 y2 y3 f0 f1 f2 f3
      have g := ((((CB.out.set 0 (.int .i64 0)).set 1 (.slice none 0 0)).set 2 (.int .i64 0)).set 3 (.int .i64 0))
      have g0 := g.cell (i := 0) rfl
      have g1 := g.cell (i := 1) rfl
      have g2 := g.cell (i := 2) rfl
      have g3 := g.cell (i := 3) rfl
      have G : Fr (fun j => j = bB) w1 ((((w1.setCell ⟨bB, 0, none⟩ (.int .i64 0)).setCell ⟨bB, 1, none⟩ (.slice none 0 0)).setCell ⟨bB, 2, none⟩ (.int .i64 0)).setCell ⟨bB, 3, none⟩ (.int .i64 0)) := by
        refine Fr.setCell (p := ⟨bB, 3, none⟩) (Fr.setCell (p := ⟨bB, 2, none⟩) (Fr.setCell (p := ⟨bB, 1, none⟩) (Fr.setCell (p := ⟨bB, 0, none⟩) (Fr.refl _ _) ?_ _) ?_ _) ?_ _) ?_ _
        all_goals exact fun _ => rfl
      refine bodyPost_ret (v := .tuple #[.agg #[.int .i64 0, .slice none 0 0, .int .i64 0, .int .i64 0], .int .i64 3]) ?_ rfl ?_
      · simp [results, Try.results14, go_sem, g0, g1, g2, g3]
      rw [E.out]
      exact ⟨none, 0, 0, rfl, rfl, Own.nil _ _ _, FW.out.trans G (fun j h1 h2 => by have := Hbb.out; omega)⟩
    subst hne
    have dne : ((n1 : Int) != (n1 : Int)) = false := by simp
    go_enter Try.func14, Try.ntmps14
    go_wp2_with fail
    refine Hval.out.mono ?_
    rintro e w1 ⟨rfl, F1⟩
    have CA := Lib.hid (B0.out.fr F1 id)
    have CB := Lib.hid (B1.out.fr F1 id)
    have FW := Lib.hid (FA.out.trans0 F1)
    have hs1 : Hid (w.heap.size + 2 ≤ w1.heap.size) := Lib.hid (by have := F1.size; rw [hsz.out] at this; omega)
    rw [← HbA.out] at CA
    rw [← HbB.out] at CB
    rw [← HbB.out, ← HbA.out]
    clear F1
    go_wp2_with fail
    clear dne
    go_loopw [8] (fun s8 wr => ∃ k : Nat, k ≤ n1 ∧ s8 = .int .i64 k ∧ Hid ((ds.take k).any (fun d => decide (¬ (d.length : Int) = (page : Int))) = false) ∧ Hid (Blk wr bA 24 [.int .i64 page, .slice a n c, .int .i64 sy, .int .i64 af]) ∧ Hid (Blk wr bB 24 [.int .i64 0, .slice none 0 0, .int .i64 0, .int .i64 0]) ∧ Hid (w.heap.size + 2 ≤ wr.heap.size) ∧ Hid (Fr F0 w wr)) (fun s8 _ => n1 - (intOf s8).toNat)
    case atStart => exact ⟨0, by omega, rfl, Lib.hid rfl, CA, CB, hs1, FW⟩
    case round =>
      clear CA CB FW hs1
      obtain ⟨k, hk, rfl, hno, CA, CB, hs1, FW⟩ := hrel
      have hm2' := hm2
      by_cases hlt : k < n1
      · obtain ⟨b, o, ar, cr, d, hb, hdk, dc, _⟩ := rows_ix (H2.out.fr0 FW.out) (HR.out.fr0 FW.out) hlt
        subst hb
        obtain ⟨nn, hnn⟩ : ∃ nn, nn = d.length := ⟨_, rfl⟩
        rw [← hnn] at dc
        have Hnn := Lib.hid hnn
        have Hdk := Lib.hid hdk
        have i0 : (0 : Int) ≤ (k : Int) := by omega
        have i1 : (k : Int) < (n1 : Int) := by omega
        have x0 := CA.out.cell (i := 0) rfl
        clear hnn hdk
        by_cases he : nn = page
        · have d9 : ((nn : Int) != (page : Int)) = false := by simp; omega
          have hno2 : Hid ((ds.take (k + 1)).any (fun d => decide (¬ (d.length : Int) = (page : Int))) = false) := Lib.hid (by
            rw [List.take_add_one, Hdk.out, List.any_append, hno.out]
            simp only [Option.toList_some, List.any_cons, List.any_nil, Bool.or_false, Bool.false_or, ← Hnn.out]
            simp; omega)
          replace he := Lib.hid he
          go_wp2_with fail
          go_quiet (fail)
          have D := (Fr.refl F0 wr).drewN nq
          clear x0
          go_wp2_with fail
          go_roundw
          case rel => exact ⟨k + 1, by omega, by go_num, hno2, Lib.hid (CA.out.fr D id), Lib.hid (CB.out.fr D id), hs1, Lib.hid (FW.out.trans0 D)⟩
          case measure => simp [intOf]; omega
        · have d9 : ((nn : Int) != (page : Int)) = true := by simp; omega
          have E : Hid (R = (zeroD, 3)) := Lib.hid (by
            rw [HRv.out, if_pos (.inr (List.any_eq_true.2 ⟨d, List.mem_of_getElem? Hdk.out, by rw [← Hnn.out]; simp; omega⟩))])
          replace he := Lib.hid he
          go_wp2_with fail
          go_quiet (fail)
          have D := (Fr.refl F0 wr).drewN nq
          replace CB := Lib.hid (CB.out.fr D id)
          replace FW := Lib.hid (FW.out.trans0 D)
          clear D x0
          generalize wr.drewN nq = wt at *
          have y0 := CB.out.cell (i := 0) rfl
          have y1 := CB.out.cell (i := 1) rfl
          have y2 := CB.out.cell (i := 2) rfl
          have y3 := CB.out.cell (i := 3) rfl
          have f0 := CB.out.free 0
          have f1 := CB.out.free 1
          have f2 := CB.out.free 2
          have f3 := CB.out.free 3
          go_wp2_with fail
          clear y0 y1 y2 y3 f0 f1 f2 f3
          have g := ((((CB.out.set 0 (.int .i64 0)).set 1 (.slice none 0 0)).set 2 (.int .i64 0)).set 3 (.int .i64 0))
          have g0 := g.cell (i := 0) rfl
          have g1 := g.cell (i := 1) rfl
          have g2 := g.cell (i := 2) rfl
          have g3 := g.cell (i := 3) rfl
          have G : Fr (fun j => j = bB) wt ((((wt.setCell ⟨bB, 0, none⟩ (.int .i64 0)).setCell ⟨bB, 1, none⟩ (.slice none 0 0)).setCell ⟨bB, 2, none⟩ (.int .i64 0)).setCell ⟨bB, 3, none⟩ (.int .i64 0)) := by
            refine Fr.setCell (p := ⟨bB, 3, none⟩) (Fr.setCell (p := ⟨bB, 2, none⟩) (Fr.setCell (p := ⟨bB, 1, none⟩) (Fr.setCell (p := ⟨bB, 0, none⟩) (Fr.refl _ _) ?_ _) ?_ _) ?_ _) ?_ _
            all_goals exact fun _ => rfl
          refine bodyPost_ret (v := .tuple #[.agg #[.int .i64 0, .slice none 0 0, .int .i64 0, .int .i64 0], .int .i64 3]) ?_ rfl ?_
          · simp [results, Try.results14, go_sem, g0, g1, g2, g3]
          rw [E.out]
          exact ⟨none, 0, 0, rfl, rfl, Own.nil _ _ _, FW.out.trans G (fun j h1 h2 => by have := Hbb.out; omega)⟩
      · obtain rfl : k = n1 := by omega
        have hall : Hid (ds.any (fun d => decide (¬ (d.length : Int) = (page : Int))) = false) := Lib.hid (by have h := hno.out; rwa [List.take_of_length_le (by have := Hdl.out; omega)] at h)
        have HRw : Hid (R = if 1000 < k then (zeroD, 4) else if zs.any inP = true then (zeroD, 2) else if zs.Nodup then (if ¬ af = 0 ∧ 1048576 < (recs bs page).2 + (recB (zs.map Int.toNat) ds).length then (zeroD, 4) else writeS page bs sy af (recB (zs.map Int.toNat) ds)) else (zeroD, 10)) := Lib.hid (by
          rw [HRv.out, if_neg (by rw [Hzl.out, Hdl.out, hall.out]; simp), Hzl.out])
        have hdpg : Hid (∀ d ∈ ds, d.length = page) := Lib.hid (fun d hd => by
          have h := List.any_eq_false.1 hall.out d hd
          simp at h
          omega)
        by_cases hbig : 1000 < k
        · have d4 : decide ((1000 : Int) < (k : Int)) = true := by simp; omega
          have E : Hid (R = (zeroD, 4)) := Lib.hid (by rw [HRw.out, if_pos hbig])
          replace hbig := Lib.hid hbig
          have y0 := CB.out.cell (i := 0) rfl
          have y1 := CB.out.cell (i := 1) rfl
          have y2 := CB.out.cell (i := 2) rfl
          have y3 := CB.out.cell (i := 3) rfl
          have f0 := CB.out.free 0
          have f1 := CB.out.free 1
          have f2 := CB.out.free 2
          have f3 := CB.out.free 3
          go_wp2_with fail
          clear y0 y1 y2 y3 f0 f1 f2 f3
          have g := ((((CB.out.set 0 (.int .i64 0)).set 1 (.slice none 0 0)).set 2 (.int .i64 0)).set 3 (.int .i64 0))
          have g0 := g.cell (i := 0) rfl
          have g1 := g.cell (i := 1) rfl
          have g2 := g.cell (i := 2) rfl
          have g3 := g.cell (i := 3) rfl
          have G : Fr (fun j => j = bB) wr ((((wr.setCell ⟨bB, 0, none⟩ (.int .i64 0)).setCell ⟨bB, 1, none⟩ (.slice none 0 0)).setCell ⟨bB, 2, none⟩ (.int .i64 0)).setCell ⟨bB, 3, none⟩ (.int .i64 0)) := by
            refine Fr.setCell (p := ⟨bB, 3, none⟩) (Fr.setCell (p := ⟨bB, 2, none⟩) (Fr.setCell (p := ⟨bB, 1, none⟩) (Fr.setCell (p := ⟨bB, 0, none⟩) (Fr.refl _ _) ?_ _) ?_ _) ?_ _) ?_ _
            all_goals exact fun _ => rfl
          refine bodyPost_ret (v := .tuple #[.agg #[.int .i64 0, .slice none 0 0, .int .i64 0, .int .i64 0], .int .i64 4]) ?_ rfl ?_
          · simp [results, Try.results14, go_sem, g0, g1, g2, g3]
          rw [E.out]
          exact ⟨none, 0, 0, rfl, rfl, Own.nil _ _ _, FW.out.trans G (fun j h1 h2 => by have := Hbb.out; omega)⟩
        · have d4 : decide ((1000 : Int) < (k : Int)) = false := by simp; omega
          have hn1 : k ≤ 1000 := by omega
          replace hbig := Lib.hid hbig
          go_wp2_with fail
          clear d4
          go_loop [9] (fun s9 => ∃ j : Nat, j ≤ k ∧ s9 = .int .i64 j ∧ Hid ((zs.take j).any inP = false)) (fun s9 => k - (intOf s9).toNat)
          case atStart => exact ⟨0, by omega, rfl, Lib.hid rfl⟩
          case round =>
            obtain ⟨j, hj, rfl, hnp⟩ := hrel
            by_cases hlt2 : j < k
            · obtain ⟨b1, o1, z, hb1, hzk, d1⟩ := (H1.out.fr0 FW.out).ix hlt2
              have Hzk := Lib.hid hzk
              have i0 : (0 : Int) ≤ (j : Int) := by omega
              have i1 : (j : Int) < (k : Int) := by omega
              subst hb1
              clear hzk
              by_cases hz1 : z < 0
              · have d5 : decide (z < 0) = true := by simpa using hz1
                have E : Hid (R = (zeroD, 2)) := Lib.hid (by
                  rw [HRw.out, if_neg (by omega), if_pos (List.any_eq_true.2 ⟨z, List.mem_of_getElem? Hzk.out, by unfold inP; simp [hz1]⟩)])
                replace hz1 := Lib.hid hz1
                have y0 := CB.out.cell (i := 0) rfl
                have y1 := CB.out.cell (i := 1) rfl
                have y2 := CB.out.cell (i := 2) rfl
                have y3 := CB.out.cell (i := 3) rfl
                have f0 := CB.out.free 0
                have f1 := CB.out.free 1
                have f2 := CB.out.free 2
                have f3 := CB.out.free 3
                go_wp2_with fail
                clear y0 y1 y2 y3 f0 f1 f2 f3
                have g := ((((CB.out.set 0 (.int .i64 0)).set 1 (.slice none 0 0)).set 2 (.int .i64 0)).set 3 (.int .i64 0))
                have g0 := g.cell (i := 0) rfl
                have g1 := g.cell (i := 1) rfl
                have g2 := g.cell (i := 2) rfl
                have g3 := g.cell (i := 3) rfl
                have G : Fr (fun j => j = bB) wr ((((wr.setCell ⟨bB, 0, none⟩ (.int .i64 0)).setCell ⟨bB, 1, none⟩ (.slice none 0 0)).setCell ⟨bB, 2, none⟩ (.int .i64 0)).setCell ⟨bB, 3, none⟩ (.int .i64 0)) := by
                  refine Fr.setCell (p := ⟨bB, 3, none⟩) (Fr.setCell (p := ⟨bB, 2, none⟩) (Fr.setCell (p := ⟨bB, 1, none⟩) (Fr.setCell (p := ⟨bB, 0, none⟩) (Fr.refl _ _) ?_ _) ?_ _) ?_ _) ?_ _
                  all_goals exact fun _ => rfl
                refine bodyPost_ret (v := .tuple #[.agg #[.int .i64 0, .slice none 0 0, .int .i64 0, .int .i64 0], .int .i64 2]) ?_ rfl ?_
                · simp [results, Try.results14, go_sem, g0, g1, g2, g3]
                rw [E.out]
                exact ⟨none, 0, 0, rfl, rfl, Own.nil _ _ _, FW.out.trans G (fun j h1 h2 => by have := Hbb.out; omega)⟩
              · have d5 : decide (z < 0) = false := by simpa using hz1
                by_cases hz2 : 1000 ≤ z
                · have d6 : decide (1000 ≤ z) = true := by simpa using hz2
                  have E : Hid (R = (zeroD, 2)) := Lib.hid (by
                    rw [HRw.out, if_neg (by omega), if_pos (List.any_eq_true.2 ⟨z, List.mem_of_getElem? Hzk.out, by unfold inP; simp [hz2]⟩)])
                  replace hz1 := Lib.hid hz1
                  replace hz2 := Lib.hid hz2
                  have y0 := CB.out.cell (i := 0) rfl
                  have y1 := CB.out.cell (i := 1) rfl
                  have y2 := CB.out.cell (i := 2) rfl
                  have y3 := CB.out.cell (i := 3) rfl
                  have f0 := CB.out.free 0
                  have f1 := CB.out.free 1
                  have f2 := CB.out.free 2
                  have f3 := CB.out.free 3
                  go_wp2_with fail
                  clear y0 y1 y2 y3 f0 f1 f2 f3
                  have g := ((((CB.out.set 0 (.int .i64 0)).set 1 (.slice none 0 0)).set 2 (.int .i64 0)).set 3 (.int .i64 0))
                  have g0 := g.cell (i := 0) rfl
                  have g1 := g.cell (i := 1) rfl
                  have g2 := g.cell (i := 2) rfl
                  have g3 := g.cell (i := 3) rfl
                  have G : Fr (fun j => j = bB) wr ((((wr.setCell ⟨bB, 0, none⟩ (.int .i64 0)).setCell ⟨bB, 1, none⟩ (.slice none 0 0)).setCell ⟨bB, 2, none⟩ (.int .i64 0)).setCell ⟨bB, 3, none⟩ (.int .i64 0)) := by
                    refine Fr.setCell (p := ⟨bB, 3, none⟩) (Fr.setCell (p := ⟨bB, 2, none⟩) (Fr.setCell (p := ⟨bB, 1, none⟩) (Fr.setCell (p := ⟨bB, 0, none⟩) (Fr.refl _ _) ?_ _) ?_ _) ?_ _) ?_ _
                    all_goals exact fun _ => rfl
                  refine bodyPost_ret (v := .tuple #[.agg #[.int .i64 0, .slice none 0 0, .int .i64 0, .int .i64 0], .int .i64 2]) ?_ rfl ?_
                  · simp [results, Try.results14, go_sem, g0, g1, g2, g3]
                  rw [E.out]
                  exact ⟨none, 0, 0, rfl, rfl, Own.nil _ _ _, FW.out.trans G (fun j h1 h2 => by have := Hbb.out; omega)⟩
                · have d6 : decide (1000 ≤ z) = false := by simpa using hz2
                  have hnp2 : Hid ((zs.take (j + 1)).any inP = false) := Lib.hid (by
                    rw [List.take_add_one, Hzk.out, List.any_append, hnp.out]
                    show (false || ([z].any inP)) = false
                    simp only [List.any_cons, List.any_nil, Bool.or_false, Bool.false_or]
                    unfold inP
                    rw [d5, d6]; rfl)
                  replace hz1 := Lib.hid hz1
                  replace hz2 := Lib.hid hz2
                  go_wp2_with fail
                  go_round
                  case rel => exact ⟨j + 1, by omega, by go_num, hnp2⟩
                  case measure => simp [intOf]; omega
            · obtain rfl : j = k := by omega
              have hnp9 : Hid (zs.any inP = false) := Lib.hid (by have h := hnp.out; rwa [List.take_of_length_le (by have := Hzl.out; omega)] at h)
              have hz : Hid (∀ z ∈ zs, 0 ≤ z ∧ z < 1000) := Lib.hid (fun z hz => by
                have h := List.any_eq_false.1 hnp9.out z hz
                unfold inP at h
                simp at h
                omega)
              have HRx : Hid (R = if zs.Nodup then (if ¬ af = 0 ∧ 1048576 < (recs bs page).2 + (recB (zs.map Int.toNat) ds).length then (zeroD, 4) else writeS page bs sy af (recB (zs.map Int.toNat) ds)) else (zeroD, 10)) := Lib.hid (by rw [HRw.out, if_neg (by omega), hnp9.out, if_neg (by decide)])
              have htw := twice_any a1 j c1 zs wr (H1.out.fr0 FW.out)
              by_cases hnd : zs.Nodup
              case neg =>
                have E : Hid (R = (zeroD, 10)) := Lib.hid (by rw [HRx.out, if_neg hnd])
                rw [decide_eq_false hnd, Bool.not_false] at htw
                replace hnd := Lib.hid hnd
                go_wp2_with fail
                refine htw.mono ?_
                rintro e wt ⟨rfl, q, hq⟩
                have D := (Fr.refl F0 wr).drewN q
                rw [← hq] at D
                replace CB := Lib.hid (CB.out.fr D id)
                replace FW := Lib.hid (FW.out.trans0 D)
                clear D hq
                have y0 := CB.out.cell (i := 0) rfl
                have y1 := CB.out.cell (i := 1) rfl
                have y2 := CB.out.cell (i := 2) rfl
                have y3 := CB.out.cell (i := 3) rfl
                have f0 := CB.out.free 0
                have f1 := CB.out.free 1
                have f2 := CB.out.free 2
                have f3 := CB.out.free 3
                go_wp2_with fail
                clear y0 y1 y2 y3 f0 f1 f2 f3
                have g := ((((CB.out.set 0 (.int .i64 0)).set 1 (.slice none 0 0)).set 2 (.int .i64 0)).set 3 (.int .i64 0))
                have g0 := g.cell (i := 0) rfl
                have g1 := g.cell (i := 1) rfl
                have g2 := g.cell (i := 2) rfl
                have g3 := g.cell (i := 3) rfl
                have G : Fr (fun j => j = bB) wt ((((wt.setCell ⟨bB, 0, none⟩ (.int .i64 0)).setCell ⟨bB, 1, none⟩ (.slice none 0 0)).setCell ⟨bB, 2, none⟩ (.int .i64 0)).setCell ⟨bB, 3, none⟩ (.int .i64 0)) := by
                  refine Fr.setCell (p := ⟨bB, 3, none⟩) (Fr.setCell (p := ⟨bB, 2, none⟩) (Fr.setCell (p := ⟨bB, 1, none⟩) (Fr.setCell (p := ⟨bB, 0, none⟩) (Fr.refl _ _) ?_ _) ?_ _) ?_ _) ?_ _
                  all_goals exact fun _ => rfl
                refine bodyPost_ret (v := .tuple #[.agg #[.int .i64 0, .slice none 0 0, .int .i64 0, .int .i64 0], .int .i64 10]) ?_ rfl ?_
                · simp [results, Try.results14, go_sem, g0, g1, g2, g3]
                rw [E.out]
                exact ⟨none, 0, 0, rfl, rfl, Own.nil _ _ _, FW.out.trans G (fun j h1 h2 => by have := Hbb.out; omega)⟩
              rw [decide_eq_true hnd, Bool.not_true] at htw
              obtain ⟨ps, hps⟩ : ∃ ps, ps = zs.map Int.toNat := ⟨_, rfl⟩
              have hzps : nats ps = zs := by
                rw [hps]
                unfold nats
                rw [List.map_map]
                have : zs.map ((fun (p : Nat) => (p : Int)) ∘ Int.toNat) = zs.map id := List.map_congr_left (fun z hz' => by have := hz.out z hz'; simp; omega)
                rw [this, List.map_id]
              have hps2 : ∀ p ∈ ps, p < 4294967296 := fun p hp => by
                rw [hps] at hp
                obtain ⟨z, hz', rfl⟩ := List.mem_map.1 hp
                have := hz.out z hz'
                omega
              obtain ⟨b, hb⟩ : ∃ b, b = recB ps ds := ⟨_, rfl⟩
              have hd300 : ∀ d ∈ ds, d.length ≤ 300 := fun d hd => by rw [hdpg.out d hd]; omega
              have hbl9 : b.length ≤ 400000 := by rw [hb]; exact recB_len hd300 (by rw [hps, List.length_map, Hzl.out]; exact hn1)
              obtain ⟨m, hm⟩ : ∃ m, m = (recs bs page).2 := ⟨_, rfl⟩
              have hmn : m ≤ n := by rw [hm, ← Hbl.out]; exact recs_le bs page
              have HRy : Hid (R = if ¬ af = 0 ∧ 1048576 < m + b.length then (zeroD, 4) else writeS page bs sy af b) := Lib.hid (by rw [HRx.out, if_pos hnd, ← hps, ← hb, ← hm])
              have hby := fun (W : World) (F : Fr F0 w W) => Record_any a1 a2 j c1 c2 ps ds vs S W (by rw [hzps]; exact H1.out.fr0 F) (H2.out.fr0 F) (HR.out.fr0 F) (fun j h => by have := HS.out j h; have := F.size; omega) hps2 hd300 hn1
              rw [← hb] at hby
              have Hm := Lib.hid hm
              have Hby := Lib.hid hby
              clear hnd hps hzps hps2 hb hd300 hm hby
              go_wp2_with fail
              refine htw.mono ?_
              rintro e wt ⟨rfl, q, hq⟩
              have D := (Fr.refl F0 wr).drewN q
              rw [← hq] at D
              replace CA := Lib.hid (CA.out.fr D id)
              replace CB := Lib.hid (CB.out.fr D id)
              replace FW := Lib.hid (FW.out.trans0 D)
              replace hs1 : Hid (w.heap.size + 2 ≤ wt.heap.size) := Lib.hid (by have := hs1.out; have := D.size; omega)
              clear D hq htw
              have x0 := CA.out.cell (i := 0) rfl
              have x1 := CA.out.cell (i := 1) rfl
              have x2 := CA.out.cell (i := 2) rfl
              have x3 := CA.out.cell (i := 3) rfl
              have y0 := CB.out.cell (i := 0) rfl
              have y1 := CB.out.cell (i := 1) rfl
              have y2 := CB.out.cell (i := 2) rfl
              have y3 := CB.out.cell (i := 3) rfl
              have f0 := CB.out.free 0
              have f1 := CB.out.free 1
              have f2 := CB.out.free 2
              have f3 := CB.out.free 3
              by_cases h0 : af = 0
              · subst h0
                have E : Hid (R = (⟨page, bs, sy, 0⟩, 27)) := Lib.hid (by rw [HRy.out, if_neg (fun h => h.1 rfl)]; unfold writeS; rw [if_pos rfl])
                rw [E.out]
                go_wp2_with fail
                have hcop : ∀ (W : World), Fr F0 wt W → Calls Try.prog 53 #[.slice a n c] W fun e w' => ∃ a' c', e = .returned (.slice a' n c') ∧ Own w' (w.heap.size + 2) 5 a' n c' (byt bs) ∧ Fr F0 wt w' ∧
                    w'.cell? ⟨bA, 0, none⟩ = some (.int .i64 page) ∧ w'.cell? ⟨bA, 1, none⟩ = some (.slice a n c) ∧ w'.cell? ⟨bA, 2, none⟩ = some (.int .i64 sy) ∧ w'.cell? ⟨bA, 3, none⟩ = some (.int .i64 0) ∧ Blk w' bB 24 [.int .i64 0, .slice none 0 0, .int .i64 0, .int .i64 0] := fun W F =>
                  (refcopied_any a n c bs W ((Hr.out.fr0 FW.out).fr0 F) (by omega)).mono fun e w' ⟨a', c', h1, h2, h3⟩ =>
                    have F9 := F.trans0 h3
                    ⟨a', c', h1, h2.mono (by have := F.size; have := hs1.out; omega), F9, F9.cell x0 id, F9.cell x1 id, F9.cell x2 id, F9.cell x3 id, CB.out.fr F9 id⟩
                have Hcop := Lib.hid hcop
                clear hcop y0 y1 y2 y3 f0 f1 f2 f3
                go_region_held3 (fun w' => w'.cell? ⟨bA, 0, none⟩ = some (.int .i64 page) ∧ w'.cell? ⟨bA, 1, none⟩ = some (.slice a n c) ∧ w'.cell? ⟨bA, 2, none⟩ = some (.int .i64 sy)) (go_keep)
                  (first | (go_at_call 53; refine (Hcop.out _ (by repeat (first | exact Fr.refl _ _ | refine Fr.drew ?_))).mono ?_; rintro e w2 ⟨a', c', rfl, O2, G2, k0, k1, k2, k3, B2⟩; have O2h := Lib.hid O2; have G2h := Lib.hid G2; have B2h := Lib.hid B2; have y0 := B2.cell (i := 0) rfl; have y1 := B2.cell (i := 1) rfl; have y2 := B2.cell (i := 2) rfl; have y3 := B2.cell (i := 3) rfl; have f0 := B2.free 0; have f1 := B2.free 1; have f2 := B2.free 2; have f3 := B2.free 3; clear O2 G2 B2))
                all_goals
                  go_wp2_with fail
                  clear y0 y1 y2 y3 f0 f1 f2 f3
                  have g := ((((B2h.out.set 0 (.int .i64 page)).set 1 (.slice a' n c')).set 2 (.int .i64 sy)).set 3 (.int .i64 0))
                  have g0 := g.cell (i := 0) rfl
                  have g1 := g.cell (i := 1) rfl
                  have g2 := g.cell (i := 2) rfl
                  have g3 := g.cell (i := 3) rfl
                  have G : Fr (fun j => j = bB) w2 ((((w2.setCell ⟨bB, 0, none⟩ (.int .i64 page)).setCell ⟨bB, 1, none⟩ (.slice a' n c')).setCell ⟨bB, 2, none⟩ (.int .i64 sy)).setCell ⟨bB, 3, none⟩ (.int .i64 0)) := by
                    refine (Fr.setCell (p := ⟨bB, 3, none⟩) (Fr.setCell (p := ⟨bB, 2, none⟩) (Fr.setCell (p := ⟨bB, 1, none⟩) (Fr.setCell (p := ⟨bB, 0, none⟩) (Fr.refl _ _) ?_ _) ?_ _) ?_ _) ?_ _)
                    all_goals exact fun _ => rfl
                  refine bodyPost_ret (v := .tuple #[.agg #[.int .i64 page, .slice a' n c', .int .i64 sy, .int .i64 0], .int .i64 27]) ?_ rfl ?_
                  · simp [results, Try.results14, go_sem, g0, g1, g2, g3]
                  rw [E.out]
                  have hOb := O2h.out.blk
                  exact ⟨a', n, c', Hbl.out.symm, rfl, by simpa [byt] using (O2h.out.fr G (fun j h e => by have := (hOb j h).1; have := Hbb.out; omega)).mono (show w.heap.size ≤ w.heap.size + 2 by omega), (FW.out.trans0 G2h.out).trans G (fun j h1 h2 => by have := Hbb.out; omega)⟩
              · have d0 : (af == 0) = false := by simpa using h0
                have Hh0 := Lib.hid h0
                go_wp2_with fail
                refine (Records_any a n c page sy af bs _ (Hr.out.fr0 FW.out) Hc.out (by omega) (by omega) (by omega)).mono ?_
                rintro e w4 ⟨ar, cr, T, S9, rfl, _, _, _, _, F4⟩
                rw [← Hm.out]
                replace CA := Lib.hid (CA.out.fr F4 id)
                replace CB := Lib.hid (CB.out.fr F4 id)
                have FW0 := FW.out
                replace FW := Lib.hid (FW.out.trans0 F4)
                have hs4 : Hid (w.heap.size + 2 ≤ w4.heap.size) := Lib.hid (by have := hs1.out; have := F4.size; omega)
                clear F4 FW0 x0 x1 x2 x3 y0 y1 y2 y3 f0 f1 f2 f3
                go_wp2_with fail
                refine (Hby.out _ FW.out).mono ?_
                rintro e w5 ⟨ab, nb, cb, hnb, rfl, Ob, Fb⟩
                rw [← hnb] at HRy hbl9
                have Hnb := Lib.hid hnb
                clear hnb h0
                replace CA := Lib.hid (CA.out.fr Fb id)
                replace CB := Lib.hid (CB.out.fr Fb id)
                replace FW := Lib.hid (FW.out.trans0 Fb)
                have hs5 : Hid (w.heap.size + 2 ≤ w5.heap.size) := Lib.hid (by have := hs4.out; have := Fb.size; omega)
                replace Ob := Lib.hid Ob
                clear Fb
                have x0 := CA.out.cell (i := 0) rfl
                have x1 := CA.out.cell (i := 1) rfl
                have x2 := CA.out.cell (i := 2) rfl
                have x3 := CA.out.cell (i := 3) rfl
                have y0 := CB.out.cell (i := 0) rfl
                have y1 := CB.out.cell (i := 1) rfl
                have y2 := CB.out.cell (i := 2) rfl
                have y3 := CB.out.cell (i := 3) rfl
                have f0 := CB.out.free 0
                have f1 := CB.out.free 1
                have f2 := CB.out.free 2
                have f3 := CB.out.free 3
                by_cases hfull : 1048576 < m + nb
                · have d1 : decide ((1048576 : Int) < (m : Int) + (nb : Int)) = true := by simp; omega
                  have E : Hid (R = (zeroD, 4)) := Lib.hid (by rw [HRy.out, if_pos ⟨Hh0.out, hfull⟩])
                  replace hfull := Lib.hid hfull
                  go_wp2_with fail
                  clear y0 y1 y2 y3 f0 f1 f2 f3 x0 x1 x2 x3
                  have g := ((((CB.out.set 0 (.int .i64 0)).set 1 (.slice none 0 0)).set 2 (.int .i64 0)).set 3 (.int .i64 0))
                  have g0 := g.cell (i := 0) rfl
                  have g1 := g.cell (i := 1) rfl
                  have g2 := g.cell (i := 2) rfl
                  have g3 := g.cell (i := 3) rfl
                  have G : Fr (fun j => j = bB) w5 ((((w5.setCell ⟨bB, 0, none⟩ (.int .i64 0)).setCell ⟨bB, 1, none⟩ (.slice none 0 0)).setCell ⟨bB, 2, none⟩ (.int .i64 0)).setCell ⟨bB, 3, none⟩ (.int .i64 0)) := by
                    refine Fr.setCell (p := ⟨bB, 3, none⟩) (Fr.setCell (p := ⟨bB, 2, none⟩) (Fr.setCell (p := ⟨bB, 1, none⟩) (Fr.setCell (p := ⟨bB, 0, none⟩) (Fr.refl _ _) ?_ _) ?_ _) ?_ _) ?_ _
                    all_goals exact fun _ => rfl
                  refine bodyPost_ret (v := .tuple #[.agg #[.int .i64 0, .slice none 0 0, .int .i64 0, .int .i64 0], .int .i64 4]) ?_ rfl ?_
                  · simp [results, Try.results14, go_sem, g0, g1, g2, g3]
                  rw [E.out]
                  exact ⟨none, 0, 0, rfl, rfl, Own.nil _ _ _, FW.out.trans G (fun j h1 h2 => by have := Hbb.out; omega)⟩
                have d1 : decide ((1048576 : Int) < (m : Int) + (nb : Int)) = false := by simp; omega
                have HE : Hid (R = writeS page bs sy af b) := Lib.hid (by rw [HRy.out, if_neg (fun h => hfull h.2)])
                have s1 : ∀ w, (Instr.sliceAt 22 (.slice a n c) none (some (.int .i64 (m : Int))) none).run Try.prog w = .ok (.slice (cutA a c 0) m c) w := fun w => run_cutHi E5 w a (by have := Hc.out; omega) rfl
                have hRm : Hid (Rd w (cutA a c 0) m (byt (bs.take m))) := Lib.hid (by have h := Hr.out.cutHi Hc.out hmn; rwa [byt_take] at h)
                have lm : Hid ((bs.take m).length = m) := Lib.hid (by rw [List.length_take, Hbl.out]; omega)
                by_cases htn : 0 < af ∧ af < nb
                · obtain ⟨t1, t2⟩ := htn
                  obtain ⟨k, rfl⟩ := Int.eq_ofNat_of_zero_le (show 0 ≤ af by omega)
                  have hk9 : k < nb := by omega
                  have hk0 : 0 < k := by omega
                  have E : Hid (R = (⟨page, bs.take m ++ b.take k, (m : Int), 0⟩, 27)) := Lib.hid (by
                    rw [HE.out]; unfold writeS
                    rw [if_neg Hh0.out, if_neg (by rw [← Hnb.out]; omega), ← Hm.out, Int.toNat_natCast])
                  have hl : Hid (m + k = (bs.take m ++ b.take k).length) := Lib.hid (by rw [List.length_append, lm.out, List.length_take, ← Hnb.out]; omega)
                  have hBk : Hid (Rd w5 (cutA ab cb 0) k (byt (b.take k))) := Lib.hid (by have h := Ob.out.rd.cutHi Ob.out.cap (k := k) (by omega); rwa [byt_take] at h)
                  have s2 : ∀ w, (Instr.sliceAt 22 (.slice ab nb cb) none (some (.int .i64 (k : Int))) none).run Try.prog w = .ok (.slice (cutA ab cb 0) k cb) w := fun w => run_cutHi E5 w ab (by have := Ob.out.cap; omega) rfl
                  have hcop : ∀ (W : World), Fr F0 w5 W → Calls Try.prog 53 #[.slice (cutA a c 0) m c] W fun e w' => ∃ a' c', e = .returned (.slice a' m c') ∧ Own w' (w.heap.size + 2) 5 a' m c' (byt (bs.take m)) ∧ Fr F0 w5 w' ∧
                      w'.cell? ⟨bA, 0, none⟩ = some (.int .i64 page) ∧ w'.cell? ⟨bA, 1, none⟩ = some (.slice a n c) ∧ w'.cell? ⟨bA, 2, none⟩ = some (.int .i64 sy) ∧ w'.cell? ⟨bA, 3, none⟩ = some (.int .i64 (k : Int)) ∧ Blk w' bB 24 [.int .i64 0, .slice none 0 0, .int .i64 0, .int .i64 0] := fun W F =>
                    (refcopied_any (cutA a c 0) m c (bs.take m) W ((hRm.out.fr0 FW.out).fr0 F) (by omega)).mono fun e w' ⟨a', c', h1, h2, h3⟩ =>
                      have F9 := F.trans0 h3
                      ⟨a', c', h1, h2.mono (by have := F.size; have := hs5.out; omega), F9, F9.cell x0 id, F9.cell x1 id, F9.cell x2 id, F9.cell x3 id, CB.out.fr F9 id⟩
                  have Hcop := Lib.hid hcop
                  clear hcop
                  clear t1 t2 y0 y1 y2 y3 f0 f1 f2 f3 hfull
                  go_wp2_with fail
                  go_region_held3 (fun w' => w'.cell? ⟨bA, 0, none⟩ = some (.int .i64 page) ∧ w'.cell? ⟨bA, 1, none⟩ = some (.slice a n c) ∧ w'.cell? ⟨bA, 2, none⟩ = some (.int .i64 sy) ∧ w'.cell? ⟨bA, 3, none⟩ = some (.int .i64 (k : Int))) (go_keep)
                    (first | (go_at_call 53; refine (Hcop.out _ (by repeat (first | exact Fr.refl _ _ | refine Fr.drew ?_))).mono ?_; rintro e w2 ⟨a', c', rfl, O2, G2, k0, k1, k2, k3, B2⟩; have O2h := Lib.hid O2; have G2h := Lib.hid G2; have B2h := Lib.hid B2; have nA : ¬ onBlk a' bA := (fun h => by have := (O2.blk _ h).1; have := Hbb.out; omega); have nB : ¬ onBlk a' bB := (fun h => by have := (O2.blk _ h).1; have := Hbb.out; omega); have sz2 : Hid (w.heap.size + 2 ≤ w2.heap.size) := Lib.hid (by have := G2.size; have := hs5.out; omega); clear O2 G2 B2) | (refine stepAppRd E5 (by rfl) (by rfl) (by rfl) (by rfl) O2h.out (hBk.out.fr0 G2h.out) (oneCell_byt _) (by omega) (by omega) sz2.out (m + k) rfl ?_; intro a3 c3 w3 own3 fr3 at3; have l0 := fr3.cell k0 nA; have l1 := fr3.cell k1 nA; have l2 := fr3.cell k2 nA; have l3 := fr3.cell k3 nA; have B3 := B2h.out.fr fr3 nB; have y0 := B3.cell (i := 0) rfl; have y1 := B3.cell (i := 1) rfl; have y2 := B3.cell (i := 2) rfl; have y3 := B3.cell (i := 3) rfl; have f0 := B3.free 0; have f1 := B3.free 1; have f2 := B3.free 2; have f3 := B3.free 3; have B3h := Lib.hid B3; have own9 := Lib.hid own3; have fr9 := Lib.hid fr3; clear B3 own3 fr3 at3))
                  all_goals
                    clear x0 x1 x2 x3 k0 k1 k2 k3 s1 s2
                    go_wp2_with fail
                    clear y0 y1 y2 y3 f0 f1 f2 f3 l0 l1 l2 l3
                    have F8 := (FW.out.trans0 G2h.out).trans fr9.out (fun j h1 h2 => by have := (O2h.out.blk j h2).1; omega)
                    have g := ((((B3h.out.set 0 (.int .i64 page)).set 1 (.slice a3 (m + k) c3)).set 2 (.int .i64 m)).set 3 (.int .i64 0))
                    have g0 := g.cell (i := 0) rfl
                    have g1 := g.cell (i := 1) rfl
                    have g2 := g.cell (i := 2) rfl
                    have g3 := g.cell (i := 3) rfl
                    have G : Fr (fun j => j = bB) w3 ((((w3.setCell ⟨bB, 0, none⟩ (.int .i64 page)).setCell ⟨bB, 1, none⟩ (.slice a3 (m + k) c3)).setCell ⟨bB, 2, none⟩ (.int .i64 m)).setCell ⟨bB, 3, none⟩ (.int .i64 0)) := by
                      refine (Fr.setCell (p := ⟨bB, 3, none⟩) (Fr.setCell (p := ⟨bB, 2, none⟩) (Fr.setCell (p := ⟨bB, 1, none⟩) (Fr.setCell (p := ⟨bB, 0, none⟩) (Fr.refl _ _) ?_ _) ?_ _) ?_ _) ?_ _)
                      all_goals exact fun _ => rfl
                    refine bodyPost_ret (v := .tuple #[.agg #[.int .i64 page, .slice a3 (m + k) c3, .int .i64 m, .int .i64 0], .int .i64 27]) ?_ rfl ?_
                    · simp [results, Try.results14, go_sem, g0, g1, g2, g3]
                    rw [E.out]
                    have hOb := own9.out.blk
                    exact ⟨a3, (m + k), c3, hl.out, rfl, by simpa [byt] using (own9.out.fr G (fun j h e => by have := (hOb j h).1; have := Hbb.out; omega)).mono (show w.heap.size ≤ w.heap.size + 2 by omega), F8.trans G (fun j h1 h2 => by have := Hbb.out; omega)⟩
                · have Wmn : Hid (IntKind.i64.wrap ((m : Int) + (nb : Int)) = (m : Int) + (nb : Int)) := Lib.hid (wI (by omega) (by omega))
                  have hl : Hid (m + nb = (bs.take m ++ b).length) := Lib.hid (by rw [List.length_append, lm.out, ← Hnb.out])
                  by_cases hneg : 0 < af
                  · have g1 : decide (0 < af) = true := by simpa using hneg
                    have g2 : decide (af < (nb : Int)) = false := by simp; omega
                    have E : Hid (R = (⟨page, bs.take m ++ b, ((m + nb : Nat) : Int), af - (nb : Int)⟩, 0)) := Lib.hid (by
                      rw [HE.out]; unfold writeS
                      rw [if_neg Hh0.out, if_pos (by rw [← Hnb.out]; have := Hh0.out; omega), ← Hm.out, ← Hnb.out, if_pos hneg])
                    have hcop : ∀ (W : World), Fr F0 w5 W → Calls Try.prog 53 #[.slice (cutA a c 0) m c] W fun e w' => ∃ a' c', e = .returned (.slice a' m c') ∧ Own w' (w.heap.size + 2) 5 a' m c' (byt (bs.take m)) ∧ Fr F0 w5 w' ∧
                        w'.cell? ⟨bA, 0, none⟩ = some (.int .i64 page) ∧ w'.cell? ⟨bA, 1, none⟩ = some (.slice a n c) ∧ w'.cell? ⟨bA, 2, none⟩ = some (.int .i64 sy) ∧ w'.cell? ⟨bA, 3, none⟩ = some (.int .i64 af) ∧ Blk w' bB 24 [.int .i64 0, .slice none 0 0, .int .i64 0, .int .i64 0] := fun W F =>
                      (refcopied_any (cutA a c 0) m c (bs.take m) W ((hRm.out.fr0 FW.out).fr0 F) (by omega)).mono fun e w' ⟨a', c', h1, h2, h3⟩ =>
                        have F9 := F.trans0 h3
                        ⟨a', c', h1, h2.mono (by have := F.size; have := hs5.out; omega), F9, F9.cell x0 id, F9.cell x1 id, F9.cell x2 id, F9.cell x3 id, CB.out.fr F9 id⟩
                    have Hcop := Lib.hid hcop
                    clear hcop
                    clear y0 y1 y2 y3 f0 f1 f2 f3
                    replace hneg := Lib.hid hneg
                    replace hfull := Lib.hid hfull
                    replace htn := Lib.hid htn
                    go_wp2_with fail
                    have wmn := Wmn.out
                    go_region_held3 (fun w' => w'.cell? ⟨bA, 0, none⟩ = some (.int .i64 page) ∧ w'.cell? ⟨bA, 1, none⟩ = some (.slice a n c) ∧ w'.cell? ⟨bA, 2, none⟩ = some (.int .i64 sy) ∧ w'.cell? ⟨bA, 3, none⟩ = some (.int .i64 af)) (go_keep)
                      (first | (go_at_call 53; refine (Hcop.out _ (by repeat (first | exact Fr.refl _ _ | refine Fr.drew ?_))).mono ?_; rintro e w2 ⟨a', c', rfl, O2, G2, k0, k1, k2, k3, B2⟩; have O2h := Lib.hid O2; have G2h := Lib.hid G2; have B2h := Lib.hid B2; have nA : ¬ onBlk a' bA := (fun h => by have := (O2.blk _ h).1; have := Hbb.out; omega); have nB : ¬ onBlk a' bB := (fun h => by have := (O2.blk _ h).1; have := Hbb.out; omega); have sz2 : Hid (w.heap.size + 2 ≤ w2.heap.size) := Lib.hid (by have := G2.size; have := hs5.out; omega); clear O2 G2 B2) | (refine stepAppRd E5 (by rfl) (by rfl) (by rfl) (by rfl) O2h.out (Ob.out.rd.fr0 G2h.out) (oneCell_byt _) (by omega) (by omega) sz2.out (m + nb) rfl ?_; intro a3 c3 w3 own3 fr3 at3; have l0 := fr3.cell k0 nA; have l1 := fr3.cell k1 nA; have l2 := fr3.cell k2 nA; have l3 := fr3.cell k3 nA; have B3 := B2h.out.fr fr3 nB; have y0 := B3.cell (i := 0) rfl; have y1 := B3.cell (i := 1) rfl; have y2 := B3.cell (i := 2) rfl; have y3 := B3.cell (i := 3) rfl; have f0 := B3.free 0; have f1 := B3.free 1; have f2 := B3.free 2; have f3 := B3.free 3; have B3h := Lib.hid B3; have own9 := Lib.hid own3; have fr9 := Lib.hid fr3; clear B3 own3 fr3 at3))
                    all_goals
                      clear x0 x1 x2 x3 k0 k1 k2 k3 s1 wmn
                      go_wp2_with fail
                      clear y0 y1 y2 y3 f0 f1 f2 f3 l0 l1 l2 l3
                      have F8 := (FW.out.trans0 G2h.out).trans fr9.out (fun j h1 h2 => by have := (O2h.out.blk j h2).1; omega)
                      have g := ((((B3h.out.set 0 (.int .i64 page)).set 1 (.slice a3 (m + nb) c3)).set 2 (.int .i64 ((m : Int) + (nb : Int)))).set 3 (.int .i64 (af - (nb : Int))))
                      have g0 := g.cell (i := 0) rfl
                      have g1 := g.cell (i := 1) rfl
                      have g2 := g.cell (i := 2) rfl
                      have g3 := g.cell (i := 3) rfl
                      have G : Fr (fun j => j = bB) w3 ((((w3.setCell ⟨bB, 0, none⟩ (.int .i64 page)).setCell ⟨bB, 1, none⟩ (.slice a3 (m + nb) c3)).setCell ⟨bB, 2, none⟩ (.int .i64 ((m : Int) + (nb : Int)))).setCell ⟨bB, 3, none⟩ (.int .i64 (af - (nb : Int)))) := by
                        refine (Fr.setCell (p := ⟨bB, 3, none⟩) (Fr.setCell (p := ⟨bB, 2, none⟩) (Fr.setCell (p := ⟨bB, 1, none⟩) (Fr.setCell (p := ⟨bB, 0, none⟩) (Fr.refl _ _) ?_ _) ?_ _) ?_ _) ?_ _)
                        all_goals exact fun _ => rfl
                      refine bodyPost_ret (v := .tuple #[.agg #[.int .i64 page, .slice a3 (m + nb) c3, .int .i64 ((m : Int) + (nb : Int)), .int .i64 (af - (nb : Int))], .int .i64 0]) ?_ rfl ?_
                      · simp [results, Try.results14, go_sem, g0, g1, g2, g3]
                      rw [E.out]
                      have hOb := own9.out.blk
                      exact ⟨a3, (m + nb), c3, hl.out, rfl, by simpa [byt] using (own9.out.fr G (fun j h e => by have := (hOb j h).1; have := Hbb.out; omega)).mono (show w.heap.size ≤ w.heap.size + 2 by omega), F8.trans G (fun j h1 h2 => by have := Hbb.out; omega)⟩
                  · have g1 : decide (0 < af) = false := by simpa using hneg
                    have E : Hid (R = (⟨page, bs.take m ++ b, ((m + nb : Nat) : Int), af⟩, 0)) := Lib.hid (by
                      rw [HE.out]; unfold writeS
                      rw [if_neg Hh0.out, if_pos (by rw [← Hnb.out]; have := Hh0.out; omega), ← Hm.out, ← Hnb.out, if_neg hneg])
                    have hcop : ∀ (W : World), Fr F0 w5 W → Calls Try.prog 53 #[.slice (cutA a c 0) m c] W fun e w' => ∃ a' c', e = .returned (.slice a' m c') ∧ Own w' (w.heap.size + 2) 5 a' m c' (byt (bs.take m)) ∧ Fr F0 w5 w' ∧
                        w'.cell? ⟨bA, 0, none⟩ = some (.int .i64 page) ∧ w'.cell? ⟨bA, 1, none⟩ = some (.slice a n c) ∧ w'.cell? ⟨bA, 2, none⟩ = some (.int .i64 sy) ∧ w'.cell? ⟨bA, 3, none⟩ = some (.int .i64 af) ∧ Blk w' bB 24 [.int .i64 0, .slice none 0 0, .int .i64 0, .int .i64 0] := fun W F =>
                      (refcopied_any (cutA a c 0) m c (bs.take m) W ((hRm.out.fr0 FW.out).fr0 F) (by omega)).mono fun e w' ⟨a', c', h1, h2, h3⟩ =>
                        have F9 := F.trans0 h3
                        ⟨a', c', h1, h2.mono (by have := F.size; have := hs5.out; omega), F9, F9.cell x0 id, F9.cell x1 id, F9.cell x2 id, F9.cell x3 id, CB.out.fr F9 id⟩
                    have Hcop := Lib.hid hcop
                    clear hcop
                    clear y0 y1 y2 y3 f0 f1 f2 f3
                    replace hneg := Lib.hid hneg
                    replace hfull := Lib.hid hfull
                    replace htn := Lib.hid htn
                    go_wp2_with fail
                    have wmn := Wmn.out
                    go_region_held3 (fun w' => w'.cell? ⟨bA, 0, none⟩ = some (.int .i64 page) ∧ w'.cell? ⟨bA, 1, none⟩ = some (.slice a n c) ∧ w'.cell? ⟨bA, 2, none⟩ = some (.int .i64 sy) ∧ w'.cell? ⟨bA, 3, none⟩ = some (.int .i64 af)) (go_keep)
                      (first | (go_at_call 53; refine (Hcop.out _ (by repeat (first | exact Fr.refl _ _ | refine Fr.drew ?_))).mono ?_; rintro e w2 ⟨a', c', rfl, O2, G2, k0, k1, k2, k3, B2⟩; have O2h := Lib.hid O2; have G2h := Lib.hid G2; have B2h := Lib.hid B2; have nA : ¬ onBlk a' bA := (fun h => by have := (O2.blk _ h).1; have := Hbb.out; omega); have nB : ¬ onBlk a' bB := (fun h => by have := (O2.blk _ h).1; have := Hbb.out; omega); have sz2 : Hid (w.heap.size + 2 ≤ w2.heap.size) := Lib.hid (by have := G2.size; have := hs5.out; omega); clear O2 G2 B2) | (refine stepAppRd E5 (by rfl) (by rfl) (by rfl) (by rfl) O2h.out (Ob.out.rd.fr0 G2h.out) (oneCell_byt _) (by omega) (by omega) sz2.out (m + nb) rfl ?_; intro a3 c3 w3 own3 fr3 at3; have l0 := fr3.cell k0 nA; have l1 := fr3.cell k1 nA; have l2 := fr3.cell k2 nA; have l3 := fr3.cell k3 nA; have B3 := B2h.out.fr fr3 nB; have y0 := B3.cell (i := 0) rfl; have y1 := B3.cell (i := 1) rfl; have y2 := B3.cell (i := 2) rfl; have y3 := B3.cell (i := 3) rfl; have f0 := B3.free 0; have f1 := B3.free 1; have f2 := B3.free 2; have f3 := B3.free 3; have B3h := Lib.hid B3; have own9 := Lib.hid own3; have fr9 := Lib.hid fr3; clear B3 own3 fr3 at3))
                    all_goals
                      clear x0 x1 x2 x3 k0 k1 k2 k3 s1 wmn
                      go_wp2_with fail
                      clear y0 y1 y2 y3 f0 f1 f2 f3 l0 l1 l2 l3
                      have F8 := (FW.out.trans0 G2h.out).trans fr9.out (fun j h1 h2 => by have := (O2h.out.blk j h2).1; omega)
                      have g := ((((B3h.out.set 0 (.int .i64 page)).set 1 (.slice a3 (m + nb) c3)).set 2 (.int .i64 ((m : Int) + (nb : Int)))).set 3 (.int .i64 af))
                      have g0 := g.cell (i := 0) rfl
                      have g1 := g.cell (i := 1) rfl
                      have g2 := g.cell (i := 2) rfl
                      have g3 := g.cell (i := 3) rfl
                      have G : Fr (fun j => j = bB) w3 ((((w3.setCell ⟨bB, 0, none⟩ (.int .i64 page)).setCell ⟨bB, 1, none⟩ (.slice a3 (m + nb) c3)).setCell ⟨bB, 2, none⟩ (.int .i64 ((m : Int) + (nb : Int)))).setCell ⟨bB, 3, none⟩ (.int .i64 af)) := by
                        refine (Fr.setCell (p := ⟨bB, 3, none⟩) (Fr.setCell (p := ⟨bB, 2, none⟩) (Fr.setCell (p := ⟨bB, 1, none⟩) (Fr.setCell (p := ⟨bB, 0, none⟩) (Fr.refl _ _) ?_ _) ?_ _) ?_ _) ?_ _)
                        all_goals exact fun _ => rfl
                      refine bodyPost_ret (v := .tuple #[.agg #[.int .i64 page, .slice a3 (m + nb) c3, .int .i64 ((m : Int) + (nb : Int)), .int .i64 af], .int .i64 0]) ?_ rfl ?_
                      · simp [results, Try.results14, go_sem, g0, g1, g2, g3]
                      rw [E.out]
                      have hOb := own9.out.blk
                      exact ⟨a3, (m + nb), c3, hl.out, rfl, by simpa [byt] using (own9.out.fr G (fun j h e => by have := (hOb j h).1; have := Hbb.out; omega)).mono (show w.heap.size ≤ w.heap.size + 2 by omega), F8.trans G (fun j h1 h2 => by have := Hbb.out; omega)⟩
end Go.Proofs.Ytehpikjhjghplaa
