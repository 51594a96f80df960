/- Commit. -/
import Derived.Test.YtehpikjhjghplaaB11
import Derived.Test.YtehpikjhjghplaaB12
namespace Go.Proofs.Ytehpikjhjghplaa
open Go.RowKit
attribute [local go_sem ↓] Go.wp_at_zero Go.wp_at_succ
def zeroD : Dk := ⟨0, [], 0, 0⟩
/-- The disk after a commit, and the error number. -/
def commitS (pg : Int) (bs : List UInt8) (sy af : Int) (zs : List Int) (ds : List (List UInt8)) : Dk × Int :=
  if validB pg bs sy af = true then
    if zs.length ≠ ds.length ∨ ds.any (fun d => decide (¬ (d.length : Int) = pg)) = true then (zeroD, 3)
    else if 1000 < zs.length then (zeroD, 4)
    else if zs.any inP = true then (zeroD, 2)
    else if zs.Nodup then
      if ¬ af = 0 ∧ 1048576 < (recs bs pg.toNat).2 + (recB (zs.map Int.toNat) ds).length then (zeroD, 4)
      else writeS pg.toNat bs sy af (recB (zs.map Int.toNat) ds)
    else (zeroD, 10)
  else (zeroD, 1)
theorem EB : Elem1 Try.prog 77 4 (.bool false) 1 := ⟨by kernel_rfl, by kernel_rfl, rfl⟩
def zb : Array Value := Array.replicate 1000 (.bool false)
theorem recB_len {ps : List Nat} {ds : List (List UInt8)} (h : ∀ d ∈ ds, d.length ≤ 300) (hn : ps.length ≤ 1000) : (recB ps ds).length ≤ 400000 := by
  unfold recB
  rw [List.length_append, wordB_len, ← bodyK_all (k := ps.length) (Nat.le_refl _)]
  have := bodyK_len (ps := ps) h ps.length
  omega
set_option maxRecDepth 100000 in
set_option maxHeartbeats 8000000 in
theorem Commit_any (a : Option Addr) (n c : Nat) (pg sy af : Int) (bs : List UInt8) (a1 : Option Addr) (n1 c1 : Nat) (zs : List Int) (a2 : Option Addr) (n2 c2 : Nat) (vs : List Value) (ds : List (List UInt8)) (S : Nat → Prop) (w : World)
    (hr : Rd w a n (byt bs)) (hc : n ≤ c) (h1 : Rd w a1 n1 (ints zs)) (h2 : Rd w a2 n2 vs) (hR : RowsM w S vs ds) (hS : ∀ j, S j → j < w.heap.size) :
    Calls Try.prog 13 #[.agg (dskI pg a n c sy af), .slice a1 n1 c1, .slice a2 n2 c2] w (KPost (commitS pg bs sy af zs ds) w) := by
  have hbl : bs.length = n := by simpa using hr.len
  have hzl : zs.length = n1 := by simpa using h1.len
  have hdl : ds.length = n2 := by rw [← hR.len, h2.len]
  have hm1 := h1.max
  have hm2 := h2.max
  have FA : Fr F0 w ((w.alloc (.cells (dskI pg a n c sy af) 24)).alloc (.cells (dskI 0 none 0 0 0 0) 24)) := ((Fr.refl _ _).alloc _).alloc _
  have B0 : Blk ((w.alloc (.cells (dskI pg a n c sy af) 24)).alloc (.cells (dskI 0 none 0 0 0 0) 24)) w.heap.size 24 [.int .i64 pg, .slice a n c, .int .i64 sy, .int .i64 af] := (Blk.new w 24 [.int .i64 pg, .slice a n c, .int .i64 sy, .int .i64 af]).alloc _
  have B1 : Blk ((w.alloc (.cells (dskI pg a n c sy af) 24)).alloc (.cells (dskI 0 none 0 0 0 0) 24)) (w.heap.size + 1) 24 [.int .i64 0, .slice none 0 0, .int .i64 0, .int .i64 0] := by
    have h := Blk.new (w.alloc (.cells (dskI pg a n c sy af) 24)) 24 [.int .i64 0, .slice none 0 0, .int .i64 0, .int .i64 0]
    rwa [size_alloc] at h
  have hsz : ((w.alloc (.cells (dskI pg a n c sy af) 24)).alloc (.cells (dskI 0 none 0 0 0 0) 24)).heap.size = w.heap.size + 2 := by rw [size_alloc, size_alloc]
  have hmf : ∀ (fn : Fn) (first cap : Array Value) (w : World), (Instr.makeFunc fn first cap).run Try.prog w = .ok (.func fn first cap) w := fun _ _ _ _ => rfl
  have hmk : ∀ w, (Instr.makeSlice 77 (.int .i64 1000) (.int .i64 1000)).run Try.prog w = .ok (.slice (some ⟨w.heap.size, 0, none⟩) 1000 1000) (w.alloc (.cells zb 4)) := fun w => run_mk EB rfl 1000 (by omega) (by omega) w
  have hval := Valid_any a n c pg sy af bs _ (hr.fr0 FA) hc
  have Hr := Lib.hid hr
  have H1 := Lib.hid h1
  have H2 := Lib.hid h2
  have HR := Lib.hid hR
  have HS := Lib.hid hS
  have Hbl := Lib.hid hbl
  have Hzl := Lib.hid hzl
  have Hdl := Lib.hid hdl
  have Hc := Lib.hid hc
  have Hval := Lib.hid hval
  obtain ⟨bA, hbA⟩ : ∃ b, b = w.heap.size := ⟨_, rfl⟩
  obtain ⟨bB, hbB⟩ : ∃ b, b = w.heap.size + 1 := ⟨_, rfl⟩
  have Hbb : Hid (bA = w.heap.size ∧ bB = w.heap.size + 1) := Lib.hid ⟨hbA, hbB⟩
  have nAB : bA ≠ bB := by omega
  have nBA : bB ≠ bA := by omega
  obtain ⟨R, hRR⟩ : ∃ R, R = commitS pg bs sy af zs ds := ⟨_, rfl⟩
  rw [← hRR]
  have HRR := Lib.hid hRR
  replace FA := Lib.hid FA
  replace B0 := Lib.hid B0
  replace B1 := Lib.hid B1
  replace hsz := Lib.hid hsz
  have HbA := Lib.hid hbA
  have HbB := Lib.hid hbB
  have Hmk := Lib.hid hmk
  clear hr h1 h2 hR hS hbl hzl hdl hc hval hRR hbA hbB hmk
  obtain ⟨vb, hvb⟩ : ∃ v, v = validB pg bs sy af := ⟨_, rfl⟩
  rw [← hvb] at Hval
  have Hvb := Lib.hid hvb
  clear hvb
  cases vb with
  | false =>
    have E : Hid (R = (zeroD, 1)) := Lib.hid (by rw [HRR.out]; unfold commitS; rw [← Hvb.out, if_neg (by decide)])
    clear hm1 hm2 hmf Hmk
    go_enter Try.func13, Try.ntmps13
    go_wp2_with fail
    refine Hval.out.mono ?_
    rintro e w1 ⟨rfl, F1⟩
    have CA := Lib.hid (B0.out.fr F1 id)
    have CB := Lib.hid (B1.out.fr F1 id)
    have FW := Lib.hid (FA.out.trans0 F1)
    have hs1 : Hid (w.heap.size + 2 ≤ w1.heap.size) := Lib.hid (by have := F1.size; rw [hsz.out] at this; omega)
    rw [← HbA.out] at CA
    rw [← HbB.out] at CB
    rw [← HbB.out, ← HbA.out]
    clear F1
    have y0 := CB.out.cell (i := 0) rfl
    have y1 := CB.out.cell (i := 1) rfl
    have y2 := CB.out.cell (i := 2) rfl
    have y3 := CB.out.cell (i := 3) rfl
    have f0 := CB.out.free 0
    have f1 := CB.out.free 1
    have f2 := CB.out.free 2
    have f3 := CB.out.free 3
    go_wp2_with fail
    clear y0 y1 y2 y3 f0 f1 f2 f3
    have g := ((((CB.out.set 0 (.int .i64 0)).set 1 (.slice none 0 0)).set 2 (.int .i64 0)).set 3 (.int .i64 0))
    have g0 := g.cell (i := 0) rfl
    have g1 := g.cell (i := 1) rfl
    have g2 := g.cell (i := 2) rfl
    have g3 := g.cell (i := 3) rfl
    have G : Fr (fun j => j = bB) w1 ((((w1.setCell ⟨bB, 0, none⟩ (.int .i64 0)).setCell ⟨bB, 1, none⟩ (.slice none 0 0)).setCell ⟨bB, 2, none⟩ (.int .i64 0)).setCell ⟨bB, 3, none⟩ (.int .i64 0)) := by
      refine Fr.setCell (p := ⟨bB, 3, none⟩) (Fr.setCell (p := ⟨bB, 2, none⟩) (Fr.setCell (p := ⟨bB, 1, none⟩) (Fr.setCell (p := ⟨bB, 0, none⟩) (Fr.refl _ _) ?_ _) ?_ _) ?_ _) ?_ _
      all_goals exact fun _ => rfl
    refine bodyPost_ret (v := .tuple #[.agg #[.int .i64 0, .slice none 0 0, .int .i64 0, .int .i64 0], .int .i64 1]) ?_ rfl ?_
    · simp [results, Try.results13, go_sem, g0, g1, g2, g3]
    rw [E.out]
    exact ⟨none, 0, 0, rfl, rfl, Own.nil _ _ _, FW.out.trans G (fun j h1 h2 => by have := Hbb.out; omega)⟩
  | true =>
    obtain ⟨⟨hp1, hp2⟩, ⟨ha1, ha2⟩, hlen, hsy, _⟩ := valid_of Hvb.out.symm
    obtain ⟨page, rfl⟩ := Int.eq_ofNat_of_zero_le (show 0 ≤ pg by omega)
    rw [Hbl.out] at hlen
    have HRv : Hid (R = if zs.length ≠ ds.length ∨ ds.any (fun d => decide (¬ (d.length : Int) = (page : Int))) = true then (zeroD, 3) else if 1000 < zs.length then (zeroD, 4) else if zs.any inP = true then (zeroD, 2) else if zs.Nodup then (if ¬ af = 0 ∧ 1048576 < (recs bs page).2 + (recB (zs.map Int.toNat) ds).length then (zeroD, 4) else writeS page bs sy af (recB (zs.map Int.toNat) ds)) else (zeroD, 10)) := Lib.hid (by rw [HRR.out]; unfold commitS; rw [← Hvb.out, if_pos rfl, Int.toNat_natCast])
    by_cases hne : n1 = n2
    case neg =>
      have d : ((n1 : Int) != (n2 : Int)) = true := by simp; omega
      have E : Hid (R = (zeroD, 3)) := Lib.hid (by rw [HRv.out, if_pos (.inl (by rw [Hzl.out, Hdl.out]; exact hne))])
      clear hm1 hm2 Hmk hne
      go_enter Try.func13, Try.ntmps13
      go_wp2_with fail
      refine Hval.out.mono ?_
      rintro e w1 ⟨rfl, F1⟩
      have CA := Lib.hid (B0.out.fr F1 id)
      have CB := Lib.hid (B1.out.fr F1 id)
      have FW := Lib.hid (FA.out.trans0 F1)
      have hs1 : Hid (w.heap.size + 2 ≤ w1.heap.size) := Lib.hid (by have := F1.size; rw [hsz.out] at this; omega)
      rw [← HbA.out] at CA
      rw [← HbB.out] at CB
      rw [← HbB.out, ← HbA.out]
      clear F1
      have y0 := CB.out.cell (i := 0) rfl
      have y1 := CB.out.cell (i := 1) rfl
      have y2 := CB.out.cell (i := 2) rfl
      have y3 := CB.out.cell (i := 3) rfl
      have f0 := CB.out.free 0
      have f1 := CB.out.free 1
      have f2 := CB.out.free 2
      have f3 := CB.out.free 3
      go_wp2_with fail
      clear y0 y1 y2 y3 f0 f1 f2 f3
      have g := ((((CB.out.set 0 (.int .i64 0)).set 1 (.slice none 0 0)).set 2 (.int .i64 0)).set 3 (.int .i64 0))
      have g0 := g.cell (i := 0) rfl
      have g1 := g.cell (i := 1) rfl
      have g2 := g.cell (i := 2) rfl
      have g3 := g.cell (i := 3) rfl
      have G : Fr (fun j => j = bB) w1 ((((w1.setCell ⟨bB, 0, none⟩ (.int .i64 0)).setCell ⟨bB, 1, none⟩ (.slice none 0 0)).setCell ⟨bB, 2, none⟩ (.int .i64 0)).setCell ⟨bB, 3, none⟩ (.int .i64 0)) := by
        refine Fr.setCell (p := ⟨bB, 3, none⟩) (Fr.setCell (p := ⟨bB, 2, none⟩) (Fr.setCell (p := ⟨bB, 1, none⟩) (Fr.setCell (p := ⟨bB, 0, none⟩) (Fr.refl _ _) ?_ _) ?_ _) ?_ _) ?_ _
        all_goals exact fun _ => rfl
      refine bodyPost_ret (v := .tuple #[.agg #[.int .i64 0, .slice none 0 0, .int .i64 0, .int .i64 0], .int .i64 3]) ?_ rfl ?_
      · simp [results, Try.results13, go_sem, g0, g1, g2, g3]
      rw [E.out]
      exact ⟨none, 0, 0, rfl, rfl, Own.nil _ _ _, FW.out.trans G (fun j h1 h2 => by have := Hbb.out; omega)⟩
    subst hne
    have dne : ((n1 : Int) != (n1 : Int)) = false := by simp
    have hcf := fun (W : World) (F : Fr F0 w W) (hA : W.cell? ⟨bA, 0, none⟩ = some (.int .i64 page)) => ContainsFunc_c1 bA (fun nn => decide (¬ (nn : Int) = (page : Int))) a2 n1 c2 vs ds S W (H2.out.fr0 F) (HR.out.fr0 F) (fun ar nn cr => Commit1_any ar nn cr page bA W hA)
    obtain ⟨v2, hv2⟩ : ∃ v, v = ds.any (fun d => decide (¬ (d.length : Int) = (page : Int))) := ⟨_, rfl⟩
    rw [← hv2] at hcf
    have Hcf := Lib.hid hcf
    have Hv2 := Lib.hid hv2
    clear hcf hv2
    cases v2 with
    | true =>
      have E : Hid (R = (zeroD, 3)) := Lib.hid (by rw [HRv.out, if_pos (.inr Hv2.out.symm)])
      clear hm1 hm2 Hmk
      go_enter Try.func13, Try.ntmps13
      go_wp2_with fail
      refine Hval.out.mono ?_
      rintro e w1 ⟨rfl, F1⟩
      have CA := Lib.hid (B0.out.fr F1 id)
      have CB := Lib.hid (B1.out.fr F1 id)
      have FW := Lib.hid (FA.out.trans0 F1)
      have hs1 : Hid (w.heap.size + 2 ≤ w1.heap.size) := Lib.hid (by have := F1.size; rw [hsz.out] at this; omega)
      rw [← HbA.out] at CA
      rw [← HbB.out] at CB
      rw [← HbB.out, ← HbA.out]
      clear F1
      have hcall := Hcf.out w1 FW.out (CA.out.cell (i := 0) rfl)
      have y0 := CB.out.cell (i := 0) rfl
      have y1 := CB.out.cell (i := 1) rfl
      have y2 := CB.out.cell (i := 2) rfl
      have y3 := CB.out.cell (i := 3) rfl
      have f0 := CB.out.free 0
      have f1 := CB.out.free 1
      have f2 := CB.out.free 2
      have f3 := CB.out.free 3
      go_wp2_with (go_at_call 35; refine hcall.mono ?_; rintro e w' ⟨rfl, rfl⟩)
      clear y0 y1 y2 y3 f0 f1 f2 f3
      have g := ((((CB.out.set 0 (.int .i64 0)).set 1 (.slice none 0 0)).set 2 (.int .i64 0)).set 3 (.int .i64 0))
      have g0 := g.cell (i := 0) rfl
      have g1 := g.cell (i := 1) rfl
      have g2 := g.cell (i := 2) rfl
      have g3 := g.cell (i := 3) rfl
      have G : Fr (fun j => j = bB) w1 ((((w1.setCell ⟨bB, 0, none⟩ (.int .i64 0)).setCell ⟨bB, 1, none⟩ (.slice none 0 0)).setCell ⟨bB, 2, none⟩ (.int .i64 0)).setCell ⟨bB, 3, none⟩ (.int .i64 0)) := by
        refine Fr.setCell (p := ⟨bB, 3, none⟩) (Fr.setCell (p := ⟨bB, 2, none⟩) (Fr.setCell (p := ⟨bB, 1, none⟩) (Fr.setCell (p := ⟨bB, 0, none⟩) (Fr.refl _ _) ?_ _) ?_ _) ?_ _) ?_ _
        all_goals exact fun _ => rfl
      refine bodyPost_ret (v := .tuple #[.agg #[.int .i64 0, .slice none 0 0, .int .i64 0, .int .i64 0], .int .i64 3]) ?_ rfl ?_
      · simp [results, Try.results13, go_sem, g0, g1, g2, g3]
      rw [E.out]
      exact ⟨none, 0, 0, rfl, rfl, Own.nil _ _ _, FW.out.trans G (fun j h1 h2 => by have := Hbb.out; omega)⟩
    | false =>
      have HRw : Hid (R = if 1000 < n1 then (zeroD, 4) else if zs.any inP = true then (zeroD, 2) else if zs.Nodup then (if ¬ af = 0 ∧ 1048576 < (recs bs page).2 + (recB (zs.map Int.toNat) ds).length then (zeroD, 4) else writeS page bs sy af (recB (zs.map Int.toNat) ds)) else (zeroD, 10)) := Lib.hid (by
        rw [HRv.out, if_neg (by rw [Hzl.out, Hdl.out, ← Hv2.out]; simp), Hzl.out])
      have hdpg : Hid (∀ d ∈ ds, d.length = page) := Lib.hid (fun d hd => by
        have h := List.any_eq_false.1 Hv2.out.symm d hd
        simp at h
        omega)
      by_cases hbig : 1000 < n1
      · have d4 : decide ((1000 : Int) < (n1 : Int)) = true := by simp; omega
        have E : Hid (R = (zeroD, 4)) := Lib.hid (by rw [HRw.out, if_pos hbig])
        clear hm1 hm2 Hmk hbig
        go_enter Try.func13, Try.ntmps13
        go_wp2_with fail
        refine Hval.out.mono ?_
        rintro e w1 ⟨rfl, F1⟩
        have CA := Lib.hid (B0.out.fr F1 id)
        have CB := Lib.hid (B1.out.fr F1 id)
        have FW := Lib.hid (FA.out.trans0 F1)
        have hs1 : Hid (w.heap.size + 2 ≤ w1.heap.size) := Lib.hid (by have := F1.size; rw [hsz.out] at this; omega)
        rw [← HbA.out] at CA
        rw [← HbB.out] at CB
        rw [← HbB.out, ← HbA.out]
        clear F1
        have hcall := Hcf.out w1 FW.out (CA.out.cell (i := 0) rfl)
        have y0 := CB.out.cell (i := 0) rfl
        have y1 := CB.out.cell (i := 1) rfl
        have y2 := CB.out.cell (i := 2) rfl
        have y3 := CB.out.cell (i := 3) rfl
        have f0 := CB.out.free 0
        have f1 := CB.out.free 1
        have f2 := CB.out.free 2
        have f3 := CB.out.free 3
        go_wp2_with (go_at_call 35; refine hcall.mono ?_; rintro e w' ⟨rfl, rfl⟩)
        clear y0 y1 y2 y3 f0 f1 f2 f3
        have g := ((((CB.out.set 0 (.int .i64 0)).set 1 (.slice none 0 0)).set 2 (.int .i64 0)).set 3 (.int .i64 0))
        have g0 := g.cell (i := 0) rfl
        have g1 := g.cell (i := 1) rfl
        have g2 := g.cell (i := 2) rfl
        have g3 := g.cell (i := 3) rfl
        have G : Fr (fun j => j = bB) w1 ((((w1.setCell ⟨bB, 0, none⟩ (.int .i64 0)).setCell ⟨bB, 1, none⟩ (.slice none 0 0)).setCell ⟨bB, 2, none⟩ (.int .i64 0)).setCell ⟨bB, 3, none⟩ (.int .i64 0)) := by
          refine Fr.setCell (p := ⟨bB, 3, none⟩) (Fr.setCell (p := ⟨bB, 2, none⟩) (Fr.setCell (p := ⟨bB, 1, none⟩) (Fr.setCell (p := ⟨bB, 0, none⟩) (Fr.refl _ _) ?_ _) ?_ _) ?_ _) ?_ _
          all_goals exact fun _ => rfl
        refine bodyPost_ret (v := .tuple #[.agg #[.int .i64 0, .slice none 0 0, .int .i64 0, .int .i64 0], .int .i64 4]) ?_ rfl ?_
        · simp [results, Try.results13, go_sem, g0, g1, g2, g3]
        rw [E.out]
        exact ⟨none, 0, 0, rfl, rfl, Own.nil _ _ _, FW.out.trans G (fun j h1 h2 => by have := Hbb.out; omega)⟩
      · have d4 : decide ((1000 : Int) < (n1 : Int)) = false := by simp; omega
        have hn1 : n1 ≤ 1000 := by omega
        clear hbig
        have hcp := fun (W : World) (F : Fr F0 w W) => ContainsFunc_c0 inP a1 n1 c1 zs W (H1.out.fr0 F) (fun x => Commit2_any x W)
        obtain ⟨v3, hv3⟩ : ∃ v, v = zs.any inP := ⟨_, rfl⟩
        rw [← hv3] at hcp
        have Hcp := Lib.hid hcp
        have Hv3 := Lib.hid hv3
        clear hcp hv3
        cases v3 with
        | true =>
          have E : Hid (R = (zeroD, 2)) := Lib.hid (by rw [HRw.out, if_neg (by omega), if_pos Hv3.out.symm])
          clear hm1 hm2 Hmk
          go_enter Try.func13, Try.ntmps13
          go_wp2_with fail
          refine Hval.out.mono ?_
          rintro e w1 ⟨rfl, F1⟩
          have CA := Lib.hid (B0.out.fr F1 id)
          have CB := Lib.hid (B1.out.fr F1 id)
          have FW := Lib.hid (FA.out.trans0 F1)
          have hs1 : Hid (w.heap.size + 2 ≤ w1.heap.size) := Lib.hid (by have := F1.size; rw [hsz.out] at this; omega)
          rw [← HbA.out] at CA
          rw [← HbB.out] at CB
          rw [← HbB.out, ← HbA.out]
          clear F1
          have hcall := Hcf.out w1 FW.out (CA.out.cell (i := 0) rfl)
          have hcall2 := Hcp.out w1 FW.out
          have y0 := CB.out.cell (i := 0) rfl
          have y1 := CB.out.cell (i := 1) rfl
          have y2 := CB.out.cell (i := 2) rfl
          have y3 := CB.out.cell (i := 3) rfl
          have f0 := CB.out.free 0
          have f1 := CB.out.free 1
          have f2 := CB.out.free 2
          have f3 := CB.out.free 3
          go_wp2_with (first | (go_at_call 35; refine hcall.mono ?_; rintro e w' ⟨rfl, rfl⟩) | (go_at_call 33; refine hcall2.mono ?_; rintro e w' ⟨rfl, rfl⟩))
          clear y0 y1 y2 y3 f0 f1 f2 f3
          have g := ((((CB.out.set 0 (.int .i64 0)).set 1 (.slice none 0 0)).set 2 (.int .i64 0)).set 3 (.int .i64 0))
          have g0 := g.cell (i := 0) rfl
          have g1 := g.cell (i := 1) rfl
          have g2 := g.cell (i := 2) rfl
          have g3 := g.cell (i := 3) rfl
          have G : Fr (fun j => j = bB) w1 ((((w1.setCell ⟨bB, 0, none⟩ (.int .i64 0)).setCell ⟨bB, 1, none⟩ (.slice none 0 0)).setCell ⟨bB, 2, none⟩ (.int .i64 0)).setCell ⟨bB, 3, none⟩ (.int .i64 0)) := by
            refine Fr.setCell (p := ⟨bB, 3, none⟩) (Fr.setCell (p := ⟨bB, 2, none⟩) (Fr.setCell (p := ⟨bB, 1, none⟩) (Fr.setCell (p := ⟨bB, 0, none⟩) (Fr.refl _ _) ?_ _) ?_ _) ?_ _) ?_ _
            all_goals exact fun _ => rfl
          refine bodyPost_ret (v := .tuple #[.agg #[.int .i64 0, .slice none 0 0, .int .i64 0, .int .i64 0], .int .i64 2]) ?_ rfl ?_
          · simp [results, Try.results13, go_sem, g0, g1, g2, g3]
          rw [E.out]
          exact ⟨none, 0, 0, rfl, rfl, Own.nil _ _ _, FW.out.trans G (fun j h1 h2 => by have := Hbb.out; omega)⟩
        | false =>
          have hz : Hid (∀ z ∈ zs, 0 ≤ z ∧ z < 1000) := Lib.hid (fun z hz => by
            have h := List.any_eq_false.1 Hv3.out.symm z hz
            unfold inP at h
            simp at h
            omega)
          have HRx : Hid (R = if zs.Nodup then (if ¬ af = 0 ∧ 1048576 < (recs bs page).2 + (recB (zs.map Int.toNat) ds).length then (zeroD, 4) else writeS page bs sy af (recB (zs.map Int.toNat) ds)) else (zeroD, 10)) := Lib.hid (by rw [HRw.out, if_neg (by omega), if_neg (by rw [← Hv3.out]; decide)])
          clear hm1 hm2
          go_enter Try.func13, Try.ntmps13
          go_wp2_with fail
          refine Hval.out.mono ?_
          rintro e w1 ⟨rfl, F1⟩
          have CA := Lib.hid (B0.out.fr F1 id)
          have CB := Lib.hid (B1.out.fr F1 id)
          have FW := Lib.hid (FA.out.trans0 F1)
          have hs1 : Hid (w.heap.size + 2 ≤ w1.heap.size) := Lib.hid (by have := F1.size; rw [hsz.out] at this; omega)
          rw [← HbA.out] at CA
          rw [← HbB.out] at CB
          rw [← HbB.out, ← HbA.out]
          clear F1
          have hcall := Hcf.out w1 FW.out (CA.out.cell (i := 0) rfl)
          have hcall2 := Hcp.out w1 FW.out
          have hmk := Hmk.out w1
          go_wp2_with (first | (go_at_call 35; refine hcall.mono ?_; rintro e w' ⟨rfl, rfl⟩) | (go_at_call 33; refine hcall2.mono ?_; rintro e w' ⟨rfl, rfl⟩))
          clear hcall hcall2 hmk Hmk
          obtain ⟨bq, hbq⟩ : ∃ b, b = w1.heap.size := ⟨_, rfl⟩
          have O1 : Hid (Own (w1.alloc (.cells zb 4)) (w.heap.size + 2) 4 (some ⟨bq, 0, none⟩) 1000 1000 ((List.replicate 1000 false).map Value.bool)) := Lib.hid (by
            have h := Own.made (w := w1) (B := w.heap.size + 2) (T := 4) (z := .bool false) 1000 hs1.out (by omega)
            rw [List.map_replicate, hbq]
            exact h)
          have A1 : Fr F0 w1 (w1.alloc (.cells zb 4)) := (Fr.refl _ _).alloc _
          replace CA := Lib.hid (CA.out.fr A1 id)
          replace CB := Lib.hid (CB.out.fr A1 id)
          replace FW := Lib.hid (FW.out.trans0 A1)
          have hqB : Hid (w.heap.size + 2 ≤ bq) := Lib.hid (by have := hs1.out; omega)
          rw [← hbq]
          clear hbq A1 hs1
          generalize w1.alloc (.cells zb 4) = w2 at *
          go_loopw [10, 43] (fun _ s43 wr => ∃ (k : Nat) (bl : List Bool), k ≤ n1 ∧ s43 = .int .i64 k ∧ Hid (Own wr (w.heap.size + 2) 4 (some ⟨bq, 0, none⟩) 1000 1000 (bl.map Value.bool)) ∧ Hid (∀ j : Nat, j < 1000 → bl[j]? = some (decide ((j : Int) ∈ zs.take k))) ∧ Hid (zs.take k).Nodup ∧ Hid (Blk wr bA 24 [.int .i64 page, .slice a n c, .int .i64 sy, .int .i64 af]) ∧ Hid (Blk wr bB 24 [.int .i64 0, .slice none 0 0, .int .i64 0, .int .i64 0]) ∧ Hid (Fr F0 w wr)) (fun _ s43 _ => n1 - (intOf s43).toNat)
          case atStart => exact ⟨0, List.replicate 1000 false, by omega, rfl, O1, Lib.hid (fun j hj => by rw [List.getElem?_replicate, if_pos hj]; simp), Lib.hid (by simp), CA, CB, FW⟩
          case round =>
            clear O1 CA CB FW
            obtain ⟨k, bl, hk, rfl, hO, hbl, hnd, CA, CB, FW⟩ := hrel
            by_cases hlt : k < n1
            · obtain ⟨b1, o1, z, hb1, hzk, d1⟩ := (H1.out.fr0 FW.out).ix hlt
              obtain ⟨hz0, hz1⟩ := hz.out z (List.mem_of_getElem? hzk)
              obtain ⟨p, rfl⟩ := Int.eq_ofNat_of_zero_le hz0
              have hp : p < 1000 := by omega
              have hpb := hbl.out p hp
              obtain ⟨g, hg, _, _, hgc, hgf⟩ := hO.out.at (by omega)
              obtain rfl : bq = g := by simpa using hg
              have q1 := hgc p (.bool (decide ((p : Int) ∈ zs.take k))) (by rw [List.getElem?_map, hpb]; rfl)
              have q2 := hgf p
              have Hzk := Lib.hid hzk
              have i0 : (0 : Int) ≤ (p : Int) := by omega
              have i1 : (p : Int) < 1000 := by omega
              have hlj : p < bl.length := (List.getElem?_eq_some_iff.1 hpb).1
              have e1 : Hid (zs.take (k + 1) = zs.take k ++ [(p : Int)]) := Lib.hid (by rw [List.take_add_one, hzk]; rfl)
              subst hb1
              by_cases hin : (p : Int) ∈ zs.take k
              · rw [decide_eq_true hin] at q1
                have E : Hid (R = (zeroD, 10)) := Lib.hid (by
                  rw [HRx.out, if_neg]
                  intro h
                  have h2 := h.sublist (List.take_sublist (k + 1) zs)
                  rw [e1.out, List.nodup_append] at h2
                  exact h2.2.2 _ hin _ (by simp) rfl)
                clear hpb hgc hgf hzk hg
                replace hin := Lib.hid hin
                have y0 := CB.out.cell (i := 0) rfl
                have y1 := CB.out.cell (i := 1) rfl
                have y2 := CB.out.cell (i := 2) rfl
                have y3 := CB.out.cell (i := 3) rfl
                have f0 := CB.out.free 0
                have f1 := CB.out.free 1
                have f2 := CB.out.free 2
                have f3 := CB.out.free 3
                go_wp2_with fail
                clear y0 y1 y2 y3 f0 f1 f2 f3
                have g := ((((CB.out.set 0 (.int .i64 0)).set 1 (.slice none 0 0)).set 2 (.int .i64 0)).set 3 (.int .i64 0))
                have g0 := g.cell (i := 0) rfl
                have g1 := g.cell (i := 1) rfl
                have g2 := g.cell (i := 2) rfl
                have g3 := g.cell (i := 3) rfl
                have G : Fr (fun j => j = bB) wr ((((wr.setCell ⟨bB, 0, none⟩ (.int .i64 0)).setCell ⟨bB, 1, none⟩ (.slice none 0 0)).setCell ⟨bB, 2, none⟩ (.int .i64 0)).setCell ⟨bB, 3, none⟩ (.int .i64 0)) := by
                  refine Fr.setCell (p := ⟨bB, 3, none⟩) (Fr.setCell (p := ⟨bB, 2, none⟩) (Fr.setCell (p := ⟨bB, 1, none⟩) (Fr.setCell (p := ⟨bB, 0, none⟩) (Fr.refl _ _) ?_ _) ?_ _) ?_ _) ?_ _
                  all_goals exact fun _ => rfl
                refine bodyPost_ret (v := .tuple #[.agg #[.int .i64 0, .slice none 0 0, .int .i64 0, .int .i64 0], .int .i64 10]) ?_ rfl ?_
                · simp [results, Try.results13, go_sem, g0, g1, g2, g3]
                rw [E.out]
                exact ⟨none, 0, 0, rfl, rfl, Own.nil _ _ _, FW.out.trans G (fun j h1 h2 => by have := Hbb.out; omega)⟩
              · rw [decide_eq_false hin] at q1
                have Fs : Fr (fun j => j = bq) wr (wr.setCell ⟨bq, p, none⟩ (.bool true)) := Fr.setCell (S := fun j => j = bq) (p := ⟨bq, p, none⟩) (Fr.refl _ _) (fun _ => rfl) _
                have O2 : Hid (Own (wr.setCell ⟨bq, p, none⟩ (.bool true)) (w.heap.size + 2) 4 (some ⟨bq, 0, none⟩) 1000 1000 ((bl.set p true).map Value.bool)) := Lib.hid (by have h := hO.out.set (i := p) (.bool true); rwa [List.map_set])
                have CA2 := Lib.hid (CA.out.fr Fs (fun e => by have := hqB.out; have := Hbb.out; omega))
                have CB2 := Lib.hid (CB.out.fr Fs (fun e => by have := hqB.out; have := Hbb.out; omega))
                have FW2 := Lib.hid (FW.out.trans Fs (fun j h1 e => by have := hqB.out; omega))
                have hbl2 : Hid (∀ j : Nat, j < 1000 → (bl.set p true)[j]? = some (decide ((j : Int) ∈ zs.take (k + 1)))) := Lib.hid (fun j hj => by
                  have hbj := hbl.out j hj
                  rw [e1.out]
                  by_cases ej : j = p
                  · subst ej
                    rw [List.getElem?_set_self hlj]
                    simp
                  · rw [List.getElem?_set_ne (fun h => ej h.symm), hbj]
                    congr 1
                    have : ¬ (j : Int) = (p : Int) := by omega
                    simp [this])
                have hnd2 : Hid (zs.take (k + 1)).Nodup := Lib.hid (by
                  rw [e1.out, List.nodup_append]
                  refine ⟨hnd.out, by simp, fun u hu v hv e => ?_⟩
                  simp at hv
                  subst hv
                  subst e
                  exact hin hu)
                clear hpb hgc hgf hzk hg Fs
                replace hin := Lib.hid hin
                go_wp2_with fail
                go_roundw
                case rel => exact ⟨k + 1, bl.set p true, by omega, by go_num, O2, hbl2, hnd2, CA2, CB2, FW2⟩
                case measure => simp [intOf]; omega
            · obtain rfl : k = n1 := by omega
              have hnodup : zs.Nodup := by have h := hnd.out; rwa [List.take_of_length_le (by have := Hzl.out; omega)] at h
              obtain ⟨ps, hps⟩ : ∃ ps, ps = zs.map Int.toNat := ⟨_, rfl⟩
              have hzps : nats ps = zs := by
                rw [hps]
                unfold nats
                rw [List.map_map]
                have : zs.map ((fun (p : Nat) => (p : Int)) ∘ Int.toNat) = zs.map id := List.map_congr_left (fun z hz' => by have := hz.out z hz'; simp; omega)
                rw [this, List.map_id]
              have hps2 : ∀ p ∈ ps, p < 4294967296 := fun p hp => by
                rw [hps] at hp
                obtain ⟨z, hz', rfl⟩ := List.mem_map.1 hp
                have := hz.out z hz'
                omega
              obtain ⟨b, hb⟩ : ∃ b, b = recB ps ds := ⟨_, rfl⟩
              have hd300 : ∀ d ∈ ds, d.length ≤ 300 := fun d hd => by rw [hdpg.out d hd]; omega
              have hbl9 : b.length ≤ 400000 := by rw [hb]; exact recB_len hd300 (by rw [hps, List.length_map, Hzl.out]; exact hn1)
              obtain ⟨m, hm⟩ : ∃ m, m = (recs bs page).2 := ⟨_, rfl⟩
              have hmn : m ≤ n := by rw [hm, ← Hbl.out]; exact recs_le bs page
              have HRy : Hid (R = if ¬ af = 0 ∧ 1048576 < m + b.length then (zeroD, 4) else writeS page bs sy af b) := Lib.hid (by rw [HRx.out, if_pos hnodup, ← hps, ← hb, ← hm])
              have hby := bytes_any a1 a2 k c1 c2 ps ds vs S wr (by rw [hzps]; exact H1.out.fr0 FW.out) (H2.out.fr0 FW.out) (HR.out.fr0 FW.out) (fun j h => by have := HS.out j h; have := FW.out.size; omega) hps2 hd300 hn1
              rw [← hb] at hby
              have Hm := Lib.hid hm
              have Hby := Lib.hid hby
              clear hnodup hps hzps hps2 hb hd300 hm hby hbl hnd
              go_wp2_with fail
              refine Hby.out.mono ?_
              rintro e w3 ⟨ab, nb, cb, hnb, rfl, Ob, Fb⟩
              rw [← hnb] at HRy hbl9
              have Hnb := Lib.hid hnb
              clear hnb
              replace CA := Lib.hid (CA.out.fr Fb id)
              replace CB := Lib.hid (CB.out.fr Fb id)
              have FW0 := FW.out
              replace FW := Lib.hid (FW.out.trans0 Fb)
              have hObs : Hid (w.heap.size ≤ wr.heap.size) := Lib.hid FW0.size
              replace Ob := Lib.hid (Ob.mono hObs.out)
              clear FW0 Fb
              have x0 := CA.out.cell (i := 0) rfl
              have x1 := CA.out.cell (i := 1) rfl
              have x2 := CA.out.cell (i := 2) rfl
              have x3 := CA.out.cell (i := 3) rfl
              go_wp2_with fail
              refine (records_any a n c page sy af bs _ (Hr.out.fr0 FW.out) Hc.out (by omega) (by omega)).mono ?_
              rintro e w4 ⟨ar, cr, T, S9, rfl, _, _, _, _, F4⟩
              rw [← Hm.out]
              replace CA := Lib.hid (CA.out.fr F4 id)
              replace CB := Lib.hid (CB.out.fr F4 id)
              replace FW := Lib.hid (FW.out.trans0 F4)
              replace Ob := Lib.hid (Ob.out.fr0 F4)
              clear x0 x1 x2 x3 F4
              have x0 := CA.out.cell (i := 0) rfl
              have x1 := CA.out.cell (i := 1) rfl
              have x2 := CA.out.cell (i := 2) rfl
              have x3 := CA.out.cell (i := 3) rfl
              have y0 := CB.out.cell (i := 0) rfl
              have y1 := CB.out.cell (i := 1) rfl
              have y2 := CB.out.cell (i := 2) rfl
              have y3 := CB.out.cell (i := 3) rfl
              have f0 := CB.out.free 0
              have f1 := CB.out.free 1
              have f2 := CB.out.free 2
              have f3 := CB.out.free 3
              by_cases h0 : af = 0
              · subst h0
                have E : Hid (writeS page bs sy 0 b = R) := Lib.hid (by rw [HRy.out, if_neg (fun h => h.1 rfl)])
                go_wp2_with fail
                refine (write_any a n c page sy 0 bs ab nb cb b _ (Hr.out.fr0 FW.out) Hc.out (by omega) (by omega) Ob.out.rd Ob.out.cap (by omega) ⟨by omega, by omega⟩).mono ?_
                rw [E.out]
                have CBo := CB
                rintro e w5 ⟨a9, m9, c9, hm9, rfl, O9, F9⟩
                have Hm9 := Lib.hid hm9
                replace CB := Lib.hid (CB.out.fr F9 id)
                have hsz4 := Lib.hid FW.out.size
                have hbl4 := Lib.hid CB.out.lt
                have hB4 : Hid (bB < w4.heap.size) := Lib.hid (CBo.out.lt)
                have hO9 := Lib.hid O9
                replace FW := Lib.hid (FW.out.trans0 F9)
                clear hm9 O9 F9 y0 y1 y2 y3 f0 f1 f2 f3 x0 x1 x2 x3
                have y0 := CB.out.cell (i := 0) rfl
                have y1 := CB.out.cell (i := 1) rfl
                have y2 := CB.out.cell (i := 2) rfl
                have y3 := CB.out.cell (i := 3) rfl
                have f0 := CB.out.free 0
                have f1 := CB.out.free 1
                have f2 := CB.out.free 2
                have f3 := CB.out.free 3
                go_wp2_with fail
                clear y0 y1 y2 y3 f0 f1 f2 f3
                have g := ((((CB.out.set 0 (.int .i64 R.1.pg)).set 1 (.slice a9 m9 c9)).set 2 (.int .i64 R.1.sy)).set 3 (.int .i64 R.1.af))
                have g0 := g.cell (i := 0) rfl
                have g1 := g.cell (i := 1) rfl
                have g2 := g.cell (i := 2) rfl
                have g3 := g.cell (i := 3) rfl
                have G : Fr (fun j => j = bB) w5 ((((w5.setCell ⟨bB, 0, none⟩ (.int .i64 R.1.pg)).setCell ⟨bB, 1, none⟩ (.slice a9 m9 c9)).setCell ⟨bB, 2, none⟩ (.int .i64 R.1.sy)).setCell ⟨bB, 3, none⟩ (.int .i64 R.1.af)) := by
                  refine Fr.setCell (p := ⟨bB, 3, none⟩) (Fr.setCell (p := ⟨bB, 2, none⟩) (Fr.setCell (p := ⟨bB, 1, none⟩) (Fr.setCell (p := ⟨bB, 0, none⟩) (Fr.refl _ _) ?_ _) ?_ _) ?_ _) ?_ _
                  all_goals exact fun _ => rfl
                refine bodyPost_ret (v := .tuple #[.agg #[.int .i64 R.1.pg, .slice a9 m9 c9, .int .i64 R.1.sy, .int .i64 R.1.af], .int .i64 R.2]) ?_ rfl ?_
                · simp [results, Try.results13, go_sem, g0, g1, g2, g3]
                exact ⟨a9, m9, c9, Hm9.out, rfl, (hO9.out.fr G (fun j h e => by have := (hO9.out.blk j h).1; have := hB4.out; omega)).mono hsz4.out, FW.out.trans G (fun j h1 h2 => by have := Hbb.out; omega)⟩
              · have d0 : (af != 0) = true := by simpa using h0
                by_cases hfull : 1048576 < m + nb
                · have d1 : decide ((1048576 : Int) < (m : Int) + (nb : Int)) = true := by simp; omega
                  have E : Hid (R = (zeroD, 4)) := Lib.hid (by rw [HRy.out, if_pos ⟨h0, hfull⟩])
                  replace h0 := Lib.hid h0
                  replace hfull := Lib.hid hfull
                  go_wp2_with fail
                  clear y0 y1 y2 y3 f0 f1 f2 f3 x0 x1 x2 x3
                  have g := ((((CB.out.set 0 (.int .i64 0)).set 1 (.slice none 0 0)).set 2 (.int .i64 0)).set 3 (.int .i64 0))
                  have g0 := g.cell (i := 0) rfl
                  have g1 := g.cell (i := 1) rfl
                  have g2 := g.cell (i := 2) rfl
                  have g3 := g.cell (i := 3) rfl
                  have G : Fr (fun j => j = bB) w4 ((((w4.setCell ⟨bB, 0, none⟩ (.int .i64 0)).setCell ⟨bB, 1, none⟩ (.slice none 0 0)).setCell ⟨bB, 2, none⟩ (.int .i64 0)).setCell ⟨bB, 3, none⟩ (.int .i64 0)) := by
                    refine Fr.setCell (p := ⟨bB, 3, none⟩) (Fr.setCell (p := ⟨bB, 2, none⟩) (Fr.setCell (p := ⟨bB, 1, none⟩) (Fr.setCell (p := ⟨bB, 0, none⟩) (Fr.refl _ _) ?_ _) ?_ _) ?_ _) ?_ _
                    all_goals exact fun _ => rfl
                  refine bodyPost_ret (v := .tuple #[.agg #[.int .i64 0, .slice none 0 0, .int .i64 0, .int .i64 0], .int .i64 4]) ?_ rfl ?_
                  · simp [results, Try.results13, go_sem, g0, g1, g2, g3]
                  rw [E.out]
                  exact ⟨none, 0, 0, rfl, rfl, Own.nil _ _ _, FW.out.trans G (fun j h1 h2 => by have := Hbb.out; omega)⟩
                · have d1 : decide ((1048576 : Int) < (m : Int) + (nb : Int)) = false := by simp; omega
                  have E : Hid (writeS page bs sy af b = R) := Lib.hid (by rw [HRy.out, if_neg (fun h => hfull h.2)])
                  replace h0 := Lib.hid h0
                  go_wp2_with fail
                  refine (write_any a n c page sy af bs ab nb cb b _ (Hr.out.fr0 FW.out) Hc.out (by omega) (by omega) Ob.out.rd Ob.out.cap (by omega) ⟨by omega, by omega⟩).mono ?_
                  rw [E.out]
                  have CBo := CB
                  rintro e w5 ⟨a9, m9, c9, hm9, rfl, O9, F9⟩
                  have Hm9 := Lib.hid hm9
                  replace CB := Lib.hid (CB.out.fr F9 id)
                  have hsz4 := Lib.hid FW.out.size
                  have hbl4 := Lib.hid CB.out.lt
                  have hB4 : Hid (bB < w4.heap.size) := Lib.hid (CBo.out.lt)
                  have hO9 := Lib.hid O9
                  replace FW := Lib.hid (FW.out.trans0 F9)
                  clear hm9 O9 F9 y0 y1 y2 y3 f0 f1 f2 f3 x0 x1 x2 x3
                  have y0 := CB.out.cell (i := 0) rfl
                  have y1 := CB.out.cell (i := 1) rfl
                  have y2 := CB.out.cell (i := 2) rfl
                  have y3 := CB.out.cell (i := 3) rfl
                  have f0 := CB.out.free 0
                  have f1 := CB.out.free 1
                  have f2 := CB.out.free 2
                  have f3 := CB.out.free 3
                  go_wp2_with fail
                  clear y0 y1 y2 y3 f0 f1 f2 f3
                  have g := ((((CB.out.set 0 (.int .i64 R.1.pg)).set 1 (.slice a9 m9 c9)).set 2 (.int .i64 R.1.sy)).set 3 (.int .i64 R.1.af))
                  have g0 := g.cell (i := 0) rfl
                  have g1 := g.cell (i := 1) rfl
                  have g2 := g.cell (i := 2) rfl
                  have g3 := g.cell (i := 3) rfl
                  have G : Fr (fun j => j = bB) w5 ((((w5.setCell ⟨bB, 0, none⟩ (.int .i64 R.1.pg)).setCell ⟨bB, 1, none⟩ (.slice a9 m9 c9)).setCell ⟨bB, 2, none⟩ (.int .i64 R.1.sy)).setCell ⟨bB, 3, none⟩ (.int .i64 R.1.af)) := by
                    refine Fr.setCell (p := ⟨bB, 3, none⟩) (Fr.setCell (p := ⟨bB, 2, none⟩) (Fr.setCell (p := ⟨bB, 1, none⟩) (Fr.setCell (p := ⟨bB, 0, none⟩) (Fr.refl _ _) ?_ _) ?_ _) ?_ _) ?_ _
                    all_goals exact fun _ => rfl
                  refine bodyPost_ret (v := .tuple #[.agg #[.int .i64 R.1.pg, .slice a9 m9 c9, .int .i64 R.1.sy, .int .i64 R.1.af], .int .i64 R.2]) ?_ rfl ?_
                  · simp [results, Try.results13, go_sem, g0, g1, g2, g3]
                  exact ⟨a9, m9, c9, Hm9.out, rfl, (hO9.out.fr G (fun j h e => by have := (hO9.out.blk j h).1; have := hB4.out; omega)).mono hsz4.out, FW.out.trans G (fun j h1 h2 => by have := Hbb.out; omega)⟩
end Go.Proofs.Ytehpikjhjghplaa
