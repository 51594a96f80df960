/- The reference's Checkpoint. -/
import Derived.Test.YtehpikjhjghplaaB26
import Derived.Test.YtehpikjhjghplaaB25
namespace Go.Proofs.Ytehpikjhjghplaa
open Go.RowKit
attribute [local go_sem ↓] Go.wp_at_zero Go.wp_at_succ
set_option maxRecDepth 100000 in
set_option maxHeartbeats 16000000 in
theorem RefCheckpoint_any (a : Option Addr) (n c : Nat) (pg sy af : Int) (bs : List UInt8) (w : World) (hr : Rd w a n (byt bs)) (hc : n ≤ c) :
    Calls Try.prog 29 #[.agg (dskI pg a n c sy af)] w (KPost (ckptS pg bs sy af) w) := by
  have hbl : bs.length = n := by simpa using hr.len
  have FA : Fr F0 w ((w.alloc (.cells (dskI pg a n c sy af) 24)).alloc (.cells (dskI 0 none 0 0 0 0) 24)) := ((Fr.refl _ _).alloc _).alloc _
  have B0 : Blk ((w.alloc (.cells (dskI pg a n c sy af) 24)).alloc (.cells (dskI 0 none 0 0 0 0) 24)) w.heap.size 24 [.int .i64 pg, .slice a n c, .int .i64 sy, .int .i64 af] := (Blk.new w 24 [.int .i64 pg, .slice a n c, .int .i64 sy, .int .i64 af]).alloc _
  have B1 : Blk ((w.alloc (.cells (dskI pg a n c sy af) 24)).alloc (.cells (dskI 0 none 0 0 0 0) 24)) (w.heap.size + 1) 24 [.int .i64 0, .slice none 0 0, .int .i64 0, .int .i64 0] := by
    have h := Blk.new (w.alloc (.cells (dskI pg a n c sy af) 24)) 24 [.int .i64 0, .slice none 0 0, .int .i64 0, .int .i64 0]
    rwa [size_alloc] at h
  have hsz : ((w.alloc (.cells (dskI pg a n c sy af) 24)).alloc (.cells (dskI 0 none 0 0 0 0) 24)).heap.size = w.heap.size + 2 := by rw [size_alloc, size_alloc]
  have hval := refValid_any a n c pg sy af bs _ (hr.fr0 FA) hc
  have Hr := Lib.hid hr
  have Hbl := Lib.hid hbl
  replace FA := Lib.hid FA
  replace B0 := Lib.hid B0
  replace B1 := Lib.hid B1
  replace hsz := Lib.hid hsz
  obtain ⟨bA, hbA⟩ : ∃ b, b = w.heap.size := ⟨_, rfl⟩
  obtain ⟨bB, hbB⟩ : ∃ b, b = w.heap.size + 1 := ⟨_, rfl⟩
  have Hbb : Hid (bA = w.heap.size ∧ bB = w.heap.size + 1) := Lib.hid ⟨hbA, hbB⟩
  have nAB : bA ≠ bB := by omega
  have nBA : bB ≠ bA := by omega
  have Hc := Lib.hid hc
  cases hv : validB pg bs sy af with
  | false =>
    have E : ckptS pg bs sy af = (⟨0, [], 0, 0⟩, 1) := by unfold ckptS; rw [hv, if_neg (by decide)]
    rw [hv] at hval
    rw [E]
    clear hv hr hbl hc E
    go_enter Try.func29, Try.ntmps29
    go_wp2_with fail
    refine hval.mono ?_
    rintro e w1 ⟨rfl, F1⟩
    have C1 := Lib.hid (B1.out.fr F1 id)
    have F2 := Lib.hid (FA.out.trans0 F1)
    rw [← hbB] at C1
    rw [← hbB, ← hbA]
    clear F1 FA B0 B1 hsz hbA hbB hval
    have y0 := C1.out.cell (i := 0) rfl
    have y1 := C1.out.cell (i := 1) rfl
    have y2 := C1.out.cell (i := 2) rfl
    have y3 := C1.out.cell (i := 3) rfl
    have f0 := C1.out.free 0
    have f1 := C1.out.free 1
    have f2 := C1.out.free 2
    have f3 := C1.out.free 3
    go_wp2_with fail
    clear y0 y1 y2 y3 f0 f1 f2 f3
    have g := ((((C1.out.set 0 (.int .i64 0)).set 1 (.slice none 0 0)).set 2 (.int .i64 0)).set 3 (.int .i64 0))
    have g0 := g.cell (i := 0) rfl
    have g1 := g.cell (i := 1) rfl
    have g2 := g.cell (i := 2) rfl
    have g3 := g.cell (i := 3) rfl
    have G : Fr (fun j => j = bB) w1 ((((w1.setCell ⟨bB, 0, none⟩ (.int .i64 0)).setCell ⟨bB, 1, none⟩ (.slice none 0 0)).setCell ⟨bB, 2, none⟩ (.int .i64 0)).setCell ⟨bB, 3, none⟩ (.int .i64 0)) := by
      refine Fr.setCell (p := ⟨bB, 3, none⟩) (Fr.setCell (p := ⟨bB, 2, none⟩) (Fr.setCell (p := ⟨bB, 1, none⟩) (Fr.setCell (p := ⟨bB, 0, none⟩) (Fr.refl _ _) ?_ _) ?_ _) ?_ _) ?_ _
      all_goals exact fun _ => rfl
    refine bodyPost_ret (v := .tuple #[.agg #[.int .i64 0, .slice none 0 0, .int .i64 0, .int .i64 0], .int .i64 1]) ?_ rfl ?_
    · simp [results, Try.results29, go_sem, g0, g1, g2, g3]
    exact ⟨none, 0, 0, rfl, rfl, Own.nil _ _ _, F2.out.trans G (fun j h1 h2 => by have := Hbb.out; omega)⟩
  | true =>
    obtain ⟨⟨hp1, hp2⟩, ⟨ha1, ha2⟩, hlen, _⟩ := valid_of hv
    obtain ⟨page, rfl⟩ := Int.eq_ofNat_of_zero_le (show 0 ≤ pg by omega)
    obtain ⟨hP1, hP2⟩ := pg_ok page bs
    obtain ⟨P, hP⟩ : ∃ P, P = dpgs page bs := ⟨_, rfl⟩
    have hPg : pgsL page (recs bs page).1 = P := by rw [hP]; unfold dpgs; rw [Int.toNat_natCast]
    obtain ⟨R, hR⟩ : ∃ R, R = ckR P := ⟨_, rfl⟩
    obtain ⟨mR, hmR⟩ : ∃ m, m = R.length := ⟨_, rfl⟩
    rw [← hP] at hP1 hP2
    have hmR2 : mR ≤ 400000 := by rw [hmR, hR]; exact ckR_len (fun d hd => by have := hP2 d hd; omega) hP1
    obtain ⟨Q, hQ⟩ : ∃ Q, Q = ckptS page bs sy af := ⟨_, rfl⟩
    rw [← hQ]
    have HQ : Hid (Q = if af = 0 ∨ (0 < af ∧ af < (mR : Int)) then (⟨page, bs, sy, 0⟩, 27) else (⟨page, R, (mR : Int), if 0 < af then af - (mR : Int) else af⟩, 0)) := Lib.hid (by
      rw [hQ]; unfold ckptS; rw [hv, if_pos rfl, ← hP, ← hR, ← hmR])
    rw [hv] at hval
    have Hln : Hid (n ≤ 1048576 ∧ page ≤ 256 ∧ 1 ≤ page) := Lib.hid (by omega)
    have Hn2 : Hid (n ≤ 2000000) := Lib.hid (by omega)
    have HP1 := Lib.hid hP1
    have HP2 := Lib.hid hP2
    have HR := Lib.hid hR
    have HmR := Lib.hid hmR
    clear hv hr hbl hp1 hp2 hlen hc hP hQ hR hmR hP1 hP2
    go_enter Try.func29, Try.ntmps29
    go_wp2_with fail
    refine hval.mono ?_
    rintro e w0 ⟨rfl, F0'⟩
    replace B0 := Lib.hid (B0.out.fr F0' id)
    replace B1 := Lib.hid (B1.out.fr F0' id)
    replace FA := Lib.hid (FA.out.trans0 F0')
    replace hsz : Hid (w.heap.size + 2 ≤ w0.heap.size) := Lib.hid (by have h := F0'.size; rw [hsz.out] at h; exact h)
    have x0 := B0.out.cell (i := 0) rfl
    have x1 := B0.out.cell (i := 1) rfl
    have x2 := B0.out.cell (i := 2) rfl
    have x3 := B0.out.cell (i := 3) rfl
    clear F0' hval
    go_wp2_with fail
    clear x0 x1 x2 x3
    refine (Pages_any a n c page sy af bs _ (Hr.out.fr0 FA.out) Hc.out Hln.out.1 Hln.out.2.1 Hln.out.2.2).mono ?_
    rintro e w1 ⟨ad, nd, cd, vs, S, hnd, rfl, OD, RD, SD, F1⟩
    rw [hPg] at hnd RD
    have C0 := Lib.hid (B0.out.fr F1 id)
    have C1 := Lib.hid (B1.out.fr F1 id)
    have F2 := Lib.hid (FA.out.trans0 F1)
    have hs2 : Hid (w.heap.size + 2 ≤ w1.heap.size) := Lib.hid (by have := F1.size; have := hsz.out; omega)
    rw [← hbA] at C0
    rw [← hbB] at C1
    rw [← hbB, ← hbA]
    have OD' := Lib.hid OD.rd
    have RD' := Lib.hid RD
    have SD' : Hid (∀ j, S j → j < w1.heap.size) := Lib.hid (fun j h => (SD j h).1)
    have Hnd := Lib.hid hnd
    have hnd2 : nd ≤ 1000 := by rw [hnd]; exact HP1.out
    clear F1 FA B0 B1 hsz hbA hbB OD RD SD hnd hPg
    have z0 := C0.out.cell (i := 0) rfl
    have z1 := C0.out.cell (i := 1) rfl
    have z2 := C0.out.cell (i := 2) rfl
    have z3 := C0.out.cell (i := 3) rfl
    go_wp2_with fail
    go_loopw [5, 6] (fun s5 s6 wr => ∃ (k cp : Nat) (ap : Option Addr), k ≤ nd ∧ s6 = .int .i64 k ∧ s5 = .slice ap k cp ∧ Hid (Own wr w1.heap.size 3 ap k cp (ints (nats (List.range k)))) ∧ Hid (Fr F0 w1 wr)) (fun _ s6 _ => nd - (intOf s6).toNat)
    case atStart => exact ⟨0, 0, none, by omega, rfl, rfl, Lib.hid (Own.nil _ _ _), Lib.hid (Fr.refl _ _)⟩
    case round =>
      obtain ⟨k, cp, ap, hk, rfl, rfl, hO, hF⟩ := hrel
      by_cases hlt : k < nd
      · have hsz := hF.out.size
        have Hobl := Lib.hid hO.out.blk
        clear z0 z1 z2 z3
        go_wp2_with (at_builtin; refine wpAppAt E3 hO.out (by omega) (by omega) (by omega) (u := .int .i64 k) rfl rfl rfl ?_; intro a5 c5 w5 own5 fr5 at5)
        have O2 : Hid (Own w5 w1.heap.size 3 a5 (k + 1) c5 (ints (nats (List.range (k + 1))))) := Lib.hid (by
          have e : ints (nats (List.range (k + 1))) = ints (nats (List.range k)) ++ [.int .i64 (k : Int)] := by simp [nats, List.range_succ]
          rw [e]; exact own5)
        have G2 : Hid (Fr F0 w1 w5) := Lib.hid (hF.out.trans fr5 (fun j h1 h2 => by have := (Hobl.out j h2).1; omega))
        go_roundw
        case rel => exact ⟨k + 1, c5, a5, by omega, by go_num, rfl, O2, G2⟩
        case measure => simp [intOf]; omega
      · obtain rfl : k = nd := by omega
        have C0' := Lib.hid (C0.out.fr hF.out id)
        have C1' := Lib.hid (C1.out.fr hF.out id)
        have F2' := Lib.hid (F2.out.trans0 hF.out)
        have hs2' : Hid (w.heap.size + 2 ≤ wr.heap.size) := Lib.hid (by have := hF.out.size; have := hs2.out; omega)
        have hSr : Hid (∀ j, S j → j < wr.heap.size) := Lib.hid (fun j h => by have := SD'.out j h; have := hF.out.size; omega)
        have D1 := Lib.hid (OD'.out.fr0 hF.out)
        have D2 := Lib.hid (RD'.out.fr0 hF.out)
        have hOr := Lib.hid hO.out.rd
        clear C0 C1 F2 hs2 OD' RD' SD' hF hO z0 z1 z2 z3
        have C0 := C0'
        have C1 := C1'
        have F2 := F2'
        have hs2 := hs2'
        clear C0' C1' F2' hs2'
        have z0 := C0.out.cell (i := 0) rfl
        have z1 := C0.out.cell (i := 1) rfl
        have z2 := C0.out.cell (i := 2) rfl
        have z3 := C0.out.cell (i := 3) rfl
        by_cases hnz : k = 0
        · subst hnz
          have hP0 : R = [] := by rw [HR.out]; unfold ckR; rw [if_pos (by rw [← Hnd.out])]
          have hm0 : mR = 0 := by rw [HmR.out, hP0]; rfl
          subst hP0
          subst hm0
          have Hcase : Hid (af = 0 ∨ (0 < af ∧ af < 0) ∨ af < 0 ∨ (0 < af ∧ 0 ≤ af)) := Lib.hid (by omega)
          have RdN : Hid (Own wr (w.heap.size + 2) 5 none 0 0 (byt [])) := Lib.hid (Own.nil _ _ _)
          rcases Hcase.out with haf | ⟨haf, haf2⟩ | haf | ⟨haf, haf2⟩
          · subst haf
            have E : Hid (Q = (⟨page, bs, sy, 0⟩, 27)) := Lib.hid (by rw [HQ.out, if_pos (.inl rfl)])
            have e2 := E.out
            clear HQ E
            subst e2
            have hcop : ∀ (W : World), Fr F0 wr W → Calls Try.prog 53 #[.slice a n c] W fun e w' => ∃ a' c', e = .returned (.slice a' n c') ∧ Own w' (w.heap.size + 2) 5 a' n c' (byt bs) ∧ Fr F0 wr w' ∧
                w'.cell? ⟨bA, 0, none⟩ = some (.int .i64 page) ∧ w'.cell? ⟨bA, 1, none⟩ = some (.slice a n c) ∧ w'.cell? ⟨bA, 2, none⟩ = some (.int .i64 sy) ∧ Blk w' bB 24 [.int .i64 0, .slice none 0 0, .int .i64 0, .int .i64 0] := fun W F =>
              (refcopied_any a n c bs W ((Hr.out.fr0 F2.out).fr0 F) Hn2.out).mono fun e w' ⟨a', c', h1, h2, h3⟩ =>
                have F9 := F.trans0 h3
                ⟨a', c', h1, h2.mono (by have := F.size; have := hs2.out; omega), F9, F9.cell z0 id, F9.cell z1 id, F9.cell z2 id, C1.out.fr F9 id⟩
            have Hcop := Lib.hid hcop
            clear hcop
            go_wp2_with fail
            go_region_held3 (fun w' => w'.cell? ⟨bA, 0, none⟩ = some (.int .i64 page) ∧ w'.cell? ⟨bA, 1, none⟩ = some (.slice a n c) ∧ w'.cell? ⟨bA, 2, none⟩ = some (.int .i64 sy)) (go_keep)
              (first | (go_at_call 53; refine (Hcop.out _ (by repeat (first | exact Fr.refl _ _ | refine Fr.drew ?_))).mono ?_; rintro e w2 ⟨a', c', rfl, O2, G2, k0, k1, k2, B2⟩; have O2h := Lib.hid O2; have G2h := Lib.hid G2; have B2h := Lib.hid B2; have y0 := B2.cell (i := 0) rfl; have y1 := B2.cell (i := 1) rfl; have y2 := B2.cell (i := 2) rfl; have y3 := B2.cell (i := 3) rfl; have f0 := B2.free 0; have f1 := B2.free 1; have f2 := B2.free 2; have f3 := B2.free 3; clear O2 G2 B2))
            all_goals
              go_wp2_with fail
              clear y0 y1 y2 y3 f0 f1 f2 f3
              have C1 := B2h
              have g := ((((C1.out.set 0 (.int .i64 page)).set 1 (.slice a' n c')).set 2 (.int .i64 sy)).set 3 (.int .i64 0))
              have g0 := g.cell (i := 0) rfl
              have g1 := g.cell (i := 1) rfl
              have g2 := g.cell (i := 2) rfl
              have g3 := g.cell (i := 3) rfl
              have G : Fr (fun j => j = bB) w2 ((((w2.setCell ⟨bB, 0, none⟩ (.int .i64 page)).setCell ⟨bB, 1, none⟩ (.slice a' n c')).setCell ⟨bB, 2, none⟩ (.int .i64 sy)).setCell ⟨bB, 3, none⟩ (.int .i64 0)) := by
                refine (Fr.setCell (p := ⟨bB, 3, none⟩) (Fr.setCell (p := ⟨bB, 2, none⟩) (Fr.setCell (p := ⟨bB, 1, none⟩) (Fr.setCell (p := ⟨bB, 0, none⟩) (Fr.refl _ _) ?_ _) ?_ _) ?_ _) ?_ _)
                all_goals exact fun _ => rfl
              refine bodyPost_ret (v := .tuple #[.agg #[.int .i64 page, .slice a' n c', .int .i64 sy, .int .i64 0], .int .i64 27]) ?_ rfl ?_
              · simp [results, Try.results29, go_sem, g0, g1, g2, g3]
              exact ⟨a', n, c', Hbl.out.symm, rfl, (O2h.out.fr G (fun j h h2 => by have := (O2h.out.blk j h).1; have := Hbb.out; omega)).mono (by omega), (F2.out.trans0 G2h.out).trans G (fun j h1 h2 => by have := Hbb.out; omega)⟩
          · exact absurd haf2 (by omega)
          · have haf3 : ¬ af = 0 := by omega
            have haf4 : ¬ 0 < af := by omega
            have E : Hid (Q = (⟨page, [], ((0 : Nat) : Int), af⟩, 0)) := Lib.hid (by rw [HQ.out, if_neg (by omega), if_neg haf4])
            have e2 := E.out
            clear HQ E
            subst e2
            have y0 := C1.out.cell (i := 0) rfl
            have y1 := C1.out.cell (i := 1) rfl
            have y2 := C1.out.cell (i := 2) rfl
            have y3 := C1.out.cell (i := 3) rfl
            have h0 := C1.out.free 0
            have h1 := C1.out.free 1
            have h2 := C1.out.free 2
            have h3 := C1.out.free 3
            go_wp2_with fail
            clear z0 z1 z2 z3 y0 y1 y2 y3 h0 h1 h2 h3
            have g := ((((C1.out.set 0 (.int .i64 page)).set 1 (.slice none 0 0)).set 2 (.int .i64 0)).set 3 (.int .i64 af))
            have g0 := g.cell (i := 0) rfl
            have g1 := g.cell (i := 1) rfl
            have g2 := g.cell (i := 2) rfl
            have g3 := g.cell (i := 3) rfl
            have G : Fr (fun j => j = bB) wr ((((wr.setCell ⟨bB, 0, none⟩ (.int .i64 page)).setCell ⟨bB, 1, none⟩ (.slice none 0 0)).setCell ⟨bB, 2, none⟩ (.int .i64 0)).setCell ⟨bB, 3, none⟩ (.int .i64 af)) := by
              refine (Fr.setCell (p := ⟨bB, 3, none⟩) (Fr.setCell (p := ⟨bB, 2, none⟩) (Fr.setCell (p := ⟨bB, 1, none⟩) (Fr.setCell (p := ⟨bB, 0, none⟩) (Fr.refl _ _) ?_ _) ?_ _) ?_ _) ?_ _)
              all_goals exact fun _ => rfl
            refine bodyPost_ret (v := .tuple #[.agg #[.int .i64 page, .slice none 0 0, .int .i64 0, .int .i64 af], .int .i64 0]) ?_ rfl ?_
            · simp [results, Try.results29, go_sem, g0, g1, g2, g3]
            exact ⟨none, 0, 0, rfl, rfl, (RdN.out.fr G (fun j h h2 => by have := (RdN.out.blk j h).1; have := Hbb.out; omega)).mono (by omega), F2.out.trans G (fun j h1 h2 => by have := Hbb.out; omega)⟩
          · have haf3 : ¬ af = 0 := by omega
            have hb0 : (af == 0) = false := by simpa using haf3
            have E : Hid (Q = (⟨page, [], ((0 : Nat) : Int), af⟩, 0)) := Lib.hid (by rw [HQ.out, if_neg (by omega), if_pos haf]; simp)
            have e2 := E.out
            clear HQ E
            subst e2
            have y0 := C1.out.cell (i := 0) rfl
            have y1 := C1.out.cell (i := 1) rfl
            have y2 := C1.out.cell (i := 2) rfl
            have y3 := C1.out.cell (i := 3) rfl
            have h0 := C1.out.free 0
            have h1 := C1.out.free 1
            have h2 := C1.out.free 2
            have h3 := C1.out.free 3
            go_wp2_with fail
            clear z0 z1 z2 z3 y0 y1 y2 y3 h0 h1 h2 h3
            have g := ((((C1.out.set 0 (.int .i64 page)).set 1 (.slice none 0 0)).set 2 (.int .i64 0)).set 3 (.int .i64 (af)))
            have g0 := g.cell (i := 0) rfl
            have g1 := g.cell (i := 1) rfl
            have g2 := g.cell (i := 2) rfl
            have g3 := g.cell (i := 3) rfl
            have G : Fr (fun j => j = bB) wr ((((wr.setCell ⟨bB, 0, none⟩ (.int .i64 page)).setCell ⟨bB, 1, none⟩ (.slice none 0 0)).setCell ⟨bB, 2, none⟩ (.int .i64 0)).setCell ⟨bB, 3, none⟩ (.int .i64 (af))) := by
              refine (Fr.setCell (p := ⟨bB, 3, none⟩) (Fr.setCell (p := ⟨bB, 2, none⟩) (Fr.setCell (p := ⟨bB, 1, none⟩) (Fr.setCell (p := ⟨bB, 0, none⟩) (Fr.refl _ _) ?_ _) ?_ _) ?_ _) ?_ _)
              all_goals exact fun _ => rfl
            refine bodyPost_ret (v := .tuple #[.agg #[.int .i64 page, .slice none 0 0, .int .i64 0, .int .i64 (af)], .int .i64 0]) ?_ rfl ?_
            · simp [results, Try.results29, go_sem, g0, g1, g2, g3]
            exact ⟨none, 0, 0, rfl, rfl, (RdN.out.fr G (fun j h h2 => by have := (RdN.out.blk j h).1; have := Hbb.out; omega)).mono (by omega), F2.out.trans G (fun j h1 h2 => by have := Hbb.out; omega)⟩
        · have hpos : 0 < k := by omega
          have hRe : R = recB (List.range k) P := by rw [HR.out]; unfold ckR; rw [← Hnd.out, if_neg (by omega)]
          have HRe := Lib.hid hRe
          clear hRe hnz
          go_wp2_with fail
          refine (Record_any ap ad k cp cd (List.range k) P vs S _ hOr.out D1.out D2.out hSr.out (fun p hp => by have := List.mem_range.1 hp; omega) (fun d hd => by have := HP2.out d hd; have := Hln.out.2.1; omega) hnd2).mono ?_
          rintro e w5 ⟨ar, mr, cr, hmr, rfl, O5, F5⟩
          rw [← HRe.out] at hmr O5
          obtain rfl : mr = mR := by rw [hmr, HmR.out]
          have RdN : Hid (Own w5 (w.heap.size + 2) 5 ar mr cr (byt R)) := Lib.hid (O5.mono hs2.out)
          replace C0 := Lib.hid (C0.out.fr F5 id)
          replace C1 := Lib.hid (C1.out.fr F5 id)
          replace F2 := Lib.hid (F2.out.trans0 F5)
          replace hs2 : Hid (w.heap.size + 2 ≤ w5.heap.size) := Lib.hid (by have := F5.size; have := hs2.out; omega)
          clear O5 F5 hOr hSr D1 D2 hmr z0 z1 z2 z3
          have z0 := C0.out.cell (i := 0) rfl
          have z1 := C0.out.cell (i := 1) rfl
          have z2 := C0.out.cell (i := 2) rfl
          have z3 := C0.out.cell (i := 3) rfl
          have Hcase : Hid (af = 0 ∨ (0 < af ∧ af < (mr : Int)) ∨ af < 0 ∨ (0 < af ∧ (mr : Int) ≤ af)) := Lib.hid (by omega)
          rcases Hcase.out with haf | ⟨haf, haf2⟩ | haf | ⟨haf, haf2⟩
          · subst haf
            have E : Hid (Q = (⟨page, bs, sy, 0⟩, 27)) := Lib.hid (by rw [HQ.out, if_pos (.inl rfl)])
            have e2 := E.out
            clear HQ E
            subst e2
            have hcop : ∀ (W : World), Fr F0 w5 W → Calls Try.prog 53 #[.slice a n c] W fun e w' => ∃ a' c', e = .returned (.slice a' n c') ∧ Own w' (w.heap.size + 2) 5 a' n c' (byt bs) ∧ Fr F0 w5 w' ∧
                w'.cell? ⟨bA, 0, none⟩ = some (.int .i64 page) ∧ w'.cell? ⟨bA, 1, none⟩ = some (.slice a n c) ∧ w'.cell? ⟨bA, 2, none⟩ = some (.int .i64 sy) ∧ Blk w' bB 24 [.int .i64 0, .slice none 0 0, .int .i64 0, .int .i64 0] := fun W F =>
              (refcopied_any a n c bs W ((Hr.out.fr0 F2.out).fr0 F) Hn2.out).mono fun e w' ⟨a', c', h1, h2, h3⟩ =>
                have F9 := F.trans0 h3
                ⟨a', c', h1, h2.mono (by have := F.size; have := hs2.out; omega), F9, F9.cell z0 id, F9.cell z1 id, F9.cell z2 id, C1.out.fr F9 id⟩
            have Hcop := Lib.hid hcop
            clear hcop
            go_wp2_with fail
            go_region_held3 (fun w' => w'.cell? ⟨bA, 0, none⟩ = some (.int .i64 page) ∧ w'.cell? ⟨bA, 1, none⟩ = some (.slice a n c) ∧ w'.cell? ⟨bA, 2, none⟩ = some (.int .i64 sy)) (go_keep)
              (first | (go_at_call 53; refine (Hcop.out _ (by repeat (first | exact Fr.refl _ _ | refine Fr.drew ?_))).mono ?_; rintro e w2 ⟨a', c', rfl, O2, G2, k0, k1, k2, B2⟩; have O2h := Lib.hid O2; have G2h := Lib.hid G2; have B2h := Lib.hid B2; have y0 := B2.cell (i := 0) rfl; have y1 := B2.cell (i := 1) rfl; have y2 := B2.cell (i := 2) rfl; have y3 := B2.cell (i := 3) rfl; have f0 := B2.free 0; have f1 := B2.free 1; have f2 := B2.free 2; have f3 := B2.free 3; clear O2 G2 B2))
            all_goals
              go_wp2_with fail
              clear y0 y1 y2 y3 f0 f1 f2 f3
              have C1 := B2h
              have g := ((((C1.out.set 0 (.int .i64 page)).set 1 (.slice a' n c')).set 2 (.int .i64 sy)).set 3 (.int .i64 0))
              have g0 := g.cell (i := 0) rfl
              have g1 := g.cell (i := 1) rfl
              have g2 := g.cell (i := 2) rfl
              have g3 := g.cell (i := 3) rfl
              have G : Fr (fun j => j = bB) w2 ((((w2.setCell ⟨bB, 0, none⟩ (.int .i64 page)).setCell ⟨bB, 1, none⟩ (.slice a' n c')).setCell ⟨bB, 2, none⟩ (.int .i64 sy)).setCell ⟨bB, 3, none⟩ (.int .i64 0)) := by
                refine (Fr.setCell (p := ⟨bB, 3, none⟩) (Fr.setCell (p := ⟨bB, 2, none⟩) (Fr.setCell (p := ⟨bB, 1, none⟩) (Fr.setCell (p := ⟨bB, 0, none⟩) (Fr.refl _ _) ?_ _) ?_ _) ?_ _) ?_ _)
                all_goals exact fun _ => rfl
              refine bodyPost_ret (v := .tuple #[.agg #[.int .i64 page, .slice a' n c', .int .i64 sy, .int .i64 0], .int .i64 27]) ?_ rfl ?_
              · simp [results, Try.results29, go_sem, g0, g1, g2, g3]
              exact ⟨a', n, c', Hbl.out.symm, rfl, (O2h.out.fr G (fun j h h2 => by have := (O2h.out.blk j h).1; have := Hbb.out; omega)).mono (by omega), (F2.out.trans0 G2h.out).trans G (fun j h1 h2 => by have := Hbb.out; omega)⟩
          · have haf3 : ¬ af = 0 := by omega
            have E : Hid (Q = (⟨page, bs, sy, 0⟩, 27)) := Lib.hid (by rw [HQ.out, if_pos (.inr ⟨haf, haf2⟩)])
            have e2 := E.out
            clear HQ E
            subst e2
            have hcop : ∀ (W : World), Fr F0 w5 W → Calls Try.prog 53 #[.slice a n c] W fun e w' => ∃ a' c', e = .returned (.slice a' n c') ∧ Own w' (w.heap.size + 2) 5 a' n c' (byt bs) ∧ Fr F0 w5 w' ∧
                w'.cell? ⟨bA, 0, none⟩ = some (.int .i64 page) ∧ w'.cell? ⟨bA, 1, none⟩ = some (.slice a n c) ∧ w'.cell? ⟨bA, 2, none⟩ = some (.int .i64 sy) ∧ Blk w' bB 24 [.int .i64 0, .slice none 0 0, .int .i64 0, .int .i64 0] := fun W F =>
              (refcopied_any a n c bs W ((Hr.out.fr0 F2.out).fr0 F) Hn2.out).mono fun e w' ⟨a', c', h1, h2, h3⟩ =>
                have F9 := F.trans0 h3
                ⟨a', c', h1, h2.mono (by have := F.size; have := hs2.out; omega), F9, F9.cell z0 id, F9.cell z1 id, F9.cell z2 id, C1.out.fr F9 id⟩
            have Hcop := Lib.hid hcop
            clear hcop
            go_wp2_with fail
            go_region_held3 (fun w' => w'.cell? ⟨bA, 0, none⟩ = some (.int .i64 page) ∧ w'.cell? ⟨bA, 1, none⟩ = some (.slice a n c) ∧ w'.cell? ⟨bA, 2, none⟩ = some (.int .i64 sy)) (go_keep)
              (first | (go_at_call 53; refine (Hcop.out _ (by repeat (first | exact Fr.refl _ _ | refine Fr.drew ?_))).mono ?_; rintro e w2 ⟨a', c', rfl, O2, G2, k0, k1, k2, B2⟩; have O2h := Lib.hid O2; have G2h := Lib.hid G2; have B2h := Lib.hid B2; have y0 := B2.cell (i := 0) rfl; have y1 := B2.cell (i := 1) rfl; have y2 := B2.cell (i := 2) rfl; have y3 := B2.cell (i := 3) rfl; have f0 := B2.free 0; have f1 := B2.free 1; have f2 := B2.free 2; have f3 := B2.free 3; clear O2 G2 B2))
            all_goals
              go_wp2_with fail
              clear y0 y1 y2 y3 f0 f1 f2 f3
              have C1 := B2h
              have g := ((((C1.out.set 0 (.int .i64 page)).set 1 (.slice a' n c')).set 2 (.int .i64 sy)).set 3 (.int .i64 0))
              have g0 := g.cell (i := 0) rfl
              have g1 := g.cell (i := 1) rfl
              have g2 := g.cell (i := 2) rfl
              have g3 := g.cell (i := 3) rfl
              have G : Fr (fun j => j = bB) w2 ((((w2.setCell ⟨bB, 0, none⟩ (.int .i64 page)).setCell ⟨bB, 1, none⟩ (.slice a' n c')).setCell ⟨bB, 2, none⟩ (.int .i64 sy)).setCell ⟨bB, 3, none⟩ (.int .i64 0)) := by
                refine (Fr.setCell (p := ⟨bB, 3, none⟩) (Fr.setCell (p := ⟨bB, 2, none⟩) (Fr.setCell (p := ⟨bB, 1, none⟩) (Fr.setCell (p := ⟨bB, 0, none⟩) (Fr.refl _ _) ?_ _) ?_ _) ?_ _) ?_ _)
                all_goals exact fun _ => rfl
              refine bodyPost_ret (v := .tuple #[.agg #[.int .i64 page, .slice a' n c', .int .i64 sy, .int .i64 0], .int .i64 27]) ?_ rfl ?_
              · simp [results, Try.results29, go_sem, g0, g1, g2, g3]
              exact ⟨a', n, c', Hbl.out.symm, rfl, (O2h.out.fr G (fun j h h2 => by have := (O2h.out.blk j h).1; have := Hbb.out; omega)).mono (by omega), (F2.out.trans0 G2h.out).trans G (fun j h1 h2 => by have := Hbb.out; omega)⟩
          · have haf3 : ¬ af = 0 := by omega
            have haf4 : ¬ 0 < af := by omega
            have E : Hid (Q = (⟨page, R, ((mr : Nat) : Int), af⟩, 0)) := Lib.hid (by rw [HQ.out, if_neg (by omega), if_neg haf4])
            have e2 := E.out
            clear HQ E
            subst e2
            have y0 := C1.out.cell (i := 0) rfl
            have y1 := C1.out.cell (i := 1) rfl
            have y2 := C1.out.cell (i := 2) rfl
            have y3 := C1.out.cell (i := 3) rfl
            have h0 := C1.out.free 0
            have h1 := C1.out.free 1
            have h2 := C1.out.free 2
            have h3 := C1.out.free 3
            go_wp2_with fail
            clear z0 z1 z2 z3 y0 y1 y2 y3 h0 h1 h2 h3
            have g := ((((C1.out.set 0 (.int .i64 page)).set 1 (.slice ar mr cr)).set 2 (.int .i64 mr)).set 3 (.int .i64 af))
            have g0 := g.cell (i := 0) rfl
            have g1 := g.cell (i := 1) rfl
            have g2 := g.cell (i := 2) rfl
            have g3 := g.cell (i := 3) rfl
            have G : Fr (fun j => j = bB) w5 ((((w5.setCell ⟨bB, 0, none⟩ (.int .i64 page)).setCell ⟨bB, 1, none⟩ (.slice ar mr cr)).setCell ⟨bB, 2, none⟩ (.int .i64 mr)).setCell ⟨bB, 3, none⟩ (.int .i64 af)) := by
              refine (Fr.setCell (p := ⟨bB, 3, none⟩) (Fr.setCell (p := ⟨bB, 2, none⟩) (Fr.setCell (p := ⟨bB, 1, none⟩) (Fr.setCell (p := ⟨bB, 0, none⟩) (Fr.refl _ _) ?_ _) ?_ _) ?_ _) ?_ _)
              all_goals exact fun _ => rfl
            refine bodyPost_ret (v := .tuple #[.agg #[.int .i64 page, .slice ar mr cr, .int .i64 mr, .int .i64 af], .int .i64 0]) ?_ rfl ?_
            · simp [results, Try.results29, go_sem, g0, g1, g2, g3]
            exact ⟨ar, mr, cr, HmR.out, rfl, (RdN.out.fr G (fun j h h2 => by have := (RdN.out.blk j h).1; have := Hbb.out; omega)).mono (by omega), F2.out.trans G (fun j h1 h2 => by have := Hbb.out; omega)⟩
          · have haf3 : ¬ af = 0 := by omega
            have hb0 : (af == 0) = false := by simpa using haf3
            have E : Hid (Q = (⟨page, R, ((mr : Nat) : Int), af - (mr : Int)⟩, 0)) := Lib.hid (by rw [HQ.out, if_neg (by omega), if_pos haf])
            have e2 := E.out
            clear HQ E
            subst e2
            have y0 := C1.out.cell (i := 0) rfl
            have y1 := C1.out.cell (i := 1) rfl
            have y2 := C1.out.cell (i := 2) rfl
            have y3 := C1.out.cell (i := 3) rfl
            have h0 := C1.out.free 0
            have h1 := C1.out.free 1
            have h2 := C1.out.free 2
            have h3 := C1.out.free 3
            go_wp2_with fail
            clear z0 z1 z2 z3 y0 y1 y2 y3 h0 h1 h2 h3
            have g := ((((C1.out.set 0 (.int .i64 page)).set 1 (.slice ar mr cr)).set 2 (.int .i64 mr)).set 3 (.int .i64 (af - (mr : Int))))
            have g0 := g.cell (i := 0) rfl
            have g1 := g.cell (i := 1) rfl
            have g2 := g.cell (i := 2) rfl
            have g3 := g.cell (i := 3) rfl
            have G : Fr (fun j => j = bB) w5 ((((w5.setCell ⟨bB, 0, none⟩ (.int .i64 page)).setCell ⟨bB, 1, none⟩ (.slice ar mr cr)).setCell ⟨bB, 2, none⟩ (.int .i64 mr)).setCell ⟨bB, 3, none⟩ (.int .i64 (af - (mr : Int)))) := by
              refine (Fr.setCell (p := ⟨bB, 3, none⟩) (Fr.setCell (p := ⟨bB, 2, none⟩) (Fr.setCell (p := ⟨bB, 1, none⟩) (Fr.setCell (p := ⟨bB, 0, none⟩) (Fr.refl _ _) ?_ _) ?_ _) ?_ _) ?_ _)
              all_goals exact fun _ => rfl
            refine bodyPost_ret (v := .tuple #[.agg #[.int .i64 page, .slice ar mr cr, .int .i64 mr, .int .i64 (af - (mr : Int))], .int .i64 0]) ?_ rfl ?_
            · simp [results, Try.results29, go_sem, g0, g1, g2, g3]
            exact ⟨ar, mr, cr, HmR.out, rfl, (RdN.out.fr G (fun j h h2 => by have := (RdN.out.blk j h).1; have := Hbb.out; omega)).mono (by omega), F2.out.trans G (fun j h1 h2 => by have := Hbb.out; omega)⟩
end Go.Proofs.Ytehpikjhjghplaa
