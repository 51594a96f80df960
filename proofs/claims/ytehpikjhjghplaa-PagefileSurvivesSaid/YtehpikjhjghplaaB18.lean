/- The pages of a disk, by the reference. -/
import Derived.Test.YtehpikjhjghplaaB17
import Derived.StillTailTactics
namespace Go.Proofs.Ytehpikjhjghplaa
open Go.RowKit
attribute [local go_sem ↓] Go.wp_at_zero Go.wp_at_succ
/-- What the loops of the reference's pages keep. -/
structure PgQ (w : World) (SB SC : Nat → Prop) (T : List (Value × Value)) (LL : List Rec) (bz oz : Nat) (nL : Nat) (bD : Nat) (dv : List Value) (k : Nat) (v0 v1 : Value) (a0 : Option Addr) (np : Nat) (ps : List Nat) (b0 : Option Addr) (vr : List Value) (ds : List (List UInt8)) : Prop where
  M : RecsM w SB T LL
  Z : RdZ w 3 (some ⟨bz, oz, none⟩) nL (flat3 T LL)
  D : Blk w bD 24 dv
  Z0 : w.cell? ⟨bz, oz + k * 3, none⟩ = some v0
  Z1 : w.cell? ⟨bz, oz + k * 3 + 1, none⟩ = some v1
  P : Rd w a0 np (ints (nats ps))
  Q : Rd w b0 np vr
  R : RowsM w SB vr ds
theorem PgQ.fr {w w' : World} {SB SC X : Nat → Prop} {T : List (Value × Value)} {LL : List Rec} {bz oz : Nat} {nL bD : Nat} {dv : List Value} {k : Nat} {v0 v1 : Value} {a0 : Option Addr} {np : Nat} {ps : List Nat} {b0 : Option Addr} {vr : List Value} {ds : List (List UInt8)}
    (h : PgQ w SB SC T LL bz oz nL bD dv k v0 v1 a0 np ps b0 vr ds) (f : Fr X w w') (hX : ∀ k, SC k → ¬ X k) (h1 : ∀ k, SB k → SC k) (h2 : ∀ k, onBlk (some ⟨bz, oz, none⟩) k → SB k) (h3 : SB bD) (h5 : 0 < np → ∀ k, onBlk a0 k → SB k) (h6 : 0 < np → ∀ k, onBlk b0 k → SB k) :
    PgQ w' SB SC T LL bz oz nL bD dv k v0 v1 a0 np ps b0 vr ds :=
  have hY : ∀ k, SB k → ¬ X k := fun k hk => hX k (h1 k hk)
  have hZ : ¬ X bz := hY _ (h2 _ ((onBlk_some _ _ _ _).2 rfl))
  ⟨h.M.fr f hY, h.Z.fr f (fun k hk => hY k (h2 k hk)), h.D.fr f (hY _ h3), f.cell h.Z0 hZ, f.cell h.Z1 hZ, h.P.frP f (fun h0 k hk => hY k (h5 h0 k hk)), h.Q.frP f (fun h0 k hk => hY k (h6 h0 k hk)), h.R.fr f hY⟩
set_option maxHeartbeats 8000000 in
set_option maxRecDepth 40000 in
theorem Pages_any (a : Option Addr) (n c page : Nat) (sy af : Int) (bs : List UInt8) (w : World) (hr : Rd w a n (byt bs)) (hc : n ≤ c) (hn : n ≤ 1048576) (hp : page ≤ 256) (hp1 : 1 ≤ page) :
    Calls Try.prog 24 #[.agg (dsk page a n c sy af)] w (PgPost (pgsL page (recs bs page).1) a w) := by
  have hbl : bs.length = n := by simpa using hr.len
  have hal : 0 < n → ∀ k, onBlk a k → k < w.heap.size := fun h => hr.lt h
  have FA : Fr F0 w (w.alloc (.cells (dsk page a n c sy af) 24)) := (Fr.refl _ _).alloc _
  have B0 : Blk (w.alloc (.cells (dsk page a n c sy af) 24)) w.heap.size 24 [.int .i64 page, .slice a n c, .int .i64 sy, .int .i64 af] := Blk.new w 24 [.int .i64 page, .slice a n c, .int .i64 sy, .int .i64 af]
  have hcall := Records_any a n c page sy af bs _ (hr.fr0 FA) hc hn hp hp1
  obtain ⟨LL, hLL⟩ : ∃ LL, LL = (recs bs page).1 := ⟨_, rfl⟩
  have hgood : ∀ r ∈ LL, RecGood page r := by rw [hLL]; exact recs_good bs page
  have h8 : LL.length * 8 ≤ n := by
    have h := recs_8 bs page (bs.length + 1) 0 (by omega) (by omega)
    have h2 : (recs bs page).1.length * 8 + 0 ≤ (recs bs page).2 := h
    have h3 := recs_le bs page
    rw [hLL]; omega
  rw [← hLL]
  unfold RPost at hcall
  rw [← hLL] at hcall
  obtain ⟨fin, hfin⟩ : ∃ fin, fin = (recs bs page).2 := ⟨_, rfl⟩
  rw [← hfin] at hcall
  have hmk := run_mk E5 rfl page (by omega) (by omega)
  have Hmk := Lib.hid hmk
  have Hgood := Lib.hid hgood
  have Hal := Lib.hid hal
  have Hcall := Lib.hid hcall
  replace FA := Lib.hid FA
  replace B0 := Lib.hid B0
  have Hbase : Hid ((w.alloc (.cells (dsk page a n c sy af) 24)).heap.size = w.heap.size + 1) := Lib.hid (size_alloc _ _)
  clear hr hbl hal hcall hLL hgood hfin hmk
  go_enter Try.func24, Try.ntmps24
  go_wp2_with fail
  refine Hcall.out.mono ?_
  rintro e w1 ⟨ar, cr, T, S0, rfl, hZ, hM, hS, hA, F1⟩
  obtain ⟨bD, hbD⟩ : ∃ b, b = w.heap.size := ⟨_, rfl⟩
  have CA := Lib.hid (B0.out.fr F1 id)
  have FW := Lib.hid (FA.out.trans0 F1)
  rw [← hbD] at CA
  rw [← hbD]
  have HbD := Lib.hid hbD
  obtain ⟨nL, hnL⟩ : ∃ nL, nL = LL.length := ⟨_, rfl⟩
  rw [← hnL] at hZ h8
  rw [← hnL]
  have HnL := Lib.hid hnL
  have hS1 : Hid (∀ j, (S0 j ∨ onBlk ar j ∨ j = bD) → j < w1.heap.size ∧ (onBlk a j ∨ w.heap.size ≤ j)) := Lib.hid (fun j h => by
    have hb := Hbase.out
    rcases h with h | h | h
    · have h2 := hS j h
      exact ⟨h2.1, h2.2.elim .inl (fun h => .inr (by omega))⟩
    · have h2 := hA j h
      exact ⟨h2.2, .inr (by omega)⟩
    · have := CA.out.lt
      exact ⟨by omega, .inr (by omega)⟩)
  have hM1 := Lib.hid (hM.mono (fun j h => (Or.inl h : S0 j ∨ onBlk ar j ∨ j = bD)))
  have hZ1 := Lib.hid hZ
  have Tl : Hid (T.length = nL) := Lib.hid (by rw [hM.len, HnL.out])
  clear F1 hbD hnL hS hA hM hZ Hcall B0 FA
  go_wp2_with fail
  have hst : Hid (pgsL page (LL.take 0) = []) := Lib.hid rfl
  obtain ⟨SB, hSB⟩ : ∃ SB : Nat → Prop, SB = fun j => S0 j ∨ onBlk ar j ∨ j = bD := ⟨_, rfl⟩
  have hS2 : Hid (∀ j, SB j → j < w1.heap.size ∧ (onBlk a j ∨ w.heap.size ≤ j)) := Lib.hid (by rw [hSB]; exact hS1.out)
  have hM2 : Hid (RecsM w1 SB T LL) := Lib.hid (by rw [hSB]; exact hM1.out)
  have hSar : Hid (∀ j, onBlk ar j → SB j) := Lib.hid (by rw [hSB]; exact fun j h => .inr (.inl h))
  have hSD : Hid (SB bD) := Lib.hid (by rw [hSB]; exact .inr (.inr rfl))
  clear hSB hS1 hM1
  go_loopw [5, 6, 7] (fun s3 s17 _ wr => ∃ (k no co : Nat) (ao : Option Addr) (vs : List Value) (S : Nat → Prop), k ≤ nL ∧ s17 = .int .i64 k ∧ s3 = .slice ao no co ∧ Hid (no = (pgsL page (LL.take k)).length) ∧ Hid (Own wr (w.heap.size + 1) 22 ao no co vs) ∧ Hid (RowsM wr S vs (pgsL page (LL.take k))) ∧ Hid (∀ j, (S j ∨ SB j) → j < wr.heap.size ∧ (onBlk a j ∨ w.heap.size ≤ j) ∧ ¬ onBlk ao j) ∧ Hid (RecsM wr SB T LL) ∧ Hid (RdZ wr 3 ar nL (flat3 T LL)) ∧ Hid (Blk wr bD 24 [.int .i64 page, .slice a n c, .int .i64 sy, .int .i64 af]) ∧ Hid (w.heap.size + 1 ≤ wr.heap.size) ∧ Hid (Fr F0 w wr)) (fun _ s17 _ _ => nL - (intOf s17).toNat)
  case atStart => exact ⟨0, 0, 0, none, [], fun _ => False, by omega, rfl, rfl, Lib.hid rfl, Lib.hid (Own.nil _ _ _), Lib.hid (RowsM.nil _ _), Lib.hid (fun j h => by
      rcases h with h | h
      · exact h.elim
      · have h2 := hS2.out j h
        exact ⟨h2.1, h2.2, onBlk_none _⟩), hM2, hZ1, CA, Lib.hid (by have := CA.out.lt; have := HbD.out; omega), FW⟩
  case round =>
    clear hZ1 CA FW hM2 hS2 hst
    obtain ⟨k, no, co, ao, vs, S, hk, rfl, rfl, hno, hO, hR, hS, hM, hZ, CA, hsz, FW⟩ := hrel
    by_cases hlt : k < nL
    · obtain ⟨bz, oz, hbz, hcz⟩ := hZ.out.cells (by omega)
      obtain ⟨r, hrk⟩ : ∃ r, LL[k]? = some r := ⟨LL[k]'(by have := HnL.out; omega), List.getElem?_eq_getElem (by have := HnL.out; omega)⟩
      obtain ⟨t, htk⟩ : ∃ t, T[k]? = some t := ⟨T[k]'(by have := Tl.out; omega), List.getElem?_eq_getElem (by have := Tl.out; omega)⟩
      obtain ⟨q0, q1, q2⟩ := flat3_get T LL k t r htk hrk
      obtain ⟨a0, c0, b0, cb0, vr, ht, hdl, hPs, hDs, hRw, hSa, hSb⟩ := hM.out.row k t r htk hrk
      subst ht
      have z0 := hcz _ _ q0
      have z1 := hcz _ _ q1
      have z2 := hcz _ _ q2
      rw [← Nat.add_assoc] at z1 z2
      have hgr := Hgood.out r (List.mem_of_getElem? hrk)
      obtain ⟨np, hnp⟩ : ∃ np, np = r.ps.length := ⟨_, rfl⟩
      have hnp2 : np ≤ 1000 := by rw [hnp]; exact hgr.num
      rw [← hnp] at z0 z1 hPs hDs hSa hSb
      have hstep : Hid (pgsL page (LL.take (k + 1)) = (r.ps.zip r.ds).foldl (pgStep page) (pgsL page (LL.take k))) := Lib.hid (by unfold pgsL; rw [fold_take hrk]; rfl)
      have hok0 : Hid ((pgsL page (LL.take k)).length ≤ 1000 ∧ ∀ d ∈ pgsL page (LL.take k), d.length = page) := Lib.hid (pgsL_ok _ _ (fun r hr => Hgood.out r (List.mem_of_mem_take hr)) (by simp) (by simp))
      have Hgr := Lib.hid hgr
      have Hnp := Lib.hid hnp
      have HPs := Lib.hid hPs
      have HDs := Lib.hid hDs
      have HRw := Lib.hid hRw
      have HSa := Lib.hid hSa
      have HSb := Lib.hid hSb
      have Hdl := Lib.hid hdl
      obtain ⟨P0, hP0⟩ : ∃ P0, P0 = pgsL page (LL.take k) := ⟨_, rfl⟩
      rw [← hP0] at hno hR hstep hok0
      have i0 : (0 : Int) ≤ (k : Int) := by omega
      have i1 : (k : Int) < (nL : Int) := by omega
      subst hbz
      clear hrk htk q0 q1 q2 hcz hPs hDs hRw hSa hSb hgr hnp hP0 hdl
      obtain ⟨SC, hSC⟩ : ∃ SC : Nat → Prop, SC = SB := ⟨_, rfl⟩
      have hSB2 : Hid (∀ j, SB j → SC j) := Lib.hid (by rw [hSC]; exact fun j h => h)
      have hSS2 : Hid (∀ j, (S j ∨ SC j) → j < wr.heap.size ∧ (onBlk a j ∨ w.heap.size ≤ j) ∧ ¬ onBlk ao j) := Lib.hid (by rw [hSC]; exact hS.out)
      have KQ : Hid (PgQ wr SB SC T LL bz oz nL bD [.int .i64 page, .slice a n c, .int .i64 sy, .int .i64 af] k (.slice a0 np c0) (.slice b0 np cb0) a0 np r.ps b0 vr r.ds) := Lib.hid ⟨hM.out, hZ.out, CA.out, z0, z1, HPs.out, HDs.out, HRw.out⟩
      clear hSC hS hM hZ CA z0 z1 z2 HPs HDs HRw
      obtain ⟨wo, hwo⟩ : ∃ wo : World, wo = wr := ⟨_, rfl⟩
      rw [← hwo] at hO hR hSS2 KQ hsz FW
      rw [← hwo]
      clear hwo
      go_wp2_with fail
      go_loopw [5, 7] (fun s3 s24 wr => ∃ (i no co : Nat) (ao : Option Addr) (vs : List Value) (S : Nat → Prop) (pgs : List (List UInt8)), i ≤ np ∧ s24 = .int .i64 i ∧ s3 = .slice ao no co ∧ Hid (pgs = ((r.ps.zip r.ds).take i).foldl (pgStep page) P0) ∧ Hid (no = pgs.length) ∧ no ≤ 1000 ∧ Hid (Own wr (w.heap.size + 1) 22 ao no co vs) ∧ Hid (RowsM wr S vs pgs) ∧ Hid (∀ j, (S j ∨ SC j) → j < wr.heap.size ∧ (onBlk a j ∨ w.heap.size ≤ j) ∧ ¬ onBlk ao j) ∧ Hid (PgQ wr SB SC T LL bz oz nL bD [.int .i64 page, .slice a n c, .int .i64 sy, .int .i64 af] k (.slice a0 np c0) (.slice b0 np cb0) a0 np r.ps b0 vr r.ds) ∧ Hid (w.heap.size + 1 ≤ wr.heap.size) ∧ Hid (Fr F0 w wr)) (fun _ s24 _ => np - (intOf s24).toNat)
      case atStart => exact ⟨0, no, co, ao, vs, S, P0, by omega, rfl, rfl, Lib.hid rfl, hno, by rw [hno.out]; exact hok0.out.1, hO, hR, hSS2, KQ, hsz, FW⟩
      case round =>
        clear hO hR hSS2 KQ hsz FW hno
        obtain ⟨i, no, co, ao, vs, S, pgs, hi, rfl, rfl, hpg, hno, hno9, hO, hR, hS, KP, hsz, FW⟩ := hrel
        have y0 := KP.out.Z0
        by_cases hlt2 : i < np
        · obtain ⟨b1, o1, p, hb1, hpk, d1⟩ := nat_ix KP.out.P hlt2
          obtain ⟨b2, o2, ard, crd, d, hb2, hdk, d2, hRow⟩ := rows_ix KP.out.Q KP.out.R hlt2
          have hp1000 := Hgr.out.ps p (List.mem_of_getElem? hpk)
          have hnx : Hid (((r.ps.zip r.ds).take (i + 1)).foldl (pgStep page) P0 = pgStep page pgs (p, d)) := Lib.hid (by rw [zip_take_foldl P0 hpk hdk, ← hpg.out])
          have Hdk := Lib.hid hdk
          have Hpk := Lib.hid hpk
          have j0 : (0 : Int) ≤ (i : Int) := by omega
          have j1 : (i : Int) < (np : Int) := by omega
          subst hb1
          clear hpk hdk hRow hb2 d2 ard crd b2 o2 d1
          obtain ⟨wi, hwi⟩ : ∃ wi : World, wi = wr := ⟨_, rfl⟩
          rw [← hwi] at hO hR hS KP hsz FW y0
          rw [← hwi]
          clear hwi
          go_wp2_with fail
          have hp0 : padP page no pgs = pgs := by rw [hno.out]; exact padP_of_le (Nat.le_refl _)
          have hR0 : Hid (RowsM wi S vs (padP page no pgs)) := by rw [hp0]; exact hR
          clear hR hp0 y0
          go_loopw [5] (fun s3 wr => ∃ (j co : Nat) (ao : Option Addr) (vs : List Value) (S : Nat → Prop), no ≤ j ∧ j ≤ max (p + 1) no ∧ s3 = .slice ao j co ∧ Hid (Own wr (w.heap.size + 1) 22 ao j co vs) ∧ Hid (RowsM wr S vs (padP page j pgs)) ∧ Hid (∀ j, (S j ∨ SC j) → j < wr.heap.size ∧ (onBlk a j ∨ w.heap.size ≤ j) ∧ ¬ onBlk ao j) ∧ Hid (PgQ wr SB SC T LL bz oz nL bD [.int .i64 page, .slice a n c, .int .i64 sy, .int .i64 af] k (.slice (some ⟨b1, o1, none⟩) np c0) (.slice b0 np cb0) (some ⟨b1, o1, none⟩) np r.ps b0 vr r.ds) ∧ Hid (w.heap.size + 1 ≤ wr.heap.size) ∧ Hid (Fr F0 w wr)) (fun s3 _ => p + 1 - (match s3 with | .slice _ n _ => n | _ => 0))
          case atStart => exact ⟨no, co, ao, vs, S, by omega, by omega, rfl, hO, hR0, hS, KP, hsz, FW⟩
          case round =>
            clear hO hR0 hS KP hsz FW
            obtain ⟨j, co, ao, vs, S, hj1, hj2, rfl, hO, hR, hS, KP, hsz, FW⟩ := hrel
            obtain ⟨b1', o1', p', hb1', hpk', d1⟩ := nat_ix KP.out.P hlt2
            obtain rfl : p = p' := by have h := Hpk.out; rw [hpk'] at h; exact (Option.some.inj h).symm
            cases hb1'
            have y0 := KP.out.Z0
            clear hpk'
            by_cases hlt3 : j ≤ p
            · have x0 := KP.out.D.cell (i := 0) rfl
              have hmk := Hmk.out wr
              have hszl := hsz.out
              have O1 := hO.out.alloc (.cells (Array.replicate page (.int .u8 0)) 5)
              have nz : Hid (¬ onBlk ao wr.heap.size) := Lib.hid (fun h => by have := (hO.out.blk _ h).2; omega)
              go_wp2_with (at_builtin; refine wpAppAt ER O1 (by omega) (by omega) (by rw [size_alloc]; omega) (u := .slice (some ⟨wr.heap.size, 0, none⟩) page page) rfl rfl (by rw [size_alloc]; rfl) ?_; intro a5 c5 w5 own5 fr5 at5)
              have sz1 : (wr.alloc (.cells (Array.replicate page (Value.int .u8 0)) 5)).heap.size = wr.heap.size + 1 := size_alloc _ _
              have G1 : Fr (onBlk ao) wr w5 := ((Fr.refl _ wr).alloc _).trans fr5 (fun _ _ h => h)
              have hob := hO.out.blk
              have R1 : Rd w5 (some ⟨wr.heap.size, 0, none⟩) page (byt (zrow page)) := by
                have h := (Own.made (w := wr) (B := 0) (T := 5) (z := .int .u8 0) page (Nat.zero_le _) (by omega)).rd
                rw [zrow_byt] at h
                exact h.fr fr5 (fun k hk h2 => nz.out (by rw [(onBlk_some _ _ _ _).1 hk] at h2; exact h2))
              have hzl : (zrow page).length = page := by unfold zrow; simp
              have R5 : Hid (RowsM w5 (fun j => S j ∨ j = wr.heap.size) (vs ++ [.slice (some ⟨wr.heap.size, 0, none⟩) page page]) (padP page (j + 1) pgs)) := Lib.hid (by
                rw [padP_succ (by rw [← hno.out]; omega)]
                exact ((hR.out.fr G1 (fun k hk h => (hS.out k (.inl hk)).2.2 h)).mono (fun _ h => .inl h)).snoc ⟨some ⟨wr.heap.size, 0, none⟩, page, by rw [hzl], by rw [hzl]; exact Nat.le_refl _, by rw [hzl]; exact R1, fun _ k hk => .inr ((onBlk_some _ _ _ _).1 hk)⟩)
              have S5 : Hid (∀ j, ((S j ∨ j = wr.heap.size) ∨ SC j) → j < w5.heap.size ∧ (onBlk a j ∨ w.heap.size ≤ j) ∧ ¬ onBlk a5 j) := Lib.hid (fun j h => by
                have hz := fr5.size
                have hq : j < wr.heap.size + 1 ∧ (onBlk a j ∨ w.heap.size ≤ j) ∧ ¬ onBlk ao j := by
                  rcases h with (h | h) | h
                  · have h2 := hS.out j (.inl h); exact ⟨by omega, h2.2⟩
                  · subst h; exact ⟨by omega, .inr (by omega), nz.out⟩
                  · have h2 := hS.out j (.inr h); exact ⟨by omega, h2.2⟩
                exact ⟨by omega, hq.2.1, fun h5 => (at5 j h5).elim hq.2.2 (fun h6 => by rw [sz1] at h6; omega)⟩)
              have K5 : Hid (PgQ w5 SB SC T LL bz oz nL bD [.int .i64 page, .slice a n c, .int .i64 sy, .int .i64 af] k (.slice (some ⟨b1, o1, none⟩) np c0) (.slice b0 np cb0) (some ⟨b1, o1, none⟩) np r.ps b0 vr r.ds) := Lib.hid (KP.out.fr G1 (fun k hk h => (hS.out k (.inr hk)).2.2 h) hSB2.out hSar.out hSD.out HSa.out HSb.out)
              have F5 : Hid (Fr F0 w w5) := Lib.hid (FW.out.trans G1 (fun k hk h => by have := (hob k h).1; omega))
              have z5 : Hid (w.heap.size + 1 ≤ w5.heap.size) := Lib.hid (by have := G1.size; omega)
              clear hszl x0 hmk O1 sz1 hzl R1 G1 hob fr5 at5
              go_roundw
              case rel => exact ⟨j + 1, c5, a5, _, _, by omega, by omega, rfl, Lib.hid own5, R5, S5, K5, z5, F5⟩
              case measure => simp; omega
            · obtain rfl : j = max (p + 1) no := by omega
              obtain ⟨b2, o2, ard, crd, d', hb2, hdk', d2, hRow⟩ := rows_ix KP.out.Q KP.out.R hlt2
              obtain rfl : d' = d := by have h := Hdk.out; rw [hdk'] at h; exact Option.some.inj h
              have hdl := Hgr.out.row d' (List.mem_of_getElem? hdk')
              obtain ⟨g, hg, hgB, hgl, hgc, hgf⟩ := hO.out.at (by omega)
              subst hb2
              subst hg
              have hpl : padP page (max (p + 1) no) pgs = padP page (p + 1) pgs := by rw [hno.out]; exact padP_max _ _ _
              have hvl := hO.out.len
              obtain ⟨u, hu⟩ : ∃ u, vs[p]? = some u := ⟨vs[p]'(by omega), List.getElem?_eq_getElem (by omega)⟩
              have z0 := hgc p u hu
              have zf := hgf p
              have y1 := KP.out.Z1
              have e1 : (p : Int) < ((max (p + 1) no : Nat) : Int) := by omega
              have e0 : (0 : Int) ≤ (p : Int) := by omega
              have O9 := Lib.hid (hO.out.set (i := p) (.slice ard d'.length crd))
              have G9 : Fr (fun j => j = g) wr (wr.setCell ⟨g, p, none⟩ (.slice ard d'.length crd)) := Fr.setCell (S := fun j => j = g) (p := ⟨g, p, none⟩) (Fr.refl _ _) (fun _ => rfl) _
              have hng : ∀ j, (S j ∨ SC j) → j ≠ g := fun j h e => (hS.out j h).2.2 ((onBlk_some _ _ _ _).2 e)
              have R9 : Hid (RowsM (wr.setCell ⟨g, p, none⟩ (.slice ard d'.length crd)) (fun j => S j ∨ SB j) (vs.set p (.slice ard d'.length crd)) (((r.ps.zip r.ds).take (i + 1)).foldl (pgStep page) P0)) := Lib.hid (by
                rw [hnx.out]
                unfold pgStep
                have h := hR.out
                rw [hpl] at h
                exact ((h.mono (fun _ h => .inl h)).set (hRow.mono (fun _ h => .inr h))).fr G9 (fun k hk => hng k (hk.elim .inl (fun h => .inr (hSB2.out k h)))))
              have K9 : Hid (PgQ (wr.setCell ⟨g, p, none⟩ (.slice ard d'.length crd)) SB SC T LL bz oz nL bD [.int .i64 page, .slice a n c, .int .i64 sy, .int .i64 af] k (.slice (some ⟨b1, o1, none⟩) np c0) (.slice (some ⟨b2, o2, none⟩) np cb0) (some ⟨b1, o1, none⟩) np r.ps (some ⟨b2, o2, none⟩) vr r.ds) := Lib.hid (KP.out.fr G9 (fun k hk => hng k (.inr hk)) hSB2.out hSar.out hSD.out HSa.out HSb.out)
              have S9 : Hid (∀ j, ((S j ∨ SB j) ∨ SC j) → j < (wr.setCell ⟨g, p, none⟩ (.slice ard d'.length crd)).heap.size ∧ (onBlk a j ∨ w.heap.size ≤ j) ∧ ¬ onBlk (some ⟨g, 0, none⟩) j) := Lib.hid (fun j h => by
                have hz := G9.size
                have h2 := hS.out j (by rcases h with (h | h) | h; exact .inl h; exact .inr (hSB2.out j h); exact .inr h)
                exact ⟨by omega, h2.2⟩)
              have F9 : Hid (Fr F0 w (wr.setCell ⟨g, p, none⟩ (.slice ard d'.length crd))) := Lib.hid (FW.out.trans G9 (fun k hk h => by omega))
              have z9 : Hid (w.heap.size + 1 ≤ (wr.setCell ⟨g, p, none⟩ (.slice ard d'.length crd)).heap.size) := Lib.hid (by have := G9.size; have := hsz.out; omega)
              have l9 : Hid (max (p + 1) no = (((r.ps.zip r.ds).take (i + 1)).foldl (pgStep page) P0).length) := Lib.hid (by rw [hnx.out, pgStep_len, hno.out])
              have m9 : max (p + 1) no ≤ 1000 := by omega
              clear G9 hng hpl hvl hgc hgf hO hR hS KP hsz FW hRow hdk' hdl
              go_wp2_with fail
              go_still_tail 17, (by kernel_rfl)
              change wpList _ _ _ _ _ wr.drew
              have zf2 : wr.drew.frozen? ⟨g, p, none⟩ = false := zf
              have z02 : wr.drew.cell? ⟨g, p, none⟩ = some u := z0
              go_wp2_with fail
              have D : Fr F0 (wr.setCell ⟨g, p, none⟩ (.slice ard d'.length crd)) (wr.drew.setCell ⟨g, p, none⟩ (.slice ard d'.length crd)) := (Fr.refl _ (wr.setCell ⟨g, p, none⟩ (.slice ard d'.length crd))).drew
              replace O9 := Lib.hid (O9.out.fr0 D)
              replace R9 := Lib.hid (R9.out.fr0 D)
              replace K9 := Lib.hid (K9.out.fr D (fun _ _ h => h) hSB2.out hSar.out hSD.out HSa.out HSb.out)
              replace F9 := Lib.hid (F9.out.trans0 D)
              go_roundw
              case rel => exact ⟨i + 1, _, co, _, _, _, _, by omega, by go_num, rfl, Lib.hid rfl, l9, m9, O9, R9, S9, K9, z9, F9⟩
              case measure => simp [intOf]; omega
        · obtain rfl : i = np := by omega
          have hfin : Hid (pgs = pgsL page (LL.take (k + 1))) := Lib.hid (by
            rw [hpg.out, hstep.out, List.take_of_length_le (by rw [List.length_zip, ← Hnp.out]; omega)])
          rw [hfin.out] at hno hR
          clear hpg
          go_wp2_with fail
          go_roundw
          case rel => exact ⟨k + 1, no, co, ao, vs, S, by omega, by go_num, rfl, hno, hO, hR, Lib.hid (fun j h => by
              rcases h with h | h
              · exact hS.out j (.inl h)
              · exact hS.out j (.inr (hSB2.out j h))), Lib.hid KP.out.M, Lib.hid KP.out.Z, Lib.hid KP.out.D, hsz, FW⟩
          case measure => simp [intOf]; omega
    · obtain rfl : k = nL := by omega
      rw [List.take_of_length_le (by have := HnL.out; omega)] at hno hR
      go_wp2_with fail
      go_ret
      exact ⟨ao, no, co, vs, S, hno.out, rfl, hO.out.mono (by omega), hR.out, fun j h => hS.out j (.inl h), FW.out⟩
end Go.Proofs.Ytehpikjhjghplaa
