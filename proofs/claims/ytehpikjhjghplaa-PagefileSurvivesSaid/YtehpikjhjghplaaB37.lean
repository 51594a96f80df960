/- PagefileSurvives: the walk. -/
import Derived.Test.YtehpikjhjghplaaB36
import Derived.Test.YtehpikjhjghplaaB30
import Derived.Test.YtehpikjhjghplaaB28
import Derived.Test.YtehpikjhjghplaaB16
import Derived.Test.YtehpikjhjghplaaB15
namespace Go.Proofs.Ytehpikjhjghplaa
open Go.RowKit
attribute [local go_sem ↓] Go.wp_at_zero Go.wp_at_succ
theorem OkU.fit {pg : Nat} {x : Upd} {w : World} (h : OkU pg x) (U : UpM w x) : PgFit pg (x.zs.map Int.toNat) x.ds ∧ x.zs.any inP = false ∧ (recB (x.zs.map Int.toNat) x.ds).length ≤ 8 + 6 * (4 + pg) := by
  have hzl : x.zs.length = x.np := by simpa using U.rp.len
  have hdl : x.ds.length = x.np := by rw [← U.rows.len, U.rr.len, h.len]
  have hsm : ∀ z ∈ x.zs, 0 ≤ z ∧ z < 30 := fun z hz => by
    have h1 := h.small
    rw [List.any_eq_false] at h1
    have h2 := h1 z hz
    unfold in30 at h2
    simp at h2
    omega
  have h6 := h.six
  have hf : PgFit pg (x.zs.map Int.toNat) x.ds := {
    len := by rw [List.length_map, hdl, hzl]
    num := by rw [List.length_map, hzl]; omega
    small := fun p hp => by
      obtain ⟨z, hz, rfl⟩ := List.mem_map.1 hp
      have := hsm z hz
      omega
    nodup := by
      unfold List.Nodup
      rw [List.pairwise_map]
      exact List.Pairwise.imp_of_mem (fun {a b} ha hb hab e => hab (by have := hsm a ha; have := hsm b hb; omega)) h.nodup
    row := fun d hd => by
      have h1 := h.row
      rw [List.any_eq_false] at h1
      have h2 := h1 d hd
      simp at h2
      omega }
  refine ⟨hf, ?_, ?_⟩
  · rw [List.any_eq_false]
    intro z hz
    have := hsm z hz
    unfold inP
    simp
    omega
  · rw [recB_len_eq hf, List.length_map, hzl]
    have : x.np * (4 + pg) ≤ 6 * (4 + pg) := Nat.mul_le_mul_right _ h6
    omega
/-- What holds while the commits are made. -/
structure St (w5 wr : World) (bD pg k : Nat) (aD : Option Addr) (nD cD : Nat) (sy af : Int) (bs G : List UInt8) (aw : Option Addr) (nw : Nat) (vsw : List Value) : Prop where
  blk : Blk wr bD 24 [.int .i64 pg, .slice aD nD cD, .int .i64 sy, .int .i64 af]
  rd : Rd wr aD nD (byt bs)
  cap : nD ≤ cD
  off : ∀ j, onBlk aD j → j ≠ bD
  dv : Dv pg bs sy af G
  a1 : -1 ≤ af
  a2 : af ≤ 1048576
  gl : G.length ≤ k * 416
  bl : bs.length ≤ 5000
  rdw : Rd wr aw nw vsw
  offw : ∀ j, onBlk aw j → j ≠ bD
  rows : RowsM wr (fun j => j ≠ bD ∧ j < wr.heap.size) vsw (pgsL pg (Go.Proofs.Ytehpikjhjghplaa.recs G pg).1)
  n30 : nw ≤ 30
  fr : Fr (fun j => j = bD) w5 wr
  cnt : (Go.Proofs.Ytehpikjhjghplaa.recs G pg).1.length ≤ k
theorem St.fr0 {w5 wr w' : World} {bD pg k nD cD nw : Nat} {aD aw : Option Addr} {sy af : Int} {bs G : List UInt8} {vsw : List Value} (h : St w5 wr bD pg k aD nD cD sy af bs G aw nw vsw) (f : Fr F0 wr w') : St w5 w' bD pg k aD nD cD sy af bs G aw nw vsw :=
  { h with blk := h.blk.fr f id, rd := h.rd.fr0 f, rdw := h.rdw.fr0 f, rows := (h.rows.fr0 f).mono (fun _ hj => ⟨hj.1, Nat.lt_of_lt_of_le hj.2 f.size⟩), fr := h.fr.trans0 f }
/-- The disk is turned. -/
theorem St.put {w5 wr w' : World} {bD pg k k' nD cD nw nD' cD' : Nat} {aD aw aD' : Option Addr} {sy af sy' af' : Int} {bs G bs' G' : List UInt8} {vsw : List Value} (h : St w5 wr bD pg k aD nD cD sy af bs G aw nw vsw) (f : Fr (fun j => j = bD) wr w') (blk : Blk w' bD 24 [.int .i64 pg, .slice aD' nD' cD', .int .i64 sy', .int .i64 af'])
    (rd : Rd wr aD' nD' (byt bs')) (cap : nD' ≤ cD') (off : ∀ j, onBlk aD' j → j ≠ bD) (dv : Dv pg bs' sy' af' G') (a1 : -1 ≤ af') (a2 : af' ≤ 1048576) (gl : G'.length ≤ k' * 416) (bl : bs'.length ≤ 5000) {aw' : Option Addr} {nw' : Nat} {vsw' : List Value} (rdw : Rd wr aw' nw' vsw') (offw : ∀ j, onBlk aw' j → j ≠ bD)
    (rows : RowsM wr (fun j => j ≠ bD ∧ j < wr.heap.size) vsw' (pgsL pg (Go.Proofs.Ytehpikjhjghplaa.recs G' pg).1)) (n30 : nw' ≤ 30) (cnt : (Go.Proofs.Ytehpikjhjghplaa.recs G' pg).1.length ≤ k') : St w5 w' bD pg k' aD' nD' cD' sy' af' bs' G' aw' nw' vsw' :=
  ⟨blk, rd.fr f off, cap, off, dv, a1, a2, gl, bl, rdw.fr f offw, offw, (rows.fr f (fun _ hj => hj.1)).mono (fun _ hj => ⟨hj.1, Nat.lt_of_lt_of_le hj.2 f.size⟩), n30, h.fr.trans f (fun _ _ e => e), cnt⟩
structure Wt (w : World) (bD : Nat) (aw : Option Addr) (nw : Nat) (vsw : List Value) (P : List (List UInt8)) : Prop where
  rd : Rd w aw nw vsw
  off : ∀ j, onBlk aw j → j ≠ bD
  rows : RowsM w (fun j => j ≠ bD ∧ j < w.heap.size) vsw P
theorem Wt.fr {w w' : World} {bD nw : Nat} {aw : Option Addr} {vsw : List Value} {P : List (List UInt8)} (h : Wt w bD aw nw vsw P) (f : Fr (fun j => j = bD) w w') : Wt w' bD aw nw vsw P :=
  ⟨h.rd.fr f h.off, h.off, (h.rows.fr f (fun _ hj => hj.1)).mono (fun _ hj => ⟨hj.1, Nat.lt_of_lt_of_le hj.2 f.size⟩)⟩
theorem Wt.fr0 {w w' : World} {bD nw : Nat} {aw : Option Addr} {vsw : List Value} {P : List (List UInt8)} (h : Wt w bD aw nw vsw P) (f : Fr F0 w w') : Wt w' bD aw nw vsw P := h.fr (f.trans (Fr.refl _ _) (fun _ _ h => h) |> fun g => ⟨g.os, g.tape, g.output, g.size, fun k hk _ => f.block k hk id⟩)
theorem Wt.len {w : World} {bD nw : Nat} {aw : Option Addr} {vsw : List Value} {P : List (List UInt8)} (h : Wt w bD aw nw vsw P) : P.length = nw := by rw [← h.rows.len, h.rd.len]
theorem fr_put (w : World) (bD : Nat) (v0 v1 v2 v3 : Value) : Fr (fun j => j = bD) w ((((w.setCell ⟨bD, 0, none⟩ v0).setCell ⟨bD, 1, none⟩ v1).setCell ⟨bD, 2, none⟩ v2).setCell ⟨bD, 3, none⟩ v3) := by
  refine Fr.setCell (p := ⟨bD, 3, none⟩) (Fr.setCell (p := ⟨bD, 2, none⟩) (Fr.setCell (p := ⟨bD, 1, none⟩) (Fr.setCell (p := ⟨bD, 0, none⟩) (Fr.refl _ _) ?_ _) ?_ _) ?_ _) ?_ _
  all_goals exact fun _ => rfl
theorem blk_put {w : World} {bD T : Nat} {u0 u1 u2 u3 : Value} (h : Blk w bD T [u0, u1, u2, u3]) (v0 v1 v2 v3 : Value) : Blk ((((w.setCell ⟨bD, 0, none⟩ v0).setCell ⟨bD, 1, none⟩ v1).setCell ⟨bD, 2, none⟩ v2).setCell ⟨bD, 3, none⟩ v3) bD T [v0, v1, v2, v3] :=
  (((h.set 0 v0).set 1 v1).set 2 v2).set 3 v3
set_option maxHeartbeats 8000000 in
set_option maxRecDepth 100000 in
theorem survives_any {w : World} {page after keep : Int} {a : Option Addr} {n c : Nat} {xs : List Upd} {x : Upd} (hA : ArgUs w a n c xs) (U : UpM w x) (hk : 0 ≤ keep ∧ keep ≤ 65535) :
    Calls Try.prog 9 #[.int .i64 page, .int .i64 after, .slice a n c, .int .u16 keep, x.agg] w fun e w' => e = .returned (.bool true) ∧ Fr F0 w w' := by
  have ea : x.agg = .agg #[.slice x.ap x.np x.cp, .slice x.ad x.nd x.cd] := rfl
  obtain ⟨wa, hwa⟩ : ∃ wa, w.alloc (.cells #[.int .i64 page] 3) = wa := ⟨_, rfl⟩
  obtain ⟨wb, hwb⟩ : ∃ wb, wa.alloc (.cells #[.slice x.ap x.np x.cp, .slice x.ad x.nd x.cd] 61) = wb := ⟨_, rfl⟩
  obtain ⟨pb, hpb⟩ : ∃ b, b = w.heap.size := ⟨_, rfl⟩
  have FA : Hid (Fr F0 w wa) := Lib.hid (by rw [← hwa]; exact (Fr.refl _ _).alloc _)
  have FB : Hid (Fr F0 w wb) := Lib.hid (by rw [← hwb]; exact FA.out.alloc _)
  have sza : wa.heap.size = pb + 1 := by rw [← hwa, hpb]; simp
  have PB : Hid (Blk wb pb 3 [.int .i64 page]) := Lib.hid (by rw [← hwb, hpb]; exact ((by rw [← hwa]; exact Blk.new w 3 [.int .i64 page] : Blk wa w.heap.size 3 [.int .i64 page])).fr ((Fr.refl F0 _).alloc _) id)
  have LB : Hid (Blk wb (pb + 1) 61 [.slice x.ap x.np x.cp, .slice x.ad x.nd x.cd]) := Lib.hid (by rw [← hwb, ← sza]; exact Blk.new wa 61 _)
  have HA := Lib.hid hA
  have HU := Lib.hid U
  have Hk := Lib.hid hk
  have Hpb := Lib.hid hpb
  have Hsza := Lib.hid sza
  have hmx := hA.max
  rw [ea]
  clear hA U hk
  go_enter Try.func9, Try.ntmps9
  go_wp2_with fail
  rw [← hpb]
  clear hpb
  refine (awake_any _).mono ?_
  rintro e w1 ⟨rfl, F1⟩
  have P1 := PB.out.fr F1 id
  have L1 := LB.out.fr F1 id
  have Fw1 := Lib.hid (FB.out.trans0 F1)
  have hmf : ∀ (fn : Fn) (first cap : Array Value) (w : World), (Instr.makeFunc fn first cap).run Try.prog w = .ok (.func fn first cap) w := fun _ _ _ _ => rfl
  obtain ⟨ws, hws⟩ : ∃ ws, w1.alloc (.cells #[.func (.func 32) #[] #[.pointer (some ⟨pb, 0, none⟩)]] 71) = ws := ⟨_, rfl⟩
  obtain ⟨sb, hsb⟩ : ∃ b, w1.heap.size = b := ⟨_, rfl⟩
  have F2 : Fr F0 w1 ws := by rw [← hws]; exact (Fr.refl _ _).alloc _
  have P2 := P1.fr F2 id
  have L2 := L1.fr F2 id
  have S2 : Blk ws sb 71 [.func (.func 32) #[] #[.pointer (some ⟨pb, 0, none⟩)]] := by rw [← hws, ← hsb]; exact Blk.new w1 71 _
  have x0 := P2.cell (i := 0) rfl
  have x1 := L2.cell (i := 0) rfl
  have x2 := L2.cell (i := 1) rfl
  have x3 := S2.cell (i := 0) rfl
  have Fws := Lib.hid (Fw1.out.trans0 F2)
  have P := Lib.hid P2
  have L := Lib.hid L2
  have S := Lib.hid S2
  have Hsb : Hid (pb + 2 ≤ sb ∧ ws.heap.size = sb + 1) := Lib.hid ⟨by have := L1.lt; omega, by rw [← hws, ← hsb]; simp⟩
  have ok1 : Calls Try.prog 32 #[.agg #[.slice x.ap x.np x.cp, .slice x.ad x.nd x.cd], .pointer (some ⟨pb, 0, none⟩)] ws (OkP page x ws) := ok_any (HU.out.fr0 Fws.out) x0
  have Ok1 := Lib.hid ok1
  clear F1 F2 P1 L1 P2 L2 S2 Fw1 ok1
  by_cases c1 : (n : Int) ≤ 10
  · have d1 : decide ((10 : Int) < (n : Int)) = false := decide_eq_false (by omega)
    go_wp2_with fail
    refine Ok1.out.mono ?_
    rintro e w2 ⟨r, rfl, h1, F2⟩
    have H1 := Lib.hid h1
    have y0 := F2.cell x0 id
    have y1 := F2.cell x1 id
    have y2 := F2.cell x2 id
    have y3 := F2.cell x3 id
    have F3 := Lib.hid F2
    clear x0 x1 x2 x3 h1 F2 Ok1
    cases r
    · go_wp2_with fail
      go_ret
      exact ⟨rfl, Fws.out.trans0 F3.out⟩
    · have U0 : Hid (OkU page x) := Lib.hid (H1.out rfl)
      clear H1
      go_wp2_with fail
      refine (ContainsU (HA.out.fr0 (Fws.out.trans0 F3.out)) (sb := sb) (pb := pb) (page := page) ⟨y3, y0⟩).mono ?_
      rintro e w3 ⟨r, rfl, h1, F4⟩
      have H1 := Lib.hid h1
      have z0 := F4.cell y0 id
      have z1 := F4.cell y1 id
      have z2 := F4.cell y2 id
      have z3 := F4.cell y3 id
      have F5 := Lib.hid (F3.out.trans0 F4)
      clear y0 y1 y2 y3 h1 F4 F3
      cases r
      · have UA : Hid (∀ y ∈ xs, OkU page y) := Lib.hid (H1.out rfl)
        clear H1
        by_cases p1 : page < 8
        · have e1 : decide (page < 8) = true := decide_eq_true p1
          go_wp2_with fail
          go_ret
          exact ⟨rfl, Fws.out.trans0 F5.out⟩
        have e1 : decide (page < 8) = false := decide_eq_false p1
        by_cases p2 : 64 < page
        · have e2 : decide (64 < page) = true := decide_eq_true p2
          go_wp2_with fail
          go_ret
          exact ⟨rfl, Fws.out.trans0 F5.out⟩
        have e2 : decide (64 < page) = false := decide_eq_false p2
        by_cases p3 : after < -1
        · have e3 : decide (after < -1) = true := decide_eq_true p3
          go_wp2_with fail
          go_ret
          exact ⟨rfl, Fws.out.trans0 F5.out⟩
        have e3 : decide (after < -1) = false := decide_eq_false p3
        by_cases p4 : 1048576 < after
        · have e4 : decide (1048576 < after) = true := decide_eq_true p4
          go_wp2_with fail
          go_ret
          exact ⟨rfl, Fws.out.trans0 F5.out⟩
        have e4 : decide (1048576 < after) = false := decide_eq_false p4
        have fw3 := Fws.out.trans0 F5.out
        have P3 := Lib.hid (P.out.fr F5.out id)
        have L3 := Lib.hid (L.out.fr F5.out id)
        have HA3 := Lib.hid (HA.out.fr0 fw3)
        have HU3 := Lib.hid (HU.out.fr0 fw3)
        have Fw3 := Lib.hid fw3
        have Hs3 : Hid (pb + 3 ≤ w3.heap.size) := Lib.hid (by have h := Hsb.out; have := F5.out.size; omega)
        clear fw3
        go_wp2_with fail
        refine (Format_ok page after w3 (by omega) (by omega) (by omega) (by omega)).mono ?_
        rintro e w4 ⟨rfl, F6⟩
        have Hp : Hid (8 ≤ page ∧ page ≤ 64 ∧ -1 ≤ after ∧ after ≤ 1048576) := Lib.hid (by omega)
        clear p1 p2 p3 p4 e1 e2 e3 e4 z0 z1 z2 z3
        obtain ⟨pg, rfl⟩ := Int.eq_ofNat_of_zero_le (show 0 ≤ page by have := Hp.out; omega)
        obtain ⟨bD, hbD⟩ : ∃ b, w4.heap.size = b := ⟨_, rfl⟩
        obtain ⟨w5, hw5⟩ : ∃ w5, w4.alloc (.cells #[.int .i64 pg, .slice none 0 0, .int .i64 0, .int .i64 after] 24) = w5 := ⟨_, rfl⟩
        have F7 : Fr F0 w4 w5 := by rw [← hw5]; exact (Fr.refl _ _).alloc _
        have D5 : Hid (Blk w5 bD 24 [.int .i64 pg, .slice none 0 0, .int .i64 0, .int .i64 after]) := Lib.hid (by rw [← hw5, ← hbD]; exact Blk.new w4 24 _)
        have fw5 := F6.trans0 F7
        have P5 := Lib.hid (P3.out.fr fw5 id)
        have L5 := Lib.hid (L3.out.fr fw5 id)
        have HA5 := Lib.hid (HA3.out.fr0 fw5)
        have HU5 := Lib.hid (HU3.out.fr0 fw5)
        have Fw5 := Lib.hid (Fw3.out.trans0 fw5)
        have Hs5 : Hid (pb + 3 ≤ bD ∧ bD < w5.heap.size) := Lib.hid ⟨by have h := Hs3.out; have := F6.size; omega, D5.out.lt⟩
        clear F6 F7 fw5 P3 L3 HA3 HU3 Fw3 Hs3 F5 P L S Fws
        go_wp2_with fail
        go_loopw [14, 15, 17, 18, 19, 68] (fun s14 s15 _ _ _ s68 wr => ∃ (k : Nat) (aD : Option Addr) (nD cD : Nat) (sy af : Int) (bs G : List UInt8) (aw : Option Addr) (nw cw : Nat) (vsw : List Value), k ≤ n ∧ s68 = .int .i64 k ∧ s14 = .slice aw nw cw ∧ s15 = .int .i64 (Go.Proofs.Ytehpikjhjghplaa.recs G pg).1.length ∧ Hid (St w5 wr bD pg k aD nD cD sy af bs G aw nw vsw)) (fun _ _ _ _ _ s68 _ => n - (intOf s68).toNat)
        case atStart =>
          refine ⟨0, none, 0, 0, 0, after, [], [], none, 0, 0, [], by omega, rfl, rfl, by rw [recs_nil]; rfl, Lib.hid ⟨D5.out, Rd.nil _ _, by omega, fun j h => absurd h (onBlk_none _), Dv.start _ _, Hp.out.2.2.1, Hp.out.2.2.2, by simp, by simp, Rd.nil _ _, fun j h => absurd h (onBlk_none _), ?_, by omega, Fr.refl _ _, by rw [recs_nil]; simp⟩⟩
          rw [recs_nil]
          exact RowsM.nil _ _
        case round =>
          obtain ⟨k, aD, nD, cD, sy, af, bs, G, aw, nw, cw, vsw, hk, rfl, rfl, rfl, H⟩ := hrel
          by_cases hlt : k < n
          · obtain ⟨y, hy⟩ : ∃ y, xs[k]? = some y := ⟨_, List.getElem?_eq_getElem (by rw [HA.out.len]; exact hlt)⟩
            have oky := UA.out y (List.mem_of_getElem? hy)
            have FW : Hid (Fr F0 w wr) := Lib.hid (Fw5.out.trans H.out.fr (fun j h1 h2 => by have := Hs5.out; have := Hpb.out; omega))
            have Uy := HA.out.upd k y hy
            obtain ⟨b, o, rfl, x0, x1⟩ := (HA.out.fr0 FW.out).cells k y hy
            obtain ⟨wu, hwu⟩ : ∃ wu, wr.alloc (.cells #[.slice y.ap y.np y.cp, .slice y.ad y.nd y.cd] 61) = wu := ⟨_, rfl⟩
            obtain ⟨bU, hbU⟩ : ∃ b, wr.heap.size = b := ⟨_, rfl⟩
            have Fu : Fr F0 wr wu := by rw [← hwu]; exact (Fr.refl _ _).alloc _
            have BU : Blk wu bU 61 [.slice y.ap y.np y.cp, .slice y.ad y.nd y.cd] := by rw [← hwu, ← hbU]; exact Blk.new wr 61 _
            have Hu := H.out.fr0 Fu
            have u0 := BU.cell (i := 0) rfl
            have u1 := BU.cell (i := 1) rfl
            have q0 := Hu.blk.cell (i := 0) rfl
            have q1 := Hu.blk.cell (i := 1) rfl
            have q2 := Hu.blk.cell (i := 2) rfl
            have q3 := Hu.blk.cell (i := 3) rfl
            have fwu := FW.out.trans0 Fu
            have Uu := Uy.fr0 fwu
            have HC := Lib.hid (Commit_any aD nD cD pg sy af bs y.ap y.np y.cp y.zs y.ad y.nd y.cd y.vs y.ds _ wu Hu.rd Hu.cap Uu.rp Uu.rr Uu.rows (fun j h => h))
            obtain ⟨hf, hz, hl⟩ := oky.fit Uy
            obtain ⟨bs', sy', af', hcase, ha1, ha2, hbl, _⟩ := Hu.dv.commit (by have := Hp.out; omega) (by have := Hp.out; omega) Hu.a1 Hu.a2 (by have := Hu.gl; omega) (by have := Hu.bl; omega) hf hz oky.nodup (by have := Hp.out; omega)
            have Hfit := Lib.hid hf
            have Hl := Lib.hid hl
            have Hbl := Lib.hid hbl
            have Hab := Lib.hid (And.intro ha1 ha2)
            have HUu := Lib.hid Uu
            have HUy := Lib.hid Uy
            have Hoky := Lib.hid oky
            have BUh := Lib.hid BU
            have HH := Lib.hid Hu
            have HFwu := Lib.hid fwu
            have Hy := Lib.hid hy
            have Hhu := Lib.hid (And.intro hwu hbU)
            have Hwz : Hid (bD < bU ∧ wu.heap.size = bU + 1) := Lib.hid ⟨by have := H.out.blk.lt; omega, by rw [← hwu, ← hbU]; simp⟩
            clear Fu BU Hu fwu Uu hf hz hl hbl ha1 ha2 oky Uy hy H FW
            go_wp2_with fail
            refine HC.out.mono ?_
            clear x0 x1 q0 q1 q2 q3 u0 u1 hwu HC
            rintro e w6 ⟨aX, mX, cX, hmX, rfl, OX, FX⟩
            have HmX := Lib.hid hmX
            have HOX := Lib.hid OX
            have HFX := Lib.hid FX
            clear hmX OX FX
            rcases hcase with ⟨hc, hdv⟩ | ⟨hc, hdv⟩
            · rw [hc] at HmX HOX ⊢
              dsimp only at HmX HOX ⊢
              have Hdv := Lib.hid hdv
              clear hc hdv
              obtain ⟨w7, hw7⟩ : ∃ w7, w6.alloc (.cells #[.int .i64 pg, .slice aX mX cX, .int .i64 sy', .int .i64 af'] 24) = w7 := ⟨_, rfl⟩
              obtain ⟨bX, hbX⟩ : ∃ b, w6.heap.size = b := ⟨_, rfl⟩
              have F7 : Fr F0 w6 w7 := by rw [← hw7]; exact (Fr.refl _ _).alloc _
              have BX : Hid (Blk w7 bX 24 [.int .i64 pg, .slice aX mX cX, .int .i64 sy', .int .i64 af']) := Lib.hid (by rw [← hw7, ← hbX]; exact Blk.new w6 24 _)
              have fu7 := HFX.out.trans0 F7
              have H7 := Lib.hid (HH.out.fr0 fu7)
              have O7 := Lib.hid (HOX.out.fr0 F7)
              have U7 := Lib.hid (HUu.out.fr0 fu7)
              have BU7 := Lib.hid (BUh.out.fr fu7 id)
              have Fw7 := Lib.hid (HFwu.out.trans0 fu7)
              have Hz7 : Hid (bX ≠ bD ∧ bU < w7.heap.size ∧ bD < bX) := Lib.hid ⟨by have := Hwz.out; have := HFX.out.size; omega, by have := Hwz.out; have := HFX.out.size; have := F7.size; omega, by have := Hwz.out; have := HFX.out.size; omega⟩
              have offX : Hid (∀ j, onBlk aX j → j ≠ bD) := Lib.hid (fun j h => by have := (HOX.out.blk j h).1; have := Hwz.out; omega)
              have x0 := BX.out.cell (i := 0) rfl
              have x1 := BX.out.cell (i := 1) rfl
              have x2 := BX.out.cell (i := 2) rfl
              have x3 := BX.out.cell (i := 3) rfl
              have y0 := H7.out.blk.cell (i := 0) rfl
              have y1 := H7.out.blk.cell (i := 1) rfl
              have y2 := H7.out.blk.cell (i := 2) rfl
              have y3 := H7.out.blk.cell (i := 3) rfl
              have f0 := H7.out.blk.free 0
              have f1 := H7.out.blk.free 1
              have f2 := H7.out.blk.free 2
              have f3 := H7.out.blk.free 3
              have p0 := (P5.out.fr H7.out.fr (fun h => by have := Hs5.out; omega)).cell (i := 0) rfl
              have u0 := BU7.out.cell (i := 0) rfl
              have u1 := BU7.out.cell (i := 1) rfl
              have hap := apply_any (T := fun j => j ≠ bD) (aw := aw) (nw := nw) (cw := cw) (page := pg) (m := 30) (x := y) H7.out.rdw H7.out.rows U7.out ((HUy.out.rows.fr0 Fw7.out).mono (fun j (hj : j < w.heap.size) => ⟨by have := Hs5.out; have := Hpb.out; omega, Nat.lt_of_lt_of_le hj Fw7.out.size⟩)) (fun j hj => show j ≠ bD by have := H7.out.blk.lt; omega) Hoky.out (by have := Hp.out; omega) H7.out.n30 (by omega) (by omega)
              have hap2 : Calls Try.prog 43 #[.slice aw nw cw, .agg #[.slice y.ap y.np y.cp, .slice y.ad y.nd y.cd], .int .i64 pg] w7 _ := hap
              have HAP := Lib.hid hap2
              obtain ⟨pa1, pa2, pa3⟩ := pages_app H7.out.dv.full Hfit.out
              have Pa1 := Lib.hid pa1
              have Pa2 := Lib.hid pa2
              have hw1 : IntKind.i64.wrap (((Go.Proofs.Ytehpikjhjghplaa.recs G pg).1.length : Int) + 1) = ((Go.Proofs.Ytehpikjhjghplaa.recs G pg).1.length : Int) + 1 := wI (by omega) (by have := H7.out.cnt; omega)
              clear F7 fu7 hap hap2 pa1 pa2 pa3
              go_wp2_with fail
              refine HAP.out.mono ?_
              rintro e w8 ⟨aR, nR, cR, vsR, rfl, RR, RW, nR30, offR, F8⟩
              have H8 := Lib.hid (H7.out.fr0 F8)
              have BX8 := Lib.hid (BX.out.fr F8 id)
              have O8 := Lib.hid (O7.out.fr0 F8)
              have RRh := Lib.hid RR
              have RWh := Lib.hid RW
              have OffR : Hid (∀ j, onBlk aR j → j ≠ bD) := Lib.hid (fun j h => by have := offR j h; have := H7.out.blk.lt; omega)
              clear x0 x1 x2 x3 y0 y1 y2 y3 f0 f1 f2 f3 p0 u0 u1 RR RW offR F8
              have x0 := BX8.out.cell (i := 0) rfl
              have x1 := BX8.out.cell (i := 1) rfl
              have x2 := BX8.out.cell (i := 2) rfl
              have x3 := BX8.out.cell (i := 3) rfl
              have y0 := H8.out.blk.cell (i := 0) rfl
              have y1 := H8.out.blk.cell (i := 1) rfl
              have y2 := H8.out.blk.cell (i := 2) rfl
              have y3 := H8.out.blk.cell (i := 3) rfl
              have f0 := H8.out.blk.free 0
              have f1 := H8.out.blk.free 1
              have f2 := H8.out.blk.free 2
              have f3 := H8.out.blk.free 3
              go_wp2_with fail
              clear x0 x1 x2 x3 y0 y1 y2 y3 f0 f1 f2 f3
              go_roundw
              case rel =>
                have B9 := ((((H8.out.blk.set 0 (.int .i64 pg)).set 1 (.slice aX mX cX)).set 2 (.int .i64 sy')).set 3 (.int .i64 af'))
                have F9 : Fr (fun j => j = bD) w8 ((((w8.setCell ⟨bD, 0, none⟩ (.int .i64 pg)).setCell ⟨bD, 1, none⟩ (.slice aX mX cX)).setCell ⟨bD, 2, none⟩ (.int .i64 sy')).setCell ⟨bD, 3, none⟩ (.int .i64 af')) := by
                  refine Fr.setCell (p := ⟨bD, 3, none⟩) (Fr.setCell (p := ⟨bD, 2, none⟩) (Fr.setCell (p := ⟨bD, 1, none⟩) (Fr.setCell (p := ⟨bD, 0, none⟩) (Fr.refl _ _) ?_ _) ?_ _) ?_ _) ?_ _
                  all_goals exact fun _ => rfl
                have RW9 := RWh.out
                rw [← Pa1.out] at RW9
                exact ⟨k + 1, aX, mX, cX, sy', af', bs', G ++ recB (y.zs.map Int.toNat) y.ds, aR, nR, cR, vsR, by omega, by go_num, rfl, by rw [Pa2.out]; rfl, Lib.hid (H8.out.put F9 B9 O8.out.rd O8.out.cap offX.out Hdv.out Hab.out.1 Hab.out.2 (by rw [List.length_append]; have := H8.out.gl; have := Hl.out; have := Hp.out; omega) (by have h1 := Hbl.out; have h2 := H8.out.gl; have h3 := H8.out.bl; have h4 := Hl.out; have h5 := Hp.out; omega) RRh.out OffR.out RW9 nR30 (by rw [Pa2.out]; have := H8.out.cnt; omega))⟩
              case measure => simp [intOf]; omega
            · rw [hc] at HmX HOX ⊢
              dsimp only at HmX HOX ⊢
              have Hdv := Lib.hid hdv
              clear hc hdv
              obtain ⟨w7, hw7⟩ : ∃ w7, w6.alloc (.cells #[.int .i64 pg, .slice aX mX cX, .int .i64 sy', .int .i64 af'] 24) = w7 := ⟨_, rfl⟩
              obtain ⟨bX, hbX⟩ : ∃ b, w6.heap.size = b := ⟨_, rfl⟩
              have F7 : Fr F0 w6 w7 := by rw [← hw7]; exact (Fr.refl _ _).alloc _
              have BX : Hid (Blk w7 bX 24 [.int .i64 pg, .slice aX mX cX, .int .i64 sy', .int .i64 af']) := Lib.hid (by rw [← hw7, ← hbX]; exact Blk.new w6 24 _)
              have fu7 := HFX.out.trans0 F7
              have H7 := Lib.hid (HH.out.fr0 fu7)
              have O7 := Lib.hid (HOX.out.fr0 F7)
              have U7 := Lib.hid (HUu.out.fr0 fu7)
              have BU7 := Lib.hid (BUh.out.fr fu7 id)
              have Fw7 := Lib.hid (HFwu.out.trans0 fu7)
              have Hz7 : Hid (bX ≠ bD ∧ bU < w7.heap.size ∧ bD < bX) := Lib.hid ⟨by have := Hwz.out; have := HFX.out.size; omega, by have := Hwz.out; have := HFX.out.size; have := F7.size; omega, by have := Hwz.out; have := HFX.out.size; omega⟩
              have offX : Hid (∀ j, onBlk aX j → j ≠ bD) := Lib.hid (fun j h => by have := (HOX.out.blk j h).1; have := Hwz.out; omega)
              have x0 := BX.out.cell (i := 0) rfl
              have x1 := BX.out.cell (i := 1) rfl
              have x2 := BX.out.cell (i := 2) rfl
              have x3 := BX.out.cell (i := 3) rfl
              have y0 := H7.out.blk.cell (i := 0) rfl
              have y1 := H7.out.blk.cell (i := 1) rfl
              have y2 := H7.out.blk.cell (i := 2) rfl
              have y3 := H7.out.blk.cell (i := 3) rfl
              have f0 := H7.out.blk.free 0
              have f1 := H7.out.blk.free 1
              have f2 := H7.out.blk.free 2
              have f3 := H7.out.blk.free 3
              clear F7 fu7
              go_wp2_with fail
              clear x0 x1 x2 x3 y0 y1 y2 y3 f0 f1 f2 f3
              go_roundw
              case rel =>
                have B8 := ((((H7.out.blk.set 0 (.int .i64 pg)).set 1 (.slice aX mX cX)).set 2 (.int .i64 sy')).set 3 (.int .i64 af'))
                have F8 : Fr (fun j => j = bD) w7 ((((w7.setCell ⟨bD, 0, none⟩ (.int .i64 pg)).setCell ⟨bD, 1, none⟩ (.slice aX mX cX)).setCell ⟨bD, 2, none⟩ (.int .i64 sy')).setCell ⟨bD, 3, none⟩ (.int .i64 af')) := by
                  refine Fr.setCell (p := ⟨bD, 3, none⟩) (Fr.setCell (p := ⟨bD, 2, none⟩) (Fr.setCell (p := ⟨bD, 1, none⟩) (Fr.setCell (p := ⟨bD, 0, none⟩) (Fr.refl _ _) ?_ _) ?_ _) ?_ _) ?_ _
                  all_goals exact fun _ => rfl
                exact ⟨k + 1, aX, mX, cX, sy', af', bs', G, aw, nw, cw, vsw, by omega, by go_num, rfl, rfl, Lib.hid (H7.out.put F8 B8 O7.out.rd O7.out.cap offX.out Hdv.out Hab.out.1 Hab.out.2 (by have := H7.out.gl; omega) (by have h1 := Hbl.out; have h2 := H7.out.gl; have h3 := H7.out.bl; have h4 := Hl.out; have h5 := Hp.out; omega) H7.out.rdw H7.out.offw H7.out.rows H7.out.n30 (by have := H7.out.cnt; omega))⟩
              case measure => simp [intOf]; omega
          · obtain rfl : n = k := by omega
            obtain ⟨gn, hgn⟩ : ∃ g, g = G.length := ⟨_, rfl⟩
            have hsy : sy = (gn : Int) := by rw [hgn]; exact H.out.dv.sy
            subst hsy
            have hbn : nD = bs.length := by simpa using H.out.rd.len.symm
            have hgb : gn ≤ nD := by
              obtain ⟨t, ht, _⟩ := H.out.dv.tail
              rw [hbn, ht, List.length_append, hgn]; omega
            have hn5 : nD ≤ 5000 := by rw [hbn]; exact H.out.bl
            have Hgn := Lib.hid hgn
            have Hbn := Lib.hid hbn
            have Hgb := Lib.hid hgb
            have FW : Hid (Fr F0 w wr) := Lib.hid (Fw5.out.trans H.out.fr (fun j h1 h2 => by have := Hs5.out; have := Hpb.out; omega))
            have hvd : validB pg bs gn af = true := H.out.dv.valid (by have := Hp.out; omega) (by have := Hp.out; omega) H.out.a1 H.out.a2 (by have := H.out.bl; omega)
            have HV := Lib.hid (Valid_any aD nD cD pg gn af bs wr H.out.rd H.out.cap)
            rw [hvd] at HV
            have q0 := H.out.blk.cell (i := 0) rfl
            have q1 := H.out.blk.cell (i := 1) rfl
            have q2 := H.out.blk.cell (i := 2) rfl
            have q3 := H.out.blk.cell (i := 3) rfl
            have hw1 : IntKind.i64.wrap ((nD : Int) - (gn : Int)) = ((nD - gn : Nat) : Int) := by rw [wI (by omega) (by omega)]; omega
            have d1 : decide (((nD - gn : Nat) : Int) < 0) = false := decide_eq_false (by omega)
            have d2 : decide ((20000 : Int) < (nD : Int)) = false := decide_eq_false (by omega)
            clear hgn hbn
            go_wp2_with fail
            refine HV.out.mono ?_
            rintro e w6 ⟨rfl, F6⟩
            have H6 := Lib.hid (H.out.fr0 F6)
            have F6w := Lib.hid (FW.out.trans0 F6)
            obtain ⟨lf, hlf⟩ : ∃ l, l = nD - gn := ⟨_, rfl⟩
            rw [← hlf] at hw1 d1 ⊢
            have Hlf := Lib.hid hlf
            have hl9 : lf ≤ 5000 := by omega
            have hw2 : IntKind.i64.wrap ((lf : Int) + 1) = (lf : Int) + 1 := wI (by omega) (by omega)
            have hwk : IntKind.i64.wrap keep = keep := wI Hk.out.1 (by have := Hk.out.2; omega)
            clear hlf hgb hn5 hw1 d1 d2 q0 q1 q2 q3 F6 HV hvd
            go_wp2_with fail
            obtain ⟨j, hj⟩ : ∃ j : Nat, (j : Int) = keep % ((lf : Int) + 1) := ⟨(keep % ((lf : Int) + 1)).toNat, by have := Int.emod_nonneg keep (show (lf : Int) + 1 ≠ 0 by omega); omega⟩
            have hjl : j ≤ lf := by have := Int.emod_lt_of_pos keep (show 0 < (lf : Int) + 1 by omega); omega
            have m2 : Int.tmod keep ((lf : Int) + 1) = (j : Int) := by rw [Int.tmod_eq_emod_of_nonneg Hk.out.1]; exact hj.symm
            have m3 : ¬ (lf : Int) + 1 = 0 := by omega
            have m4 : IntKind.i64.wrap (j : Int) = (j : Int) := wI (by omega) (by omega)
            have Hjl := Lib.hid hjl
            obtain ⟨bs2, hcr, hb2, hop, hdv2⟩ := H6.out.dv.left (k := j) (by have := Hp.out; omega) (by have := Hp.out; omega) H6.out.a1 H6.out.a2 (by have := H6.out.bl; omega) (by have := Hlf.out; have := Hbn.out; have := Hgb.out; omega)
            have Hb2 := Lib.hid hb2
            have Hop := Lib.hid hop
            have Hdv2 := Lib.hid hdv2
            have hcra := Crash_any aD nD cD pg gn af j bs w6.drew (H6.out.rd.fr0 ((Fr.refl _ _).drew)) H6.out.cap
            rw [hcr] at hcra
            have HCR := Lib.hid hcra
            have r0 : w6.drew.cell? ⟨bD, 0, none⟩ = _ := H6.out.blk.cell (i := 0) rfl
            have r1 : w6.drew.cell? ⟨bD, 1, none⟩ = _ := H6.out.blk.cell (i := 1) rfl
            have r2 : w6.drew.cell? ⟨bD, 2, none⟩ = _ := H6.out.blk.cell (i := 2) rfl
            have r3 : w6.drew.cell? ⟨bD, 3, none⟩ = _ := H6.out.blk.cell (i := 3) rfl
            clear hj hjl hcr hb2 hop hdv2 hcra
            refine wp_region_held_drew (S := (fun _ => True)) (by kernel_rfl) trivial (fun hHeld => ?_)
            refine wpAnyH_take (i := 1) (v := ?_) (by simp only [List.getElem?_toArray, List.getElem?_cons_succ, List.getElem?_cons_zero] <;> rfl) (by kernel_rfl) (by kernel_rfl) (by kernel_rfl) (by exact fun _ _ _ h => h) (Or.inl ⟨by rfl, ?_⟩) (by assumption) ?_
            rotate_left
            · intro w hSw
              try dsimp only at hSw
              go_simp <;> with_reducible rfl
            try simp only [Act.put, List.setIfInBounds_toArray, List.set_cons_zero, List.set_cons_succ]
            refine wpAnyH_take (i := 2) (v := ?_) (by simp only [List.getElem?_toArray, List.getElem?_cons_succ, List.getElem?_cons_zero] <;> rfl) (by kernel_rfl) (by kernel_rfl) (by kernel_rfl) (by exact fun _ _ _ h => h) (Or.inl ⟨by rfl, ?_⟩) (by assumption) ?_
            rotate_left
            · intro w hSw
              try dsimp only at hSw
              go_simp <;> with_reducible rfl
            try simp only [Act.put, List.setIfInBounds_toArray, List.set_cons_zero, List.set_cons_succ]
            refine wpAnyH_take (i := 3) (v := ?_) (by simp only [List.getElem?_toArray, List.getElem?_cons_succ, List.getElem?_cons_zero] <;> rfl) (by kernel_rfl) (by kernel_rfl) (by kernel_rfl) (by exact fun _ _ _ h => h) (Or.inl ⟨by rfl, ?_⟩) (by assumption) ?_
            rotate_left
            · intro w hSw
              try dsimp only at hSw
              go_simp <;> with_reducible rfl
            try simp only [Act.put, List.setIfInBounds_toArray, List.set_cons_zero, List.set_cons_succ]
            refine wpAnyH_take (i := 4) (v := ?_) (by simp only [List.getElem?_toArray, List.getElem?_cons_succ, List.getElem?_cons_zero] <;> rfl) (by kernel_rfl) (by kernel_rfl) (by kernel_rfl) (by exact fun _ _ _ h => h) (Or.inl ⟨by rfl, ?_⟩) (by assumption) ?_
            rotate_left
            · intro w hSw
              try dsimp only at hSw
              go_simp <;> with_reducible rfl
            try simp only [Act.put, List.setIfInBounds_toArray, List.set_cons_zero, List.set_cons_succ]
            refine wpAnyH_take (i := 5) (v := ?_) (by simp only [List.getElem?_toArray, List.getElem?_cons_succ, List.getElem?_cons_zero] <;> rfl) (by kernel_rfl) (by kernel_rfl) (by kernel_rfl) (by exact fun _ _ _ h => h) (Or.inl ⟨by rfl, ?_⟩) (by assumption) ?_
            rotate_left
            · intro w hSw
              try dsimp only at hSw
              go_simp <;> with_reducible rfl
            try simp only [Act.put, List.setIfInBounds_toArray, List.set_cons_zero, List.set_cons_succ]
            refine wpAnyH_ready (rs := [0]) (by kernel_rfl) (by simp) ?_
            refine AllReadyH.cons (by simp only [List.getElem?_toArray, List.getElem?_cons_succ, List.getElem?_cons_zero] <;> rfl) (fun K hK => ?_) AllReadyH.nil
            go_simp
            refine hK.out _ _ (by first | assumption | trivial | go_keep) (fun hHeld => ?_)
            clear hK K
            try simp only [Act.put, List.setIfInBounds_toArray, List.set_cons_zero, List.set_cons_succ]
            refine wpAnyH_ready (rs := [6]) (by kernel_rfl) (by simp) ?_
            refine AllReadyH.cons (by simp only [List.getElem?_toArray, List.getElem?_cons_succ, List.getElem?_cons_zero] <;> rfl) (fun K hK => ?_) AllReadyH.nil
            go_simp
            (go_at_call 26; refine HCR.out.mono ?_; rintro e w7 ⟨aX, mX, cX, hmX, rfl, OX, F7⟩)
            dsimp only at hmX OX ⊢
            have HmX := Lib.hid hmX
            have HOX := Lib.hid OX
            have H7 := Lib.hid (H6.out.fr0 ((Fr.refl F0 w6).drew.trans0 F7))
            have F7w := Lib.hid (F6w.out.drew.trans0 F7)
            have y0 := H7.out.blk.cell (i := 0) rfl
            have y1 := H7.out.blk.cell (i := 1) rfl
            have y2 := H7.out.blk.cell (i := 2) rfl
            have y3 := H7.out.blk.cell (i := 3) rfl
            have f0 := H7.out.blk.free 0
            have f1 := H7.out.blk.free 1
            have f2 := H7.out.blk.free 2
            have f3 := H7.out.blk.free 3
            clear r0 r1 r2 r3 hmX OX F7
            try go_simp
            refine hK.out _ _ (by first | assumption | trivial | go_keep) (fun hHeld => ?_)
            clear hK K
            try simp only [Act.put, List.setIfInBounds_toArray, List.set_cons_zero, List.set_cons_succ]
            refine wpAnyH_take (i := 7) (v := ?_) (by simp only [List.getElem?_toArray, List.getElem?_cons_succ, List.getElem?_cons_zero] <;> rfl) (by kernel_rfl) (by kernel_rfl) (by kernel_rfl) (by exact fun _ _ _ h => h) (Or.inl ⟨by rfl, ?_⟩) (by assumption) ?_
            rotate_left
            · intro w hSw
              try dsimp only at hSw
              go_simp <;> with_reducible rfl
            try simp only [Act.put, List.setIfInBounds_toArray, List.set_cons_zero, List.set_cons_succ]
            refine wpAnyH_take (i := 8) (v := ?_) (by simp only [List.getElem?_toArray, List.getElem?_cons_succ, List.getElem?_cons_zero] <;> rfl) (by kernel_rfl) (by kernel_rfl) (by kernel_rfl) (by exact fun _ _ _ h => h) (Or.inl ⟨by rfl, ?_⟩) (by assumption) ?_
            rotate_left
            · intro w hSw
              try dsimp only at hSw
              go_simp <;> with_reducible rfl
            try simp only [Act.put, List.setIfInBounds_toArray, List.set_cons_zero, List.set_cons_succ]
            refine wpAnyH_take (i := 9) (v := ?_) (by simp only [List.getElem?_toArray, List.getElem?_cons_succ, List.getElem?_cons_zero] <;> rfl) (by kernel_rfl) (by kernel_rfl) (by kernel_rfl) (by exact fun _ _ _ h => h) (Or.inl ⟨by rfl, ?_⟩) (by assumption) ?_
            rotate_left
            · intro w hSw
              try dsimp only at hSw
              go_simp <;> with_reducible rfl
            try simp only [Act.put, List.setIfInBounds_toArray, List.set_cons_zero, List.set_cons_succ]
            refine wpAnyH_ready (rs := [10]) (by kernel_rfl) (by simp) ?_
            refine AllReadyH.cons (by simp only [List.getElem?_toArray, List.getElem?_cons_succ, List.getElem?_cons_zero] <;> rfl) (fun K hK => ?_) AllReadyH.nil
            go_simp
            refine hK.out _ _ (by first | assumption | trivial | go_keep) (fun hHeld => ?_)
            clear hK K
            try simp only [Act.put, List.setIfInBounds_toArray, List.set_cons_zero, List.set_cons_succ]
            refine wpAnyH_take (i := 11) (v := ?_) (by simp only [List.getElem?_toArray, List.getElem?_cons_succ, List.getElem?_cons_zero] <;> rfl) (by kernel_rfl) (by kernel_rfl) (by kernel_rfl) (by exact fun _ _ _ h => h) (Or.inl ⟨by rfl, ?_⟩) (by assumption) ?_
            rotate_left
            · intro w hSw
              try dsimp only at hSw
              go_simp <;> with_reducible rfl
            try simp only [Act.put, List.setIfInBounds_toArray, List.set_cons_zero, List.set_cons_succ]
            refine wpAnyH_done (by kernel_rfl) ?_ _
            obtain ⟨w8, hw8⟩ : ∃ w8, ((((w7.setCell ⟨bD, 0, none⟩ (.int .i64 pg)).setCell ⟨bD, 1, none⟩ (.slice aX mX cX)).setCell ⟨bD, 2, none⟩ (.int .i64 gn)).setCell ⟨bD, 3, none⟩ (.int .i64 (-1))) = w8 := ⟨_, rfl⟩
            rw [hw8]
            have F8 : Fr (fun j => j = bD) w7 w8 := by rw [← hw8]; exact fr_put _ _ _ _ _ _
            have B8 : Hid (Blk w8 bD 24 [.int .i64 pg, .slice aX mX cX, .int .i64 gn, .int .i64 (-1)]) := Lib.hid (by rw [← hw8]; exact blk_put H7.out.blk _ _ _ _)
            have W8 : Hid (Wt w8 bD aw nw vsw (pgsL pg (Go.Proofs.Ytehpikjhjghplaa.recs G pg).1)) := Lib.hid (Wt.fr ⟨H7.out.rdw, H7.out.offw, H7.out.rows⟩ F8)
            have R8 : Rd w8 aX mX (byt bs2) := HOX.out.rd.fr F8 (fun j h => by have h1 := (HOX.out.blk j h).1; have h2 := H6.out.blk.lt; have h3 : w6.heap.size ≤ j := h1; omega)
            have F8w := Lib.hid (F7w.out.trans F8 (fun j h1 h2 => by have := Hs5.out; have := Hpb.out; omega))
            have F58 := Lib.hid (H7.out.fr.trans F8 (fun _ _ e => e))
            have hopn := Open_any aX mX cX pg gn (-1) bs2 w8 R8 HOX.out.cap
            rw [Hop.out] at hopn
            have HOP := Lib.hid hopn
            have q0 := B8.out.cell (i := 0) rfl
            have q1 := B8.out.cell (i := 1) rfl
            have q2 := B8.out.cell (i := 2) rfl
            have q3 := B8.out.cell (i := 3) rfl
            clear y0 y1 y2 y3 f0 f1 f2 f3 F8 R8 hopn hw8
            go_wp2_with fail
            refine HOP.out.mono ?_
            rintro e w9 ⟨aO, mO, cO, hmO, rfl, OO, F9⟩
            dsimp only at hmO OO ⊢
            have B9 := Lib.hid (B8.out.fr F9 id)
            have W9 := Lib.hid (W8.out.fr0 F9)
            have F9w := Lib.hid (F8w.out.trans0 F9)
            have F59 := Lib.hid (F58.out.trans0 F9)
            have OOh := Lib.hid OO
            have OffO : Hid (∀ j, onBlk aO j → j ≠ bD) := Lib.hid (fun j h => by have h1 := (OO.blk j h).1; have h2 := B8.out.lt; omega)
            clear q0 q1 q2 q3 hmO OO F9 B8 W8 F8w F58 HOP
            have y0 := B9.out.cell (i := 0) rfl
            have y1 := B9.out.cell (i := 1) rfl
            have y2 := B9.out.cell (i := 2) rfl
            have y3 := B9.out.cell (i := 3) rfl
            have f0 := B9.out.free 0
            have f1 := B9.out.free 1
            have f2 := B9.out.free 2
            have f3 := B9.out.free 3
            obtain ⟨w10, hw10⟩ : ∃ w10, ((((w9.setCell ⟨bD, 0, none⟩ (.int .i64 pg)).setCell ⟨bD, 1, none⟩ (.slice aO mO cO)).setCell ⟨bD, 2, none⟩ (.int .i64 gn)).setCell ⟨bD, 3, none⟩ (.int .i64 (-1))) = w10 := ⟨_, rfl⟩
            have F10 : Fr (fun j => j = bD) w9 w10 := by rw [← hw10]; exact fr_put _ _ _ _ _ _
            have B10 : Hid (Blk w10 bD 24 [.int .i64 pg, .slice aO mO cO, .int .i64 gn, .int .i64 (-1)]) := Lib.hid (by rw [← hw10]; exact blk_put B9.out _ _ _ _)
            have W10 := Lib.hid (W9.out.fr F10)
            have R10 : Hid (Rd w10 aO mO (byt G)) := Lib.hid (OOh.out.rd.fr F10 OffO.out)
            have F10w := Lib.hid (F9w.out.trans F10 (fun j h1 h2 => by have := Hs5.out; have := Hpb.out; omega))
            have F510 := Lib.hid (F59.out.trans F10 (fun _ _ e => e))
            have hGl : G.length ≤ 5000 := by have := H7.out.gl; omega
            have hvG : validB pg G gn (-1) = true := Hdv2.out.valid (by have := Hp.out; omega) (by have := Hp.out; omega) (by omega) (by omega) (by omega)
            have hct : ctS pg G gn (-1) = (((Go.Proofs.Ytehpikjhjghplaa.recs G pg).1.length : Int), 0) := by unfold ctS; rw [if_pos hvG, Int.toNat_natCast]
            have HVG := Lib.hid hvG
            have HGl := Lib.hid hGl
            have z0 := B10.out.cell (i := 0) rfl
            have z1 := B10.out.cell (i := 1) rfl
            have z2 := B10.out.cell (i := 2) rfl
            have z3 := B10.out.cell (i := 3) rfl
            have HCT := Lib.hid (Commits_any aO mO cO pg gn (-1) G w10 R10.out OOh.out.cap)
            rw [hct] at HCT
            clear F10 hGl hvG hct
            go_wp2_with fail
            refine HCT.out.mono ?_
            rintro e w11 ⟨rfl, F11⟩
            have B11 := Lib.hid (B10.out.fr F11 id)
            have W11 := Lib.hid (W10.out.fr0 F11)
            have R11 := Lib.hid (R10.out.fr0 F11)
            have F11w := Lib.hid (F10w.out.trans0 F11)
            have F511 := Lib.hid (F510.out.trans0 F11)
            clear z0 z1 z2 z3 y0 y1 y2 y3 f0 f1 f2 f3 F11 B9 W9 F9w F59 F10w F510 HCT hw10 B10 W10 R10
            have q0 := B11.out.cell (i := 0) rfl
            have q1 := B11.out.cell (i := 1) rfl
            have q2 := B11.out.cell (i := 2) rfl
            have q3 := B11.out.cell (i := 3) rfl
            have HSH := Lib.hid (shown_any aO mO cO pg gn (-1) G w11 R11.out OOh.out.cap HVG.out)
            go_wp2_with fail
            refine HSH.out.mono ?_
            rintro e w12 ⟨aS, nS, cS, vsS, SS, hnS, rfl, RS, RwS, F12⟩
            have hnw : nS = nw := by rw [hnS]; exact W11.out.len
            subst hnw
            have B12 := Lib.hid (B11.out.fr F12 id)
            have W12 := Lib.hid (W11.out.fr0 F12)
            have R12 := Lib.hid (R11.out.fr0 F12)
            have F12w := Lib.hid (F11w.out.trans0 F12)
            have F512 := Lib.hid (F511.out.trans0 F12)
            have RSh := Lib.hid RS
            have RwSh := Lib.hid RwS
            clear q0 q1 q2 q3 F12 HSH B11 W11 R11 F11w F511 RS RwS hnS
            go_wp2_with fail
            refine (same_any aS aw nS cS cw _ vsS vsw SS _ _ RSh.out W12.out.rd RwSh.out W12.out.rows).mono ?_
            rintro e w13 ⟨rfl, rfl⟩
            have L12 := L5.out.fr F512.out (fun h => by have := Hs5.out; omega)
            have P12 := P5.out.fr F512.out (fun h => by have := Hs5.out; omega)
            have u0 := L12.cell (i := 0) rfl
            have u1 := L12.cell (i := 1) rfl
            have q0 := B12.out.cell (i := 0) rfl
            have q1 := B12.out.cell (i := 1) rfl
            have q2 := B12.out.cell (i := 2) rfl
            have q3 := B12.out.cell (i := 3) rfl
            have Ux := HU.out.fr0 F12w.out
            obtain ⟨hf, hz, hl⟩ := U0.out.fit HU.out
            obtain ⟨bs', sy', af', _, ha1, ha2, hbl, hlast⟩ := Hdv2.out.commit (by have := Hp.out; omega) (by have := Hp.out; omega) (by omega) (by omega) (by have := HGl.out; omega) (by have := HGl.out; omega) hf hz U0.out.nodup (by have := Hp.out; omega)
            obtain ⟨hcm, hdv, haf⟩ := hlast rfl
            have hcomm := Commit_any aO mO cO pg gn (-1) G x.ap x.np x.cp x.zs x.ad x.nd x.cd x.vs x.ds _ w12 R12.out OOh.out.cap Ux.rp Ux.rr Ux.rows (fun j h => h)
            rw [hcm] at hcomm
            have HCM := Lib.hid hcomm
            have Hf := Lib.hid hf
            have Hdv := Lib.hid hdv
            have Hab := Lib.hid (And.intro ha1 ha2)
            have Hbl : Hid (bs'.length ≤ 6000) := Lib.hid (by have := HGl.out; have := Hp.out; omega)
            clear L12 P12 Ux hf hz hl ha1 ha2 hbl hlast hcm hdv haf hcomm RSh RwSh
            go_wp2_with fail
            refine HCM.out.mono ?_
            rintro e w14 ⟨aX, mX, cX, hmX, rfl, OX, F14⟩
            dsimp only at hmX OX ⊢
            have B14 := Lib.hid (B12.out.fr F14 id)
            have W14 := Lib.hid (W12.out.fr0 F14)
            have F14w := Lib.hid (F12w.out.trans0 F14)
            have F514 := Lib.hid (F512.out.trans0 F14)
            have OXh := Lib.hid OX
            have OffX : Hid (∀ j, onBlk aX j → j ≠ bD) := Lib.hid (fun j h => by have h1 := (OX.blk j h).1; have h2 := B12.out.lt; omega)
            clear q0 q1 q2 q3 u0 u1 hmX OX F14 B12 W12 F12w F512 HCM R12
            have y0 := B14.out.cell (i := 0) rfl
            have y1 := B14.out.cell (i := 1) rfl
            have y2 := B14.out.cell (i := 2) rfl
            have y3 := B14.out.cell (i := 3) rfl
            have f0 := B14.out.free 0
            have f1 := B14.out.free 1
            have f2 := B14.out.free 2
            have f3 := B14.out.free 3
            obtain ⟨w15, hw15⟩ : ∃ w15, ((((w14.setCell ⟨bD, 0, none⟩ (.int .i64 pg)).setCell ⟨bD, 1, none⟩ (.slice aX mX cX)).setCell ⟨bD, 2, none⟩ (.int .i64 sy')).setCell ⟨bD, 3, none⟩ (.int .i64 af')) = w15 := ⟨_, rfl⟩
            have F15 : Fr (fun j => j = bD) w14 w15 := by rw [← hw15]; exact fr_put _ _ _ _ _ _
            have B15 : Hid (Blk w15 bD 24 [.int .i64 pg, .slice aX mX cX, .int .i64 sy', .int .i64 af']) := Lib.hid (by rw [← hw15]; exact blk_put B14.out _ _ _ _)
            have W15 := Lib.hid (W14.out.fr F15)
            have R15 : Hid (Rd w15 aX mX (byt bs')) := Lib.hid (OXh.out.rd.fr F15 OffX.out)
            have F15w := Lib.hid (F14w.out.trans F15 (fun j h1 h2 => by have := Hs5.out; have := Hpb.out; omega))
            have F515 := Lib.hid (F514.out.trans F15 (fun _ _ e => e))
            have hv2 : validB pg bs' sy' af' = true := Hdv.out.valid (by have := Hp.out; omega) (by have := Hp.out; omega) Hab.out.1 Hab.out.2 (by have := Hbl.out; omega)
            have z0 := B15.out.cell (i := 0) rfl
            have z1 := B15.out.cell (i := 1) rfl
            have z2 := B15.out.cell (i := 2) rfl
            have z3 := B15.out.cell (i := 3) rfl
            have HSH := Lib.hid (shown_any aX mX cX pg sy' af' bs' w15 R15.out OXh.out.cap hv2)
            clear F15 hv2
            go_wp2_with fail
            refine HSH.out.mono ?_
            rintro e w16 ⟨aT, nT, cT, vsT, ST, hnT, rfl, RT, RwT, F16⟩
            have hPT : dpgs pg bs' = ((x.zs.map Int.toNat).zip x.ds).foldl (pgStep pg) (pgsL pg (Go.Proofs.Ytehpikjhjghplaa.recs G pg).1) := by
              have h := (pages_app (ps := x.zs.map Int.toNat) (ds := x.ds) Hdv2.out.full Hf.out).1
              rw [← h]
              unfold dpgs
              rw [Int.toNat_natCast, Hdv.out.recs]
            rw [hPT] at hnT RwT
            have B16 := Lib.hid (B15.out.fr F16 id)
            have W16 := Lib.hid (W15.out.fr0 F16)
            have F16w := Lib.hid (F15w.out.trans0 F16)
            have F516 := Lib.hid (F515.out.trans0 F16)
            have RTh := Lib.hid RT
            have RwTh := Lib.hid RwT
            have HnT := Lib.hid hnT
            have P16 := P5.out.fr F516.out (fun h => by have := Hs5.out; omega)
            have L16 := L5.out.fr F516.out (fun h => by have := Hs5.out; omega)
            have p0 := P16.cell (i := 0) rfl
            have u0 := L16.cell (i := 0) rfl
            have u1 := L16.cell (i := 1) rfl
            have hap := apply_any (T := fun j => j ≠ bD) (aw := aw) (nw := nS) (cw := cw) (page := pg) (m := 30) (x := x) W16.out.rd W16.out.rows (HU.out.fr0 F16w.out) ((HU.out.rows.fr0 F16w.out).mono (fun j (hj : j < w.heap.size) => ⟨by have := Hs5.out; have := Hpb.out; omega, Nat.lt_of_lt_of_le hj F16w.out.size⟩)) (fun j hj => show j ≠ bD by have := B16.out.lt; omega) U0.out (by have := Hp.out; omega) H7.out.n30 (by omega) (by omega)
            have hap2 : Calls Try.prog 43 #[.slice aw nS cw, .agg #[.slice x.ap x.np x.cp, .slice x.ad x.nd x.cd], .int .i64 pg] w16 _ := hap
            have HAP := Lib.hid hap2
            clear z0 z1 z2 z3 y0 y1 y2 y3 f0 f1 f2 f3 hnT RT RwT F16 hPT P16 L16 hap hap2 hw15 HSH
            go_wp2_with fail
            refine HAP.out.mono ?_
            rintro e w17 ⟨aR, nR, cR, vsR, rfl, RR, RW, nR30, offR, F17⟩
            have hnR : nR = nT := by rw [HnT.out, ← RW.len, RR.len]
            subst hnR
            have RRh := Lib.hid RR
            have RWh := Lib.hid RW
            have RT17 := Lib.hid (RTh.out.fr0 F17)
            have RwT17 := Lib.hid (RwTh.out.fr0 F17)
            have F17w := Lib.hid (F16w.out.trans0 F17)
            clear p0 u0 u1 RR RW offR F17 HAP
            go_wp2_with fail
            refine (same_any aT aR nR cT cR _ vsT vsR ST _ _ RT17.out RRh.out RwT17.out RWh.out).mono ?_
            rintro e w18 ⟨rfl, rfl⟩
            go_wp2_with fail
            go_ret
            exact ⟨rfl, F17w.out⟩
      · go_wp2_with fail
        go_ret
        exact ⟨rfl, Fws.out.trans0 F5.out⟩
  · have d1 : decide ((10 : Int) < (n : Int)) = true := decide_eq_true (by omega)
    go_wp2_with fail
    go_ret
    refine ⟨rfl, ?_⟩
    exact Fws.out
theorem Survives_law (page after : Int) (a : Option Addr) (n c : Nat) (xs : List Upd) (keep : Int) (x : Upd) (W : World) (hA : ArgUs W a n c xs) (hk : (Lit.int .u16 keep).wf = true) (U : UpM W x) :
    Calls Try.prog 9 #[.int .i64 page, .int .i64 after, .slice a n c, .int .u16 keep, x.agg] W fun e w' => e = .returned (.bool true) ∧ Fr F0 W w' := by
  refine survives_any hA U ?_
  simp only [Lit.wf, Bool.and_eq_true, decide_eq_true_eq] at hk
  have e1 : IntKind.u16.min = 0 := by decide
  have e2 : IntKind.u16.max = 65535 := by decide
  omega
end Go.Proofs.Ytehpikjhjghplaa
