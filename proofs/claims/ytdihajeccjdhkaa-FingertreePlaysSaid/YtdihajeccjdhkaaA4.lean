/- Balancing. -/
import Derived.Test.YtdihajeccjdhkaaA3
namespace Go.Proofs.Ytdihajeccjdhkaa
open Go.RowKit
attribute [local go_sem ↓] Go.wp_at_zero Go.wp_at_succ
theorem qsame {P : Program} {f : FuncId} {args : Array Value} {w : World} {n : Nat} {v : Value} (h : Calls P f args (w.drewN n) fun e w' => e = .returned v ∧ w.drewN n = w') :
    Calls P f args (w.drewN n) fun e w'' => e = .returned v ∧ ∃ m, w'' = w.drewN m := h.mono fun _ _ ⟨he, hm⟩ => ⟨he, n, hm.symm⟩
/-- A tree was made, between two worlds and since a third. -/
def MkP (w : World) (t : Tr) (W : World) (e : Ending) (w' : World) : Prop := ∃ p, e = .returned (.pointer p) ∧ TM w' t p ∧ Fr F0 w w' ∧ Fr F0 W w'
theorem MkPost.up {w W : World} {t : Tr} {f : FuncId} {args : Array Value} (g : Fr F0 w W) (h : Calls Try.prog f args W (MkPost t W)) : Calls Try.prog f args W (MkP w t W) := h.mono fun _ _ ⟨p, h1, h2, h3⟩ => ⟨p, h1, h2, g.trans0 h3, h3⟩
/-- A balanced tree with the elements of two, and one between them. -/
def BPost (l : Tr) (x : Int) (r : Tr) (w : World) (e : Ending) (w' : World) : Prop :=
  ∃ t, t.list = l.list ++ x :: r.list ∧ t.Avl ∧ ((l.ht ≤ r.ht + 1 → r.ht ≤ l.ht + 1 → t.ht = 1 + max l.ht r.ht) ∧ (t.ht = max l.ht r.ht ∨ t.ht = max l.ht r.ht + 1)) ∧ MkPost t w e w'
theorem Fit.of {l : Tr} {x : Int} {r t : Tr} (h : Fit (.nd l x r)) (e : t.list = l.list ++ x :: r.list) : Fit t :=
  ⟨by rw [e]; exact h.small, by show t.list.length ≤ _; rw [e]; exact h.len⟩
theorem Fit.sub {t u : Tr} (h : Fit t) (a b : List Int) (e : t.list = a ++ u.list ++ b) : Fit u := by
  have h1 := h.small
  have h2 : t.list.length ≤ 100000 := h.len
  rw [e, Small.app, Small.app] at h1
  rw [e, List.length_append, List.length_append] at h2
  exact ⟨h1.1.2, by show u.list.length ≤ _; omega⟩
set_option maxHeartbeats 4000000 in
theorem bal_L {l r : Tr} {pl pr : Option Addr} (x : Int) {w : World} (hl : TM w l pl) (hr : TM w r pr) (hf : Fit (.nd l x r)) (al : l.Avl) (ar : r.Avl) (h1 : l.ht ≤ r.ht + 2) (h2 : r.ht ≤ l.ht + 2)
    (hb : r.ht + 1 < l.ht) : Calls Try.prog 58 #[.pointer pl, .int .i64 x, .pointer pr] w (BPost l x r w) := by
  cases l with
  | nil => simp [Tr.ht] at hb
  | nd u y v =>
    have hlen := hf.len
    have g1 := Tr.ht_le_len (.nd u y v)
    have g2 := Tr.ht_le_len r
    rw [Tr.len_nd] at hlen
    have cl := Lib.hid (height_any hl)
    have cr := Lib.hid (height_any hr)
    obtain ⟨b, pu, pv, rfl, hc, hu, hv⟩ := hl
    obtain ⟨au, av, a1, a2⟩ := al
    have z0 : w.cell? ⟨b, 0, none⟩ = some (.pointer pu) := hc.cell (i := 0) rfl
    have z1 : w.cell? ⟨b, 1, none⟩ = some (.pointer pv) := hc.cell (i := 1) rfl
    have z2 : w.cell? ⟨b, 2, none⟩ = some (.int .i64 y) := hc.cell (i := 2) rfl
    have cu := Lib.hid (fun (q : Nat) => qsame (n := q) (w := w) (height_any (hu.fr0 ((Fr.refl F0 w).drewN q))))
    have cv := Lib.hid (fun (q : Nat) => qsame (n := q) (w := w) (height_any (hv.fr0 ((Fr.refl F0 w).drewN q))))
    have eb : (Tr.nd u y v).ht = 1 + max u.ht v.ht := rfl
    have Hu := Lib.hid hu
    have Hv := Lib.hid hv
    have Hf := Lib.hid hf
    obtain ⟨du, hdu⟩ : ∃ n, n = u.ht := ⟨_, rfl⟩
    obtain ⟨dv, hdv⟩ : ∃ n, n = v.ht := ⟨_, rfl⟩
    obtain ⟨ds, hds⟩ : ∃ n, n = r.ht := ⟨_, rfl⟩
    obtain ⟨db, hdb⟩ : ∃ n, n = (Tr.nd u y v).ht := ⟨_, rfl⟩
    rw [← hdu] at cu a1 a2 eb
    rw [← hdv] at cv a1 a2 eb
    rw [← hds] at cr g2 h1 h2 hb
    rw [← hdb] at cl g1 h1 h2 hb eb
    have Hd := Lib.hid (And.intro hdu (And.intro hdv (And.intro hds hdb)))
    have Ha := Lib.hid (And.intro au av)
    have Hs := Lib.hid hr
    have As := Lib.hid ar
    clear hdu hdv hds hdb hc hu hv hf au av hr ar
    have m1 : db ≤ 100000 := by omega
    have m2 : ds ≤ 100000 := by omega
    clear hlen g1 g2
    have q1 : decide ((ds : Int) + 1 < (db : Int)) = true := by simp; omega
    by_cases hcmp : dv ≤ du
    · have q5 : decide ((dv : Int) ≤ (du : Int)) = true := by simp; omega
      have hfo : Fit (Tr.nd u y (Tr.nd v x r)) := Hf.out.of (by simp [Tr.list])
      have hfi : Fit (Tr.nd v x r) := hfo.nd.2.2
      have H1 := Lib.hid (fun (W : World) (f : Fr F0 w W) => (MkPost.up f (build_any x (Hv.out.fr0 f) (Hs.out.fr0 f) (hfi)) : Calls Try.prog 56 #[.pointer pv, .int .i64 x, .pointer pr] W (MkP w (Tr.nd v x r) W)))
      have H2 := Lib.hid (fun (W : World) (p2 : Option Addr) (f : Fr F0 w W) (h : TM W (Tr.nd v x r) p2) => (MkPost.up f (build_any y (Hu.out.fr0 f) h (hfo)) : Calls Try.prog 56 #[.pointer pu, .int .i64 y, .pointer p2] W (MkP w (Tr.nd u y (Tr.nd v x r)) W)))
      clear hfo hfi
      go_enter Try.func58, Try.ntmps58
      go_wp2_with fail
      refine cl.out.mono ?_; rintro e w1 ⟨rfl, rfl⟩
      go_wp2_with fail
      refine cr.out.mono ?_; rintro e w1 ⟨rfl, rfl⟩
      go_wp2_with fail
      go_quiet (first | (go_at_call 50; with_reducible exact cu.out _) | (go_at_call 50; with_reducible exact cv.out _))
      obtain ⟨nq0, hnq0⟩ : ∃ n, n = nq := ⟨_, rfl⟩
      have Fq : Hid (Fr F0 w (w.drewN nq)) := Lib.hid ((Fr.refl F0 w).drewN nq)
      have y0 := Fq.out.cell z0 id
      have y1 := Fq.out.cell z1 id
      have y2 := Fq.out.cell z2 id
      obtain ⟨wq, hwq⟩ : ∃ W, W = w.drewN nq := ⟨_, rfl⟩
      rw [← hwq] at Fq y0 y1 y2
      rw [← hwq]
      clear hwq
      go_wp2_with fail
      have Hh : (wq.drew.cell? ⟨b, 0, none⟩ = some (.pointer pu) ∧ wq.drew.cell? ⟨b, 1, none⟩ = some (.pointer pv) ∧ wq.drew.cell? ⟨b, 2, none⟩ = some (.int .i64 y)) := ⟨y0, y1, y2⟩
      go_region_held3 (fun w' => w'.cell? ⟨b, 0, none⟩ = some (.pointer pu) ∧ w'.cell? ⟨b, 1, none⟩ = some (.pointer pv) ∧ w'.cell? ⟨b, 2, none⟩ = some (.int .i64 y)) (go_keep)
        (first | (go_at_call 56; (with_reducible refine (H1.out _ (by repeat (first | exact Fq.out | refine Fr.drew ?_))).mono ?_); rintro e w2 ⟨p2, rfl, T2, F2', G2⟩; have F2 := Lib.hid F2'; have k0 := F2.out.cell z0 id; have k1 := F2.out.cell z1 id; have k2 := F2.out.cell z2 id) | (go_at_call 56; (with_reducible refine (H2.out _ _ (by repeat (first | exact F2.out | refine Fr.drew ?_)) T2).mono ?_); rintro e w3 ⟨p3, rfl, T3, F3', G3⟩; have F3 := Lib.hid F3'; have k0' := F3.out.cell z0 id; have k1' := F3.out.cell z1 id; have k2' := F3.out.cell z2 id) | fail)
      all_goals
        go_wp2_with fail
        go_ret
        obtain ⟨e1, e2, e3, e4⟩ := Hd.out
        refine ⟨Tr.nd u y (Tr.nd v x r), by simp [Tr.list], ?_, ?_, p3, rfl, T3, F3.out⟩
        · exact avl_nd y Ha.out.1 (avl_nd x Ha.out.2 As.out (by omega) (by omega)) (by simp only [Tr.ht]; omega) (by simp only [Tr.ht]; omega)
        · rw [← e4, ← e3]
          simp only [Tr.ht]
          rw [← e1, ← e2, ← e3]
          omega
    · have q5 : decide ((dv : Int) ≤ (du : Int)) = false := by simp; omega
      have hdv := Hd.out.2.1
      cases v with
      | nil => simp [Tr.ht] at hdv; omega
      | nd m1 my m2 =>
        obtain ⟨bm, pm1, pm2, rfl, hcm, hm1, hm2⟩ := Hv.out
        obtain ⟨am1, am2, am3, am4⟩ := Ha.out.2
        have m0 : w.cell? ⟨bm, 0, none⟩ = some (.pointer pm1) := hcm.cell (i := 0) rfl
        have m1c : w.cell? ⟨bm, 1, none⟩ = some (.pointer pm2) := hcm.cell (i := 1) rfl
        have m2c : w.cell? ⟨bm, 2, none⟩ = some (.int .i64 my) := hcm.cell (i := 2) rfl
        have Hm1 := Lib.hid hm1
        have Hm2 := Lib.hid hm2
        have hfo : Fit (Tr.nd (Tr.nd u y m1) my (Tr.nd m2 x r)) := Hf.out.of (by simp [Tr.list])
        have hfa : Fit (Tr.nd u y m1) := hfo.nd.1
        have hfb : Fit (Tr.nd m2 x r) := hfo.nd.2.2
        have H1 := Lib.hid (fun (W : World) (f : Fr F0 w W) => (MkPost.up f (build_any y (Hu.out.fr0 f) (Hm1.out.fr0 f) hfa) : Calls Try.prog 56 #[.pointer pu, .int .i64 y, .pointer pm1] W (MkP w (Tr.nd u y m1) W)))
        have H2 := Lib.hid (fun (W : World) (f : Fr F0 w W) => (MkPost.up f (build_any x (Hm2.out.fr0 f) (Hs.out.fr0 f) hfb) : Calls Try.prog 56 #[.pointer pm2, .int .i64 x, .pointer pr] W (MkP w (Tr.nd m2 x r) W)))
        have H3 := Lib.hid (fun (W : World) (p1 p2 : Option Addr) (f : Fr F0 w W) (h : TM W (Tr.nd u y m1) p1) (h' : TM W (Tr.nd m2 x r) p2) => (MkPost.up f (build_any my h h' hfo) : Calls Try.prog 56 #[.pointer p1, .int .i64 my, .pointer p2] W (MkP w (Tr.nd (Tr.nd u y m1) my (Tr.nd m2 x r)) W)))
        clear hfo hfa hfb hcm hm1 hm2
        go_enter Try.func58, Try.ntmps58
        go_wp2_with fail
        refine cl.out.mono ?_; rintro e w1 ⟨rfl, rfl⟩
        go_wp2_with fail
        refine cr.out.mono ?_; rintro e w1 ⟨rfl, rfl⟩
        go_wp2_with fail
        go_quiet (first | (go_at_call 50; with_reducible exact cu.out _) | (go_at_call 50; with_reducible exact cv.out _))
        obtain ⟨nq0, hnq0⟩ : ∃ n, n = nq := ⟨_, rfl⟩
        have Fq : Hid (Fr F0 w (w.drewN nq)) := Lib.hid ((Fr.refl F0 w).drewN nq)
        obtain ⟨wq, hwq⟩ : ∃ W, W = w.drewN nq := ⟨_, rfl⟩
        rw [← hwq] at Fq
        rw [← hwq]
        clear hwq
        have y0 := Fq.out.cell z0 id
        have y1 := Fq.out.cell z1 id
        have y2 := Fq.out.cell z2 id
        have y3 := Fq.out.cell m0 id
        have y4 := Fq.out.cell m1c id
        have y5 := Fq.out.cell m2c id
        go_wp2_with fail
        have Hh : (wq.drew.cell? ⟨b, 0, none⟩ = some (.pointer pu) ∧ wq.drew.cell? ⟨b, 1, none⟩ = some (.pointer (some ⟨bm, 0, none⟩)) ∧ wq.drew.cell? ⟨b, 2, none⟩ = some (.int .i64 y) ∧ wq.drew.cell? ⟨bm, 0, none⟩ = some (.pointer pm1) ∧ wq.drew.cell? ⟨bm, 1, none⟩ = some (.pointer pm2) ∧ wq.drew.cell? ⟨bm, 2, none⟩ = some (.int .i64 my)) := ⟨y0, y1, y2, y3, y4, y5⟩
        go_region_held3 (fun w' => w'.cell? ⟨b, 0, none⟩ = some (.pointer pu) ∧ w'.cell? ⟨b, 1, none⟩ = some (.pointer (some ⟨bm, 0, none⟩)) ∧ w'.cell? ⟨b, 2, none⟩ = some (.int .i64 y) ∧ w'.cell? ⟨bm, 0, none⟩ = some (.pointer pm1) ∧ w'.cell? ⟨bm, 1, none⟩ = some (.pointer pm2) ∧ w'.cell? ⟨bm, 2, none⟩ = some (.int .i64 my)) (go_keep)
          (first | (go_at_call 56; (with_reducible refine (H1.out _ (by repeat (first | exact Fq.out | exact Fa.out | exact Fb.out | refine Fr.drew ?_))).mono ?_); rintro e wa ⟨pa, rfl, Ta, Fa', Ga⟩; have Fa := Lib.hid Fa'; (try (have Tb' := TM.fr0 Ga Tb)); have a0 := Fa.out.cell z0 id; have a1 := Fa.out.cell z1 id; have a2 := Fa.out.cell z2 id; have a3 := Fa.out.cell m0 id; have a4 := Fa.out.cell m1c id; have a5 := Fa.out.cell m2c id) | (go_at_call 56; (with_reducible refine (H2.out _ (by repeat (first | exact Fq.out | exact Fa.out | exact Fb.out | refine Fr.drew ?_))).mono ?_); rintro e wb ⟨pb, rfl, Tb, Fb', Gb⟩; have Fb := Lib.hid Fb'; (try (have Ta' := TM.fr0 Gb Ta)); have b0 := Fb.out.cell z0 id; have b1 := Fb.out.cell z1 id; have b2 := Fb.out.cell z2 id; have b3 := Fb.out.cell m0 id; have b4 := Fb.out.cell m1c id; have b5 := Fb.out.cell m2c id) | (go_at_call 56; first | ((with_reducible refine (H3.out _ _ _ (by repeat (first | exact Fb.out | refine Fr.drew ?_)) Ta' Tb).mono ?_); rintro e wc ⟨pc, rfl, Tc, Fc', Gc⟩; have Fc := Lib.hid Fc'; have c0 := Fc.out.cell z0 id; have c1 := Fc.out.cell z1 id; have c2 := Fc.out.cell z2 id; have c3 := Fc.out.cell m0 id; have c4 := Fc.out.cell m1c id; have c5 := Fc.out.cell m2c id) | ((with_reducible refine (H3.out _ _ _ (by repeat (first | exact Fa.out | refine Fr.drew ?_)) Ta Tb').mono ?_); rintro e wc ⟨pc, rfl, Tc, Fc', Gc⟩; have Fc := Lib.hid Fc'; have c0 := Fc.out.cell z0 id; have c1 := Fc.out.cell z1 id; have c2 := Fc.out.cell z2 id; have c3 := Fc.out.cell m0 id; have c4 := Fc.out.cell m1c id; have c5 := Fc.out.cell m2c id) | fail) | fail)
        all_goals
          go_wp2_with fail
          go_ret
          obtain ⟨e1, e2, e3, e4⟩ := Hd.out
          have e5 : (Tr.nd m1 my m2).ht = 1 + max m1.ht m2.ht := rfl
          rw [← e2] at e5
          refine ⟨Tr.nd (Tr.nd u y m1) my (Tr.nd m2 x r), by simp [Tr.list], ?_, ?_, pc, rfl, Tc, Fc.out⟩
          · exact avl_nd my (avl_nd y Ha.out.1 am1 (by omega) (by omega)) (avl_nd x am2 As.out (by omega) (by omega)) (by simp only [Tr.ht]; omega) (by simp only [Tr.ht]; omega)
          · rw [← e4, ← e3]
            simp only [Tr.ht]
            rw [← e1, ← e3]
            omega
set_option maxHeartbeats 4000000 in
theorem bal_R {l r : Tr} {pl pr : Option Addr} (x : Int) {w : World} (hl : TM w l pl) (hr : TM w r pr) (hf : Fit (.nd l x r)) (al : l.Avl) (ar : r.Avl) (h1 : l.ht ≤ r.ht + 2) (h2 : r.ht ≤ l.ht + 2)
    (hb : l.ht + 1 < r.ht) : Calls Try.prog 58 #[.pointer pl, .int .i64 x, .pointer pr] w (BPost l x r w) := by
  cases r with
  | nil => simp [Tr.ht] at hb
  | nd u y v =>
    have hlen := hf.len
    have g1 := Tr.ht_le_len l
    have g2 := Tr.ht_le_len (.nd u y v)
    rw [Tr.len_nd] at hlen
    have cl := Lib.hid (height_any hl)
    have cr := Lib.hid (height_any hr)
    obtain ⟨b, pu, pv, rfl, hc, hu, hv⟩ := hr
    obtain ⟨au, av, a1, a2⟩ := ar
    have z0 : w.cell? ⟨b, 0, none⟩ = some (.pointer pu) := hc.cell (i := 0) rfl
    have z1 : w.cell? ⟨b, 1, none⟩ = some (.pointer pv) := hc.cell (i := 1) rfl
    have z2 : w.cell? ⟨b, 2, none⟩ = some (.int .i64 y) := hc.cell (i := 2) rfl
    have cu := Lib.hid (fun (q : Nat) => qsame (n := q) (w := w) (height_any (hu.fr0 ((Fr.refl F0 w).drewN q))))
    have cv := Lib.hid (fun (q : Nat) => qsame (n := q) (w := w) (height_any (hv.fr0 ((Fr.refl F0 w).drewN q))))
    have eb : (Tr.nd u y v).ht = 1 + max u.ht v.ht := rfl
    have Hu := Lib.hid hu
    have Hv := Lib.hid hv
    have Hf := Lib.hid hf
    obtain ⟨du, hdu⟩ : ∃ n, n = u.ht := ⟨_, rfl⟩
    obtain ⟨dv, hdv⟩ : ∃ n, n = v.ht := ⟨_, rfl⟩
    obtain ⟨ds, hds⟩ : ∃ n, n = l.ht := ⟨_, rfl⟩
    obtain ⟨db, hdb⟩ : ∃ n, n = (Tr.nd u y v).ht := ⟨_, rfl⟩
    rw [← hdu] at cu a1 a2 eb
    rw [← hdv] at cv a1 a2 eb
    rw [← hds] at cl g1 h1 h2 hb
    rw [← hdb] at cr g2 h1 h2 hb eb
    have Hd := Lib.hid (And.intro hdu (And.intro hdv (And.intro hds hdb)))
    have Ha := Lib.hid (And.intro au av)
    have Hs := Lib.hid hl
    have As := Lib.hid al
    clear hdu hdv hds hdb hc hu hv hf au av hl al
    have m1 : db ≤ 100000 := by omega
    have m2 : ds ≤ 100000 := by omega
    clear hlen g1 g2
    have q1 : decide ((db : Int) + 1 < (ds : Int)) = false := by simp; omega
    have q2 : decide ((ds : Int) + 1 < (db : Int)) = true := by simp; omega
    by_cases hcmp : du ≤ dv
    · have q5 : decide ((du : Int) ≤ (dv : Int)) = true := by simp; omega
      have hfo : Fit (Tr.nd (Tr.nd l x u) y v) := Hf.out.of (by simp [Tr.list])
      have hfi : Fit (Tr.nd l x u) := hfo.nd.1
      have H1 := Lib.hid (fun (W : World) (f : Fr F0 w W) => (MkPost.up f (build_any x (Hs.out.fr0 f) (Hu.out.fr0 f) (hfi)) : Calls Try.prog 56 #[.pointer pl, .int .i64 x, .pointer pu] W (MkP w (Tr.nd l x u) W)))
      have H2 := Lib.hid (fun (W : World) (p2 : Option Addr) (f : Fr F0 w W) (h : TM W (Tr.nd l x u) p2) => (MkPost.up f (build_any y h (Hv.out.fr0 f) (hfo)) : Calls Try.prog 56 #[.pointer p2, .int .i64 y, .pointer pv] W (MkP w (Tr.nd (Tr.nd l x u) y v) W)))
      clear hfo hfi
      go_enter Try.func58, Try.ntmps58
      go_wp2_with fail
      refine cl.out.mono ?_; rintro e w1 ⟨rfl, rfl⟩
      go_wp2_with fail
      refine cr.out.mono ?_; rintro e w1 ⟨rfl, rfl⟩
      go_wp2_with fail
      refine cr.out.mono ?_; rintro e w1 ⟨rfl, rfl⟩
      go_wp2_with fail
      refine cl.out.mono ?_; rintro e w1 ⟨rfl, rfl⟩
      go_wp2_with fail
      go_quiet (first | (go_at_call 50; with_reducible exact cu.out _) | (go_at_call 50; with_reducible exact cv.out _))
      obtain ⟨nq0, hnq0⟩ : ∃ n, n = nq := ⟨_, rfl⟩
      have Fq : Hid (Fr F0 w (w.drewN nq)) := Lib.hid ((Fr.refl F0 w).drewN nq)
      have y0 := Fq.out.cell z0 id
      have y1 := Fq.out.cell z1 id
      have y2 := Fq.out.cell z2 id
      obtain ⟨wq, hwq⟩ : ∃ W, W = w.drewN nq := ⟨_, rfl⟩
      rw [← hwq] at Fq y0 y1 y2
      rw [← hwq]
      clear hwq
      go_wp2_with fail
      have Hh : (wq.drew.cell? ⟨b, 0, none⟩ = some (.pointer pu) ∧ wq.drew.cell? ⟨b, 1, none⟩ = some (.pointer pv) ∧ wq.drew.cell? ⟨b, 2, none⟩ = some (.int .i64 y)) := ⟨y0, y1, y2⟩
      go_region_held3 (fun w' => w'.cell? ⟨b, 0, none⟩ = some (.pointer pu) ∧ w'.cell? ⟨b, 1, none⟩ = some (.pointer pv) ∧ w'.cell? ⟨b, 2, none⟩ = some (.int .i64 y)) (go_keep)
        (first | (go_at_call 56; (with_reducible refine (H1.out _ (by repeat (first | exact Fq.out | refine Fr.drew ?_))).mono ?_); rintro e w2 ⟨p2, rfl, T2, F2', G2⟩; have F2 := Lib.hid F2'; have k0 := F2.out.cell z0 id; have k1 := F2.out.cell z1 id; have k2 := F2.out.cell z2 id) | (go_at_call 56; (with_reducible refine (H2.out _ _ (by repeat (first | exact F2.out | refine Fr.drew ?_)) T2).mono ?_); rintro e w3 ⟨p3, rfl, T3, F3', G3⟩; have F3 := Lib.hid F3'; have k0' := F3.out.cell z0 id; have k1' := F3.out.cell z1 id; have k2' := F3.out.cell z2 id) | fail)
      all_goals
        go_wp2_with fail
        go_ret
        obtain ⟨e1, e2, e3, e4⟩ := Hd.out
        refine ⟨Tr.nd (Tr.nd l x u) y v, by simp [Tr.list], ?_, ?_, p3, rfl, T3, F3.out⟩
        · exact avl_nd y (avl_nd x As.out Ha.out.1 (by omega) (by omega)) Ha.out.2 (by simp only [Tr.ht]; omega) (by simp only [Tr.ht]; omega)
        · rw [← e4, ← e3]
          simp only [Tr.ht]
          rw [← e1, ← e2, ← e3]
          omega
    · have q5 : decide ((du : Int) ≤ (dv : Int)) = false := by simp; omega
      have hdu := Hd.out.1
      cases u with
      | nil => simp [Tr.ht] at hdu; omega
      | nd m1 my m2 =>
        obtain ⟨bm, pm1, pm2, rfl, hcm, hm1, hm2⟩ := Hu.out
        obtain ⟨am1, am2, am3, am4⟩ := Ha.out.1
        have m0 : w.cell? ⟨bm, 0, none⟩ = some (.pointer pm1) := hcm.cell (i := 0) rfl
        have m1c : w.cell? ⟨bm, 1, none⟩ = some (.pointer pm2) := hcm.cell (i := 1) rfl
        have m2c : w.cell? ⟨bm, 2, none⟩ = some (.int .i64 my) := hcm.cell (i := 2) rfl
        have Hm1 := Lib.hid hm1
        have Hm2 := Lib.hid hm2
        have hfo : Fit (Tr.nd (Tr.nd l x m1) my (Tr.nd m2 y v)) := Hf.out.of (by simp [Tr.list])
        have hfa : Fit (Tr.nd l x m1) := hfo.nd.1
        have hfb : Fit (Tr.nd m2 y v) := hfo.nd.2.2
        have H1 := Lib.hid (fun (W : World) (f : Fr F0 w W) => (MkPost.up f (build_any x (Hs.out.fr0 f) (Hm1.out.fr0 f) hfa) : Calls Try.prog 56 #[.pointer pl, .int .i64 x, .pointer pm1] W (MkP w (Tr.nd l x m1) W)))
        have H2 := Lib.hid (fun (W : World) (f : Fr F0 w W) => (MkPost.up f (build_any y (Hm2.out.fr0 f) (Hv.out.fr0 f) hfb) : Calls Try.prog 56 #[.pointer pm2, .int .i64 y, .pointer pv] W (MkP w (Tr.nd m2 y v) W)))
        have H3 := Lib.hid (fun (W : World) (p1 p2 : Option Addr) (f : Fr F0 w W) (h : TM W (Tr.nd l x m1) p1) (h' : TM W (Tr.nd m2 y v) p2) => (MkPost.up f (build_any my h h' hfo) : Calls Try.prog 56 #[.pointer p1, .int .i64 my, .pointer p2] W (MkP w (Tr.nd (Tr.nd l x m1) my (Tr.nd m2 y v)) W)))
        clear hfo hfa hfb hcm hm1 hm2
        go_enter Try.func58, Try.ntmps58
        go_wp2_with fail
        refine cl.out.mono ?_; rintro e w1 ⟨rfl, rfl⟩
        go_wp2_with fail
        refine cr.out.mono ?_; rintro e w1 ⟨rfl, rfl⟩
        go_wp2_with fail
        refine cr.out.mono ?_; rintro e w1 ⟨rfl, rfl⟩
        go_wp2_with fail
        refine cl.out.mono ?_; rintro e w1 ⟨rfl, rfl⟩
        go_wp2_with fail
        go_quiet (first | (go_at_call 50; with_reducible exact cu.out _) | (go_at_call 50; with_reducible exact cv.out _))
        obtain ⟨nq0, hnq0⟩ : ∃ n, n = nq := ⟨_, rfl⟩
        have Fq : Hid (Fr F0 w (w.drewN nq)) := Lib.hid ((Fr.refl F0 w).drewN nq)
        obtain ⟨wq, hwq⟩ : ∃ W, W = w.drewN nq := ⟨_, rfl⟩
        rw [← hwq] at Fq
        rw [← hwq]
        clear hwq
        have y0 := Fq.out.cell z0 id
        have y1 := Fq.out.cell z1 id
        have y2 := Fq.out.cell z2 id
        have y3 := Fq.out.cell m0 id
        have y4 := Fq.out.cell m1c id
        have y5 := Fq.out.cell m2c id
        go_wp2_with fail
        have Hh : (wq.drew.cell? ⟨b, 0, none⟩ = some (.pointer (some ⟨bm, 0, none⟩)) ∧ wq.drew.cell? ⟨b, 1, none⟩ = some (.pointer pv) ∧ wq.drew.cell? ⟨b, 2, none⟩ = some (.int .i64 y) ∧ wq.drew.cell? ⟨bm, 0, none⟩ = some (.pointer pm1) ∧ wq.drew.cell? ⟨bm, 1, none⟩ = some (.pointer pm2) ∧ wq.drew.cell? ⟨bm, 2, none⟩ = some (.int .i64 my)) := ⟨y0, y1, y2, y3, y4, y5⟩
        go_region_held3 (fun w' => w'.cell? ⟨b, 0, none⟩ = some (.pointer (some ⟨bm, 0, none⟩)) ∧ w'.cell? ⟨b, 1, none⟩ = some (.pointer pv) ∧ w'.cell? ⟨b, 2, none⟩ = some (.int .i64 y) ∧ w'.cell? ⟨bm, 0, none⟩ = some (.pointer pm1) ∧ w'.cell? ⟨bm, 1, none⟩ = some (.pointer pm2) ∧ w'.cell? ⟨bm, 2, none⟩ = some (.int .i64 my)) (go_keep)
          (first | (go_at_call 56; (with_reducible refine (H1.out _ (by repeat (first | exact Fq.out | exact Fa.out | exact Fb.out | refine Fr.drew ?_))).mono ?_); rintro e wa ⟨pa, rfl, Ta, Fa', Ga⟩; have Fa := Lib.hid Fa'; (try (have Tb' := TM.fr0 Ga Tb)); have a0 := Fa.out.cell z0 id; have a1 := Fa.out.cell z1 id; have a2 := Fa.out.cell z2 id; have a3 := Fa.out.cell m0 id; have a4 := Fa.out.cell m1c id; have a5 := Fa.out.cell m2c id) | (go_at_call 56; (with_reducible refine (H2.out _ (by repeat (first | exact Fq.out | exact Fa.out | exact Fb.out | refine Fr.drew ?_))).mono ?_); rintro e wb ⟨pb, rfl, Tb, Fb', Gb⟩; have Fb := Lib.hid Fb'; (try (have Ta' := TM.fr0 Gb Ta)); have b0 := Fb.out.cell z0 id; have b1 := Fb.out.cell z1 id; have b2 := Fb.out.cell z2 id; have b3 := Fb.out.cell m0 id; have b4 := Fb.out.cell m1c id; have b5 := Fb.out.cell m2c id) | (go_at_call 56; first | ((with_reducible refine (H3.out _ _ _ (by repeat (first | exact Fb.out | refine Fr.drew ?_)) Ta' Tb).mono ?_); rintro e wc ⟨pc, rfl, Tc, Fc', Gc⟩; have Fc := Lib.hid Fc'; have c0 := Fc.out.cell z0 id; have c1 := Fc.out.cell z1 id; have c2 := Fc.out.cell z2 id; have c3 := Fc.out.cell m0 id; have c4 := Fc.out.cell m1c id; have c5 := Fc.out.cell m2c id) | ((with_reducible refine (H3.out _ _ _ (by repeat (first | exact Fa.out | refine Fr.drew ?_)) Ta Tb').mono ?_); rintro e wc ⟨pc, rfl, Tc, Fc', Gc⟩; have Fc := Lib.hid Fc'; have c0 := Fc.out.cell z0 id; have c1 := Fc.out.cell z1 id; have c2 := Fc.out.cell z2 id; have c3 := Fc.out.cell m0 id; have c4 := Fc.out.cell m1c id; have c5 := Fc.out.cell m2c id) | fail) | fail)
        all_goals
          go_wp2_with fail
          go_ret
          obtain ⟨e1, e2, e3, e4⟩ := Hd.out
          have e5 : (Tr.nd m1 my m2).ht = 1 + max m1.ht m2.ht := rfl
          rw [← e1] at e5
          refine ⟨Tr.nd (Tr.nd l x m1) my (Tr.nd m2 y v), by simp [Tr.list], ?_, ?_, pc, rfl, Tc, Fc.out⟩
          · exact avl_nd my (avl_nd x As.out am1 (by omega) (by omega)) (avl_nd y am2 Ha.out.2 (by omega) (by omega)) (by simp only [Tr.ht]; omega) (by simp only [Tr.ht]; omega)
          · rw [← e4, ← e3]
            simp only [Tr.ht]
            rw [← e2, ← e3]
            omega
theorem bal_C {l r : Tr} {pl pr : Option Addr} (x : Int) {w : World} (hl : TM w l pl) (hr : TM w r pr) (hf : Fit (.nd l x r)) (al : l.Avl) (ar : r.Avl) (h1 : l.ht ≤ r.ht + 1) (h2 : r.ht ≤ l.ht + 1) :
    Calls Try.prog 58 #[.pointer pl, .int .i64 x, .pointer pr] w (BPost l x r w) := by
  have hlen := hf.len
  have g1 := Tr.ht_le_len l
  have g2 := Tr.ht_le_len r
  rw [Tr.len_nd] at hlen
  have cl := Lib.hid (height_any hl)
  have cr := Lib.hid (height_any hr)
  have hbd := Lib.hid (build_any x hl hr hf)
  have Hh := Lib.hid (And.intro h1 h2)
  have q1 : decide ((r.ht : Int) + 1 < (l.ht : Int)) = false := by simp; omega
  have q2 : decide ((l.ht : Int) + 1 < (r.ht : Int)) = false := by simp; omega
  have m1 : l.ht ≤ 100000 := by omega
  have m2 : r.ht ≤ 100000 := by omega
  obtain ⟨dl, hdl⟩ : ∃ n, n = l.ht := ⟨_, rfl⟩
  obtain ⟨dr, hdr⟩ : ∃ n, n = r.ht := ⟨_, rfl⟩
  rw [← hdl] at cl q1 q2 m1
  rw [← hdr] at cr q1 q2 m2
  clear hlen g1 g2 hl hr hf h1 h2 hdl hdr
  go_enter Try.func58, Try.ntmps58
  go_wp2_with fail
  refine cl.out.mono ?_; rintro e w1 ⟨rfl, rfl⟩
  go_wp2_with fail
  refine cr.out.mono ?_; rintro e w1 ⟨rfl, rfl⟩
  go_wp2_with fail
  refine cr.out.mono ?_; rintro e w1 ⟨rfl, rfl⟩
  go_wp2_with fail
  refine cl.out.mono ?_; rintro e w1 ⟨rfl, rfl⟩
  go_wp2_with fail
  refine hbd.out.mono ?_
  rintro e w1 ⟨p, rfl, T, F⟩
  go_wp2_with fail
  go_ret
  exact ⟨.nd l x r, rfl, avl_nd x al ar Hh.out.1 Hh.out.2, ⟨fun _ _ => rfl, by have := Hh.out; simp only [Tr.ht]; omega⟩, p, rfl, T, F⟩
theorem bal_any {l r : Tr} {pl pr : Option Addr} (x : Int) {w : World} (hl : TM w l pl) (hr : TM w r pr) (hf : Fit (.nd l x r)) (al : l.Avl) (ar : r.Avl) (h1 : l.ht ≤ r.ht + 2) (h2 : r.ht ≤ l.ht + 2) :
    Calls Try.prog 58 #[.pointer pl, .int .i64 x, .pointer pr] w (BPost l x r w) := by
  rcases Nat.lt_or_ge (r.ht + 1) l.ht with h | h
  · exact bal_L x hl hr hf al ar h1 h2 h
  · rcases Nat.lt_or_ge (l.ht + 1) r.ht with h' | h'
    · exact bal_R x hl hr hf al ar h1 h2 h'
    · exact bal_C x hl hr hf al ar h h'
end Go.Proofs.Ytdihajeccjdhkaa
