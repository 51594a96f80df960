/- Common texts of this seat, one behind another. -/
import Derived.Test.YtkmnnfflibamnaaG212
import Derived.Test.YtkmnnfflibamnaaR2
/- Buffer trees: Update of the reference. -/
namespace Go.Proofs.Ytkmnnfflibamnaa
open Go.RowKit
attribute [local go_sem ↓] Go.wp_at_zero Go.wp_at_succ
/-- What lies in memory while the reference updates. -/
structure US (w wr : World) (vs es : List Value) : Prop where
  bx : Blk wr w.heap.size 51 vs
  eb : Blk wr (w.heap.size + 1) 58 es
  rb : Blk wr (w.heap.size + 2) 51 tcz
  fr : Fr F0 w wr
theorem US.fr0 {w wr w' : World} {vs es : List Value} (h : US w wr vs es) (f : Fr F0 wr w') : US w w' vs es := ⟨h.bx.fr f id, h.eb.fr f id, h.rb.fr f id, h.fr.trans0 f⟩
theorem US.set {w wr : World} {vs es : List Value} (h : US w wr vs es) (i : Nat) (u : Value) : US w (wr.setCell ⟨w.heap.size, i, none⟩ u) (vs.set i u) es :=
  ⟨h.bx.set i u, h.eb.other (by show w.heap.size + 1 ≠ w.heap.size; omega) u, h.rb.other (by show w.heap.size + 2 ≠ w.heap.size; omega) u, h.fr.trans (Fr.setCell (S := fun k => w.heap.size ≤ k) (Fr.refl _ _) (fun _ => Nat.le_refl _) u) (fun k hk hs => by omega)⟩
theorem US.new (w : World) (vs es : List Value) : US w (((w.alloc (.cells vs.toArray 51)).alloc (.cells es.toArray 58)).alloc (.cells tcz.toArray 51)) vs es := by
  refine ⟨((Blk.new w 51 vs).alloc _).alloc _, ?_, ?_, (((Fr.refl F0 w).alloc _).alloc _).alloc _⟩
  · have := (Blk.new (w.alloc (.cells vs.toArray 51)) 58 es).alloc (.cells tcz.toArray 51); rw [size_alloc] at this; exact this
  · have := Blk.new ((w.alloc (.cells vs.toArray 51)).alloc (.cells es.toArray 58)) 51 tcz; rw [size_alloc, size_alloc] at this; exact this
/-- An update of the reference. -/
def updR (B F M : Nat) (t : RT) (buf : List En) (e : En) : RT × List En := if M ≤ (ins buf e).length then (splR B F t (ins buf e), []) else (t, ins buf e)
/-- Blocks of P, and those made since, three left out. -/
def P3 (P : Nat → Prop) (w w' : World) (k : Nat) : Prop := P k ∨ (w.heap.size + 3 ≤ k ∧ k < w'.heap.size)
/-- The tree is in the cell of the results. -/
theorem US.out {w wr : World} {vs es : List Value} {P Q : Nat → Prop} {B M : Nat} {t : RT} {buf : List En} {v : Value} (h : US w wr vs es) (hT : TrS wr Q B M t buf v) (hP : ∀ k, P k → k < w.heap.size) (hQ : ∀ k, Q k → P3 P w wr k) (v0 v1 v2 v3 v4 : Value) :
    Blk (((((wr.setCell ⟨w.heap.size + 2, 0, none⟩ v0).setCell ⟨w.heap.size + 2, 1, none⟩ v1).setCell ⟨w.heap.size + 2, 2, none⟩ v2).setCell ⟨w.heap.size + 2, 3, none⟩ v3).setCell ⟨w.heap.size + 2, 4, none⟩ v4) (w.heap.size + 2) 51 [v0, v1, v2, v3, v4] ∧
    TrS (((((wr.setCell ⟨w.heap.size + 2, 0, none⟩ v0).setCell ⟨w.heap.size + 2, 1, none⟩ v1).setCell ⟨w.heap.size + 2, 2, none⟩ v2).setCell ⟨w.heap.size + 2, 3, none⟩ v3).setCell ⟨w.heap.size + 2, 4, none⟩ v4) (PN P w (((((wr.setCell ⟨w.heap.size + 2, 0, none⟩ v0).setCell ⟨w.heap.size + 2, 1, none⟩ v1).setCell ⟨w.heap.size + 2, 2, none⟩ v2).setCell ⟨w.heap.size + 2, 3, none⟩ v3).setCell ⟨w.heap.size + 2, 4, none⟩ v4)) B M t buf v ∧
    Fr F0 w (((((wr.setCell ⟨w.heap.size + 2, 0, none⟩ v0).setCell ⟨w.heap.size + 2, 1, none⟩ v1).setCell ⟨w.heap.size + 2, 2, none⟩ v2).setCell ⟨w.heap.size + 2, 3, none⟩ v3).setCell ⟨w.heap.size + 2, 4, none⟩ v4) := by
  have F5 := Fr.set5 wr (w.heap.size + 2) v0 v1 v2 v3 v4
  refine ⟨((((h.rb.set 0 v0).set 1 v1).set 2 v2).set 3 v3).set 4 v4, (hT.fr F5 (fun k hk hs => ?_)).mono (fun k hk => ?_), h.fr.trans F5 (fun k hk hs => by rw [hs] at hk; omega)⟩
  · rcases hQ k hk with c | c
    · have := hP k c; omega
    · omega
  · rcases hQ k hk with c | c
    · exact .inl c
    · exact .inr ⟨by omega, by have := F5.size; omega⟩
theorem US.spill {w wr : World} {vs es : List Value} {P : Nat → Prop} {ra : Option Addr} {rc : Nat} {rv : List RunV} {B M bl : Nat} {ba : Option Addr} {bn bc : Nat} {buf : List En} {b2 c2 : Nat} (hU : US w wr vs es) (h : RefS wr P ra rc rv) (hP : ∀ k, P k → k < w.heap.size) (hbf : RdZ wr 3 ba bn (ents buf)) (hbn : bn ≤ bc) (hbP : ∀ k, onBlk ba k → P3 P w wr k) (hB : 1 ≤ B ∧ B ≤ 64) (hM : 2 * B ≤ M ∧ M ≤ 1000) (hp : PR ⟨rsO rv, bl⟩ (400 - buf.length) b2 c2) (hb4 : buf.length ≤ 400) (hb2 : b2 ≤ 10000) (hc2 : c2 ≤ 900000000) :
    Calls Try.prog 77 #[rtv B M bl ba bn bc ra rv.length rc] wr fun e w' => ∃ v, e = .returned v ∧ TrS w' (P3 P w w') B M (splR B (fanN B M) ⟨rsO rv, bl⟩ buf) [] v ∧ US w w' vs es ∧ Fr F0 wr w' := by
  have hsz := hU.rb.lt
  refine (rspill_any (h.mono (P' := P3 P w wr) (fun k hk => .inl hk)) (fun k hk => ?_) hbf hbn hbP hB hM hp hb4 hb2 hc2).mono ?_
  · rcases hk with c | c
    · have := hP k c; omega
    · exact c.2
  · rintro e w' ⟨v, rfl, hT, F⟩
    refine ⟨v, rfl, hT.mono (fun k hk => ?_), hU.fr0 F, F⟩
    rcases hk with (c | c) | c
    · exact .inl c
    · exact .inr ⟨c.1, by have := F.size; omega⟩
    · exact .inr ⟨by omega, c.2⟩
theorem Fr5box {w wr : World} {vs es : List Value} (h : US w wr vs es) (v0 v1 v2 v3 v4 : Value) : US w (((((wr.setCell ⟨w.heap.size, 0, none⟩ v0).setCell ⟨w.heap.size, 1, none⟩ v1).setCell ⟨w.heap.size, 2, none⟩ v2).setCell ⟨w.heap.size, 3, none⟩ v3).setCell ⟨w.heap.size, 4, none⟩ v4) (((((vs.set 0 v0).set 1 v1).set 2 v2).set 3 v3).set 4 v4) es :=
  ((((h.set 0 v0).set 1 v1).set 2 v2).set 3 v3).set 4 v4
set_option maxRecDepth 100000 in
set_option maxHeartbeats 4000000 in
theorem rupd_bad {P : Nat → Prop} {w : World} {B M : Nat} {t : RT} {buf : List En} {v : Value} (h : TrS w P B M t buf v) (hP : ∀ k, P k → k < w.heap.size) (e : En) (hk : inK e.1 = false ∨ inK e.2.1 = false) :
    Calls Try.prog 48 #[v, env e] w fun r w' => ∃ v', r = .returned (.tuple #[v', .int .i64 2]) ∧ TrS w' (PN P w w') B M t buf v' ∧ Fr F0 w w' := by
  obtain ⟨ba, bc, ra, rc, rv, rfl, hrs, hrf, hbf, hbn, hbP⟩ := h
  obtain ⟨k, v0, rm⟩ := e
  dsimp only at hk
  have HK := Lib.hid (fun w => rkey_any k w)
  have HV := Lib.hid (fun w => rkey_any v0 w)
  unfold inK at hk
  generalize (decide (-1048576 ≤ k) && decide (k ≤ 1048576)) = q1 at hk HK
  generalize (decide (-1048576 ≤ v0) && decide (v0 ≤ 1048576)) = q2 at hk HV
  obtain ⟨bn, hbnl⟩ : ∃ bn, bn = buf.length := ⟨_, rfl⟩
  obtain ⟨n, hN⟩ : ∃ n, n = rv.length := ⟨_, rfl⟩
  obtain ⟨bl, hbl⟩ : ∃ bl, bl = t.bl := ⟨_, rfl⟩
  unfold rtv
  rw [← hbl, ← hbnl, ← hN]
  have HX := Lib.hid (US.new w (tcs B M bl ba bn bc ra n rc) [.int .i64 k, .int .i64 v0, .bool rm])
  have HT : Hid (TrS w P B M t buf (rtv B M bl ba bn bc ra n rc)) := Lib.hid ⟨ba, bc, ra, rc, rv, by rw [hbl, hbnl, hN], hrs, hrf, hbf, hbn, hbP⟩
  have HP := Lib.hid hP
  clear hrs hrf hbf hbn hbP hbl hbnl hN hP
  cases q1 with
  | false =>
    go_enter Try.func48, Try.ntmps48
    go_upto_region 1 with fail
    generalize hW0 : World.alloc (World.alloc (World.alloc w _) _) _ = W0
    have X0 : Hid (US w W0 (tcs B M bl ba bn bc ra n rc) [.int .i64 k, .int .i64 v0, .bool rm]) := Lib.hid (by rw [← hW0]; exact HX.out)
    clear HX hW0
    have x0 := X0.out.bx.cell (i := 0) rfl
    have x1 := X0.out.bx.cell (i := 1) rfl
    have x2 := X0.out.bx.cell (i := 2) rfl
    have x3 := X0.out.bx.cell (i := 3) rfl
    have x4 := X0.out.bx.cell (i := 4) rfl
    have y0 := X0.out.eb.cell (i := 0) rfl
    have y1 := X0.out.eb.cell (i := 1) rfl
    have q0 := X0.out.rb.free
    have p0 := X0.out.rb.cell (i := 0) rfl
    have p1 := X0.out.rb.cell (i := 1) rfl
    have p2 := X0.out.rb.cell (i := 2) rfl
    have p3 := X0.out.rb.cell (i := 3) rfl
    have p4 := X0.out.rb.cell (i := 4) rfl
    go_wp2_with (first | (go_at_call 74; refine (HK.out _).mono ?_; rintro e w1 ⟨rfl, rfl⟩) | (go_at_call 74; refine (HV.out _).mono ?_; rintro e w1 ⟨rfl, rfl⟩))
    have Y := X0.out.out (P := P) (Q := P) (HT.out.fr X0.out.fr (fun _ _ => id)) HP.out (fun k hk => .inl hk) (.int .i64 (B : Int)) (.int .i64 (M : Int)) (.int .i64 (bl : Int)) (.slice ba bn bc) (.slice ra n rc)
    refine bodyPost_ret (results_c2 rfl rfl Y.1 rfl) rfl ?_
    exact ⟨_, rfl, Y.2⟩
  | true =>
    have hq2 : q2 = false := by simpa using hk
    subst hq2
    go_enter Try.func48, Try.ntmps48
    go_upto_region 1 with fail
    generalize hW0 : World.alloc (World.alloc (World.alloc w _) _) _ = W0
    have X0 : Hid (US w W0 (tcs B M bl ba bn bc ra n rc) [.int .i64 k, .int .i64 v0, .bool rm]) := Lib.hid (by rw [← hW0]; exact HX.out)
    clear HX hW0
    have x0 := X0.out.bx.cell (i := 0) rfl
    have x1 := X0.out.bx.cell (i := 1) rfl
    have x2 := X0.out.bx.cell (i := 2) rfl
    have x3 := X0.out.bx.cell (i := 3) rfl
    have x4 := X0.out.bx.cell (i := 4) rfl
    have y0 := X0.out.eb.cell (i := 0) rfl
    have y1 := X0.out.eb.cell (i := 1) rfl
    have q0 := X0.out.rb.free
    have p0 := X0.out.rb.cell (i := 0) rfl
    have p1 := X0.out.rb.cell (i := 1) rfl
    have p2 := X0.out.rb.cell (i := 2) rfl
    have p3 := X0.out.rb.cell (i := 3) rfl
    have p4 := X0.out.rb.cell (i := 4) rfl
    go_wp2_with (first | (go_at_call 74; refine (HK.out _).mono ?_; rintro e w1 ⟨rfl, rfl⟩) | (go_at_call 74; refine (HV.out _).mono ?_; rintro e w1 ⟨rfl, rfl⟩))
    have Y := X0.out.out (P := P) (Q := P) (HT.out.fr X0.out.fr (fun _ _ => id)) HP.out (fun k hk => .inl hk) (.int .i64 (B : Int)) (.int .i64 (M : Int)) (.int .i64 (bl : Int)) (.slice ba bn bc) (.slice ra n rc)
    refine bodyPost_ret (results_c2 rfl rfl Y.1 rfl) rfl ?_
    exact ⟨_, rfl, Y.2⟩
set_option maxRecDepth 100000 in
set_option maxHeartbeats 4000000 in
theorem rupd_any {P : Nat → Prop} {w : World} {B M : Nat} {t : RT} {buf : List En} {v : Value} {a9 b2 c2 : Nat} (h : TrS w P B M t buf v) (hP : ∀ k, P k → k < w.heap.size) (hB : 1 ≤ B ∧ B ≤ 64) (hM : 2 * B ≤ M ∧ M ≤ 1000) (hp : PR t a9 b2 c2) (ha : a9 + buf.length ≤ 399) (hb2 : b2 ≤ 10000) (hc2 : c2 ≤ 900000000) (e : En) (e1 : inK e.1 = true) (e2 : inK e.2.1 = true) :
    Calls Try.prog 48 #[v, env e] w fun r w' => ∃ v', r = .returned (.tuple #[v', .int .i64 0]) ∧ TrS w' (PN P w w') B M (updR B (fanN B M) M t buf e).1 (updR B (fanN B M) M t buf e).2 v' ∧ Fr F0 w w' := by
  obtain ⟨ba, bc, ra, rc, rv, rfl, hrs, hrf, hbf, hbn, hbP⟩ := h
  obtain ⟨k, v0, rm⟩ := e
  dsimp only at e1 e2
  have HK := Lib.hid (fun w => rkey_any k w)
  have HV := Lib.hid (fun w => rkey_any v0 w)
  unfold inK at e1 e2
  rw [e1] at HK
  rw [e2] at HV
  clear e1 e2
  have htt : t = ⟨rsO rv, t.bl⟩ := by rw [hrs]
  obtain ⟨bl, hbl⟩ : ∃ bl, bl = t.bl := ⟨_, rfl⟩
  rw [← hbl] at htt ⊢
  rw [htt] at hp ⊢
  clear hbl hrs htt
  have hn : rv.length ≤ 10000 := by
    have := hp.len
    have h2 : (RT.mk (rsO rv) bl).rs.length = rv.length := by show (rsO rv).length = _; unfold rsO; rw [List.length_map]
    have h3 := (high_spec (rsO rv)).2.2
    have h4 : (RT.mk (rsO rv) bl).rs = rsO rv := rfl
    rw [h2, h4] at this
    omega
  have htot : totR (rsO rv) ≤ 400 := by have := hp.tot; have h4 : (RT.mk (rsO rv) bl).rs = rsO rv := rfl; rw [h4] at this; omega
  have hil := ins_len (l := buf) (k, v0, rm)
  have HR : Hid (∀ W, Fr F0 w W → RefS W P ra rc rv) := Lib.hid (fun W F => hrf.fr0 F)
  have HBf : Hid (∀ W, Fr F0 w W → RdZ W 3 ba buf.length (ents buf)) := Lib.hid (fun W F => hbf.fr0 F)
  have HP := Lib.hid (And.intro hP hbP)
  have HPR := Lib.hid hp
  have HB := Lib.hid (And.intro hB hM)
  have HX := Lib.hid (US.new w (tcs B M bl ba buf.length bc ra rv.length rc) [.int .i64 k, .int .i64 v0, .bool rm])
  have HE : Hid (∀ W, Fr F0 w W → _) := Lib.hid (fun W F => Entries_any (w := W) B M bl ba buf.length bc (hrf.fr0 F) (by omega) (by omega) (by omega))
  obtain ⟨m, hm⟩ : ∃ m, m = (ins buf (k, v0, rm)).length := ⟨_, rfl⟩
  rw [← hm] at hil
  have Hm := Lib.hid hm
  obtain ⟨z, hz⟩ : ∃ z, z = hasI buf k := ⟨_, rfl⟩
  have HH : Hid (∀ W, Fr F0 w W → Calls Try.prog 75 #[.slice ba buf.length bc, .int .i64 k] W fun e w' => e = .returned (.int .i64 z) ∧ W = w') := Lib.hid (fun W F => by rw [hz]; exact has_any k (hbf.fr0 F) (by omega))
  obtain ⟨bn, hbnl⟩ : ∃ bn, bn = buf.length := ⟨_, rfl⟩
  obtain ⟨n, hN⟩ : ∃ n, n = rv.length := ⟨_, rfl⟩
  obtain ⟨T, hT⟩ : ∃ T, T = totR (rsO rv) := ⟨_, rfl⟩
  unfold rtv at HE ⊢
  rw [← hbnl] at HE HX HBf HH hbn ha hil ⊢
  rw [← hN] at HE HX hn ⊢
  rw [← hT] at HE htot
  have HN := Lib.hid (And.intro hN hbnl)
  clear hrf hbf hbP hP hp hm hz hN hT hB hM hbnl
  go_enter Try.func48, Try.ntmps48
  go_upto_region 1 with fail
  generalize hW0 : World.alloc (World.alloc (World.alloc w _) _) _ = W0
  have X0 : Hid (US w W0 (tcs B M bl ba bn bc ra n rc) [.int .i64 k, .int .i64 v0, .bool rm]) := Lib.hid (by rw [← hW0]; exact HX.out)
  clear HX hW0
  have x0 := X0.out.bx.cell (i := 0) rfl
  have x1 := X0.out.bx.cell (i := 1) rfl
  have x2 := X0.out.bx.cell (i := 2) rfl
  have x3 := X0.out.bx.cell (i := 3) rfl
  have x4 := X0.out.bx.cell (i := 4) rfl
  have y0 := X0.out.eb.cell (i := 0) rfl
  have y1 := X0.out.eb.cell (i := 1) rfl
  have y2 := X0.out.eb.cell (i := 2) rfl
  by_cases hz : z < 0
  · go_upto_region 5 with (first | (go_at_call 74; refine (HK.out _).mono ?_; rintro e w1 ⟨rfl, rfl⟩) | (go_at_call 74; refine (HV.out _).mono ?_; rintro e w1 ⟨rfl, rfl⟩) | (go_at_call 75; refine (HH.out _ X0.out.fr).mono ?_; rintro e w1 ⟨rfl, rfl⟩) | (go_at_call 76; refine (HE.out _ X0.out.fr).mono ?_; rintro e w2 ⟨rfl, F2⟩; have X2 := Lib.hid (X0.out.fr0 F2); clear F2))
    clear x0 x1 x2 x3 x4 y0 y1 y2 HE HH HK HV
    have x0 := X2.out.bx.cell (i := 0) rfl
    have x3 := X2.out.bx.cell (i := 3) rfl
    have y0 := X2.out.eb.cell (i := 0) rfl
    have y1 := X2.out.eb.cell (i := 1) rfl
    have y2 := X2.out.eb.cell (i := 2) rfl
    go_upto_region 6 with (go_at_call 53; refine (put_any (k, v0, rm) (HBf.out _ X2.out.fr) hbn (by omega)).mono ?_; rintro e3 w3 ⟨a3, c3, rfl, own3, F3⟩; rw [← Hm.out] at own3 ⊢; have X3 := Lib.hid (And.intro own3 (X2.out.fr0 F3)); have HW3 : Hid (w2.heap.size ≤ w3.heap.size) := Lib.hid F3.size; clear own3 F3; have q3 := X3.out.2.bx.free; have z3 := X3.out.2.bx.cell (i := 3) rfl)
    have X4 := Lib.hid (X3.out.2.set 3 (.slice a3 m c3))
    have O4 : Hid (OwnZ (World.setCell w3 { block := w.heap.size, off := 3 } (.slice a3 m c3)) w2.heap.size 58 3 a3 m c3 (ents (ins buf (k, v0, rm)))) := Lib.hid (X3.out.1.other (fun hk => by have h1 := (X3.out.1.blk _ hk).1; have h2 := X2.out.rb.lt; have h3 : (⟨w.heap.size, 3, none⟩ : Addr).block = w.heap.size := rfl; rw [h3] at h1; omega) _)
    generalize World.setCell w3 { block := w.heap.size, off := 3 } (.slice a3 m c3) = w4 at *
    clear x0 x3 y0 y1 y2 X3 q3 z3
    have x0 := X4.out.bx.cell (i := 0) rfl
    have x1 := X4.out.bx.cell (i := 1) rfl
    have x2 := X4.out.bx.cell (i := 2) rfl
    have x3 := X4.out.bx.cell (i := 3) rfl
    have x4 := X4.out.bx.cell (i := 4) rfl
    have hb3 : ∀ k, onBlk a3 k → P3 P w w4 k := fun k hk => .inr ⟨by have h1 := (O4.out.blk k hk).1; have h2 := X2.out.rb.lt; omega, (O4.out.blk k hk).2⟩
    replace hb3 := Lib.hid hb3
    by_cases hMm : M ≤ m
    · have hMm' : (M : Int) ≤ (m : Int) := by omega
      have hup : updR B (fanN B M) M ⟨rsO rv, bl⟩ buf (k, v0, rm) = (splR B (fanN B M) ⟨rsO rv, bl⟩ (ins buf (k, v0, rm)), []) := by unfold updR; rw [if_pos (by rw [← Hm.out]; exact hMm)]
      replace hup := Lib.hid hup
      have HS := Lib.hid (X4.out.spill (bl := bl) (B := B) (M := M) (HR.out _ X4.out.fr) HP.out.1 O4.out.rd (OwnZ.cap O4.out) hb3.out HB.out.1 HB.out.2 (HPR.out.mono (by rw [← Hm.out]; omega) (Nat.le_refl _) (Nat.le_refl _)) (by rw [← Hm.out]; omega) hb2 hc2)
      unfold rtv at HS
      rw [← HN.out.1] at HS
      go_upto_region 8 with (go_at_call 77; refine HS.out.mono ?_; rintro e5 w5 ⟨v5, rfl, hT5, hU5, F5⟩; obtain ⟨ba5, bc5, ra5, rc5, rv5, rfl, t1, t2, t3, t4, t5⟩ := hT5; have T5 := Lib.hid (And.intro t1 (And.intro t2 (And.intro t3 (And.intro t4 t5)))); have X5 := Lib.hid hU5; unfold rtv; clear t1 t2 t3 t4 t5 hU5 F5; have q5 := X5.out.bx.free; have u0 := X5.out.bx.cell (i := 0) rfl; have u1 := X5.out.bx.cell (i := 1) rfl; have u2 := X5.out.bx.cell (i := 2) rfl; have u3 := X5.out.bx.cell (i := 3) rfl; have u4 := X5.out.bx.cell (i := 4) rfl)
      obtain ⟨bl5, hbl5⟩ : ∃ bl5, bl5 = (splR B (fanN B M) ⟨rsO rv, bl⟩ (ins buf (k, v0, rm))).bl := ⟨_, rfl⟩
      have Hbl5 := Lib.hid hbl5
      rw [← hbl5]
      clear hbl5
      have X6 := Lib.hid (Fr5box X5.out (.int .i64 (B : Int)) (.int .i64 (M : Int)) (.int .i64 (bl5 : Int)) (.slice ba5 ([] : List En).length bc5) (.slice ra5 rv5.length rc5))
      have F6 := Lib.hid (Fr.set5 w5 w.heap.size (.int .i64 (B : Int)) (.int .i64 (M : Int)) (.int .i64 (bl5 : Int)) (.slice ba5 ([] : List En).length bc5) (.slice ra5 rv5.length rc5))
      have H9 : Hid (TrS (((((w5.setCell ⟨w.heap.size, 0, none⟩ (.int .i64 (B : Int))).setCell ⟨w.heap.size, 1, none⟩ (.int .i64 (M : Int))).setCell ⟨w.heap.size, 2, none⟩ (.int .i64 (bl5 : Int))).setCell ⟨w.heap.size, 3, none⟩ (.slice ba5 ([] : List En).length bc5)).setCell ⟨w.heap.size, 4, none⟩ (.slice ra5 rv5.length rc5)) (P3 P w w5) B M (splR B (fanN B M) ⟨rsO rv, bl⟩ (ins buf (k, v0, rm))) [] (rtv B M bl5 ba5 ([] : List En).length bc5 ra5 rv5.length rc5)) := Lib.hid (TrS.fr (by rw [Hbl5.out]; exact ⟨ba5, bc5, ra5, rc5, rv5, rfl, T5.out.1, T5.out.2.1, T5.out.2.2.1, T5.out.2.2.2.1, T5.out.2.2.2.2⟩) F6.out (fun k hk hs => by
        rcases hk with c | c
        · have := HP.out.1 k c; omega
        · omega))
      clear x0 x1 x2 x3 x4 u0 u1 u2 u3 u4 q5
      dsimp only [List.set_cons_succ, List.set_cons_zero] at X6
      generalize (((((w5.setCell ⟨w.heap.size, 0, none⟩ (.int .i64 (B : Int))).setCell ⟨w.heap.size, 1, none⟩ (.int .i64 (M : Int))).setCell ⟨w.heap.size, 2, none⟩ (.int .i64 (bl5 : Int))).setCell ⟨w.heap.size, 3, none⟩ (.slice ba5 ([] : List En).length bc5)).setCell ⟨w.heap.size, 4, none⟩ (.slice ra5 rv5.length rc5)) = w6 at *
      have x0 := X6.out.bx.cell (i := 0) rfl
      have x1 := X6.out.bx.cell (i := 1) rfl
      have x2 := X6.out.bx.cell (i := 2) rfl
      have x3 := X6.out.bx.cell (i := 3) rfl
      have x4 := X6.out.bx.cell (i := 4) rfl
      have q0 := X6.out.rb.free
      have p0 := X6.out.rb.cell (i := 0) rfl
      have p1 := X6.out.rb.cell (i := 1) rfl
      have p2 := X6.out.rb.cell (i := 2) rfl
      have p3 := X6.out.rb.cell (i := 3) rfl
      have p4 := X6.out.rb.cell (i := 4) rfl
      have hsz6 : w5.heap.size ≤ w6.heap.size := F6.out.size
      have HS6 := Lib.hid hsz6
      clear hsz6
      go_wp2_with fail
      have Y := X6.out.out (P := P) H9.out HP.out.1 (fun k hk => hk.imp id (fun c => ⟨c.1, Nat.lt_of_lt_of_le c.2 HS6.out⟩)) (.int .i64 (B : Int)) (.int .i64 (M : Int)) (.int .i64 (bl5 : Int)) (.slice ba5 ([] : List En).length bc5) (.slice ra5 rv5.length rc5)
      refine bodyPost_ret (results_c2 rfl rfl Y.1 rfl) rfl ?_
      rw [hup.out]
      exact ⟨_, rfl, Y.2⟩
    · have hMm' : ¬ (M : Int) ≤ (m : Int) := by omega
      have hup : updR B (fanN B M) M ⟨rsO rv, bl⟩ buf (k, v0, rm) = (⟨rsO rv, bl⟩, ins buf (k, v0, rm)) := by unfold updR; rw [if_neg (by rw [← Hm.out]; exact hMm)]
      replace hup := Lib.hid hup
      have q0 := X4.out.rb.free
      have p0 := X4.out.rb.cell (i := 0) rfl
      have p1 := X4.out.rb.cell (i := 1) rfl
      have p2 := X4.out.rb.cell (i := 2) rfl
      have p3 := X4.out.rb.cell (i := 3) rfl
      have p4 := X4.out.rb.cell (i := 4) rfl
      go_wp2_with fail
      have H9 : TrS w4 (P3 P w w4) B M ⟨rsO rv, bl⟩ (ins buf (k, v0, rm)) (rtv B M bl a3 m c3 ra n rc) := ⟨a3, c3, ra, rc, rv, by rw [Hm.out, HN.out.1], rfl, (HR.out _ X4.out.fr).mono (fun k hk => .inl hk), by rw [← Hm.out]; exact O4.out.rd, by rw [← Hm.out]; exact OwnZ.cap O4.out, hb3.out⟩
      have Y := X4.out.out (P := P) H9 HP.out.1 (fun k hk => hk) (.int .i64 (B : Int)) (.int .i64 (M : Int)) (.int .i64 (bl : Int)) (.slice a3 m c3) (.slice ra n rc)
      refine bodyPost_ret (results_c2 rfl rfl Y.1 rfl) rfl ?_
      rw [hup.out]
      exact ⟨_, rfl, Y.2⟩
  · go_upto_region 5 with (first | (go_at_call 74; refine (HK.out _).mono ?_; rintro e w1 ⟨rfl, rfl⟩) | (go_at_call 74; refine (HV.out _).mono ?_; rintro e w1 ⟨rfl, rfl⟩) | (go_at_call 75; refine (HH.out _ X0.out.fr).mono ?_; rintro e w1 ⟨rfl, rfl⟩) | (go_at_call 76; refine (HE.out _ X0.out.fr).mono ?_; rintro e w2 ⟨rfl, F2⟩; have X2 := Lib.hid (X0.out.fr0 F2); clear F2))
    clear x0 x1 x2 x3 x4 y0 y1 y2 HE HH HK HV
    have x0 := X0.out.bx.cell (i := 0) rfl
    have x3 := X0.out.bx.cell (i := 3) rfl
    have y0 := X0.out.eb.cell (i := 0) rfl
    have y1 := X0.out.eb.cell (i := 1) rfl
    have y2 := X0.out.eb.cell (i := 2) rfl
    go_upto_region 6 with (go_at_call 53; refine (put_any (k, v0, rm) (HBf.out _ X0.out.fr) hbn (by omega)).mono ?_; rintro e3 w3 ⟨a3, c3, rfl, own3, F3⟩; rw [← Hm.out] at own3 ⊢; have X3 := Lib.hid (And.intro own3 (X0.out.fr0 F3)); have HW3 : Hid (W0.heap.size ≤ w3.heap.size) := Lib.hid F3.size; clear own3 F3; have q3 := X3.out.2.bx.free; have z3 := X3.out.2.bx.cell (i := 3) rfl)
    have X4 := Lib.hid (X3.out.2.set 3 (.slice a3 m c3))
    have O4 : Hid (OwnZ (World.setCell w3 { block := w.heap.size, off := 3 } (.slice a3 m c3)) W0.heap.size 58 3 a3 m c3 (ents (ins buf (k, v0, rm)))) := Lib.hid (X3.out.1.other (fun hk => by have h1 := (X3.out.1.blk _ hk).1; have h2 := X0.out.rb.lt; have h3 : (⟨w.heap.size, 3, none⟩ : Addr).block = w.heap.size := rfl; rw [h3] at h1; omega) _)
    generalize World.setCell w3 { block := w.heap.size, off := 3 } (.slice a3 m c3) = w4 at *
    clear x0 x3 y0 y1 y2 X3 q3 z3
    have x0 := X4.out.bx.cell (i := 0) rfl
    have x1 := X4.out.bx.cell (i := 1) rfl
    have x2 := X4.out.bx.cell (i := 2) rfl
    have x3 := X4.out.bx.cell (i := 3) rfl
    have x4 := X4.out.bx.cell (i := 4) rfl
    have hb3 : ∀ k, onBlk a3 k → P3 P w w4 k := fun k hk => .inr ⟨by have h1 := (O4.out.blk k hk).1; have h2 := X0.out.rb.lt; omega, (O4.out.blk k hk).2⟩
    replace hb3 := Lib.hid hb3
    by_cases hMm : M ≤ m
    · have hMm' : (M : Int) ≤ (m : Int) := by omega
      have hup : updR B (fanN B M) M ⟨rsO rv, bl⟩ buf (k, v0, rm) = (splR B (fanN B M) ⟨rsO rv, bl⟩ (ins buf (k, v0, rm)), []) := by unfold updR; rw [if_pos (by rw [← Hm.out]; exact hMm)]
      replace hup := Lib.hid hup
      have HS := Lib.hid (X4.out.spill (bl := bl) (B := B) (M := M) (HR.out _ X4.out.fr) HP.out.1 O4.out.rd (OwnZ.cap O4.out) hb3.out HB.out.1 HB.out.2 (HPR.out.mono (by rw [← Hm.out]; omega) (Nat.le_refl _) (Nat.le_refl _)) (by rw [← Hm.out]; omega) hb2 hc2)
      unfold rtv at HS
      rw [← HN.out.1] at HS
      go_upto_region 8 with (go_at_call 77; refine HS.out.mono ?_; rintro e5 w5 ⟨v5, rfl, hT5, hU5, F5⟩; obtain ⟨ba5, bc5, ra5, rc5, rv5, rfl, t1, t2, t3, t4, t5⟩ := hT5; have T5 := Lib.hid (And.intro t1 (And.intro t2 (And.intro t3 (And.intro t4 t5)))); have X5 := Lib.hid hU5; unfold rtv; clear t1 t2 t3 t4 t5 hU5 F5; have q5 := X5.out.bx.free; have u0 := X5.out.bx.cell (i := 0) rfl; have u1 := X5.out.bx.cell (i := 1) rfl; have u2 := X5.out.bx.cell (i := 2) rfl; have u3 := X5.out.bx.cell (i := 3) rfl; have u4 := X5.out.bx.cell (i := 4) rfl)
      obtain ⟨bl5, hbl5⟩ : ∃ bl5, bl5 = (splR B (fanN B M) ⟨rsO rv, bl⟩ (ins buf (k, v0, rm))).bl := ⟨_, rfl⟩
      have Hbl5 := Lib.hid hbl5
      rw [← hbl5]
      clear hbl5
      have X6 := Lib.hid (Fr5box X5.out (.int .i64 (B : Int)) (.int .i64 (M : Int)) (.int .i64 (bl5 : Int)) (.slice ba5 ([] : List En).length bc5) (.slice ra5 rv5.length rc5))
      have F6 := Lib.hid (Fr.set5 w5 w.heap.size (.int .i64 (B : Int)) (.int .i64 (M : Int)) (.int .i64 (bl5 : Int)) (.slice ba5 ([] : List En).length bc5) (.slice ra5 rv5.length rc5))
      have H9 : Hid (TrS (((((w5.setCell ⟨w.heap.size, 0, none⟩ (.int .i64 (B : Int))).setCell ⟨w.heap.size, 1, none⟩ (.int .i64 (M : Int))).setCell ⟨w.heap.size, 2, none⟩ (.int .i64 (bl5 : Int))).setCell ⟨w.heap.size, 3, none⟩ (.slice ba5 ([] : List En).length bc5)).setCell ⟨w.heap.size, 4, none⟩ (.slice ra5 rv5.length rc5)) (P3 P w w5) B M (splR B (fanN B M) ⟨rsO rv, bl⟩ (ins buf (k, v0, rm))) [] (rtv B M bl5 ba5 ([] : List En).length bc5 ra5 rv5.length rc5)) := Lib.hid (TrS.fr (by rw [Hbl5.out]; exact ⟨ba5, bc5, ra5, rc5, rv5, rfl, T5.out.1, T5.out.2.1, T5.out.2.2.1, T5.out.2.2.2.1, T5.out.2.2.2.2⟩) F6.out (fun k hk hs => by
        rcases hk with c | c
        · have := HP.out.1 k c; omega
        · omega))
      clear x0 x1 x2 x3 x4 u0 u1 u2 u3 u4 q5
      dsimp only [List.set_cons_succ, List.set_cons_zero] at X6
      generalize (((((w5.setCell ⟨w.heap.size, 0, none⟩ (.int .i64 (B : Int))).setCell ⟨w.heap.size, 1, none⟩ (.int .i64 (M : Int))).setCell ⟨w.heap.size, 2, none⟩ (.int .i64 (bl5 : Int))).setCell ⟨w.heap.size, 3, none⟩ (.slice ba5 ([] : List En).length bc5)).setCell ⟨w.heap.size, 4, none⟩ (.slice ra5 rv5.length rc5)) = w6 at *
      have x0 := X6.out.bx.cell (i := 0) rfl
      have x1 := X6.out.bx.cell (i := 1) rfl
      have x2 := X6.out.bx.cell (i := 2) rfl
      have x3 := X6.out.bx.cell (i := 3) rfl
      have x4 := X6.out.bx.cell (i := 4) rfl
      have q0 := X6.out.rb.free
      have p0 := X6.out.rb.cell (i := 0) rfl
      have p1 := X6.out.rb.cell (i := 1) rfl
      have p2 := X6.out.rb.cell (i := 2) rfl
      have p3 := X6.out.rb.cell (i := 3) rfl
      have p4 := X6.out.rb.cell (i := 4) rfl
      have hsz6 : w5.heap.size ≤ w6.heap.size := F6.out.size
      have HS6 := Lib.hid hsz6
      clear hsz6
      go_wp2_with fail
      have Y := X6.out.out (P := P) H9.out HP.out.1 (fun k hk => hk.imp id (fun c => ⟨c.1, Nat.lt_of_lt_of_le c.2 HS6.out⟩)) (.int .i64 (B : Int)) (.int .i64 (M : Int)) (.int .i64 (bl5 : Int)) (.slice ba5 ([] : List En).length bc5) (.slice ra5 rv5.length rc5)
      refine bodyPost_ret (results_c2 rfl rfl Y.1 rfl) rfl ?_
      rw [hup.out]
      exact ⟨_, rfl, Y.2⟩
    · have hMm' : ¬ (M : Int) ≤ (m : Int) := by omega
      have hup : updR B (fanN B M) M ⟨rsO rv, bl⟩ buf (k, v0, rm) = (⟨rsO rv, bl⟩, ins buf (k, v0, rm)) := by unfold updR; rw [if_neg (by rw [← Hm.out]; exact hMm)]
      replace hup := Lib.hid hup
      have q0 := X4.out.rb.free
      have p0 := X4.out.rb.cell (i := 0) rfl
      have p1 := X4.out.rb.cell (i := 1) rfl
      have p2 := X4.out.rb.cell (i := 2) rfl
      have p3 := X4.out.rb.cell (i := 3) rfl
      have p4 := X4.out.rb.cell (i := 4) rfl
      go_wp2_with fail
      have H9 : TrS w4 (P3 P w w4) B M ⟨rsO rv, bl⟩ (ins buf (k, v0, rm)) (rtv B M bl a3 m c3 ra n rc) := ⟨a3, c3, ra, rc, rv, by rw [Hm.out, HN.out.1], rfl, (HR.out _ X4.out.fr).mono (fun k hk => .inl hk), by rw [← Hm.out]; exact O4.out.rd, by rw [← Hm.out]; exact OwnZ.cap O4.out, hb3.out⟩
      have Y := X4.out.out (P := P) H9 HP.out.1 (fun k hk => hk) (.int .i64 (B : Int)) (.int .i64 (M : Int)) (.int .i64 (bl : Int)) (.slice a3 m c3) (.slice ra n rc)
      refine bodyPost_ret (results_c2 rfl rfl Y.1 rfl) rfl ?_
      rw [hup.out]
      exact ⟨_, rfl, Y.2⟩
end Go.Proofs.Ytkmnnfflibamnaa
/- Buffer trees: List and Height of the reference. -/
namespace Go.Proofs.Ytkmnnfflibamnaa
open Go.RowKit
attribute [local go_sem ↓] Go.wp_at_zero Go.wp_at_succ
theorem PR.small {rv : List RunV} {bl a b c : Nat} (hp : PR ⟨rsO rv, bl⟩ a b c) : rv.length ≤ b ∧ high (rsO rv) ≤ b ∧ bl ≤ c ∧ totR (rsO rv) ≤ a := by
  have h1 := hp.len; have h2 := hp.bl; have h3 := hp.tot
  have hlen : (rsO rv).length = rv.length := by unfold rsO; rw [List.length_map]
  have h4 := (high_spec (rsO rv)).2.2
  dsimp only at h1 h2 h3
  rw [hlen] at h1 h2
  exact ⟨by omega, by omega, by omega, h3⟩
theorem rheight_any {P : Nat → Prop} {w : World} {B M : Nat} {t : RT} {buf : List En} {v : Value} {a9 b2 c2 : Nat} (h : TrS w P B M t buf v) (hp : PR t a9 b2 c2) (hb2 : b2 ≤ 10000) :
    Calls Try.prog 51 #[v] w fun r w' => r = .returned (.int .i64 (high t.rs + 1)) ∧ Fr F0 w w' := by
  obtain ⟨ba, bc, ra, rc, rv, rfl, hrs, hrf, hbf, hbn, hbP⟩ := h
  have htt : t = ⟨rsO rv, t.bl⟩ := by rw [hrs]
  obtain ⟨bl, hbl⟩ : ∃ bl, bl = t.bl := ⟨_, rfl⟩
  rw [← hbl] at htt ⊢
  rw [htt] at hp ⊢
  clear hbl hrs htt hbf hbP
  obtain ⟨hn, hh, _, _⟩ := hp.small
  have hs := (high_spec (rsO rv)).2.2
  have HX := Lib.hid (Blk.new w 51 (tcs B M bl ba buf.length bc ra rv.length rc))
  have FX : Hid (Fr F0 w (w.alloc (.cells (tcs B M bl ba buf.length bc ra rv.length rc).toArray 51))) := Lib.hid ((Fr.refl F0 w).alloc _)
  have HH : Hid (∀ W, Fr F0 w W → _) := Lib.hid (fun W F => highest_any (w := W) B M bl ba buf.length bc (hrf.fr0 F) (by omega))
  obtain ⟨z, hz⟩ : ∃ z, z = high (rsO rv) := ⟨_, rfl⟩
  rw [← hz] at HH hh hs
  show Calls _ _ _ _ fun r w' => r = .returned (.int .i64 (high (rsO rv) + 1)) ∧ _
  rw [← hz]
  obtain ⟨n, hN⟩ : ∃ n, n = rv.length := ⟨_, rfl⟩
  unfold rtv at HH ⊢
  rw [← hN] at HH HX FX ⊢
  clear hz hN hrf hp hn
  go_enter Try.func51, Try.ntmps51
  go_upto_region 1 with fail
  generalize hW0 : World.alloc w _ = W0
  have X0 : Hid (Blk W0 w.heap.size 51 (tcs B M bl ba buf.length bc ra n rc)) := Lib.hid (by rw [← hW0]; exact HX.out)
  have F0' : Hid (Fr F0 w W0) := Lib.hid (by rw [← hW0]; exact FX.out)
  clear HX hW0 FX
  have x0 := X0.out.cell (i := 0) rfl
  have x1 := X0.out.cell (i := 1) rfl
  have x2 := X0.out.cell (i := 2) rfl
  have x3 := X0.out.cell (i := 3) rfl
  have x4 := X0.out.cell (i := 4) rfl
  go_wp2_with (go_at_call 78; refine (HH.out _ F0'.out).mono ?_; rintro e w2 ⟨rfl, F2⟩; have X2 := Lib.hid (F0'.out.trans0 F2); clear F2)
  go_ret
  exact ⟨rfl, X2.out⟩
set_option maxRecDepth 100000 in
set_option maxHeartbeats 4000000 in
theorem rlist_any {P : Nat → Prop} {w : World} {B M : Nat} {t : RT} {buf : List En} {v : Value} {a9 b2 c2 : Nat} (h : TrS w P B M t buf v) (hp : PR t a9 b2 c2) (ha : a9 + buf.length ≤ 400) (hb2 : b2 ≤ 1000) :
    Calls Try.prog 25 #[v] w (EnR w (drp (buf.foldl ins (pt (runsR t.rs))))) := by
  obtain ⟨ba, bc, ra, rc, rv, rfl, hrs, hrf, hbf, hbn, hbP⟩ := h
  have htt : t = ⟨rsO rv, t.bl⟩ := by rw [hrs]
  obtain ⟨bl, hbl⟩ : ∃ bl, bl = t.bl := ⟨_, rfl⟩
  rw [← hbl] at htt ⊢
  rw [htt] at hp ⊢
  clear hbl hrs htt hbP
  obtain ⟨hn, hh, _, ht4⟩ := hp.small
  show Calls _ _ _ _ (EnR w (drp (buf.foldl ins (pt (runsR (rsO rv))))))
  have hlA : (pt (runsR (rsO rv))).length ≤ 400 := by
    have e := foldI_len (runsR (rsO rv)).flatten []
    have e2 : pt (runsR (rsO rv)) = (runsR (rsO rv)).flatten.foldl ins [] := rfl
    rw [← e2, flat_len, runsR_tot] at e
    simp only [List.length_nil, Nat.zero_add] at e
    omega
  have HX := Lib.hid (Blk.new w 51 (tcs B M bl ba buf.length bc ra rv.length rc))
  have FX : Hid (Fr F0 w (w.alloc (.cells (tcs B M bl ba buf.length bc ra rv.length rc).toArray 51))) := Lib.hid ((Fr.refl F0 w).alloc _)
  have HA : Hid (∀ W, Fr F0 w W → _) := Lib.hid (fun W F => all_any (w := W) B M bl ba buf.length bc (hrf.fr0 F) (by omega) (by omega) (by omega))
  have HBf : Hid (∀ W, Fr F0 w W → RdZ W 3 ba buf.length (ents buf)) := Lib.hid (fun W F => hbf.fr0 F)
  obtain ⟨A, hA⟩ : ∃ A, A = pt (runsR (rsO rv)) := ⟨_, rfl⟩
  rw [← hA] at HA hlA ⊢
  obtain ⟨n, hN⟩ : ∃ n, n = rv.length := ⟨_, rfl⟩
  obtain ⟨bn, hb⟩ : ∃ bn, bn = buf.length := ⟨_, rfl⟩
  unfold rtv at HA ⊢
  rw [← hN] at HA HX FX ⊢
  rw [← hb] at HA HX FX HBf hbn ha ⊢
  have Hb := Lib.hid hb
  clear hN hrf hp hn hA hbf hb
  go_enter Try.func25, Try.ntmps25
  go_upto_region 1 with fail
  generalize hW0 : World.alloc w _ = W0
  have X0 : Hid (Blk W0 w.heap.size 51 (tcs B M bl ba bn bc ra n rc)) := Lib.hid (by rw [← hW0]; exact HX.out)
  have F0' : Hid (Fr F0 w W0) := Lib.hid (by rw [← hW0]; exact FX.out)
  clear HX hW0 FX
  have x0 := X0.out.cell (i := 0) rfl
  have x1 := X0.out.cell (i := 1) rfl
  have x2 := X0.out.cell (i := 2) rfl
  have x3 := X0.out.cell (i := 3) rfl
  have x4 := X0.out.cell (i := 4) rfl
  go_wp2_with (go_at_call 52; refine (HA.out _ F0'.out).mono ?_; rintro e w2 ⟨a3, c3, rfl, own3, F2⟩; have X2 : Hid (AlS w w2 (tcs B M bl ba bn bc ra n rc) a3 c3 A) := Lib.hid ⟨own3.mono F0'.out.size, X0.out.fr F2 id, F0'.out.trans0 F2⟩; clear F2 own3)
  clear x0 x1 x2 x3 x4 X0 F0' HA
  obtain ⟨k3, hk3⟩ : ∃ k3, k3 = A.length := ⟨_, rfl⟩
  rw [← hk3]
  have Hk3 := Lib.hid hk3
  clear hk3
  go_loopw [3, 4] (fun s3 s4 wr => ∃ (j k : Nat) (a' : Option Addr) (c' : Nat), j ≤ bn ∧ s4 = .int .i64 (j : Int) ∧ s3 = .slice a' k c' ∧ Hid (k = ((buf.take j).foldl ins A).length ∧ AlS w wr (tcs B M bl ba bn bc ra n rc) a' c' ((buf.take j).foldl ins A))) (fun _ s4 _ => bn - (intOf s4).toNat)
  case atStart => exact ⟨0, k3, a3, c3, Nat.zero_le _, rfl, rfl, Lib.hid ⟨Hk3.out, X2.out⟩⟩
  case round =>
    obtain ⟨j, k, a', c', hj, rfl, rfl, H⟩ := hrel
    have y3 := H.out.2.bx.cell (i := 3) rfl
    have hk9 : k ≤ 100000000 := by
      have h1 := foldI_len (buf.take j) A
      rw [List.length_take] at h1
      have := H.out.1
      omega
    by_cases hlj : j < bn
    · have hlj' : (j : Int) < (bn : Int) := by omega
      obtain ⟨x, hx⟩ : ∃ x, buf[j]? = some x := ⟨_, List.getElem?_eq_getElem (by have := Hb.out; omega)⟩
      obtain ⟨b2, o2, hra, e0, e1, e2⟩ := (HBf.out _ H.out.2.fr).ent hx
      have hfin : (buf.take (j + 1)).foldl ins A = ins ((buf.take j).foldl ins A) x := by
        rw [List.take_add_one, hx, List.foldl_append]; rfl
      have HP := Lib.hid (put_any x (by have := H.out.2.own.rd; rw [← H.out.1] at this; exact this) (by have := OwnZ.cap H.out.2.own; rw [← H.out.1] at this; exact this) hk9)
      have HFn := Lib.hid hfin
      rw [hra] at y3
      obtain ⟨x1, x2, x3⟩ := x
      dsimp only at e0 e1 e2 HP
      clear hx hfin hra
      go_wp2_with (go_at_call 53; refine HP.out.mono ?_; intro e w3 hE; obtain ⟨a3, c3, rfl, hA, _⟩ := H.out.2.put hE; have HA3 := Lib.hid hA; clear hA hE)
      go_roundw
      case rel => exact ⟨j + 1, _, a3, c3, by omega, by go_num, rfl, Lib.hid ⟨by rw [HFn.out], by rw [HFn.out]; exact HA3.out⟩⟩
      case measure => simp [intOf]; omega
    · obtain rfl : bn = j := by omega
      have H9 := H.out
      rw [List.take_of_length_le (by rw [Hb.out]; exact Nat.le_refl _)] at H9
      have H10 := Lib.hid H9
      clear H9
      have HD := Lib.hid (drop_any (c := c') (by have := H10.out.2.own.rd; rw [← H10.out.1] at this; exact this) hk9)
      go_wp2_with (go_at_call 54; refine HD.out.mono ?_; rintro e w3 ⟨a3, c3, rfl, own3, F3⟩; have X3 := Lib.hid (And.intro (own3.mono H10.out.2.fr.size) (H10.out.2.fr.trans0 F3)); clear own3 F3)
      go_ret
      exact ⟨_, _, rfl, X3.out⟩
end Go.Proofs.Ytkmnnfflibamnaa
