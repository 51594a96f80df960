/- Buffer trees: Flush of the reference. -/
import Derived.Test.YtkmnnfflibamnaaR34
namespace Go.Proofs.Ytkmnnfflibamnaa
open Go.RowKit
attribute [local go_sem ↓] Go.wp_at_zero Go.wp_at_succ
/-- What lies in memory while the reference flushes. -/
structure VS (w wr : World) (vs : List Value) : Prop where
  bx : Blk wr w.heap.size 51 vs
  rb : Blk wr (w.heap.size + 1) 51 tcz
  fr : Fr F0 w wr
theorem VS.fr0 {w wr w' : World} {vs : List Value} (h : VS w wr vs) (f : Fr F0 wr w') : VS w w' vs := ⟨h.bx.fr f id, h.rb.fr f id, h.fr.trans0 f⟩
theorem VS.set {w wr : World} {vs : List Value} (h : VS w wr vs) (i : Nat) (u : Value) : VS w (wr.setCell ⟨w.heap.size, i, none⟩ u) (vs.set i u) :=
  ⟨h.bx.set i u, h.rb.other (by show w.heap.size + 1 ≠ w.heap.size; omega) u, h.fr.trans (Fr.setCell (S := fun k => w.heap.size ≤ k) (Fr.refl _ _) (fun _ => Nat.le_refl _) u) (fun k hk hs => by omega)⟩
theorem VS.new (w : World) (vs : List Value) : VS w ((w.alloc (.cells vs.toArray 51)).alloc (.cells tcz.toArray 51)) vs := by
  refine ⟨(Blk.new w 51 vs).alloc _, ?_, ((Fr.refl F0 w).alloc _).alloc _⟩
  have := Blk.new (w.alloc (.cells vs.toArray 51)) 51 tcz; rw [size_alloc] at this; exact this
theorem VS.set5 {w wr : World} {vs : List Value} (h : VS w wr vs) (v0 v1 v2 v3 v4 : Value) : VS w (((((wr.setCell ⟨w.heap.size, 0, none⟩ v0).setCell ⟨w.heap.size, 1, none⟩ v1).setCell ⟨w.heap.size, 2, none⟩ v2).setCell ⟨w.heap.size, 3, none⟩ v3).setCell ⟨w.heap.size, 4, none⟩ v4) (((((vs.set 0 v0).set 1 v1).set 2 v2).set 3 v3).set 4 v4) :=
  ((((h.set 0 v0).set 1 v1).set 2 v2).set 3 v3).set 4 v4
/-- The tree is in the cell of the results. -/
theorem VS.out {w wr : World} {vs : List Value} {P Q : Nat → Prop} {B M : Nat} {t : RT} {buf : List En} {v : Value} (h : VS w wr vs) (hT : TrS wr Q B M t buf v) (hP : ∀ k, P k → k < w.heap.size) (hQ : ∀ k, Q k → PX P w wr k) (v0 v1 v2 v3 v4 : Value) :
    Blk (((((wr.setCell ⟨w.heap.size + 1, 0, none⟩ v0).setCell ⟨w.heap.size + 1, 1, none⟩ v1).setCell ⟨w.heap.size + 1, 2, none⟩ v2).setCell ⟨w.heap.size + 1, 3, none⟩ v3).setCell ⟨w.heap.size + 1, 4, none⟩ v4) (w.heap.size + 1) 51 [v0, v1, v2, v3, v4] ∧
    TrS (((((wr.setCell ⟨w.heap.size + 1, 0, none⟩ v0).setCell ⟨w.heap.size + 1, 1, none⟩ v1).setCell ⟨w.heap.size + 1, 2, none⟩ v2).setCell ⟨w.heap.size + 1, 3, none⟩ v3).setCell ⟨w.heap.size + 1, 4, none⟩ v4) (PN P w (((((wr.setCell ⟨w.heap.size + 1, 0, none⟩ v0).setCell ⟨w.heap.size + 1, 1, none⟩ v1).setCell ⟨w.heap.size + 1, 2, none⟩ v2).setCell ⟨w.heap.size + 1, 3, none⟩ v3).setCell ⟨w.heap.size + 1, 4, none⟩ v4)) B M t buf v ∧
    Fr F0 w (((((wr.setCell ⟨w.heap.size + 1, 0, none⟩ v0).setCell ⟨w.heap.size + 1, 1, none⟩ v1).setCell ⟨w.heap.size + 1, 2, none⟩ v2).setCell ⟨w.heap.size + 1, 3, none⟩ v3).setCell ⟨w.heap.size + 1, 4, none⟩ v4) := by
  have F5 := Fr.set5 wr (w.heap.size + 1) v0 v1 v2 v3 v4
  refine ⟨((((h.rb.set 0 v0).set 1 v1).set 2 v2).set 3 v3).set 4 v4, (hT.fr F5 (fun k hk hs => ?_)).mono (fun k hk => ?_), h.fr.trans F5 (fun k hk hs => by rw [hs] at hk; omega)⟩
  · rcases hQ k hk with c | c
    · have := hP k c; omega
    · omega
  · rcases hQ k hk with c | c
    · exact .inl c
    · exact .inr ⟨by omega, by have := F5.size; omega⟩
/-- The tree that a flush merges. -/
def fspR (B F : Nat) (t : RT) (buf : List En) : RT := if buf.length = 0 then t else splR B F t buf
def csR (B : Nat) (rs : Rs) : Nat := (rs.map (fun x => cnt B x.2.length)).sum
theorem csR_take (B : Nat) (rv : List RunV) (i : Nat) {r : RunV} (h : rv[i]? = some r) : csR B (rsO (rv.take (i + 1))) = csR B (rsO (rv.take i)) + cnt B r.l.length := by
  unfold csR
  rw [rsO_take _ _ h, List.map_append, List.sum_append]; rfl
theorem csR_le {B : Nat} (hB : 1 ≤ B) : ∀ rs : Rs, csR B rs ≤ totR rs
  | [] => Nat.le_refl _
  | x :: rs => by
    have ih := csR_le hB rs
    have := cnt_le hB x.2.length
    unfold csR totR at ih ⊢
    rw [List.map_cons, List.map_cons, List.sum_cons, List.sum_cons]; omega
theorem VS.spill {w wr : World} {vs : List Value} {P : Nat → Prop} {ra : Option Addr} {rc : Nat} {rv : List RunV} {B M bl : Nat} {ba : Option Addr} {bn bc : Nat} {buf : List En} {b2 c2 : Nat} (hU : VS w wr vs) (h : RefS wr P ra rc rv) (hP : ∀ k, P k → k < w.heap.size) (hbf : RdZ wr 3 ba bn (ents buf)) (hbn : bn ≤ bc) (hbP : ∀ k, onBlk ba k → P k) (hB : 1 ≤ B ∧ B ≤ 64) (hM : 2 * B ≤ M ∧ M ≤ 1000) (hp : PR ⟨rsO rv, bl⟩ (400 - buf.length) b2 c2) (hb4 : buf.length ≤ 400) (hb2 : b2 ≤ 10000) (hc2 : c2 ≤ 900000000) :
    Calls Try.prog 77 #[rtv B M bl ba bn bc ra rv.length rc] wr fun e w' => ∃ v, e = .returned v ∧ TrS w' (PX P w w') B M (splR B (fanN B M) ⟨rsO rv, bl⟩ buf) [] v ∧ VS w w' vs ∧ Fr F0 wr w' := by
  have hsz := hU.rb.lt
  refine (rspill_any h (fun k hk => ?_) hbf hbn hbP hB hM hp hb4 hb2 hc2).mono ?_
  · have := hP k hk; omega
  · rintro e w' ⟨v, rfl, hT, F⟩
    refine ⟨v, rfl, hT.mono (fun k hk => ?_), hU.fr0 F, F⟩
    rcases hk with c | c
    · exact .inl c
    · exact .inr ⟨by omega, c.2⟩
set_option maxRecDepth 100000 in
set_option maxHeartbeats 4000000 in
theorem rflush_any {P : Nat → Prop} {w : World} {B M : Nat} {t : RT} {buf : List En} {v : Value} {a9 b2 c2 : Nat} (h : TrS w P B M t buf v) (hP : ∀ k, P k → k < w.heap.size) (hB : 1 ≤ B ∧ B ≤ 64) (hM : 2 * B ≤ M ∧ M ≤ 1000) (hp : PR t a9 b2 c2) (ha : a9 + buf.length ≤ 400) (hb2 : b2 ≤ 900) (hc2 : c2 ≤ 900000000) :
    Calls Try.prog 50 #[v] w fun r w' => ∃ v', r = .returned v' ∧ TrS w' (PN P w w') B M (flushR B (fspR B (fanN B M) t buf)) [] v' ∧ Fr F0 w w' := by
  obtain ⟨ba, bc, ra, rc, rv, rfl, hrs, hrf, hbf, hbn, hbP⟩ := h
  have htt : t = ⟨rsO rv, t.bl⟩ := by rw [hrs]
  obtain ⟨bl, hbl⟩ : ∃ bl, bl = t.bl := ⟨_, rfl⟩
  rw [← hbl] at htt ⊢
  rw [htt] at hp ⊢
  clear hbl hrs htt
  have HR : Hid (∀ W, Fr F0 w W → RefS W P ra rc rv) := Lib.hid (fun W F => hrf.fr0 F)
  have HBf : Hid (∀ W, Fr F0 w W → RdZ W 3 ba buf.length (ents buf)) := Lib.hid (fun W F => hbf.fr0 F)
  have HP := Lib.hid (And.intro hP hbP)
  have HPR := Lib.hid hp
  have HB := Lib.hid (And.intro hB hM)
  have HC := Lib.hid (fun n W (hn : n ≤ 1000000) => Count_still (W := W) hB hn)
  have HX := Lib.hid (VS.new w (tcs B M bl ba buf.length bc ra rv.length rc))
  obtain ⟨bn, hbnl⟩ : ∃ bn, bn = buf.length := ⟨_, rfl⟩
  obtain ⟨n, hN⟩ : ∃ n, n = rv.length := ⟨_, rfl⟩
  unfold rtv
  rw [← hbnl] at HX HBf hbn ha ⊢
  rw [← hN] at HX ⊢
  have HN := Lib.hid (And.intro hN hbnl)
  clear hrf hbf hbP hP hp hN hB hM hbnl
  go_enter Try.func50, Try.ntmps50
  go_upto_region 1 with fail
  generalize hW0 : World.alloc (World.alloc w _) _ = W0
  have X0 : Hid (VS w W0 (tcs B M bl ba bn bc ra n rc)) := Lib.hid (by rw [← hW0]; exact HX.out)
  clear HX hW0
  have x0 := X0.out.bx.cell (i := 0) rfl
  have x1 := X0.out.bx.cell (i := 1) rfl
  have x2 := X0.out.bx.cell (i := 2) rfl
  have x3 := X0.out.bx.cell (i := 3) rfl
  have x4 := X0.out.bx.cell (i := 4) rfl
  by_cases hb0 : bn = 0
  · subst hb0
    have RF : Hid (RefS W0 P ra rc rv ∧ PR ⟨rsO rv, bl⟩ 400 (b2 + 2) (c2 + 1200) ∧ (∀ k, P k → PX P w W0 k) ∧ (∀ k, onBlk ba k → P k)) := Lib.hid ⟨HR.out _ X0.out.fr, HPR.out.mono (by omega) (by omega) (by omega), fun k hk => .inl hk, HP.out.2⟩
    have NN := Lib.hid HN.out.1
    have HF : Hid (fspR B (fanN B M) ⟨rsO rv, bl⟩ buf = ⟨rsO rv, bl⟩) := Lib.hid (by unfold fspR; rw [if_pos HN.out.2.symm])
    go_upto_region 3 with fail
    clear x0 x1 x2 x3 x4
    have y0 := X0.out.bx.cell (i := 0) rfl
    have y1 := X0.out.bx.cell (i := 1) rfl
    have y2 := X0.out.bx.cell (i := 2) rfl
    have y3 := X0.out.bx.cell (i := 3) rfl
    have y4 := X0.out.bx.cell (i := 4) rfl
    by_cases hn0 : n = 0
    · subst hn0
      have q0 := X0.out.rb.free
      have p0 := X0.out.rb.cell (i := 0) rfl
      have p1 := X0.out.rb.cell (i := 1) rfl
      have p2 := X0.out.rb.cell (i := 2) rfl
      have p3 := X0.out.rb.cell (i := 3) rfl
      have p4 := X0.out.rb.cell (i := 4) rfl
      go_wp2_with fail
      have H9 : TrS W0 P B M ⟨rsO rv, bl⟩ [] (rtv B M bl ba 0 bc ra 0 rc) := ⟨ba, bc, ra, rc, rv, by rw [← NN.out]; rfl, rfl, RF.out.1, ⟨rfl, by show 0 ≤ _; omega, fun h => absurd h (by show ¬ 0 < 0; omega)⟩, Nat.zero_le _, RF.out.2.2.2⟩
      have Y := X0.out.out (P := P) H9 HP.out.1 RF.out.2.2.1 (.int .i64 (B : Int)) (.int .i64 (M : Int)) (.int .i64 (bl : Int)) (.slice ba 0 bc) (.slice ra 0 rc)
      refine bodyPost_ret (results_c1 rfl rfl Y.1 rfl) rfl ?_
      have e : flushR B (fspR B (fanN B M) ⟨rsO rv, bl⟩ buf) = ⟨rsO rv, bl⟩ := by
        rw [HF.out]; unfold flushR
        have h0 : (rsO rv).length = 0 := by unfold rsO; rw [List.length_map, ← NN.out]
        rw [if_pos h0]
      rw [e]
      exact ⟨_, rfl, Y.2⟩
    · have hnp : 0 < n := by omega
      have hsm := RF.out.2.1.small
      have HSm := Lib.hid hsm
      have hnb : ((n : Int) == 0) = false := by simp; omega
      have hblx : bl ≤ 901000000 := by omega
      have hNx : n ≤ 10000 := by have := NN.out; omega
      clear hsm
      go_wp2_with fail
      go_loopw [3] (fun s3 wr => ∃ (i b' : Nat), i ≤ n ∧ b' ≤ 902000000 ∧ s3 = .int .i64 (i : Int) ∧ Hid (b' = bl + csR B (rsO (rv.take i)) ∧ VS w wr (tcs B M b' ba 0 bc ra n rc) ∧ Fr (fun k => k = w.heap.size) W0 wr)) (fun s3 _ => n - (intOf s3).toNat)
      case atStart => exact ⟨0, bl, Nat.zero_le _, by omega, rfl, Lib.hid ⟨rfl, X0.out, Fr.refl _ _⟩⟩
      case round =>
        obtain ⟨i, b', hi, hb', rfl, H⟩ := hrel
        clear y0 y1 y2 y3 y4
        have y0 := H.out.2.1.bx.cell (i := 0) rfl
        have y1 := H.out.2.1.bx.cell (i := 1) rfl
        have y2 := H.out.2.1.bx.cell (i := 2) rfl
        have y3 := H.out.2.1.bx.cell (i := 3) rfl
        have y4 := H.out.2.1.bx.cell (i := 4) rfl
        have hRW : RefS wr P ra rc rv := RF.out.1.fr H.out.2.2 (fun k hk hs => by
          rcases RF.out.2.2.1 k hk with c | c
          · have := HP.out.1 k c; omega
          · omega)
        have HRW := Lib.hid hRW
        by_cases hlt : i < n
        · have hlt' : (i : Int) < (n : Int) := by omega
          obtain ⟨r, hr⟩ : ∃ r, rv[i]? = some r := ⟨_, List.getElem?_eq_getElem (by have := NN.out; omega)⟩
          obtain ⟨b, o, hRA, d0, d1, hrd, hrc⟩ := hRW.at hr
          rw [hRA] at y4
          have hrl : r.l.length ≤ 400 := Nat.le_trans (totR_run (List.mem_of_getElem? hr)) HSm.out.2.2.2
          have hcs := csR_take B rv i hr
          have hbn' : b' + cnt B r.l.length ≤ 902000000 := by
            have h1 := csR_le HB.out.1.1 (rsO (rv.take (i + 1)))
            have h2 := totR_take rv (i + 1)
            have h3 := HSm.out.2.2.2
            have h4 := H.out.1
            omega
          have HCs := Lib.hid hcs
          obtain ⟨m, hm⟩ : ∃ m, m = r.l.length := ⟨_, rfl⟩
          rw [← hm] at d1 hrl hbn'
          have Hm := Lib.hid hm
          have hC2 := HC.out m (World.drew wr) (by omega)
          obtain ⟨cm, hcm⟩ : ∃ cm, cm = cnt B m := ⟨_, rfl⟩
          rw [← hcm] at hC2 hbn'
          have Hcm := Lib.hid hcm
          clear hr hrd hrc hm hcm hRA hRW hcs
          go_wp2_with fail
          obtain ⟨wz, hwz⟩ : ∃ wz, wz = World.drew wr := ⟨_, rfl⟩
          have H3 : Hid (VS w wz (tcs B M b' ba 0 bc ra n rc)) := Lib.hid (by rw [hwz]; exact H.out.2.1.fr0 ((Fr.refl F0 wr).drewN 1))
          have F3 : Hid (Fr (fun k => k = w.heap.size) W0 wz) := Lib.hid (by rw [hwz]; exact H.out.2.2.trans ((Fr.refl F0 wr).drewN 1) (fun _ _ h => h.elim))
          have z0 := H3.out.bx.cell (i := 0) rfl
          have z2 := H3.out.bx.cell (i := 2) rfl
          have z4 : wz.cell? ⟨w.heap.size, 4, none⟩ = some (.slice (some ⟨b, o, none⟩) n rc) := by rw [hwz]; exact y4
          have q0 := H3.out.bx.free
          have e1 : wz.cell? ⟨b, o + i * 2 + 1, none⟩ = some (.slice r.a m r.c) := by rw [hwz]; exact d1
          have e0 : wz.cell? ⟨b, o + i * 2, none⟩ = some (.int .i64 (r.lv : Int)) := by rw [hwz]; exact d0
          rw [← hwz] at hC2
          refine wp_region_still_tail 14 (by kernel_rfl) (by kernel_rfl) ?_
          change wpStill _ _ (World.drew wr) (fun a' => wpList _ _ _ _ a' (World.drew wr)) _ _
          rw [← hwz]
          replace hwz := Lib.hid hwz
          simp only [List.take_succ_cons, List.take_zero, List.drop_succ_cons, List.drop_zero]
          repeat (first | still_step | still_call (hC2))
          refine wpStill_nil ?_
          have H4 : Hid (VS w (wz.setCell ⟨w.heap.size, 2, none⟩ (.int .i64 ((b' : Int) + (cm : Int)))) (tcs B M (b' + cm) ba 0 bc ra n rc)) := Lib.hid (by have := H3.out.set 2 (.int .i64 ((b' : Int) + (cm : Int))); exact this)
          have F4 : Hid (Fr (fun k => k = w.heap.size) W0 (wz.setCell ⟨w.heap.size, 2, none⟩ (.int .i64 ((b' : Int) + (cm : Int))))) := Lib.hid (Fr.setCell F3.out (fun _ => rfl) _)
          go_wp2_with fail
          go_roundw
          case rel => exact ⟨i + 1, b' + cm, by omega, hbn', by go_num, Lib.hid ⟨by rw [HCs.out, H.out.1, Hcm.out, Hm.out, Nat.add_assoc], H4.out, F4.out⟩⟩
          case measure => simp [intOf]; omega
        · obtain rfl : n = i := by omega
          have H9 := H.out.1
          rw [List.take_of_length_le (by rw [NN.out]; exact Nat.le_refl _)] at H9
          have HBL := Lib.hid H9
          clear H9
          have HHi := Lib.hid (highest_any (w := wr) B M b' ba 0 bc HRW.out (by rw [← NN.out]; omega))
          have HAl : Hid (∀ W', Fr F0 wr W' → _) := Lib.hid (fun W' F => all_any (w := W') B M b' ba 0 bc (HRW.out.fr0 F) (by rw [← NN.out]; omega) (by have := HSm.out.2.1; omega) (by have := HSm.out.2.2.2; omega))
          have hlA : (pt (runsR (rsO rv))).length ≤ 400 := by
            have e := foldI_len (runsR (rsO rv)).flatten []
            have e2 : pt (runsR (rsO rv)) = (runsR (rsO rv)).flatten.foldl ins [] := rfl
            rw [← e2, flat_len, runsR_tot] at e
            simp only [List.length_nil, Nat.zero_add] at e
            have := HSm.out.2.2.2
            omega
          have hlD : (drp (pt (runsR (rsO rv)))).length ≤ 400 := Nat.le_trans (drp_len _) hlA
          obtain ⟨z, hz⟩ : ∃ z, z = high (rsO rv) := ⟨_, rfl⟩
          have hz0 : 0 ≤ z := by
            have h1 : 0 < (rsO rv).length := by unfold rsO; rw [List.length_map, ← NN.out]; exact hnp
            obtain ⟨x, hx⟩ := List.length_pos_iff_exists_mem.1 h1
            have := (high_spec (rsO rv)).1 x hx; omega
          obtain ⟨A, hA⟩ : ∃ A, A = pt (runsR (rsO rv)) := ⟨_, rfl⟩
          have Hz := Lib.hid (And.intro hz hA)
          rw [← hz] at HHi
          rw [← hA] at HAl hlA hlD
          unfold rtv at HHi HAl
          rw [← NN.out] at HHi HAl
          clear hz hA hRW
          obtain ⟨k5, hk5⟩ : ∃ k5, k5 = (drp A).length := ⟨_, rfl⟩
          rw [← hk5] at hlD
          have HK5 := Lib.hid hk5
          clear hk5
          have q0 := H.out.2.1.bx.free
          have HszW : Hid (w.heap.size + 2 ≤ wr.heap.size) := Lib.hid (by have := H.out.2.1.rb.lt; omega)
          go_upto_region 12 with (first | (go_at_call 78; refine HHi.out.mono ?_; rintro e w2 ⟨rfl, F2⟩; have X2 := Lib.hid (H.out.2.1.fr0 F2); have G2 := Lib.hid F2; have u0 := F2.cell y0 id; have u1 := F2.cell y1 id; have u2 := F2.cell y2 id; have u3 := F2.cell y3 id; have u4 := F2.cell y4 id; clear F2) | (go_at_call 52; refine (HAl.out _ G2.out).mono ?_; rintro e w3 ⟨a3, c3, rfl, own3, F3⟩; have X3 := Lib.hid (And.intro (X2.out.fr0 F3) (And.intro (G2.out.trans0 F3) own3)); clear F3 own3) | (go_at_call 54; refine (drop_any (c := c3) X3.out.2.2.rd (by omega)).mono ?_; rintro e w4 ⟨a4, c4, rfl, own4, F4⟩; rw [← HK5.out] at own4 ⊢; have X4 := Lib.hid (And.intro (X3.out.1.fr0 F4) (And.intro (X3.out.2.1.trans0 F4) (own4.mono X3.out.2.1.size))); have q4 := X4.out.1.bx.free; have v4 := X4.out.1.bx.cell (i := 4) rfl; clear F4 own4))
          have X5 := Lib.hid (X4.out.1.set 4 (.slice none 0 0))
          have O5 : Hid (OwnZ (World.setCell w4 { block := w.heap.size, off := 4 } (.slice none 0 0)) wr.heap.size 58 3 a4 k5 c4 (ents (drp A))) := Lib.hid (X4.out.2.2.other (fun hk => by have h1 := (X4.out.2.2.blk _ hk).1; have h2 := HszW.out; have h3 : (⟨w.heap.size, 4, none⟩ : Addr).block = w.heap.size := rfl; rw [h3] at h1; omega) _)
          have B5 : Hid (∀ k, onBlk ba k → PX P w W0 k) := Lib.hid (fun k hk => RF.out.2.2.1 k (RF.out.2.2.2 k hk))
          have S5 : Hid (W0.heap.size ≤ (World.setCell w4 { block := w.heap.size, off := 4 } (.slice none 0 0)).heap.size) := Lib.hid (by have h1 := H.out.2.2.size; have h2 := X4.out.2.1.size; simp; omega)
          generalize World.setCell w4 { block := w.heap.size, off := 4 } (.slice none 0 0) = w5 at *
          clear y0 y1 y2 y3 y4 u0 u1 u2 u3 u4 q0 q4 v4 X4
          have y0 := X5.out.bx.cell (i := 0) rfl
          have y1 := X5.out.bx.cell (i := 1) rfl
          have y2 := X5.out.bx.cell (i := 2) rfl
          have y3 := X5.out.bx.cell (i := 3) rfl
          have y4 := X5.out.bx.cell (i := 4) rfl
          have hfl : flushR B (fspR B (fanN B M) ⟨rsO rv, bl⟩ buf) = if k5 = 0 then ⟨[], b'⟩ else ⟨[(z.toNat, drp A)], b' + cnt B k5⟩ := by
            rw [HF.out]; unfold flushR
            have h0 : ¬ (RT.mk (rsO rv) bl).rs.length = 0 := by show ¬ (rsO rv).length = 0; unfold rsO; rw [List.length_map, ← NN.out]; exact hn0
            rw [if_neg h0]
            show (if (drp (pt (runsR (rsO rv)))).length = 0 then _ else _) = _
            have e5 : b' = bl + ((rsO rv).map (fun x => cnt B x.2.length)).sum := HBL.out
            rw [← Hz.out.2, ← HK5.out, e5, Hz.out.1]
          have HFl := Lib.hid hfl
          clear hfl
          by_cases hk0 : k5 = 0
          · subst hk0
            have q0 := X5.out.rb.free
            have p0 := X5.out.rb.cell (i := 0) rfl
            have p1 := X5.out.rb.cell (i := 1) rfl
            have p2 := X5.out.rb.cell (i := 2) rfl
            have p3 := X5.out.rb.cell (i := 3) rfl
            have p4 := X5.out.rb.cell (i := 4) rfl
            go_wp2_with fail
            have H9 : TrS w5 (PX P w w5) B M ⟨[], b'⟩ [] (rtv B M b' ba 0 bc none 0 0) := ⟨ba, bc, none, 0, [], rfl, rfl, ⟨⟨rfl, by show 0 ≤ _; omega, fun h => absurd h (by show ¬ 0 < 0; omega)⟩, fun k hk => absurd hk (onBlk_none k), Nat.le_refl _, fun r hr => by cases hr⟩, ⟨rfl, by show 0 ≤ _; omega, fun h => absurd h (by show ¬ 0 < 0; omega)⟩, Nat.zero_le _, fun k hk => (B5.out k hk).imp id (fun c => ⟨c.1, Nat.lt_of_lt_of_le c.2 S5.out⟩)⟩
            have Y := X5.out.out (P := P) H9 HP.out.1 (fun k hk => hk) (.int .i64 (B : Int)) (.int .i64 (M : Int)) (.int .i64 (b' : Int)) (.slice ba 0 bc) (.slice none 0 0)
            refine bodyPost_ret (results_c1 rfl rfl Y.1 rfl) rfl ?_
            rw [HFl.out, if_pos (by trivial)]
            exact ⟨_, rfl, Y.2⟩
          · have hk1 : 0 < (k5 : Int) := by omega
            have hC2 := HC.out k5 (World.drew w5) (by omega)
            obtain ⟨cm, hcm⟩ : ∃ cm, cm = cnt B k5 := ⟨_, rfl⟩
            have hcm2 : cm ≤ 400 := by rw [hcm]; exact Nat.le_trans (cnt_le HB.out.1.1 k5) hlD
            rw [← hcm] at hC2
            have Hcm := Lib.hid hcm
            clear hcm
            go_wp2_with fail
            obtain ⟨wz, hwz⟩ : ∃ wz, wz = World.drew w5 := ⟨_, rfl⟩
            have H3 : Hid (VS w wz (tcs B M b' ba 0 bc none 0 0) ∧ OwnZ wz wr.heap.size 58 3 a4 k5 c4 (ents (drp A)) ∧ W0.heap.size ≤ wz.heap.size) := Lib.hid (by rw [hwz]; exact ⟨X5.out.fr0 ((Fr.refl F0 w5).drewN 1), O5.out.fr0 ((Fr.refl F0 w5).drewN 1), S5.out⟩)
            clear y0 y1 y2 y3 y4
            have g0 := H3.out.1.bx.cell (i := 0) rfl
            have g2 := H3.out.1.bx.cell (i := 2) rfl
            have q0 := H3.out.1.bx.free
            rw [← hwz] at hC2
            refine wp_region_still_tail 9 (by kernel_rfl) (by kernel_rfl) ?_
            change wpStill _ _ (World.drew w5) (fun a' => wpList _ _ _ _ a' (World.drew w5)) _ _
            rw [← hwz]
            replace hwz := Lib.hid hwz
            simp only [List.take_succ_cons, List.take_zero, List.drop_succ_cons, List.drop_zero]
            repeat (first | still_step | still_call (hC2))
            refine wpStill_nil ?_
            have H4 : Hid (VS w (wz.setCell ⟨w.heap.size, 2, none⟩ (.int .i64 ((b' : Int) + (cm : Int)))) (tcs B M (b' + cm) ba 0 bc none 0 0)) := Lib.hid (by have := H3.out.1.set 2 (.int .i64 ((b' : Int) + (cm : Int))); exact this)
            have O6 : Hid (OwnZ (wz.setCell ⟨w.heap.size, 2, none⟩ (.int .i64 ((b' : Int) + (cm : Int)))) wr.heap.size 58 3 a4 k5 c4 (ents (drp A)) ∧ W0.heap.size ≤ (wz.setCell ⟨w.heap.size, 2, none⟩ (.int .i64 ((b' : Int) + (cm : Int)))).heap.size) := Lib.hid ⟨H3.out.2.1.other (fun hk => by have h1 := (H3.out.2.1.blk _ hk).1; have h2 := HszW.out; have h3 : (⟨w.heap.size, 2, none⟩ : Addr).block = w.heap.size := rfl; rw [h3] at h1; omega) _, by have := H3.out.2.2; simp; omega⟩
            go_upto_region 14 with fail
            generalize World.setCell wz { block := w.heap.size, off := 2 } (.int .i64 ((b' : Int) + (cm : Int))) = wy at *
            clear g0 g2 q0
            have X7 := Lib.hid (H4.out.fr0 ((Fr.refl F0 wy).alloc (.cells #[.int .i64 z, .slice a4 k5 c4] 122)))
            have q0 := X7.out.bx.free
            have g4 := X7.out.bx.cell (i := 4) rfl
            have L7 := Lib.hid (rdZ_new wy 122 [.int .i64 z, .slice a4 k5 c4])
            have O7 := Lib.hid (O6.out.1.alloc (.cells #[.int .i64 z, .slice a4 k5 c4] 122))
            have HY : Hid (w.heap.size + 2 ≤ wy.heap.size ∧ wr.heap.size ≤ wy.heap.size ∧ W0.heap.size ≤ wy.heap.size) := Lib.hid (by
              have h1 := H4.out.rb.lt
              have h3 := O6.out.2
              refine ⟨by omega, ?_, h3⟩
              rcases Nat.eq_zero_or_pos k5 with c | c
              · omega
              · obtain ⟨g, _, e1, e2, _⟩ := OwnZ.at O6.out.1 c; omega)
            go_upto_region 15 with fail
            have X8 := Lib.hid (X7.out.set 4 (.slice (some ⟨wy.heap.size, 0, none⟩) 1 1))
            have F8 : Hid (Fr (fun k => k = w.heap.size) _ _) := Lib.hid (Fr.setCell (S := fun k => k = w.heap.size) (Fr.refl _ (wy.alloc (.cells #[.int .i64 z, .slice a4 k5 c4] 122))) (fun _ => rfl) (.slice (some ⟨wy.heap.size, 0, none⟩) 1 1) (p := ⟨w.heap.size, 4, none⟩))
            have H9 : Hid (TrS (World.setCell (wy.alloc (.cells #[.int .i64 z, .slice a4 k5 c4] 122)) ⟨w.heap.size, 4, none⟩ (.slice (some ⟨wy.heap.size, 0, none⟩) 1 1)) (PX P w (World.setCell (wy.alloc (.cells #[.int .i64 z, .slice a4 k5 c4] 122)) ⟨w.heap.size, 4, none⟩ (.slice (some ⟨wy.heap.size, 0, none⟩) 1 1))) B M ⟨[(z.toNat, drp A)], b' + cm⟩ [] (rtv B M (b' + cm) ba 0 bc (some ⟨wy.heap.size, 0, none⟩) 1 1)) := Lib.hid (by
              have hzz : ((z.toNat : Nat) : Int) = z := Int.toNat_of_nonneg hz0
              have hs8 := F8.out.size
              rw [size_alloc] at hs8
              have hs9 := HY.out
              refine ⟨ba, bc, some ⟨wy.heap.size, 0, none⟩, 1, [⟨z.toNat, drp A, a4, c4⟩], rfl, rfl, ⟨?_, ?_, Nat.le_refl _, ?_⟩, ⟨rfl, by show 0 ≤ _; omega, fun h => absurd h (by show ¬ 0 < 0; omega)⟩, Nat.zero_le _, ?_⟩
              · have e : rcs [⟨z.toNat, drp A, a4, c4⟩] = [.int .i64 z, .slice a4 k5 c4] := by
                  show [Value.int .i64 ((z.toNat : Nat) : Int), .slice a4 (drp A).length c4] = _
                  rw [hzz, HK5.out]
                rw [e]
                refine L7.out.fr F8.out (fun k hk hs => ?_)
                have := (onBlk_some _ _ _ _).1 hk
                omega
              · intro k hk
                have := (onBlk_some _ _ _ _).1 hk
                exact .inr ⟨by omega, by omega⟩
              · intro r hr
                rw [List.mem_singleton] at hr; subst hr
                dsimp only
                rw [← HK5.out]
                have o9 := O7.out.fr F8.out (fun k hk hs => by have := (O7.out.blk k hk).1; have := HszW.out; omega)
                exact ⟨o9.rd, OwnZ.cap o9, fun k hk => .inr ⟨by have := (o9.blk k hk).1; have := HszW.out; omega, (o9.blk k hk).2⟩⟩
              · intro k hk
                exact (B5.out k hk).imp id (fun c => ⟨c.1, by omega⟩))
            generalize World.setCell (wy.alloc (.cells #[.int .i64 z, .slice a4 k5 c4] 122)) ⟨w.heap.size, 4, none⟩ (.slice (some ⟨wy.heap.size, 0, none⟩) 1 1) = w9 at *
            clear q0 g4
            have y0 := X8.out.bx.cell (i := 0) rfl
            have y1 := X8.out.bx.cell (i := 1) rfl
            have y2 := X8.out.bx.cell (i := 2) rfl
            have y3 := X8.out.bx.cell (i := 3) rfl
            have y4 := X8.out.bx.cell (i := 4) rfl
            have q0 := X8.out.rb.free
            have p0 := X8.out.rb.cell (i := 0) rfl
            have p1 := X8.out.rb.cell (i := 1) rfl
            have p2 := X8.out.rb.cell (i := 2) rfl
            have p3 := X8.out.rb.cell (i := 3) rfl
            have p4 := X8.out.rb.cell (i := 4) rfl
            go_wp2_with fail
            have Y := X8.out.out (P := P) H9.out HP.out.1 (fun k hk => hk) (.int .i64 (B : Int)) (.int .i64 (M : Int)) (.int .i64 ((b' + cm : Nat) : Int)) (.slice ba 0 bc) (.slice (some ⟨wy.heap.size, 0, none⟩) 1 1)
            refine bodyPost_ret (results_c1 rfl rfl Y.1 rfl) rfl ?_
            rw [HFl.out, if_neg hk0, ← Hcm.out]
            exact ⟨_, rfl, Y.2⟩
  · have hb1 : 0 < (bn : Int) := by omega
    have HS := Lib.hid (X0.out.spill (bl := bl) (B := B) (M := M) (HR.out _ X0.out.fr) HP.out.1 (HBf.out _ X0.out.fr) hbn HP.out.2 HB.out.1 HB.out.2 (HPR.out.mono (by have := HN.out.2; omega) (Nat.le_refl _) (Nat.le_refl _)) (by have := HN.out.2; omega) (by omega) hc2)
    unfold rtv at HS
    rw [← HN.out.1] at HS
    have HPS := Lib.hid (HPR.out.spill (B := B) (F := fanN B M) (buf := buf) (Nat.le_max_left _ _) HB.out.1.1 (by have := HN.out.2; omega))
    obtain ⟨t5, ht5⟩ : ∃ t5, t5 = splR B (fanN B M) ⟨rsO rv, bl⟩ buf := ⟨_, rfl⟩
    rw [← ht5] at HS HPS
    have HF5 : Hid (fspR B (fanN B M) ⟨rsO rv, bl⟩ buf = t5) := Lib.hid (by unfold fspR; rw [if_neg (by have := HN.out.2; omega), ht5])
    clear ht5
    have q0 := X0.out.bx.free
    go_upto_region 3 with (go_at_call 77; refine HS.out.mono ?_; rintro e5 w5 ⟨v5, rfl, hT5, hU5, F5⟩; obtain ⟨ba5, bc5, ra5, rc5, rv5, rfl, t1, t2, t3, t4, t6⟩ := hT5; have T5 := Lib.hid (And.intro t1 (And.intro t2 t6)); have X5 := Lib.hid hU5; unfold rtv; clear t1 t2 t3 t4 t6 hU5 F5; have q5 := X5.out.bx.free; have u0 := X5.out.bx.cell (i := 0) rfl; have u1 := X5.out.bx.cell (i := 1) rfl; have u2 := X5.out.bx.cell (i := 2) rfl; have u3 := X5.out.bx.cell (i := 3) rfl; have u4 := X5.out.bx.cell (i := 4) rfl)
    obtain ⟨bl5, hbl5⟩ : ∃ bl5, bl5 = t5.bl := ⟨_, rfl⟩
    have HF : Hid (fspR B (fanN B M) ⟨rsO rv, bl⟩ buf = ⟨rsO rv5, bl5⟩) := Lib.hid (by rw [HF5.out, T5.out.1, hbl5])
    have HP5 : Hid (PR ⟨rsO rv5, bl5⟩ 400 (b2 + 2) (c2 + 1200)) := Lib.hid (by rw [T5.out.1, hbl5]; exact HPS.out.mono (by have := HN.out.2; omega) (Nat.le_refl _) (Nat.le_refl _))
    rw [← hbl5]
    clear hbl5
    have X6 : Hid (VS w _ (tcs B M bl5 ba5 0 bc5 ra5 rv5.length rc5)) := Lib.hid (X5.out.set5 (.int .i64 (B : Int)) (.int .i64 (M : Int)) (.int .i64 (bl5 : Int)) (.slice ba5 0 bc5) (.slice ra5 rv5.length rc5))
    have F6 := Lib.hid (Fr.set5 w5 w.heap.size (.int .i64 (B : Int)) (.int .i64 (M : Int)) (.int .i64 (bl5 : Int)) (.slice ba5 0 bc5) (.slice ra5 rv5.length rc5))
    have RF6 : Hid (RefS _ (PX P w w5) ra5 rc5 rv5) := Lib.hid (T5.out.2.1.fr F6.out (fun k hk hs => by
      rcases hk with c | c
      · have := HP.out.1 k c; omega
      · omega))
    clear x0 x1 x2 x3 x4 u0 u1 u2 u3 u4 q5 q0
    obtain ⟨n5, hn5⟩ : ∃ n5, n5 = rv5.length := ⟨_, rfl⟩
    rw [← hn5] at X6 F6 RF6 ⊢
    have NN := Lib.hid hn5
    clear hn5
    generalize (((((w5.setCell ⟨w.heap.size, 0, none⟩ (.int .i64 (B : Int))).setCell ⟨w.heap.size, 1, none⟩ (.int .i64 (M : Int))).setCell ⟨w.heap.size, 2, none⟩ (.int .i64 (bl5 : Int))).setCell ⟨w.heap.size, 3, none⟩ (.slice ba5 0 bc5)).setCell ⟨w.heap.size, 4, none⟩ (.slice ra5 n5 rc5)) = w6 at *
    have RF : Hid (RefS w6 (PX P w w5) ra5 rc5 rv5 ∧ PR ⟨rsO rv5, bl5⟩ 400 (b2 + 2) (c2 + 1200) ∧ (∀ k, PX P w w5 k → PX P w w6 k) ∧ (∀ k, onBlk ba5 k → PX P w w5 k)) := Lib.hid ⟨RF6.out, HP5.out, fun k hk => hk.imp id (fun c => ⟨c.1, Nat.lt_of_lt_of_le c.2 F6.out.size⟩), T5.out.2.2⟩
    have y0 := X6.out.bx.cell (i := 0) rfl
    have y1 := X6.out.bx.cell (i := 1) rfl
    have y2 := X6.out.bx.cell (i := 2) rfl
    have y3 := X6.out.bx.cell (i := 3) rfl
    have y4 := X6.out.bx.cell (i := 4) rfl
    by_cases hn0 : n5 = 0
    · subst hn0
      have q0 := X6.out.rb.free
      have p0 := X6.out.rb.cell (i := 0) rfl
      have p1 := X6.out.rb.cell (i := 1) rfl
      have p2 := X6.out.rb.cell (i := 2) rfl
      have p3 := X6.out.rb.cell (i := 3) rfl
      have p4 := X6.out.rb.cell (i := 4) rfl
      go_wp2_with fail
      have H9 : TrS w6 (PX P w w5) B M ⟨rsO rv5, bl5⟩ [] (rtv B M bl5 ba5 0 bc5 ra5 0 rc5) := ⟨ba5, bc5, ra5, rc5, rv5, by rw [← NN.out]; rfl, rfl, RF.out.1, ⟨rfl, by show 0 ≤ _; omega, fun h => absurd h (by show ¬ 0 < 0; omega)⟩, Nat.zero_le _, RF.out.2.2.2⟩
      have Y := X6.out.out (P := P) H9 HP.out.1 RF.out.2.2.1 (.int .i64 (B : Int)) (.int .i64 (M : Int)) (.int .i64 (bl5 : Int)) (.slice ba5 0 bc5) (.slice ra5 0 rc5)
      refine bodyPost_ret (results_c1 rfl rfl Y.1 rfl) rfl ?_
      have e : flushR B (fspR B (fanN B M) ⟨rsO rv, bl⟩ buf) = ⟨rsO rv5, bl5⟩ := by
        rw [HF.out]; unfold flushR
        have h0 : (rsO rv5).length = 0 := by unfold rsO; rw [List.length_map, ← NN.out]
        rw [if_pos h0]
      rw [e]
      exact ⟨_, rfl, Y.2⟩
    · have hnp : 0 < n5 := by omega
      have hsm := RF.out.2.1.small
      have HSm := Lib.hid hsm
      have hnb : ((n5 : Int) == 0) = false := by simp; omega
      have hblx : bl5 ≤ 901000000 := by omega
      have hNx : n5 ≤ 10000 := by have := NN.out; omega
      clear hsm
      go_wp2_with fail
      go_loopw [3] (fun s3 wr => ∃ (i b' : Nat), i ≤ n5 ∧ b' ≤ 902000000 ∧ s3 = .int .i64 (i : Int) ∧ Hid (b' = bl5 + csR B (rsO (rv5.take i)) ∧ VS w wr (tcs B M b' ba5 0 bc5 ra5 n5 rc5) ∧ Fr (fun k => k = w.heap.size) w6 wr)) (fun s3 _ => n5 - (intOf s3).toNat)
      case atStart => exact ⟨0, bl5, Nat.zero_le _, by omega, rfl, Lib.hid ⟨rfl, X6.out, Fr.refl _ _⟩⟩
      case round =>
        obtain ⟨i, b', hi, hb', rfl, H⟩ := hrel
        clear y0 y1 y2 y3 y4
        have y0 := H.out.2.1.bx.cell (i := 0) rfl
        have y1 := H.out.2.1.bx.cell (i := 1) rfl
        have y2 := H.out.2.1.bx.cell (i := 2) rfl
        have y3 := H.out.2.1.bx.cell (i := 3) rfl
        have y4 := H.out.2.1.bx.cell (i := 4) rfl
        have hRW : RefS wr (PX P w w5) ra5 rc5 rv5 := RF.out.1.fr H.out.2.2 (fun k hk hs => by
          rcases RF.out.2.2.1 k hk with c | c
          · have := HP.out.1 k c; omega
          · omega)
        have HRW := Lib.hid hRW
        by_cases hlt : i < n5
        · have hlt' : (i : Int) < (n5 : Int) := by omega
          obtain ⟨r, hr⟩ : ∃ r, rv5[i]? = some r := ⟨_, List.getElem?_eq_getElem (by have := NN.out; omega)⟩
          obtain ⟨b, o, hRA, d0, d1, hrd, hrc⟩ := hRW.at hr
          rw [hRA] at y4
          have hrl : r.l.length ≤ 400 := Nat.le_trans (totR_run (List.mem_of_getElem? hr)) HSm.out.2.2.2
          have hcs := csR_take B rv5 i hr
          have hbn' : b' + cnt B r.l.length ≤ 902000000 := by
            have h1 := csR_le HB.out.1.1 (rsO (rv5.take (i + 1)))
            have h2 := totR_take rv5 (i + 1)
            have h3 := HSm.out.2.2.2
            have h4 := H.out.1
            omega
          have HCs := Lib.hid hcs
          obtain ⟨m, hm⟩ : ∃ m, m = r.l.length := ⟨_, rfl⟩
          rw [← hm] at d1 hrl hbn'
          have Hm := Lib.hid hm
          have hC2 := HC.out m (World.drew wr) (by omega)
          obtain ⟨cm, hcm⟩ : ∃ cm, cm = cnt B m := ⟨_, rfl⟩
          rw [← hcm] at hC2 hbn'
          have Hcm := Lib.hid hcm
          clear hr hrd hrc hm hcm hRA hRW hcs
          go_wp2_with fail
          obtain ⟨wz, hwz⟩ : ∃ wz, wz = World.drew wr := ⟨_, rfl⟩
          have H3 : Hid (VS w wz (tcs B M b' ba5 0 bc5 ra5 n5 rc5)) := Lib.hid (by rw [hwz]; exact H.out.2.1.fr0 ((Fr.refl F0 wr).drewN 1))
          have F3 : Hid (Fr (fun k => k = w.heap.size) w6 wz) := Lib.hid (by rw [hwz]; exact H.out.2.2.trans ((Fr.refl F0 wr).drewN 1) (fun _ _ h => h.elim))
          have z0 := H3.out.bx.cell (i := 0) rfl
          have z2 := H3.out.bx.cell (i := 2) rfl
          have z4 : wz.cell? ⟨w.heap.size, 4, none⟩ = some (.slice (some ⟨b, o, none⟩) n5 rc5) := by rw [hwz]; exact y4
          have q0 := H3.out.bx.free
          have e1 : wz.cell? ⟨b, o + i * 2 + 1, none⟩ = some (.slice r.a m r.c) := by rw [hwz]; exact d1
          have e0 : wz.cell? ⟨b, o + i * 2, none⟩ = some (.int .i64 (r.lv : Int)) := by rw [hwz]; exact d0
          rw [← hwz] at hC2
          refine wp_region_still_tail 14 (by kernel_rfl) (by kernel_rfl) ?_
          change wpStill _ _ (World.drew wr) (fun a' => wpList _ _ _ _ a' (World.drew wr)) _ _
          rw [← hwz]
          replace hwz := Lib.hid hwz
          simp only [List.take_succ_cons, List.take_zero, List.drop_succ_cons, List.drop_zero]
          repeat (first | still_step | still_call (hC2))
          refine wpStill_nil ?_
          have H4 : Hid (VS w (wz.setCell ⟨w.heap.size, 2, none⟩ (.int .i64 ((b' : Int) + (cm : Int)))) (tcs B M (b' + cm) ba5 0 bc5 ra5 n5 rc5)) := Lib.hid (by have := H3.out.set 2 (.int .i64 ((b' : Int) + (cm : Int))); exact this)
          have F4 : Hid (Fr (fun k => k = w.heap.size) w6 (wz.setCell ⟨w.heap.size, 2, none⟩ (.int .i64 ((b' : Int) + (cm : Int))))) := Lib.hid (Fr.setCell F3.out (fun _ => rfl) _)
          go_wp2_with fail
          go_roundw
          case rel => exact ⟨i + 1, b' + cm, by omega, hbn', by go_num, Lib.hid ⟨by rw [HCs.out, H.out.1, Hcm.out, Hm.out, Nat.add_assoc], H4.out, F4.out⟩⟩
          case measure => simp [intOf]; omega
        · obtain rfl : n5 = i := by omega
          have H9 := H.out.1
          rw [List.take_of_length_le (by rw [NN.out]; exact Nat.le_refl _)] at H9
          have HBL := Lib.hid H9
          clear H9
          have HHi := Lib.hid (highest_any (w := wr) B M b' ba5 0 bc5 HRW.out (by rw [← NN.out]; omega))
          have HAl : Hid (∀ W', Fr F0 wr W' → _) := Lib.hid (fun W' F => all_any (w := W') B M b' ba5 0 bc5 (HRW.out.fr0 F) (by rw [← NN.out]; omega) (by have := HSm.out.2.1; omega) (by have := HSm.out.2.2.2; omega))
          have hlA : (pt (runsR (rsO rv5))).length ≤ 400 := by
            have e := foldI_len (runsR (rsO rv5)).flatten []
            have e2 : pt (runsR (rsO rv5)) = (runsR (rsO rv5)).flatten.foldl ins [] := rfl
            rw [← e2, flat_len, runsR_tot] at e
            simp only [List.length_nil, Nat.zero_add] at e
            have := HSm.out.2.2.2
            omega
          have hlD : (drp (pt (runsR (rsO rv5)))).length ≤ 400 := Nat.le_trans (drp_len _) hlA
          obtain ⟨z, hz⟩ : ∃ z, z = high (rsO rv5) := ⟨_, rfl⟩
          have hz0 : 0 ≤ z := by
            have h1 : 0 < (rsO rv5).length := by unfold rsO; rw [List.length_map, ← NN.out]; exact hnp
            obtain ⟨x, hx⟩ := List.length_pos_iff_exists_mem.1 h1
            have := (high_spec (rsO rv5)).1 x hx; omega
          obtain ⟨A, hA⟩ : ∃ A, A = pt (runsR (rsO rv5)) := ⟨_, rfl⟩
          have Hz := Lib.hid (And.intro hz hA)
          rw [← hz] at HHi
          rw [← hA] at HAl hlA hlD
          unfold rtv at HHi HAl
          rw [← NN.out] at HHi HAl
          clear hz hA hRW
          obtain ⟨k5, hk5⟩ : ∃ k5, k5 = (drp A).length := ⟨_, rfl⟩
          rw [← hk5] at hlD
          have HK5 := Lib.hid hk5
          clear hk5
          have q0 := H.out.2.1.bx.free
          have HszW : Hid (w.heap.size + 2 ≤ wr.heap.size) := Lib.hid (by have := H.out.2.1.rb.lt; omega)
          go_upto_region 12 with (first | (go_at_call 78; refine HHi.out.mono ?_; rintro e w2 ⟨rfl, F2⟩; have X2 := Lib.hid (H.out.2.1.fr0 F2); have G2 := Lib.hid F2; have u0 := F2.cell y0 id; have u1 := F2.cell y1 id; have u2 := F2.cell y2 id; have u3 := F2.cell y3 id; have u4 := F2.cell y4 id; clear F2) | (go_at_call 52; refine (HAl.out _ G2.out).mono ?_; rintro e w3 ⟨a3, c3, rfl, own3, F3⟩; have X3 := Lib.hid (And.intro (X2.out.fr0 F3) (And.intro (G2.out.trans0 F3) own3)); clear F3 own3) | (go_at_call 54; refine (drop_any (c := c3) X3.out.2.2.rd (by omega)).mono ?_; rintro e w4 ⟨a4, c4, rfl, own4, F4⟩; rw [← HK5.out] at own4 ⊢; have X4 := Lib.hid (And.intro (X3.out.1.fr0 F4) (And.intro (X3.out.2.1.trans0 F4) (own4.mono X3.out.2.1.size))); have q4 := X4.out.1.bx.free; have v4 := X4.out.1.bx.cell (i := 4) rfl; clear F4 own4))
          have X5 := Lib.hid (X4.out.1.set 4 (.slice none 0 0))
          have O5 : Hid (OwnZ (World.setCell w4 { block := w.heap.size, off := 4 } (.slice none 0 0)) wr.heap.size 58 3 a4 k5 c4 (ents (drp A))) := Lib.hid (X4.out.2.2.other (fun hk => by have h1 := (X4.out.2.2.blk _ hk).1; have h2 := HszW.out; have h3 : (⟨w.heap.size, 4, none⟩ : Addr).block = w.heap.size := rfl; rw [h3] at h1; omega) _)
          have B5 : Hid (∀ k, onBlk ba5 k → PX P w w6 k) := Lib.hid (fun k hk => RF.out.2.2.1 k (RF.out.2.2.2 k hk))
          have S5 : Hid (w6.heap.size ≤ (World.setCell w4 { block := w.heap.size, off := 4 } (.slice none 0 0)).heap.size) := Lib.hid (by have h1 := H.out.2.2.size; have h2 := X4.out.2.1.size; simp; omega)
          generalize World.setCell w4 { block := w.heap.size, off := 4 } (.slice none 0 0) = w5 at *
          clear y0 y1 y2 y3 y4 u0 u1 u2 u3 u4 q0 q4 v4 X4
          have y0 := X5.out.bx.cell (i := 0) rfl
          have y1 := X5.out.bx.cell (i := 1) rfl
          have y2 := X5.out.bx.cell (i := 2) rfl
          have y3 := X5.out.bx.cell (i := 3) rfl
          have y4 := X5.out.bx.cell (i := 4) rfl
          have hfl : flushR B (fspR B (fanN B M) ⟨rsO rv, bl⟩ buf) = if k5 = 0 then ⟨[], b'⟩ else ⟨[(z.toNat, drp A)], b' + cnt B k5⟩ := by
            rw [HF.out]; unfold flushR
            have h0 : ¬ (RT.mk (rsO rv5) bl5).rs.length = 0 := by show ¬ (rsO rv5).length = 0; unfold rsO; rw [List.length_map, ← NN.out]; exact hn0
            rw [if_neg h0]
            show (if (drp (pt (runsR (rsO rv5)))).length = 0 then _ else _) = _
            have e5 : b' = bl5 + ((rsO rv5).map (fun x => cnt B x.2.length)).sum := HBL.out
            rw [← Hz.out.2, ← HK5.out, e5, Hz.out.1]
          have HFl := Lib.hid hfl
          clear hfl
          by_cases hk0 : k5 = 0
          · subst hk0
            have q0 := X5.out.rb.free
            have p0 := X5.out.rb.cell (i := 0) rfl
            have p1 := X5.out.rb.cell (i := 1) rfl
            have p2 := X5.out.rb.cell (i := 2) rfl
            have p3 := X5.out.rb.cell (i := 3) rfl
            have p4 := X5.out.rb.cell (i := 4) rfl
            go_wp2_with fail
            have H9 : TrS w5 (PX P w w5) B M ⟨[], b'⟩ [] (rtv B M b' ba5 0 bc5 none 0 0) := ⟨ba5, bc5, none, 0, [], rfl, rfl, ⟨⟨rfl, by show 0 ≤ _; omega, fun h => absurd h (by show ¬ 0 < 0; omega)⟩, fun k hk => absurd hk (onBlk_none k), Nat.le_refl _, fun r hr => by cases hr⟩, ⟨rfl, by show 0 ≤ _; omega, fun h => absurd h (by show ¬ 0 < 0; omega)⟩, Nat.zero_le _, fun k hk => (B5.out k hk).imp id (fun c => ⟨c.1, Nat.lt_of_lt_of_le c.2 S5.out⟩)⟩
            have Y := X5.out.out (P := P) H9 HP.out.1 (fun k hk => hk) (.int .i64 (B : Int)) (.int .i64 (M : Int)) (.int .i64 (b' : Int)) (.slice ba5 0 bc5) (.slice none 0 0)
            refine bodyPost_ret (results_c1 rfl rfl Y.1 rfl) rfl ?_
            rw [HFl.out, if_pos (by trivial)]
            exact ⟨_, rfl, Y.2⟩
          · have hk1 : 0 < (k5 : Int) := by omega
            have hC2 := HC.out k5 (World.drew w5) (by omega)
            obtain ⟨cm, hcm⟩ : ∃ cm, cm = cnt B k5 := ⟨_, rfl⟩
            have hcm2 : cm ≤ 400 := by rw [hcm]; exact Nat.le_trans (cnt_le HB.out.1.1 k5) hlD
            rw [← hcm] at hC2
            have Hcm := Lib.hid hcm
            clear hcm
            go_wp2_with fail
            obtain ⟨wz, hwz⟩ : ∃ wz, wz = World.drew w5 := ⟨_, rfl⟩
            have H3 : Hid (VS w wz (tcs B M b' ba5 0 bc5 none 0 0) ∧ OwnZ wz wr.heap.size 58 3 a4 k5 c4 (ents (drp A)) ∧ w6.heap.size ≤ wz.heap.size) := Lib.hid (by rw [hwz]; exact ⟨X5.out.fr0 ((Fr.refl F0 w5).drewN 1), O5.out.fr0 ((Fr.refl F0 w5).drewN 1), S5.out⟩)
            clear y0 y1 y2 y3 y4
            have g0 := H3.out.1.bx.cell (i := 0) rfl
            have g2 := H3.out.1.bx.cell (i := 2) rfl
            have q0 := H3.out.1.bx.free
            rw [← hwz] at hC2
            refine wp_region_still_tail 9 (by kernel_rfl) (by kernel_rfl) ?_
            change wpStill _ _ (World.drew w5) (fun a' => wpList _ _ _ _ a' (World.drew w5)) _ _
            rw [← hwz]
            replace hwz := Lib.hid hwz
            simp only [List.take_succ_cons, List.take_zero, List.drop_succ_cons, List.drop_zero]
            repeat (first | still_step | still_call (hC2))
            refine wpStill_nil ?_
            have H4 : Hid (VS w (wz.setCell ⟨w.heap.size, 2, none⟩ (.int .i64 ((b' : Int) + (cm : Int)))) (tcs B M (b' + cm) ba5 0 bc5 none 0 0)) := Lib.hid (by have := H3.out.1.set 2 (.int .i64 ((b' : Int) + (cm : Int))); exact this)
            have O6 : Hid (OwnZ (wz.setCell ⟨w.heap.size, 2, none⟩ (.int .i64 ((b' : Int) + (cm : Int)))) wr.heap.size 58 3 a4 k5 c4 (ents (drp A)) ∧ w6.heap.size ≤ (wz.setCell ⟨w.heap.size, 2, none⟩ (.int .i64 ((b' : Int) + (cm : Int)))).heap.size) := Lib.hid ⟨H3.out.2.1.other (fun hk => by have h1 := (H3.out.2.1.blk _ hk).1; have h2 := HszW.out; have h3 : (⟨w.heap.size, 2, none⟩ : Addr).block = w.heap.size := rfl; rw [h3] at h1; omega) _, by have := H3.out.2.2; simp; omega⟩
            go_upto_region 14 with fail
            generalize World.setCell wz { block := w.heap.size, off := 2 } (.int .i64 ((b' : Int) + (cm : Int))) = wy at *
            clear g0 g2 q0
            have X7 := Lib.hid (H4.out.fr0 ((Fr.refl F0 wy).alloc (.cells #[.int .i64 z, .slice a4 k5 c4] 122)))
            have q0 := X7.out.bx.free
            have g4 := X7.out.bx.cell (i := 4) rfl
            have L7 := Lib.hid (rdZ_new wy 122 [.int .i64 z, .slice a4 k5 c4])
            have O7 := Lib.hid (O6.out.1.alloc (.cells #[.int .i64 z, .slice a4 k5 c4] 122))
            have HY : Hid (w.heap.size + 2 ≤ wy.heap.size ∧ wr.heap.size ≤ wy.heap.size ∧ w6.heap.size ≤ wy.heap.size) := Lib.hid (by
              have h1 := H4.out.rb.lt
              have h3 := O6.out.2
              refine ⟨by omega, ?_, h3⟩
              rcases Nat.eq_zero_or_pos k5 with c | c
              · omega
              · obtain ⟨g, _, e1, e2, _⟩ := OwnZ.at O6.out.1 c; omega)
            go_upto_region 15 with fail
            have X8 := Lib.hid (X7.out.set 4 (.slice (some ⟨wy.heap.size, 0, none⟩) 1 1))
            have F8 : Hid (Fr (fun k => k = w.heap.size) _ _) := Lib.hid (Fr.setCell (S := fun k => k = w.heap.size) (Fr.refl _ (wy.alloc (.cells #[.int .i64 z, .slice a4 k5 c4] 122))) (fun _ => rfl) (.slice (some ⟨wy.heap.size, 0, none⟩) 1 1) (p := ⟨w.heap.size, 4, none⟩))
            have H9 : Hid (TrS (World.setCell (wy.alloc (.cells #[.int .i64 z, .slice a4 k5 c4] 122)) ⟨w.heap.size, 4, none⟩ (.slice (some ⟨wy.heap.size, 0, none⟩) 1 1)) (PX P w (World.setCell (wy.alloc (.cells #[.int .i64 z, .slice a4 k5 c4] 122)) ⟨w.heap.size, 4, none⟩ (.slice (some ⟨wy.heap.size, 0, none⟩) 1 1))) B M ⟨[(z.toNat, drp A)], b' + cm⟩ [] (rtv B M (b' + cm) ba5 0 bc5 (some ⟨wy.heap.size, 0, none⟩) 1 1)) := Lib.hid (by
              have hzz : ((z.toNat : Nat) : Int) = z := Int.toNat_of_nonneg hz0
              have hs8 := F8.out.size
              rw [size_alloc] at hs8
              have hs9 := HY.out
              refine ⟨ba5, bc5, some ⟨wy.heap.size, 0, none⟩, 1, [⟨z.toNat, drp A, a4, c4⟩], rfl, rfl, ⟨?_, ?_, Nat.le_refl _, ?_⟩, ⟨rfl, by show 0 ≤ _; omega, fun h => absurd h (by show ¬ 0 < 0; omega)⟩, Nat.zero_le _, ?_⟩
              · have e : rcs [⟨z.toNat, drp A, a4, c4⟩] = [.int .i64 z, .slice a4 k5 c4] := by
                  show [Value.int .i64 ((z.toNat : Nat) : Int), .slice a4 (drp A).length c4] = _
                  rw [hzz, HK5.out]
                rw [e]
                refine L7.out.fr F8.out (fun k hk hs => ?_)
                have := (onBlk_some _ _ _ _).1 hk
                omega
              · intro k hk
                have := (onBlk_some _ _ _ _).1 hk
                exact .inr ⟨by omega, by omega⟩
              · intro r hr
                rw [List.mem_singleton] at hr; subst hr
                dsimp only
                rw [← HK5.out]
                have o9 := O7.out.fr F8.out (fun k hk hs => by have := (O7.out.blk k hk).1; have := HszW.out; omega)
                exact ⟨o9.rd, OwnZ.cap o9, fun k hk => .inr ⟨by have := (o9.blk k hk).1; have := HszW.out; omega, (o9.blk k hk).2⟩⟩
              · intro k hk
                exact (B5.out k hk).imp id (fun c => ⟨c.1, by omega⟩))
            generalize World.setCell (wy.alloc (.cells #[.int .i64 z, .slice a4 k5 c4] 122)) ⟨w.heap.size, 4, none⟩ (.slice (some ⟨wy.heap.size, 0, none⟩) 1 1) = w9 at *
            clear q0 g4
            have y0 := X8.out.bx.cell (i := 0) rfl
            have y1 := X8.out.bx.cell (i := 1) rfl
            have y2 := X8.out.bx.cell (i := 2) rfl
            have y3 := X8.out.bx.cell (i := 3) rfl
            have y4 := X8.out.bx.cell (i := 4) rfl
            have q0 := X8.out.rb.free
            have p0 := X8.out.rb.cell (i := 0) rfl
            have p1 := X8.out.rb.cell (i := 1) rfl
            have p2 := X8.out.rb.cell (i := 2) rfl
            have p3 := X8.out.rb.cell (i := 3) rfl
            have p4 := X8.out.rb.cell (i := 4) rfl
            go_wp2_with fail
            have Y := X8.out.out (P := P) H9.out HP.out.1 (fun k hk => hk) (.int .i64 (B : Int)) (.int .i64 (M : Int)) (.int .i64 ((b' + cm : Nat) : Int)) (.slice ba5 0 bc5) (.slice (some ⟨wy.heap.size, 0, none⟩) 1 1)
            refine bodyPost_ret (results_c1 rfl rfl Y.1 rfl) rfl ?_
            rw [HFl.out, if_neg hk0, ← Hcm.out]
            exact ⟨_, rfl, Y.2⟩
end Go.Proofs.Ytkmnnfflibamnaa
