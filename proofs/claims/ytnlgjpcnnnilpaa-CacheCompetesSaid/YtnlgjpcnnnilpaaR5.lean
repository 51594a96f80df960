/- Touch: a miss in a full cache. -/
import Derived.Test.YtnlgjpcnnnilpaaR4
namespace Go.Proofs.Ytnlgjpcnnnilpaa
open Go.RowKit
attribute [local go_sem ↓] Go.wp_at_zero Go.wp_at_succ

set_option maxRecDepth 100000 in
set_option maxHeartbeats 8000000 in
theorem Touch_full {w : World} {B x m mi s : Nat} {K : List Int} {bm gb gn gp cb cn cp : Nat} {BL : List Int} {NX PV : List Nat} {f : Int → Option Value} {S : List Nat} (h : CX w B x m mi s K bm gb gn gp cb cn cp BL NX PV f S)
    (b : Int) (hb0 : 0 ≤ b) (hb1 : b ≤ 1048576) (hb : b ∉ K) (hsm : ¬ s < m) (hmi : mi ≤ 1000000) :
    Calls Try.prog 17 #[.pointer (some ⟨x, 0, none⟩), .int .i64 b] w (TPost w B x m mi K b bm gb gn gp) := by
  have hsm' : s = m := by have := h.hs; omega
  subst hsm'
  obtain ⟨i, p, n, hd, e0, hi0, hi, e1, e2, hpi, hni, hp, hn, e3, hhi, hh, hfy, hyK, S', hR, ht⟩ := h.rg.full hb h.hm1
  obtain ⟨k0, _, k2, _, _, k5⟩ := six_cells h.cl.kx
  have hlook := h.mp.look_ok under50 plainI (wfI_of (k := b) (by omega) (by omega))
  have hfb : Hid (f b = none) := Lib.hid (h.rg.miss hb).1
  rw [hfb.out] at hlook
  simp only [Option.getD_none, Option.isSome_none] at hlook
  have hlen : ∀ q ty, (Builtin.len_ #[50] ty #[.map (some bm)]).run Try.prog (w.drewN q) = .ok (.int .i64 s) (w.drewN q) := fun q ty => (h.mp.fr (S := F0) ((Fr.refl _ _).drewN q) id).len under50 ty
  have cp0 := nat_cell h.cl.op e0
  obtain ⟨y, hy⟩ : ∃ y, y = BL.getD i 0 := ⟨_, rfl⟩
  rw [← hy] at hfy hyK hR
  have hby := h.hK y hyK
  have hym : Hid (BL[i]? = some y) := Lib.hid (by rw [hy, List.getD_eq_getElem?_getD, List.getElem?_eq_getElem (by rw [h.rg.lb]; omega)]; rfl)
  have hne : b ≠ y := fun e => hb (e ▸ hyK)
  have hs0 := h.hm1
  have hs1 := h.hm
  have i0 : (0 : Int) ≤ (i : Int) := by omega
  have i1 : (i : Int) < (s : Int) + 1 := by omega
  have j0 : (0 : Int) < (s : Int) + 1 := by omega
  have dlt : decide ((s : Int) < (s : Int)) = false := by simp
  have H := Lib.hid h
  have HR := Lib.hid hR
  have Ht := Lib.hid ht
  have E1 := Lib.hid e1
  have E2 := Lib.hid e2
  have E3' := Lib.hid e3
  have Hfy := Lib.hid hfy
  have Hp := Lib.hid (And.intro hpi hni)
  have Hne := Lib.hid hne
  obtain ⟨a1, a2, a3⟩ := h.cl.d1
  obtain ⟨b1, b2, b3⟩ := h.cl.d2
  obtain ⟨m1, m2, m3, m4⟩ := h.dm
  clear h hR ht e0 e1 e2 e3 hfy hpi hni hy hyK hb hne hsm
  go_enter Try.func17, Try.ntmps17
  go_wp2_with fail
  go_quiet (fail)
  go_wp2_with (refine (cut_R (H.out.cl.fr0 ((Fr.refl _ _).drewN nq)) hi E1.out E2.out Hp.out.1 Hp.out.2 hp hn).mono ?_; rintro e w2 ⟨rfl, C2, F2⟩; replace C2 := Lib.hid C2; replace F2 := Lib.hid F2)
  have F2' : Hid (Fr (onG gn gp) w w2) := Lib.hid ((((Fr.refl F0 w).drewN nq).mono (fun _ _ h => h.elim)).trans F2.out (fun _ _ h => h))
  have mp2 := Lib.hid (H.out.mp.fr F2'.out (fun h => by rcases h with h | h; · exact m1 h
                                                        · exact m2 h))
  obtain ⟨_, _, q2, q3, _, _⟩ := six_cells C2.out.kx
  obtain ⟨b0, o0, hb0', hc0⟩ := C2.out.ob.rd.cells (by omega)
  injection hb0' with hb0'
  injection hb0' with g1 g2
  subst g1
  subst g2
  have q4 := hc0 i (.int .i64 y) (by rw [List.getElem?_map, hym.out]; rfl)
  rw [Nat.zero_add] at q4
  clear hc0 k0 k2 k5 cp0 hlook hlen
  go_region_held3 (fun w' => w'.cell? ⟨x, 2, none⟩ = some (.map (some bm)) ∧ w'.cell? ⟨x, 3, none⟩ = some (.slice (some ⟨gb, 0, none⟩) (s + 1) cb) ∧ w'.cell? ⟨gb, i, none⟩ = some (.int .i64 y)) (go_keep)
    (first | (refine stepMapDrop (mp2.out.fr (S := F0) (Fr.refl _ _).drew id) under50 (wfI_of (k := y) (by omega) (by omega)) (by rfl) (by rfl) (by rfl) (by rfl) ?_; intro w3 mp3 F3; rw [Hfy.out, if_pos Option.isSome_some] at mp3; have F3' : Hid (Fr (onB bm) w2 w3) := Lib.hid ((((Fr.refl F0 w2).drew).mono (fun _ _ h => h.elim)).trans F3 (fun _ _ h => h)); have r2 := F3'.out.cell q2 (fun h => m4 (Eq.symm h)); have r3 := F3'.out.cell q3 (fun h => m4 (Eq.symm h)); have r4 := F3'.out.cell q4 (fun h => m3 (Eq.symm h)); replace mp3 := Lib.hid mp3; clear F3))
  all_goals
    have C3 : CL w3 B x s mi bm gb gn gp cb cn cp s BL (NX.set p n) (PV.set n p) := C2.out.fr F3'.out (fun h => m4 (Eq.symm h)) (fun h => m3 (Eq.symm h)) (fun h => m1 (Eq.symm h)) (fun h => m2 (Eq.symm h))
    have fz3 := own_free C3.ob i
    have C4 := C3.setB i b
    obtain ⟨_, t1, _, _, _, _⟩ := six_cells C4.kx
    have fz4 : (w3.setCell ⟨gb, i, none⟩ (.int .i64 b)).frozen? ⟨x, 1, none⟩ = false := by simp [World.frozen?, C4.kx]
    have C5 := C4.setM ((mi : Int) + 1)
    obtain ⟨_, _, v2, _, _, _⟩ := six_cells C5.kx
    have F5 : Fr (on5 x bm gb gn gp) w3 ((w3.setCell ⟨gb, i, none⟩ (.int .i64 b)).setCell ⟨x, 1, none⟩ (.int .i64 ((mi : Int) + 1))) := Fr.setCell (p := ⟨x, 1, none⟩) (Fr.setCell (p := ⟨gb, i, none⟩) (Fr.refl _ _) (fun _ => .inr (.inr (.inl rfl))) _) (fun _ => .inl rfl) _
    have mp5 : Hid (MapV ((w3.setCell ⟨gb, i, none⟩ (.int .i64 b)).setCell ⟨x, 1, none⟩ (.int .i64 ((mi : Int) + 1))) 3 bm (s - 1) (setV f y none)) := Lib.hid (by
      have Fa : Fr (onB gb) w3 (w3.setCell ⟨gb, i, none⟩ (.int .i64 b)) := (Fr.refl _ _).setB i _
      have Fb : Fr (onB x) (w3.setCell ⟨gb, i, none⟩ (.int .i64 b)) ((w3.setCell ⟨gb, i, none⟩ (.int .i64 b)).setCell ⟨x, 1, none⟩ (.int .i64 ((mi : Int) + 1))) := (Fr.refl _ _).setB 1 _
      exact (mp3.out.fr Fa (fun h => m3 h)).fr Fb (fun h => m4 h))
    have Hsb : Hid (setV f y none b = none) := Lib.hid (by rw [setV_other Hne.out]; exact hfb.out)
    have G5 : Hid (Fr (on5 x bm gb gn gp) w ((w3.setCell ⟨gb, i, none⟩ (.int .i64 b)).setCell ⟨x, 1, none⟩ (.int .i64 ((mi : Int) + 1)))) := Lib.hid (((F2'.out.mono (fun k _ h => on5_G h)).trans F3'.out (fun k _ h => .inr (.inl h))).trans F5 (fun _ _ h => h))
    have C5' := Lib.hid C5
    have hs1' : Hid (s - 1 + 1 = s) := Lib.hid (by omega)
    clear C3 C4 C5 F5
    go_wp2_with (first | (refine wpMapStore mp5.out under50 (by omega) (wfI_of (k := b) (by omega) (by omega)) ⟨_, plainElem_int (by kernel_rfl) (wfI_of (k := (i : Int)) (by omega) (by omega))⟩ rfl rfl rfl ?_; intro w6 mp6 F6; rw [Hsb.out, if_neg (by decide), hs1'.out] at mp6; have C6 := Lib.hid (C5'.out.fr F6 (fun h => m4 (Eq.symm h)) (fun h => m3 (Eq.symm h)) (fun h => m1 (Eq.symm h)) (fun h => m2 (Eq.symm h))); have G6 := Lib.hid (G5.out.trans F6 (fun k _ h => .inr (.inl h))); replace mp6 := Lib.hid mp6; clear F6) | (refine (front_R C6.out hi hi0 E3'.out hhi hh (by omega)).mono ?_; rintro e w7 ⟨rfl, C7, F7⟩; replace C7 := Lib.hid C7; replace F7 := Lib.hid F7))
    go_ret2
    unfold TPost
    refine ⟨s, gb, gn, gp, cb, cn, cp, BL.set i b, ((NX.set p n).set i hd).set 0 i, ((PV.set n p).set i 0).set hd i, setV (setV f y none) b (some (.int .i64 (i : Nat))), S', by rw [Ht.out]; rfl, ?_, G6.out.trans F7.out (fun k _ h => on5_G h), fun k hk => .inl hk⟩
    rw [Ht.out]
    exact ⟨C7.out, mp6.out.fr F7.out (fun h => by rcases h with h | h; · exact m1 h
                                                  · exact m2 h), HR.out, H.out.dm, H.out.bb, H.out.hs, H.out.hm1, H.out.hm, touch_mem H.out.hK ⟨hb0, hb1⟩⟩
end Go.Proofs.Ytnlgjpcnnnilpaa
