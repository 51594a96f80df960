/- Buffer trees: a script is played. -/
import Derived.Test.YtkmnnfflibamnaaL4
import Derived.Deep.DeepCutAuto
import Derived.Deep.CutBlock
import Derived.BigQuiet
namespace Go.Proofs.Ytkmnnfflibamnaa
open Go.RowKit
attribute [local go_sem ↓] Go.wp_at_zero Go.wp_at_succ
theorem At.fr0 {w0 w w' : World} {s g c t B M i : Nat} {R : Nat → Nat → Int} (h : At w0 w s g c t B M R i) (F : Fr F0 w w') : At w0 w' s g c t B M R i := by
  obtain ⟨col, T, r, vb, h1, h2, h3⟩ := h
  exact ⟨col, T, r, vb, h1.fr0 F, h2, h3⟩
theorem PM.rb {w0 w : World} {s g c t B M : Nat} {col : Nat → Nat} {T : TV} {r : RT} {rb rb' : List En} {vb vc vr : List Value} (h : PM w0 w s g c t B M col T r rb vb vc vr) (e : rb = rb') : PM w0 w s g c t B M col T r rb' vb vc vr := e ▸ h
theorem UQ.ne {n : Nat} {T : TV} {r : RT} {buf : List En} (h : UQ n T.tt r buf) : ∀ l ∈ lvT T.lv, ∀ x ∈ l, 0 < x.length := by
  obtain ⟨a, h1, _⟩ := h
  exact h1.ne
/-- What a played script leaves. -/
def PlayR (w : World) (b m : Int) (R : Nat → Nat → Int) (n : Nat) (e : Ending) (w' : World) : Prop :=
  (szB b m = false ∧ e = .returned (.tuple #[.pointer none, .agg #[.int .i64 b, .int .i64 m, .int .i64 0, .slice none 0 0, .slice none 0 0], .bool true]) ∧ Fr F0 w w') ∨
  (szB b m = true ∧ ∃ (B M t s g c : Nat) (col : Nat → Nat) (T : TV) (r : RT) (vb vc vr : List Value), b = (B : Int) ∧ m = (M : Int) ∧ e = .returned (.tuple #[.pointer (some ⟨t, 0, none⟩), .agg vr.toArray, .bool true]) ∧ PM w w' s g c t B M col T r T.buf vb vc vr ∧ UQ n T.tt r T.buf ∧ Says (upsR R n) T.tt.lv T.buf)
theorem results_mid {fn : Func} {p u v : Tmp} {tmps : Array Value} {w : World} {g : Nat} {vs : List Value} (h : fn.results = #[.tmp u, .cell p 51, .tmp v]) (hp : tmps.getD p undef = .pointer (some ⟨g, 0, none⟩)) (hg : Blk w g 51 vs) (hl : vs.length = 5) : (results fn tmps).run Try.prog w = .ok (.tuple #[tmps.getD u undef, .agg vs.toArray, tmps.getD v undef]) w := by
  have hp' : tmps[p]?.getD undef = .pointer (some ⟨g, 0, none⟩) := by simpa using hp
  simp [results, h, hp', asAddr, load51 hg hl, Result.andThen]
set_option maxRecDepth 100000 in
theorem play_bad (w : World) {b m : Int} {a : Option Addr} {n c : Nat} {R : Nat → Nat → Int} (h : szB b m = false) : Calls Try.prog 24 #[.int .i64 b, .int .i64 m, .slice a n c] w (PlayR w b m R n) := by
  have HN : Hid (∀ W, Calls Try.prog 12 #[.int .i64 b, .int .i64 m] W fun e w' => e = .returned (.tuple #[.pointer none, .int .i64 2]) ∧ Fr F0 W w') := Lib.hid (fun W => by
    have h1 := New_any b m W
    unfold NewR at h1
    rw [h] at h1
    exact h1.mono (fun e w' h2 => by rw [if_neg (by simp)] at h2; exact h2))
  have HS := Lib.hid (fun W => Sizes_any b m W)
  rw [h] at HS
  have HQ := Lib.hid h
  clear h
  go_enter Try.func24, Try.ntmps24
  have Bc := Blk.new w 51 tcz
  go_upto_region 2 with (go_at_call 12; refine (HN.out _).mono ?_; rintro e w1 ⟨rfl, F1⟩; have X1 := Lib.hid F1; clear F1)
  have Bc1 := Lib.hid (Bc.fr X1.out id)
  have F1 := Lib.hid (((Fr.refl F0 w).alloc (.cells tcz.toArray 51)).trans0 X1.out)
  have hsz := Lib.hid X1.out.size
  clear Bc X1 HN
  go_upto_region 4 with (go_at_call 11; refine (HS.out _).mono ?_; rintro e w2 ⟨rfl, rfl⟩)
  have Bg := Blk.new w1 51 [.int .i64 b, .int .i64 m, .int .i64 0, .slice none 0 0, .slice none 0 0]
  have Bc2 := Bc1.out.alloc (.cells #[.int .i64 b, .int .i64 m, .int .i64 0, .slice none 0 0, .slice none 0 0] 51)
  change Blk (w1.alloc (.cells #[.int .i64 b, .int .i64 m, .int .i64 0, .slice none 0 0, .slice none 0 0] 51)) _ _ _ at Bg
  have F2 := F1.out.alloc (.cells #[.int .i64 b, .int .i64 m, .int .i64 0, .slice none 0 0, .slice none 0 0] 51)
  generalize w1.alloc (.cells #[.int .i64 b, .int .i64 m, .int .i64 0, .slice none 0 0, .slice none 0 0] 51) = W at *
  obtain ⟨g, hg⟩ : ∃ g, g = w1.heap.size := ⟨_, rfl⟩
  rw [← hg] at Bg ⊢
  have y0 := Bg.cell (i := 0) rfl
  have y1 := Bg.cell (i := 1) rfl
  have y2 := Bg.cell (i := 2) rfl
  have y3 := Bg.cell (i := 3) rfl
  have y4 := Bg.cell (i := 4) rfl
  have q0 := Bc2.free
  have z0 := Bc2.cell (i := 0) rfl
  have z1 := Bc2.cell (i := 1) rfl
  have z2 := Bc2.cell (i := 2) rfl
  have z3 := Bc2.cell (i := 3) rfl
  have z4 := Bc2.cell (i := 4) rfl
  have HX := Lib.hid (And.intro Bc2 F2)
  clear Bg Bc2 F2 Bc1 F1 hsz hg
  go_wp2_with fail
  go_region
  go_wp2_with fail
  have Y : Blk (((((W.setCell ⟨w.heap.size, 0, none⟩ (.int .i64 b)).setCell ⟨w.heap.size, 1, none⟩ (.int .i64 m)).setCell ⟨w.heap.size, 2, none⟩ (.int .i64 0)).setCell ⟨w.heap.size, 3, none⟩ (.slice none 0 0)).setCell ⟨w.heap.size, 4, none⟩ (.slice none 0 0)) w.heap.size 51 [.int .i64 b, .int .i64 m, .int .i64 0, .slice none 0 0, .slice none 0 0] := ((((HX.out.1.set 0 _).set 1 _).set 2 _).set 3 _).set 4 _
  refine bodyPost_ret (results_mid rfl rfl Y.drew rfl) rfl ?_
  exact .inl ⟨HQ.out, rfl, (HX.out.2.trans (Fr.set5 W w.heap.size _ _ _ _ _) (fun k hk e => by omega)).drew⟩
set_option maxRecDepth 100000 in
set_option maxHeartbeats 8000000 in
theorem play_any (w : World) {B M : Nat} {a : Option Addr} {n c : Nat} {R : Nat → Nat → Int} (h : szB (B : Int) (M : Int) = true) (hA : ArgSt w a n c [.i64, .i64, .i64] R) (hn : n ≤ 120) : Calls Try.prog 24 #[.int .i64 (B : Int), .int .i64 (M : Int), .slice a n c] w (PlayR w B M R n) := by
  have HN : Hid (∀ W, Calls Try.prog 12 #[.int .i64 (B : Int), .int .i64 (M : Int)] W fun e w' => ∃ t, e = .returned (.tuple #[.pointer (some ⟨t, 0, none⟩), .int .i64 0]) ∧ Blk w' t 77 [.int .i64 (B : Int), .int .i64 (M : Int), .slice none 0 0, .slice none 0 0, .int .i64 0] ∧ W.heap.size ≤ t ∧ Fr F0 W w') := Lib.hid (fun W => by
    have h1 := New_any (B : Int) (M : Int) W
    unfold NewR at h1
    rw [h] at h1
    exact h1.mono (fun e w' h2 => by rw [if_pos rfl] at h2; exact h2))
  have HS := Lib.hid (fun W => Sizes_any (B : Int) (M : Int) W)
  rw [h] at HS
  have HQ := Lib.hid h
  have HA := Lib.hid hA
  clear h hA
  go_enter Try.func24, Try.ntmps24
  have Bc := Blk.new w 51 tcz
  go_upto_region 2 with (go_at_call 12; refine (HN.out _).mono ?_; rintro e w1 ⟨t, rfl, h1, h2, F1⟩; have X1 := Lib.hid (And.intro h1 (And.intro h2 F1)); clear h1 h2 F1)
  have Bc1 := Lib.hid (Bc.fr X1.out.2.2 id)
  have F1 := Lib.hid (((Fr.refl F0 w).alloc (.cells tcz.toArray 51)).trans0 X1.out.2.2)
  have hsz := Lib.hid (And.intro X1.out.2.2.size (And.intro X1.out.2.1 X1.out.1))
  clear Bc X1 HN
  go_upto_region 5 with (go_at_call 11; refine (HS.out _).mono ?_; rintro e w2 ⟨rfl, rfl⟩)
  have h0 : Hid (At w (w1.alloc (.cells #[.int .i64 (B : Int), .int .i64 (M : Int), .int .i64 0, .slice none 0 0, .slice none 0 0] 51)) (w1.heap.size + 1) w1.heap.size w.heap.size t B M R 0) := Lib.hid (by
    obtain ⟨p1, p2, p3⟩ := hsz.out
    have l1 : t < w1.heap.size := p3.lt
    have l2 := Bc1.out.lt
    rw [size_alloc] at p1 p2
    exact ⟨colN t, tvN, ⟨[], 0⟩, _, PM.new (p3.alloc _) ⟨by omega, by omega⟩ (Blk.new w1 51 (tcs B M 0 none 0 0 none 0 0)) (Bc1.out.alloc _) ⟨by omega, by omega, by rw [size_alloc]; omega, Nat.le_refl _, by omega⟩ (F1.out.alloc _), UQ.nil, Says.nil⟩)
  generalize w1.alloc (.cells #[.int .i64 (B : Int), .int .i64 (M : Int), .int .i64 0, .slice none 0 0, .slice none 0 0] 51) = W at *
  obtain ⟨g, hg⟩ : ∃ g, g = w1.heap.size := ⟨_, rfl⟩
  obtain ⟨c9, hc9⟩ : ∃ g, g = w.heap.size := ⟨_, rfl⟩
  rw [← hg, ← hc9] at h0
  rw [← hg, ← hc9]
  clear Bc1 F1 hsz hg hc9 HS
  go_wp2_with fail
  go_loopw [47] (fun s47 wr => ∃ i : Nat, i ≤ n ∧ s47 = .int .i64 (i : Int) ∧ Hid (At w wr (g + 1) g c9 t B M R i)) (fun s47 _ => n - (intOf s47).toNat)
  case atStart => exact ⟨0, Nat.zero_le _, rfl, h0⟩
  case round =>
    obtain ⟨i, hi, rfl, H⟩ := hrel
    obtain ⟨col, T, r, vb, hM, hU, hS⟩ := H.out
    by_cases hlt : i < n
    · have hlt' : (i : Int) < (n : Int) := by omega
      obtain ⟨b, o, rfl, hc⟩ := HA.out.cells (by omega)
      obtain ⟨key, hkey⟩ : ∃ x, x = R i 1 := ⟨_, rfl⟩
      obtain ⟨val, hval⟩ : ∃ x, x = R i 2 := ⟨_, rfl⟩
      obtain ⟨kd, hkd⟩ : ∃ x, x = R i 0 := ⟨_, rfl⟩
      have d0 : wr.cell? ⟨b, o + i * 3, none⟩ = some (.int .i64 kd) := by have := hM.fr.cell (hc i 0 .i64 hlt rfl).1 id; rw [hkd]; simpa using this
      have d1 : wr.cell? ⟨b, o + i * 3 + 1, none⟩ = some (.int .i64 key) := by have := hM.fr.cell (hc i 1 .i64 hlt rfl).1 id; rw [hkey, Nat.add_assoc]; simpa using this
      have d2 : wr.cell? ⟨b, o + i * 3 + 2, none⟩ = some (.int .i64 val) := by have := hM.fr.cell (hc i 2 .i64 hlt rfl).1 id; rw [hval, Nat.add_assoc]; simpa using this
      have hst := Lib.hid (show upsR R (i + 1) = upsR R i ++ stU kd key val by rw [hkd, hkey, hval]; rfl)
      obtain ⟨ba, bc, ra, rn, rc, rfl⟩ := hM.form
      have HM := Lib.hid hM
      have HU := Lib.hid (And.intro hU hS)
      clear hc hkey hval hkd hM hU hS H h0
      go_upto_block 2 with fail
      have HZ : Hid (PM w (wr.alloc (.cells #[.int .i64 kd, .int .i64 key, .int .i64 val] 65)) (g + 1) g c9 t B M col T r T.buf (tcs B M r.bl ba T.buf.length bc ra rn rc) tcz (tcs B M r.bl ba T.buf.length bc ra rn rc) ∧ Blk (wr.alloc (.cells #[.int .i64 kd, .int .i64 key, .int .i64 val] 65)) wr.heap.size 65 [.int .i64 kd, .int .i64 key, .int .i64 val] ∧ col wr.heap.size = 0) := Lib.hid ⟨HM.out.fr0 ((Fr.refl F0 _).alloc _), Blk.new wr 65 [.int .i64 kd, .int .i64 key, .int .i64 val], HM.out.ts.up _ (Nat.le_refl _)⟩
      generalize wr.alloc (.cells #[.int .i64 kd, .int .i64 key, .int .i64 val] 65) = wz at *
      obtain ⟨h, hh⟩ : ∃ h, h = wr.heap.size := ⟨_, rfl⟩
      rw [← hh] at HZ ⊢
      clear hh HM d0 d1 d2
      have x0 := HZ.out.2.1.cell (i := 0) rfl
      have x1 := HZ.out.2.1.cell (i := 1) rfl
      have x2 := HZ.out.2.1.cell (i := 2) rfl
      go_cut [14, 15, 16, 17] (fun s14 s15 s16 s17 wx => ∃ (z v : Int), s14 = .int .i64 z ∧ s15 = .int .i64 z ∧ s16 = .int .i64 v ∧ s17 = .int .i64 v ∧ Hid (At w wx (g + 1) g c9 t B M R (i + 1)))
      case first =>
        have hBM := szB_iff.1 HQ.out
        have hBM : (1 ≤ B ∧ B ≤ 64) ∧ (2 * B ≤ M ∧ M ≤ 1000) := by omega
        have hF2 : 2 ≤ fanN B M := Nat.le_max_left _ _
        obtain ⟨a9, HU9⟩ := HU.out.1
        have HU9 := Lib.hid HU9
        have hkk : kd = 1 ∨ kd = 2 ∨ kd = 3 ∨ kd = 4 ∨ (kd ≠ 1 ∧ kd ≠ 2 ∧ kd ≠ 3 ∧ kd ≠ 4) := by omega
        rcases hkk with rfl | rfl | rfl | rfl | ⟨k1, k2, k3, k4⟩
        · by_cases hk : inK key = true ∧ inK val = true
          · as_aux_lemma =>
            have HP := Lib.hid (Put_any (update_any (key, val, false) HZ.out.1.ts HU9.out.1 (by have := HU9.out.2.2.1; omega) (by omega) (by omega) HU9.out.2.2.2.1 hBM.1 hBM.2 hk.1 hk.2))
            have HUU := Lib.hid (HU.out.1.upd (M := M) hF2 hBM.1.1 (by omega) (key, val, false))
            have HSS := Lib.hid (HU.out.2.upd (B := B) (M := M) hF2 HU9.out.2.2.2.1 (key, val, false))
            have HST : Hid (upsR R (i + 1) = upsR R i ++ [(key, val, false)]) := Lib.hid (by rw [hst.out]; unfold stU; rw [if_pos rfl, if_pos (by rw [hk.1, hk.2]; rfl)])
            clear hst
            go_wp2_with fail
            refine HP.out.mono ?_
            rintro e w2 ⟨rfl, col', T', u1, u2, u3⟩
            have X3 := Lib.hid (HZ.out.1.prog u1 u3)
            have y0 := X3.out.mb.cell (i := 0) rfl
            have y1 := X3.out.mb.cell (i := 1) rfl
            have y2 := X3.out.mb.cell (i := 2) rfl
            have y3 := X3.out.mb.cell (i := 3) rfl
            have y4 := X3.out.mb.cell (i := 4) rfl
            have hb2 := HZ.out.2.1.fr u3.fr (fun hn => hn HZ.out.2.2)
            have x0 := hb2.cell (i := 0) rfl
            have x1 := hb2.cell (i := 1) rfl
            have x2 := hb2.cell (i := 2) rfl
            have u4 := congrArg Prod.snd u2
            replace u2 := congrArg Prod.fst u2
            dsimp only at u2 u4
            have HE := Lib.hid (And.intro u2 u4)
            have HR := Lib.hid (rupd_any X3.out.tr (fun k hk => hk.2.1) hBM.1 hBM.2 HU9.out.2.1 (by have := HU9.out.2.2.1; omega) (by omega) (by omega) (key, val, false) hk.1 hk.2)
            clear u1 u2 u3 u4 hb2 HP
            go_wp2_with fail
            refine HR.out.mono ?_
            rintro e w3 ⟨v', rfl, hT, F3⟩
            obtain ⟨ba', bc', ra', rn', rc', rfl⟩ := hT.form
            have X5 := Lib.hid (X3.out.ref hT F3)
            have q0 := X5.out.mb.free
            have y0 := X5.out.mb.cell (i := 0) rfl
            have y1 := X5.out.mb.cell (i := 1) rfl
            have y2 := X5.out.mb.cell (i := 2) rfl
            have y3 := X5.out.mb.cell (i := 3) rfl
            have y4 := X5.out.mb.cell (i := 4) rfl
            clear hT F3 HR
            have UQ5 : Hid (UQ (i + 1) T'.tt (updR B (fanN B M) M r T.buf (key, val, false)).1 T'.buf) := Lib.hid (by rw [HE.out.1, HE.out.2]; exact HUU.out.1)
            go_wp2_with fail
            go_meet
            exact ⟨0, 0, rfl, rfl, rfl, rfl, Lib.hid ⟨_, T', _, _, (X5.out.rb (by rw [HE.out.2]; exact HUU.out.2.symm)).store (fun i u => nobool i u) (UQ.ne UQ5.out) (Fr.set5 _ _ _ _ _ _ _) (((((X5.out.mb.set 0 _).set 1 _).set 2 _).set 3 _).set 4 _), UQ5.out, by rw [HST.out, HE.out.1, HE.out.2]; exact HSS.out⟩⟩
          · have hk : inK key = false ∨ inK val = false := by
              rcases hkk : inK key with _ | _
              · exact .inl rfl
              · exact .inr (by rw [hkk] at hk; simpa using hk)
            revert hk
            intro hk
            as_aux_lemma =>
            have HP := Lib.hid (Put_any (update_bad (w := wz) (t := t) (key, val, false) hk))
            have HST : Hid (upsR R (i + 1) = upsR R i) := Lib.hid (by rw [hst.out]; unfold stU; rw [if_pos rfl, if_neg (by rcases hk with e | e <;> rw [e] <;> simp), List.append_nil])
            clear hst
            go_wp2_with fail
            refine HP.out.mono ?_
            rintro e w2 ⟨rfl, u3⟩
            have X3 := Lib.hid (HZ.out.1.fr0 u3)
            have y0 := X3.out.mb.cell (i := 0) rfl
            have y1 := X3.out.mb.cell (i := 1) rfl
            have y2 := X3.out.mb.cell (i := 2) rfl
            have y3 := X3.out.mb.cell (i := 3) rfl
            have y4 := X3.out.mb.cell (i := 4) rfl
            have hb2 := HZ.out.2.1.fr u3 id
            have x0 := hb2.cell (i := 0) rfl
            have x1 := hb2.cell (i := 1) rfl
            have x2 := hb2.cell (i := 2) rfl
            have HR := Lib.hid (rupd_bad X3.out.tr (fun k hk => hk.2.1) (key, val, false) hk)
            clear u3 hb2 HP
            go_wp2_with fail
            refine HR.out.mono ?_
            rintro e w3 ⟨v', rfl, hT, F3⟩
            obtain ⟨ba', bc', ra', rn', rc', rfl⟩ := hT.form
            have X5 := Lib.hid (X3.out.ref hT F3)
            have q0 := X5.out.mb.free
            have y0 := X5.out.mb.cell (i := 0) rfl
            have y1 := X5.out.mb.cell (i := 1) rfl
            have y2 := X5.out.mb.cell (i := 2) rfl
            have y3 := X5.out.mb.cell (i := 3) rfl
            have y4 := X5.out.mb.cell (i := 4) rfl
            clear hT F3 HR
            go_wp2_with fail
            go_meet
            exact ⟨2, 0, rfl, rfl, rfl, rfl, Lib.hid ⟨_, T, _, _, (X5.out.rb rfl).store (fun i u => nobool i u) (UQ.ne HU.out.1.succ) (Fr.set5 _ _ _ _ _ _ _) (((((X5.out.mb.set 0 _).set 1 _).set 2 _).set 3 _).set 4 _), HU.out.1.succ, by rw [HST.out]; exact HU.out.2⟩⟩
        · by_cases hk : inK key = true
          · as_aux_lemma =>
            have HP := Lib.hid (Remove_any (update_any (key, 0, true) HZ.out.1.ts HU9.out.1 (by have := HU9.out.2.2.1; omega) (by omega) (by omega) HU9.out.2.2.2.1 hBM.1 hBM.2 hk rfl))
            have HUU := Lib.hid (HU.out.1.upd (M := M) hF2 hBM.1.1 (by omega) (key, 0, true))
            have HSS := Lib.hid (HU.out.2.upd (B := B) (M := M) hF2 HU9.out.2.2.2.1 (key, 0, true))
            have HST : Hid (upsR R (i + 1) = upsR R i ++ [(key, 0, true)]) := Lib.hid (by rw [hst.out]; unfold stU; rw [if_neg (by decide), if_pos rfl, if_pos hk])
            clear hst
            go_wp2_with fail
            refine HP.out.mono ?_
            rintro e w2 ⟨rfl, col', T', u1, u2, u3⟩
            have X3 := Lib.hid (HZ.out.1.prog u1 u3)
            have y0 := X3.out.mb.cell (i := 0) rfl
            have y1 := X3.out.mb.cell (i := 1) rfl
            have y2 := X3.out.mb.cell (i := 2) rfl
            have y3 := X3.out.mb.cell (i := 3) rfl
            have y4 := X3.out.mb.cell (i := 4) rfl
            have hb2 := HZ.out.2.1.fr u3.fr (fun hn => hn HZ.out.2.2)
            have x0 := hb2.cell (i := 0) rfl
            have x1 := hb2.cell (i := 1) rfl
            have x2 := hb2.cell (i := 2) rfl
            have u4 := congrArg Prod.snd u2
            replace u2 := congrArg Prod.fst u2
            dsimp only at u2 u4
            have HE := Lib.hid (And.intro u2 u4)
            have HR := Lib.hid (rupd_any X3.out.tr (fun k hk => hk.2.1) hBM.1 hBM.2 HU9.out.2.1 (by have := HU9.out.2.2.1; omega) (by omega) (by omega) (key, 0, true) hk rfl)
            clear u1 u2 u3 u4 hb2 HP
            go_wp2_with fail
            refine HR.out.mono ?_
            rintro e w3 ⟨v', rfl, hT, F3⟩
            obtain ⟨ba', bc', ra', rn', rc', rfl⟩ := hT.form
            have X5 := Lib.hid (X3.out.ref hT F3)
            have q0 := X5.out.mb.free
            have y0 := X5.out.mb.cell (i := 0) rfl
            have y1 := X5.out.mb.cell (i := 1) rfl
            have y2 := X5.out.mb.cell (i := 2) rfl
            have y3 := X5.out.mb.cell (i := 3) rfl
            have y4 := X5.out.mb.cell (i := 4) rfl
            clear hT F3 HR
            have UQ5 : Hid (UQ (i + 1) T'.tt (updR B (fanN B M) M r T.buf (key, 0, true)).1 T'.buf) := Lib.hid (by rw [HE.out.1, HE.out.2]; exact HUU.out.1)
            go_wp2_with fail
            go_meet
            exact ⟨0, 0, rfl, rfl, rfl, rfl, Lib.hid ⟨_, T', _, _, (X5.out.rb (by rw [HE.out.2]; exact HUU.out.2.symm)).store (fun i u => nobool i u) (UQ.ne UQ5.out) (Fr.set5 _ _ _ _ _ _ _) (((((X5.out.mb.set 0 _).set 1 _).set 2 _).set 3 _).set 4 _), UQ5.out, by rw [HST.out, HE.out.1, HE.out.2]; exact HSS.out⟩⟩
          · have hk : inK key = false := by simpa using hk
            as_aux_lemma =>
            have HP := Lib.hid (Remove_any (update_bad (w := wz) (t := t) (key, 0, true) (.inl hk)))
            have HST : Hid (upsR R (i + 1) = upsR R i) := Lib.hid (by rw [hst.out]; unfold stU; rw [if_neg (by decide), if_pos rfl, if_neg (by rw [hk]; simp), List.append_nil])
            clear hst
            go_wp2_with fail
            refine HP.out.mono ?_
            rintro e w2 ⟨rfl, u3⟩
            have X3 := Lib.hid (HZ.out.1.fr0 u3)
            have y0 := X3.out.mb.cell (i := 0) rfl
            have y1 := X3.out.mb.cell (i := 1) rfl
            have y2 := X3.out.mb.cell (i := 2) rfl
            have y3 := X3.out.mb.cell (i := 3) rfl
            have y4 := X3.out.mb.cell (i := 4) rfl
            have hb2 := HZ.out.2.1.fr u3 id
            have x0 := hb2.cell (i := 0) rfl
            have x1 := hb2.cell (i := 1) rfl
            have x2 := hb2.cell (i := 2) rfl
            have HR := Lib.hid (rupd_bad X3.out.tr (fun k hk => hk.2.1) (key, 0, true) (.inl hk))
            clear u3 hb2 HP
            go_wp2_with fail
            refine HR.out.mono ?_
            rintro e w3 ⟨v', rfl, hT, F3⟩
            obtain ⟨ba', bc', ra', rn', rc', rfl⟩ := hT.form
            have X5 := Lib.hid (X3.out.ref hT F3)
            have q0 := X5.out.mb.free
            have y0 := X5.out.mb.cell (i := 0) rfl
            have y1 := X5.out.mb.cell (i := 1) rfl
            have y2 := X5.out.mb.cell (i := 2) rfl
            have y3 := X5.out.mb.cell (i := 3) rfl
            have y4 := X5.out.mb.cell (i := 4) rfl
            clear hT F3 HR
            go_wp2_with fail
            go_meet
            exact ⟨2, 0, rfl, rfl, rfl, rfl, Lib.hid ⟨_, T, _, _, (X5.out.rb rfl).store (fun i u => nobool i u) (UQ.ne HU.out.1.succ) (Fr.set5 _ _ _ _ _ _ _) (((((X5.out.mb.set 0 _).set 1 _).set 2 _).set 3 _).set 4 _), HU.out.1.succ, by rw [HST.out]; exact HU.out.2⟩⟩
        · by_cases hk : inK key = true
          · as_aux_lemma =>
            have HP := Lib.hid (Get_any key HZ.out.1.ts HU9.out.1 (by have := HU9.out.2.2.1; omega) (by omega) (by omega) HU9.out.2.2.2.1 hk)
            have HUU := Lib.hid (HU.out.1.get (by omega) key)
            have HST : Hid (upsR R (i + 1) = upsR R i) := Lib.hid (by rw [hst.out]; unfold stU; rw [if_neg (by decide), if_neg (by decide), List.append_nil])
            clear hst
            go_wp2_with fail
            refine HP.out.mono ?_
            rintro e w2 ⟨m', v1, e1, rfl, u2, u1, u3⟩
            have X3 := Lib.hid (HZ.out.1.prog u1 u3)
            have y0 := X3.out.mb.cell (i := 0) rfl
            have y1 := X3.out.mb.cell (i := 1) rfl
            have y2 := X3.out.mb.cell (i := 2) rfl
            have y3 := X3.out.mb.cell (i := 3) rfl
            have y4 := X3.out.mb.cell (i := 4) rfl
            have hb2 := HZ.out.2.1.fr u3.fr (fun hn => hn HZ.out.2.2)
            have x0 := hb2.cell (i := 0) rfl
            have x1 := hb2.cell (i := 1) rfl
            have x2 := hb2.cell (i := 2) rfl
            have u4 := congrArg Prod.snd u2
            replace u2 := congrArg Prod.fst u2
            dsimp only at u2 u4
            have HE := Lib.hid (And.intro u2 (u4.trans HUU.out.2))
            have HR := Lib.hid (rget_any X3.out.tr (fun k hk => hk.2.1) HU9.out.2.1 (by have := HU9.out.2.2.1; omega) (by omega) (by omega) key hk)
            clear u1 u2 u3 u4 hb2 HP
            go_wp2_with fail
            refine HR.out.mono ?_
            rintro e w3 ⟨v', rfl, hT, F3⟩
            obtain ⟨ba', bc', ra', rn', rc', rfl⟩ := hT.form
            have X5 := Lib.hid (X3.out.ref (hT.mono (fun k hk => .inl hk)) F3)
            have q0 := X5.out.mb.free
            have y0 := X5.out.mb.cell (i := 0) rfl
            have y1 := X5.out.mb.cell (i := 1) rfl
            have y2 := X5.out.mb.cell (i := 2) rfl
            have y3 := X5.out.mb.cell (i := 3) rfl
            have y4 := X5.out.mb.cell (i := 4) rfl
            clear hT F3 HR
            have UQ5 : Hid (UQ (i + 1) ({ T with mv := m' } : TV).tt (getR r T.buf key).1 T.buf) := Lib.hid (by
              have e9 : ({ T with mv := m' } : TV).tt = (getT T.tt T.buf key).1 := HE.out.1
              rw [e9]; exact HUU.out.1)
            go_wp2_with fail
            go_meet
            exact ⟨e1, v1, rfl, by rw [← HE.out.2], rfl, by rw [← HE.out.2], Lib.hid ⟨_, { T with mv := m' }, _, _, (X5.out.rb rfl).store (fun i u => nobool i u) (UQ.ne UQ5.out) (Fr.set5 _ _ _ _ _ _ _) (((((X5.out.mb.set 0 _).set 1 _).set 2 _).set 3 _).set 4 _), UQ5.out, by rw [HST.out]; exact HU.out.2⟩⟩
          · as_aux_lemma =>
            have hk : inK key = false := by simpa using hk
            have HP := Lib.hid (fun W => Get_bad (t := t) key W hk)
            have HST : Hid (upsR R (i + 1) = upsR R i) := Lib.hid (by rw [hst.out]; unfold stU; rw [if_neg (by decide), if_neg (by decide), List.append_nil])
            clear hst
            go_wp2_with fail
            refine (HP.out _).mono ?_
            rintro e w2 ⟨rfl, u3⟩
            have X3 := Lib.hid (HZ.out.1.fr0 u3)
            have y0 := X3.out.mb.cell (i := 0) rfl
            have y1 := X3.out.mb.cell (i := 1) rfl
            have y2 := X3.out.mb.cell (i := 2) rfl
            have y3 := X3.out.mb.cell (i := 3) rfl
            have y4 := X3.out.mb.cell (i := 4) rfl
            have hb2 := HZ.out.2.1.fr u3 id
            have x0 := hb2.cell (i := 0) rfl
            have x1 := hb2.cell (i := 1) rfl
            have x2 := hb2.cell (i := 2) rfl
            have HR := Lib.hid (rget_bad X3.out.tr (fun k hk => hk.2.1) key hk)
            clear u3 hb2 HP
            go_wp2_with fail
            refine HR.out.mono ?_
            rintro e w3 ⟨v', rfl, hT, F3⟩
            obtain ⟨ba', bc', ra', rn', rc', rfl⟩ := hT.form
            have X5 := Lib.hid (X3.out.ref (hT.mono (fun k hk => .inl hk)) F3)
            have q0 := X5.out.mb.free
            have y0 := X5.out.mb.cell (i := 0) rfl
            have y1 := X5.out.mb.cell (i := 1) rfl
            have y2 := X5.out.mb.cell (i := 2) rfl
            have y3 := X5.out.mb.cell (i := 3) rfl
            have y4 := X5.out.mb.cell (i := 4) rfl
            clear hT F3 HR
            go_wp2_with fail
            go_meet
            exact ⟨2, 0, rfl, rfl, rfl, rfl, Lib.hid ⟨_, T, _, _, (X5.out.rb rfl).store (fun i u => nobool i u) (UQ.ne HU.out.1.succ) (Fr.set5 _ _ _ _ _ _ _) (((((X5.out.mb.set 0 _).set 1 _).set 2 _).set 3 _).set 4 _), HU.out.1.succ, by rw [HST.out]; exact HU.out.2⟩⟩
        · as_aux_lemma =>
            have HP := Lib.hid (Flush_any HZ.out.1.ts HU9.out.1 (by have := HU9.out.2.2.1; omega) (by omega) (by omega) HU9.out.2.2.2.1 hBM.1 hBM.2)
            have HST : Hid (upsR R (i + 1) = upsR R i) := Lib.hid (by rw [hst.out]; unfold stU; rw [if_neg (by decide), if_neg (by decide), List.append_nil])
            clear hst
            go_wp2_with fail
            refine HP.out.mono ?_
            rintro e w2 ⟨rfl, col', T', k9, u1, u2, u5, u6, u3⟩
            have X3 := Lib.hid (HZ.out.1.prog u1 u3)
            have y0 := X3.out.mb.cell (i := 0) rfl
            have y1 := X3.out.mb.cell (i := 1) rfl
            have y2 := X3.out.mb.cell (i := 2) rfl
            have y3 := X3.out.mb.cell (i := 3) rfl
            have y4 := X3.out.mb.cell (i := 4) rfl
            have hb2 := HZ.out.2.1.fr u3.fr (fun hn => hn HZ.out.2.2)
            have x0 := hb2.cell (i := 0) rfl
            have x1 := hb2.cell (i := 1) rfl
            have x2 := hb2.cell (i := 2) rfl
            have HUU := Lib.hid (HU.out.1.flush hF2 hBM.1.1 (by omega) u5)
            have HSS := Lib.hid ((HU.out.2.fsp (B := B) (F := fanN B M) hF2).flush (B := B) k9)
            have HE := Lib.hid (And.intro u6 u2)
            have HR := Lib.hid (rflush_any X3.out.tr (fun k hk => hk.2.1) hBM.1 hBM.2 HU9.out.2.1 (by have := HU9.out.2.2.1; omega) (by omega) (by omega))
            clear u1 u2 u3 u5 u6 hb2 HP
            go_wp2_with fail
            refine HR.out.mono ?_
            rintro e w3 ⟨v', rfl, hT, F3⟩
            obtain ⟨ba', bc', ra', rn', rc', rfl⟩ := hT.form
            have X5 := Lib.hid (X3.out.ref hT F3)
            have q0 := X5.out.mb.free
            have y0 := X5.out.mb.cell (i := 0) rfl
            have y1 := X5.out.mb.cell (i := 1) rfl
            have y2 := X5.out.mb.cell (i := 2) rfl
            have y3 := X5.out.mb.cell (i := 3) rfl
            have y4 := X5.out.mb.cell (i := 4) rfl
            clear hT F3 HR
            have UQ5 : Hid (UQ (i + 1) T'.tt (flushR B (fspR B (fanN B M) r T.buf)) T'.buf) := Lib.hid (by rw [HE.out.1, HE.out.2]; exact HUU.out)
            go_wp2_with fail
            go_meet
            exact ⟨0, 0, rfl, rfl, rfl, rfl, Lib.hid ⟨_, T', _, _, (X5.out.rb HE.out.2.symm).store (fun i u => nobool i u) (UQ.ne UQ5.out) (Fr.set5 _ _ _ _ _ _ _) (((((X5.out.mb.set 0 _).set 1 _).set 2 _).set 3 _).set 4 _), UQ5.out, by rw [HST.out, HE.out.1, HE.out.2]; exact HSS.out⟩⟩
        · as_aux_lemma =>
            have HST : Hid (upsR R (i + 1) = upsR R i) := Lib.hid (by rw [hst.out]; unfold stU; rw [if_neg k1, if_neg k2, List.append_nil])
            clear hst
            go_wp2_with fail
            go_meet
            exact ⟨0, 0, rfl, rfl, rfl, rfl, Lib.hid ⟨_, T, r, _, HZ.out.1, HU.out.1.succ, by rw [HST.out]; exact HU.out.2⟩⟩
      case rest =>
       as_aux_lemma =>
        obtain ⟨z, v, rfl, rfl, rfl, rfl, HC⟩ := hcut
        obtain ⟨col2, T2, r2, vb2, hM2, hU2, hS2⟩ := HC.out
        obtain ⟨ba2, bc2, ra2, rn2, rc2, rfl⟩ := hM2.form
        obtain ⟨a9, p1, p2, p3, p4, p5⟩ := hU2
        have hsm := PI.small rfl p1
        have emv : r2.bl = T2.mv := p5.mv.symm
        rw [emv] at hM2
        obtain ⟨w5, hw5⟩ : ∃ wz, wz = wc.drew := ⟨_, rfl⟩
        have F5 : Fr F0 wc w5 := by rw [hw5]; exact (Fr.refl F0 _).drew
        have hM5 := hM2.fr0 F5
        have HBl := Lib.hid (Blocks_any hM5.ts)
        have HBu := Lib.hid (Buffered_any hM5.ts)
        obtain ⟨hh, hhd⟩ : ∃ z, z = high r2.rs + 1 := ⟨_, rfl⟩
        have HHe : Hid (Calls Try.prog 32 #[.pointer (some ⟨t, 0, none⟩)] w5 fun e w' => e = .returned (.int .i64 hh) ∧ w5 = w') := Lib.hid ((Height_any hM5.ts (by have := hsm.1; omega)).mono (by rintro e w' ⟨k, rfl, hk, rfl⟩; exact ⟨by rw [hhd, ← p5.isH hk], rfl⟩))
        have HRh := Lib.hid (rheight_any hM5.tr p2 (by omega))
        rw [← hhd] at HRh
        obtain ⟨mv, hmv⟩ : ∃ z, z = T2.mv := ⟨_, rfl⟩
        obtain ⟨nb, hnb⟩ : ∃ z, z = T2.buf.length := ⟨_, rfl⟩
        rw [← hmv] at HBl
        rw [← hnb] at HBu
        rw [← hmv, ← hnb] at HRh hM2 hM5
        have hB5 := hM5.mb
        have hBc := hM2.mb
        have HB5 := Lib.hid hB5
        have HA5 := Lib.hid (HC.out.fr0 F5)
        clear F5 hM2 hM5 p1 p2 p3 p4 p5 hsm emv hhd hmv hnb hS2 HC
        go_upto_region 24 with fail
        refine wp_region_held_drew (S := (fun w' : World => Blk w' g 51 (tcs B M mv ba2 nb bc2 ra2 rn2 rc2))) (by kernel_rfl) (hBc) (fun hHeld => ?_)
        change wpAnyH _ _ _ _ _ _ _ _ wc.drew
        rw [← hw5]
        clear hw5 hBc
        have hHeld : (fun w' : World => Blk w' g 51 (tcs B M mv ba2 nb bc2 ra2 rn2 rc2)) w5 := hB5
        refine wpAnyH_take (i := 0) (v := ?_) (by simp only [List.getElem?_toArray, List.getElem?_cons_zero] <;> rfl) (by kernel_rfl) (by kernel_rfl) (by kernel_rfl) (by exact fun _ _ _ h => h) (Or.inl ⟨by rfl, ?_⟩) (by assumption) ?_
        rotate_left
        · intro w hSw
          try dsimp only at hSw
          go_simp <;> with_reducible rfl
        (try simp only [Act.put, List.setIfInBounds_toArray, List.set_cons_zero, List.set_cons_succ])
        refine wpAnyH_take (i := 1) (v := ?_) (by simp only [List.getElem?_toArray, List.getElem?_cons_succ, List.getElem?_cons_zero] <;> rfl) (by kernel_rfl) (by kernel_rfl) (by kernel_rfl) (by exact fun _ _ _ h => h) (Or.inl ⟨by rfl, ?_⟩) (by assumption) ?_
        rotate_left
        · intro w hSw
          try dsimp only at hSw
          go_simp <;> with_reducible rfl
        (try simp only [Act.put, List.setIfInBounds_toArray, List.set_cons_zero, List.set_cons_succ])
        refine wpAnyH_take (i := 2) (v := ?_) (by simp only [List.getElem?_toArray, List.getElem?_cons_succ, List.getElem?_cons_zero] <;> rfl) (by kernel_rfl) (by kernel_rfl) (by kernel_rfl) (by exact fun _ _ _ h => h) (Or.inl ⟨by rfl, ?_⟩) (by assumption) ?_
        rotate_left
        · intro w hSw
          try dsimp only at hSw
          go_simp <;> with_reducible rfl
        (try simp only [Act.put, List.setIfInBounds_toArray, List.set_cons_zero, List.set_cons_succ])
        refine wpAnyH_take (i := 3) (v := ?_) (by simp only [List.getElem?_toArray, List.getElem?_cons_succ, List.getElem?_cons_zero] <;> rfl) (by kernel_rfl) (by kernel_rfl) (by kernel_rfl) (by exact fun _ _ _ h => h) (Or.inl ⟨by rfl, ?_⟩) (by assumption) ?_
        rotate_left
        · intro w hSw
          try dsimp only at hSw
          go_simp <;> with_reducible rfl
        (try simp only [Act.put, List.setIfInBounds_toArray, List.set_cons_zero, List.set_cons_succ])
        refine wpAnyH_take (i := 4) (v := ?_) (by simp only [List.getElem?_toArray, List.getElem?_cons_succ, List.getElem?_cons_zero] <;> rfl) (by kernel_rfl) (by kernel_rfl) (by kernel_rfl) (by exact fun _ _ _ h => h) (Or.inl ⟨by rfl, ?_⟩) (by assumption) ?_
        rotate_left
        · intro w hSw
          try dsimp only at hSw
          go_simp <;> with_reducible rfl
        (try simp only [Act.put, List.setIfInBounds_toArray, List.set_cons_zero, List.set_cons_succ])
        refine wpAnyH_take (i := 5) (v := ?_) (by simp only [List.getElem?_toArray, List.getElem?_cons_succ, List.getElem?_cons_zero] <;> rfl) (by kernel_rfl) (by kernel_rfl) (by kernel_rfl) (by exact fun _ _ _ h => h) (Or.inl ⟨by rfl, ?_⟩) (by assumption) ?_
        rotate_left
        · intro w hSw
          try dsimp only at hSw
          go_simp <;> with_reducible rfl
        (try simp only [Act.put, List.setIfInBounds_toArray, List.set_cons_zero, List.set_cons_succ])
        refine wpAnyH_take (i := 6) (v := ?_) (by simp only [List.getElem?_toArray, List.getElem?_cons_succ, List.getElem?_cons_zero] <;> rfl) (by kernel_rfl) (by kernel_rfl) (by kernel_rfl) (by exact fun _ _ _ h => h) (Or.inl ⟨by rfl, ?_⟩) (by assumption) ?_
        rotate_left
        · intro w hSw
          try dsimp only at hSw
          go_simp <;> with_reducible rfl
        (try simp only [Act.put, List.setIfInBounds_toArray, List.set_cons_zero, List.set_cons_succ])
        refine wpAnyH_take (i := 7) (v := ?_) (by simp only [List.getElem?_toArray, List.getElem?_cons_succ, List.getElem?_cons_zero] <;> rfl) (by kernel_rfl) (by kernel_rfl) (by kernel_rfl) (by exact fun _ _ _ h => h) (Or.inl ⟨by rfl, ?_⟩) (by assumption) ?_
        rotate_left
        · intro w hSw
          try dsimp only at hSw
          go_simp <;> with_reducible rfl
        (try simp only [Act.put, List.setIfInBounds_toArray, List.set_cons_zero, List.set_cons_succ])
        refine wpAnyH_take (i := 8) (v := ?_) (by simp only [List.getElem?_toArray, List.getElem?_cons_succ, List.getElem?_cons_zero] <;> rfl) (by kernel_rfl) (by kernel_rfl) (by kernel_rfl) (by exact fun _ _ _ h => h) (Or.inl ⟨by rfl, ?_⟩) (by assumption) ?_
        rotate_left
        · intro w hSw
          try dsimp only at hSw
          go_simp <;> with_reducible rfl
        (try simp only [Act.put, List.setIfInBounds_toArray, List.set_cons_zero, List.set_cons_succ])
        refine wpAnyH_take (i := 9) (v := ?_) (by simp only [List.getElem?_toArray, List.getElem?_cons_succ, List.getElem?_cons_zero] <;> rfl) (by kernel_rfl) (by kernel_rfl) (by kernel_rfl) (by exact fun _ _ _ h => h) (Or.inl ⟨by rfl, ?_⟩) (by assumption) ?_
        rotate_left
        · intro w hSw
          try dsimp only at hSw
          go_simp <;> with_reducible rfl
        (try simp only [Act.put, List.setIfInBounds_toArray, List.set_cons_zero, List.set_cons_succ])
        refine wpAnyH_take (i := 11) (v := ?_) (by simp only [List.getElem?_toArray, List.getElem?_cons_succ, List.getElem?_cons_zero] <;> rfl) (by kernel_rfl) (by kernel_rfl) (by kernel_rfl) (by exact fun _ _ _ h => h) (Or.inl ⟨by rfl, ?_⟩) (by assumption) ?_
        rotate_left
        · intro w hSw
          try dsimp only at hSw
          go_simp <;> with_reducible rfl
        (try simp only [Act.put, List.setIfInBounds_toArray, List.set_cons_zero, List.set_cons_succ])
        refine wpAnyH_take (i := 12) (v := ?_) (by simp only [List.getElem?_toArray, List.getElem?_cons_succ, List.getElem?_cons_zero] <;> rfl) (by kernel_rfl) (by kernel_rfl) (by kernel_rfl) (by exact fun _ _ _ h => h) (Or.inl ⟨by rfl, ?_⟩) (by assumption) ?_
        rotate_left
        · intro w hSw
          try dsimp only at hSw
          have e0 := hSw.cell (i := 0) rfl; have e1 := hSw.cell (i := 1) rfl; have e2 := hSw.cell (i := 2) rfl; have e3 := hSw.cell (i := 3) rfl; have e4 := hSw.cell (i := 4) rfl; go_simp <;> with_reducible rfl
        (try simp only [Act.put, List.setIfInBounds_toArray, List.set_cons_zero, List.set_cons_succ])
        refine wpAnyH_ready (rs := [10]) (by kernel_rfl) (by simp) ?_
        refine AllReadyH.cons (by simp only [List.getElem?_toArray, List.getElem?_cons_succ, List.getElem?_cons_zero] <;> rfl) (fun KK hKK => ?_) AllReadyH.nil
        go_simp
        refine HBl.out.mono ?_
        rintro e w' ⟨rfl, rfl⟩
        refine hKK.out _ _ (hB5) (fun hHeld => ?_)
        clear hKK KK
        (try simp only [Act.put, List.setIfInBounds_toArray, List.set_cons_zero, List.set_cons_succ])
        refine wpAnyH_take (i := 13) (v := ?_) (by simp only [List.getElem?_toArray, List.getElem?_cons_succ, List.getElem?_cons_zero] <;> rfl) (by kernel_rfl) (by kernel_rfl) (by kernel_rfl) (by exact fun _ _ _ h => h) (Or.inl ⟨by rfl, ?_⟩) (by assumption) ?_
        rotate_left
        · intro w hSw
          try dsimp only at hSw
          go_simp <;> with_reducible rfl
        (try simp only [Act.put, List.setIfInBounds_toArray, List.set_cons_zero, List.set_cons_succ])
        refine wpAnyH_take (i := 14) (v := ?_) (by simp only [List.getElem?_toArray, List.getElem?_cons_succ, List.getElem?_cons_zero] <;> rfl) (by kernel_rfl) (by kernel_rfl) (by kernel_rfl) (by exact fun _ _ _ h => h) (Or.inl ⟨by rfl, ?_⟩) (by assumption) ?_
        rotate_left
        · intro w hSw
          try dsimp only at hSw
          go_simp <;> with_reducible rfl
        (try simp only [Act.put, List.setIfInBounds_toArray, List.set_cons_zero, List.set_cons_succ])
        refine wpAnyH_take (i := 15) (v := ?_) (by simp only [List.getElem?_toArray, List.getElem?_cons_succ, List.getElem?_cons_zero] <;> rfl) (by kernel_rfl) (by kernel_rfl) (by kernel_rfl) (by exact fun _ _ _ h => h) (Or.inl ⟨by rfl, ?_⟩) (by assumption) ?_
        rotate_left
        · intro w hSw
          try dsimp only at hSw
          go_simp <;> with_reducible rfl
        (try simp only [Act.put, List.setIfInBounds_toArray, List.set_cons_zero, List.set_cons_succ])
        refine wpAnyH_take (i := 16) (v := ?_) (by simp only [List.getElem?_toArray, List.getElem?_cons_succ, List.getElem?_cons_zero] <;> rfl) (by kernel_rfl) (by kernel_rfl) (by kernel_rfl) (by exact fun _ _ _ h => h) (Or.inl ⟨by rfl, ?_⟩) (by assumption) ?_
        rotate_left
        · intro w hSw
          try dsimp only at hSw
          go_simp <;> with_reducible rfl
        (try simp only [Act.put, List.setIfInBounds_toArray, List.set_cons_zero, List.set_cons_succ])
        refine wpAnyH_take (i := 18) (v := ?_) (by simp only [List.getElem?_toArray, List.getElem?_cons_succ, List.getElem?_cons_zero] <;> rfl) (by kernel_rfl) (by kernel_rfl) (by kernel_rfl) (by exact fun _ _ _ h => h) (Or.inl ⟨by rfl, ?_⟩) (by assumption) ?_
        rotate_left
        · intro w hSw
          try dsimp only at hSw
          go_simp <;> with_reducible rfl
        (try simp only [Act.put, List.setIfInBounds_toArray, List.set_cons_zero, List.set_cons_succ])
        refine wpAnyH_take (i := 19) (v := ?_) (by simp only [List.getElem?_toArray, List.getElem?_cons_succ, List.getElem?_cons_zero] <;> rfl) (by kernel_rfl) (by kernel_rfl) (by kernel_rfl) (by exact fun _ _ _ h => h) (Or.inl ⟨by rfl, ?_⟩) (by assumption) ?_
        rotate_left
        · intro w hSw
          try dsimp only at hSw
          have e0 := hSw.cell (i := 0) rfl; have e1 := hSw.cell (i := 1) rfl; have e2 := hSw.cell (i := 2) rfl; have e3 := hSw.cell (i := 3) rfl; have e4 := hSw.cell (i := 4) rfl; go_simp <;> with_reducible rfl
        (try simp only [Act.put, List.setIfInBounds_toArray, List.set_cons_zero, List.set_cons_succ])
        refine wpAnyH_take (i := 20) (v := ?_) (by simp only [List.getElem?_toArray, List.getElem?_cons_succ, List.getElem?_cons_zero] <;> rfl) (by kernel_rfl) (by kernel_rfl) (by kernel_rfl) (by exact fun _ _ _ h => h) (Or.inl ⟨by rfl, ?_⟩) (by assumption) ?_
        rotate_left
        · intro w hSw
          try dsimp only at hSw
          go_simp <;> with_reducible rfl
        (try simp only [Act.put, List.setIfInBounds_toArray, List.set_cons_zero, List.set_cons_succ])
        refine wpAnyH_ready (rs := [17]) (by kernel_rfl) (by simp) ?_
        refine AllReadyH.cons (by simp only [List.getElem?_toArray, List.getElem?_cons_succ, List.getElem?_cons_zero] <;> rfl) (fun KK hKK => ?_) AllReadyH.nil
        go_simp
        refine HBu.out.mono ?_
        rintro e w' ⟨rfl, rfl⟩
        refine hKK.out _ _ (hB5) (fun hHeld => ?_)
        clear hKK KK
        (try simp only [Act.put, List.setIfInBounds_toArray, List.set_cons_zero, List.set_cons_succ])
        refine wpAnyH_take (i := 21) (v := ?_) (by simp only [List.getElem?_toArray, List.getElem?_cons_succ, List.getElem?_cons_zero] <;> rfl) (by kernel_rfl) (by kernel_rfl) (by kernel_rfl) (by exact fun _ _ _ h => h) (Or.inl ⟨by rfl, ?_⟩) (by assumption) ?_
        rotate_left
        · intro w hSw
          try dsimp only at hSw
          go_simp <;> with_reducible rfl
        (try simp only [Act.put, List.setIfInBounds_toArray, List.set_cons_zero, List.set_cons_succ])
        refine wpAnyH_take (i := 22) (v := ?_) (by simp only [List.getElem?_toArray, List.getElem?_cons_succ, List.getElem?_cons_zero] <;> rfl) (by kernel_rfl) (by kernel_rfl) (by kernel_rfl) (by exact fun _ _ _ h => h) (Or.inl ⟨by rfl, ?_⟩) (by assumption) ?_
        rotate_left
        · intro w hSw
          try dsimp only at hSw
          go_simp <;> with_reducible rfl
        (try simp only [Act.put, List.setIfInBounds_toArray, List.set_cons_zero, List.set_cons_succ])
        refine wpAnyH_take (i := 23) (v := ?_) (by simp only [List.getElem?_toArray, List.getElem?_cons_succ, List.getElem?_cons_zero] <;> rfl) (by kernel_rfl) (by kernel_rfl) (by kernel_rfl) (by exact fun _ _ _ h => h) (Or.inl ⟨by rfl, ?_⟩) (by assumption) ?_
        rotate_left
        · intro w hSw
          try dsimp only at hSw
          go_simp <;> with_reducible rfl
        (try simp only [Act.put, List.setIfInBounds_toArray, List.set_cons_zero, List.set_cons_succ])
        refine wpAnyH_take (i := 24) (v := ?_) (by simp only [List.getElem?_toArray, List.getElem?_cons_succ, List.getElem?_cons_zero] <;> rfl) (by kernel_rfl) (by kernel_rfl) (by kernel_rfl) (by exact fun _ _ _ h => h) (Or.inl ⟨by rfl, ?_⟩) (by assumption) ?_
        rotate_left
        · intro w hSw
          try dsimp only at hSw
          go_simp <;> with_reducible rfl
        (try simp only [Act.put, List.setIfInBounds_toArray, List.set_cons_zero, List.set_cons_succ])
        refine wpAnyH_take (i := 26) (v := ?_) (by simp only [List.getElem?_toArray, List.getElem?_cons_succ, List.getElem?_cons_zero] <;> rfl) (by kernel_rfl) (by kernel_rfl) (by kernel_rfl) (by exact fun _ _ _ h => h) (Or.inl ⟨by rfl, ?_⟩) (by assumption) ?_
        rotate_left
        · intro w hSw
          try dsimp only at hSw
          have e0 := hSw.cell (i := 0) rfl; have e1 := hSw.cell (i := 1) rfl; have e2 := hSw.cell (i := 2) rfl; have e3 := hSw.cell (i := 3) rfl; have e4 := hSw.cell (i := 4) rfl; go_simp <;> with_reducible rfl
        (try simp only [Act.put, List.setIfInBounds_toArray, List.set_cons_zero, List.set_cons_succ])
        refine wpAnyH_ready (rs := [25]) (by kernel_rfl) (by simp) ?_
        refine AllReadyH.cons (by simp only [List.getElem?_toArray, List.getElem?_cons_succ, List.getElem?_cons_zero] <;> rfl) (fun KK hKK => ?_) AllReadyH.nil
        go_simp
        refine HHe.out.mono ?_
        rintro e w' ⟨rfl, rfl⟩
        refine hKK.out _ _ (hB5) (fun hHeld => ?_)
        clear hKK KK
        (try simp only [Act.put, List.setIfInBounds_toArray, List.set_cons_zero, List.set_cons_succ])
        refine wpAnyH_ready (rs := [27]) (by kernel_rfl) (by simp) ?_
        refine AllReadyH.cons (by simp only [List.getElem?_toArray, List.getElem?_cons_succ, List.getElem?_cons_zero] <;> rfl) (fun KK hKK => ?_) AllReadyH.nil
        go_simp
        refine HRh.out.mono ?_
        rintro e w6 ⟨rfl, F6⟩
        have HA6 := Lib.hid (HA5.out.fr0 F6)
        replace hB5 := hB5.fr F6 id
        refine hKK.out _ _ (hB5) (fun hHeld => ?_)
        clear hKK KK
        (try simp only [Act.put, List.setIfInBounds_toArray, List.set_cons_zero, List.set_cons_succ])
        refine wpAnyH_take (i := 28) (v := ?_) (by simp only [List.getElem?_toArray, List.getElem?_cons_succ, List.getElem?_cons_zero] <;> rfl) (by kernel_rfl) (by kernel_rfl) (by kernel_rfl) (by exact fun _ _ _ h => h) (Or.inl ⟨by rfl, ?_⟩) (by assumption) ?_
        rotate_left
        · intro w hSw
          try dsimp only at hSw
          go_simp <;> with_reducible rfl
        (try simp only [Act.put, List.setIfInBounds_toArray, List.set_cons_zero, List.set_cons_succ])
        refine wpAnyH_take (i := 29) (v := ?_) (by simp only [List.getElem?_toArray, List.getElem?_cons_succ, List.getElem?_cons_zero] <;> rfl) (by kernel_rfl) (by kernel_rfl) (by kernel_rfl) (by exact fun _ _ _ h => h) (Or.inl ⟨by rfl, ?_⟩) (by assumption) ?_
        rotate_left
        · intro w hSw
          try dsimp only at hSw
          go_simp <;> with_reducible rfl
        (try simp only [Act.put, List.setIfInBounds_toArray, List.set_cons_zero, List.set_cons_succ])
        refine wpAnyH_done (by kernel_rfl) ?_ _
        go_wp2_with fail
        go_roundw
        case rel => exact ⟨i + 1, by omega, by go_num, HA6⟩
        case measure => simp [intOf]; omega
    · as_aux_lemma =>
      obtain rfl : i = n := by omega
      obtain ⟨ba, bc, ra, rn, rc, rfl⟩ := hM.form
      have y0 := hM.mb.cell (i := 0) rfl
      have y1 := hM.mb.cell (i := 1) rfl
      have y2 := hM.mb.cell (i := 2) rfl
      have y3 := hM.mb.cell (i := 3) rfl
      have y4 := hM.mb.cell (i := 4) rfl
      have q0 := hM.cb.free
      have z0 := hM.cb.cell (i := 0) rfl
      have z1 := hM.cb.cell (i := 1) rfl
      have z2 := hM.cb.cell (i := 2) rfl
      have z3 := hM.cb.cell (i := 3) rfl
      have z4 := hM.cb.cell (i := 4) rfl
      have HX := Lib.hid (And.intro hM (And.intro hU hS))
      clear hM hU hS H h0
      go_wp2_with fail
      go_region
      go_wp2_with fail
      have Y := HX.out.1.res (fun i u => nobool0 i u) (UQ.ne HX.out.2.1) (Fr.set5 wr c9 (.int .i64 (B : Int)) (.int .i64 (M : Int)) (.int .i64 (r.bl : Int)) (.slice ba T.buf.length bc) (.slice ra rn rc)) (((((HX.out.1.cb.set 0 _).set 1 _).set 2 _).set 3 _).set 4 _)
      have Y2 := Y.fr0 ((Fr.refl F0 _).drew)
      refine bodyPost_ret (results_mid rfl rfl Y2.cb rfl) rfl ?_
      exact .inr ⟨HQ.out, B, M, t, g + 1, g, c9, col, T, r, _, _, _, rfl, rfl, rfl, Y2, HX.out.2.1, HX.out.2.2⟩
end Go.Proofs.Ytkmnnfflibamnaa
