/- PagefileTorn: the walk. -/
import Derived.Test.YtehpikjhjghplaaT1
import Derived.Test.YtehpikjhjghplaaB16
import Derived.Test.YtehpikjhjghplaaArg
namespace Go.Proofs.Ytehpikjhjghplaa
open Go.RowKit
attribute [local go_sem ↓] Go.wp_at_zero Go.wp_at_succ
theorem xor_ne {c q : Nat} (h : q ≠ 0) : c ^^^ q ≠ c := by
  intro e
  have e2 : c ^^^ q = c ^^^ 0 := by rw [Nat.xor_zero]; exact e
  exact h (xor_inj_left e2)
structure TFc (w W8 : World) (page : Nat) (xs : List UInt8) (m : Nat) (a' : Option Addr) (c' fr b8 : Nat) : Prop where
  blk : Blk W8 b8 24 [.int .i64 page, .slice a' m c', .int .i64 fr, .int .i64 (-1)]
  own : Own W8 w.heap.size 5 a' m c' (byt xs)
  fr : Fr F0 w W8
  off : ¬ onBlk a' b8
set_option maxRecDepth 100000 in
set_option maxHeartbeats 8000000 in
theorem Torn_walk (a : Option Addr) (n c : Nat) (pg sy af : Int) (bs : List UInt8) (at' q : Nat) (w : World) (h0 : ArgBy w a n c bs) (hat : at' < 65536) (hq : q < 256) :
    Calls Try.prog 4 #[.agg (dskI pg a n c sy af), .int .u16 at', .int .u8 q] w fun e w' => e = .returned (.bool true) ∧ Fr F0 w w' := by
  have FA : Fr F0 w (w.alloc (.cells (dskI pg a n c sy af) 24)) := (Fr.refl _ _).alloc _
  have B0 : Blk (w.alloc (.cells (dskI pg a n c sy af) 24)) w.heap.size 24 [.int .i64 pg, .slice a n c, .int .i64 sy, .int .i64 af] := Blk.new w 24 [.int .i64 pg, .slice a n c, .int .i64 sy, .int .i64 af]
  obtain ⟨bA, hbA⟩ : ∃ b, b = w.heap.size := ⟨_, rfl⟩
  rw [← hbA] at B0
  have HbA := Lib.hid hbA
  have hbl : bs.length = n := by simpa using h0.rd.len
  have Hbl := Lib.hid hbl
  have Hr := Lib.hid h0.rd
  have HC := Lib.hid h0.cap
  replace FA := Lib.hid FA
  replace B0 := Lib.hid B0
  clear h0 hbl
  go_enter Try.func4, Try.ntmps4
  go_wp2_with fail
  refine (awake_any _).mono ?_
  rintro e w1 ⟨rfl, F1⟩
  rw [← hbA]
  clear hbA
  have CA := Lib.hid (B0.out.fr F1 id)
  have FW := Lib.hid (FA.out.trans0 F1)
  have x0 := CA.out.cell (i := 0) rfl
  have x1 := CA.out.cell (i := 1) rfl
  have x2 := CA.out.cell (i := 2) rfl
  have x3 := CA.out.cell (i := 3) rfl
  clear F1 B0 FA
  go_wp2_with fail
  refine (large_any a n c pg sy af _).mono ?_
  rintro e w2 ⟨r, rfl, _, F2⟩
  replace CA := Lib.hid (CA.out.fr F2 id)
  replace FW := Lib.hid (FW.out.trans0 F2)
  clear x0 x1 x2 x3 F2
  have x0 := CA.out.cell (i := 0) rfl
  have x1 := CA.out.cell (i := 1) rfl
  have x2 := CA.out.cell (i := 2) rfl
  have x3 := CA.out.cell (i := 3) rfl
  cases r with
  | true =>
    go_wp2_with fail
    go_ret
    exact ⟨rfl, FW.out⟩
  | false =>
    go_wp2_with fail
    refine (refValid_any a n c pg sy af bs _ (Hr.out.fr0 FW.out) HC.out).mono ?_
    rintro e w3 ⟨rfl, F3⟩
    replace CA := Lib.hid (CA.out.fr F3 id)
    replace FW := Lib.hid (FW.out.trans0 F3)
    clear x0 x1 x2 x3 F3
    have x0 := CA.out.cell (i := 0) rfl
    have x1 := CA.out.cell (i := 1) rfl
    have x2 := CA.out.cell (i := 2) rfl
    have x3 := CA.out.cell (i := 3) rfl
    cases hv : validB pg bs sy af with
    | false =>
      clear hv
      go_wp2_with fail
      go_ret
      exact ⟨rfl, FW.out⟩
    | true =>
      obtain ⟨⟨hp1, hp2⟩, _, hlen, _⟩ := valid_of hv
      obtain ⟨page, rfl⟩ := Int.eq_ofNat_of_zero_le (show 0 ≤ pg by omega)
      rw [Hbl.out] at hlen
      clear hv
      by_cases hq0 : q = 0
      · subst hq0
        go_wp2_with fail
        go_ret
        exact ⟨rfl, FW.out⟩
      · have dq : ((q : Int) == 0) = false := by simpa using hq0
        have Hq0 := Lib.hid hq0
        clear hq0
        go_wp2_with fail
        refine (Records_any a n c page sy af bs _ (Hr.out.fr0 FW.out) HC.out hlen (by omega) (by omega)).mono ?_
        rintro e w4 ⟨ar, cr, T, S, rfl, hZ, hM, hS, hA, F4⟩
        obtain ⟨LL, m, hLm⟩ : ∃ LL m, recs bs page = (LL, m) := ⟨_, _, rfl⟩
        rw [hLm] at hZ hM ⊢
        simp only at hZ hM ⊢
        replace CA := Lib.hid (CA.out.fr F4 id)
        replace FW := Lib.hid (FW.out.trans0 F4)
        have Tl := hM.len
        clear x0 x1 x2 x3 F4 hS hA
        rcases List.eq_nil_or_concat LL with hL | ⟨L, r, hL⟩
        · subst hL
          clear hZ hM hLm
          go_wp2_with fail
          go_ret
          exact ⟨rfl, FW.out⟩
        · rw [List.concat_eq_append] at hL
          subst hL
          obtain ⟨fr, t1, t2, t3, t4, t5⟩ := torn_ct hLm (by omega) (by omega) (by rw [Hbl.out]; omega)
          obtain ⟨ln, hln⟩ : ∃ ln, ln = L.length := ⟨_, rfl⟩
          have hLl : (L ++ [r]).length = ln + 1 := by rw [hln]; simp
          rw [hLl]
          rw [hLl] at hZ
          have hgo : (ln = 0 ∧ fr = 0) ∨ (0 < ln ∧ w4.cell? = w4.cell? ∧ ∃ b o, ar = some ⟨b, o, none⟩ ∧ w4.cell? ⟨b, o + ((ln - 1) * 3 + 2), none⟩ = some (.int .i64 fr)) := by
            rcases List.eq_nil_or_concat L with h | ⟨L', r', h⟩
            · left; rw [hln, h]; exact ⟨rfl, t1 h⟩
            · right
              rw [List.concat_eq_append] at h
              have hf := t2 r' L' h
              have hl' : ln = L'.length + 1 := by rw [hln, h]; simp
              obtain ⟨b, o, hb, hc⟩ := hZ.cells (by omega)
              refine ⟨by omega, rfl, b, o, hb, hc _ _ ?_⟩
              have hget : (L ++ [r])[ln - 1]? = some r' := by rw [h, hl']; simp
              have hT : ln - 1 < T.length := by rw [Tl, hLl]; omega
              have h3 := (flat3_get T (L ++ [r]) (ln - 1) T[ln - 1] r' (List.getElem?_eq_getElem hT) hget).2.2
              rw [hf] at h3
              exact h3
          have Hln := Lib.hid hln
          have T5 := Lib.hid t5
          have hmn : m ≤ n := by rw [← Hbl.out]; exact t4
          have hr8 := recs_8 bs page (bs.length + 1) 0 (by omega) (by omega)
          have hlnb : ln ≤ 1048576 := by
            have h8 : (recs bs page).1.length * 8 + 0 ≤ (recs bs page).2 := hr8
            rw [hLm] at h8
            simp only at h8
            rw [hLl] at h8
            omega
          clear hr8 hZ hM hLm Tl t1 t2 t4 t5 hln hLl
          obtain ⟨sz, hsz⟩ : ∃ sz, m = fr + 4 + sz := ⟨m - fr - 4, by omega⟩
          rcases hgo with ⟨g1, g2⟩ | ⟨g1, _, bz, oz, hbz, hcz⟩
          · subst g1
            subst g2
            have hsz0 : 0 < sz := by omega
            have ez : (m : Int) - 4 = (sz : Int) := by omega
            have hk0 : at' % sz < sz := Nat.mod_lt _ hsz0
            obtain ⟨k, hk⟩ : ∃ k, k = 0 + 4 + at' % sz := ⟨_, rfl⟩
            have ek : 4 + (at' : Int) % (sz : Int) = (k : Int) := by omega
            have hkm : k < m := by omega
            have hk4 : 0 + 4 ≤ k := by omega
            clear hk hk0 hsz
            have s1 : ∀ w, (Instr.sliceAt 22 (.slice a n c) none (some (.int .i64 (m : Int))) none).run Try.prog w = .ok (.slice (cutA a c 0) m c) w := fun w => run_cutHi E5 w a (by have := HC.out; omega) rfl
            have hRm : Hid (Rd w (cutA a c 0) m (byt (bs.take m))) := Lib.hid (by have h := Hr.out.cutHi HC.out (k := m) (by omega); rwa [byt_take] at h)
            have x0 := CA.out.cell (i := 0) rfl
            have x1 := CA.out.cell (i := 1) rfl
            have hs4 : Hid (w.heap.size ≤ w4.heap.size) := Lib.hid FW.out.size
            have hcop : ∀ (W : World), Fr F0 w4 W → Calls Try.prog 18 #[.slice (cutA a c 0) m c] W fun e w' => ∃ a' c', e = .returned (.slice a' m c') ∧ Own w' w.heap.size 5 a' m c' (byt (bs.take m)) ∧ Fr F0 w4 w' ∧ Fr F0 W w' ∧
                w'.cell? ⟨bA, 0, none⟩ = some (.int .i64 page) ∧ w'.cell? ⟨bA, 1, none⟩ = some (.slice a n c) ∧ (∀ j, onBlk a' j → W.heap.size ≤ j) := fun W F =>
              (Clone_any (cutA a c 0) m c (bs.take m) W ((hRm.out.fr0 FW.out).fr0 F) (by omega)).mono fun e w' ⟨a', c', h1, h2, h3⟩ =>
                have F9 := F.trans0 h3
                ⟨a', c', h1, h2.mono (by have := F.size; have := hs4.out; omega), F9, h3, F9.cell x0 id, F9.cell x1 id, fun j h => (h2.blk j h).1⟩
            have Hcop := Lib.hid hcop
            have nA1 : bA ≠ w4.heap.size := by have := CA.out.lt; omega
            have nA2 : w4.heap.size ≠ bA := fun e => nA1 e.symm
            clear hcop
            go_wp2_with fail
            go_region_held3 (fun w' => w'.cell? ⟨bA, 0, none⟩ = some (.int .i64 page) ∧ w'.cell? ⟨bA, 1, none⟩ = some (.slice a n c)) (go_keep)
              (first | (go_at_call 18; refine (Hcop.out _ (by repeat (first | exact Fr.refl _ _ | refine Fr.alloc ?_ _ | refine Fr.drew ?_))).mono ?_; rintro e w5 ⟨a', c', rfl, O2, G2, G3, k0, k1, A3⟩; have O2h := Lib.hid O2; have G2h := Lib.hid G2; have G3h := Lib.hid G3; have A3h := Lib.hid A3; clear O2 G2 G3 A3; try (have kB : Blk w5 w4.heap.size 24 [.int .i64 0, .slice none 0 0, .int .i64 0, .int .i64 0] := ((Blk.new w4 24 [.int .i64 0, .slice none 0 0, .int .i64 0, .int .i64 0]).fr (Fr.refl F0 _).drew id).fr G3h.out id; have p0 := kB.cell (i := 0) rfl; have p1 := kB.cell (i := 1) rfl; have p2 := kB.cell (i := 2) rfl; have p3 := kB.cell (i := 3) rfl; have q0 := kB.free 0; have q1 := kB.free 1; have q2 := kB.free 2; have q3 := kB.free 3; have kBh := Lib.hid kB; clear kB)))
            all_goals
              first
              | (have X : Hid (TFc w ((((w5.setCell ⟨w4.heap.size, 0, none⟩ (.int .i64 page)).setCell ⟨w4.heap.size, 1, none⟩ (.slice a' m c')).setCell ⟨w4.heap.size, 2, none⟩ (.int .i64 0)).setCell ⟨w4.heap.size, 3, none⟩ (.int .i64 (-1))) page (bs.take m) m a' c' 0 w4.heap.size) := Lib.hid (by
                  have hoff : ¬ onBlk a' w4.heap.size := fun h => by
                    have h2 := A3h.out _ h
                    have h3 : (w4.alloc (.cells #[.int .i64 0, .slice none 0 0, .int .i64 0, .int .i64 0] 24)).heap.size ≤ w4.heap.size := h2
                    rw [size_alloc] at h3
                    omega
                  have G : Fr (fun j => j = w4.heap.size) w5 ((((w5.setCell ⟨w4.heap.size, 0, none⟩ (.int .i64 page)).setCell ⟨w4.heap.size, 1, none⟩ (.slice a' m c')).setCell ⟨w4.heap.size, 2, none⟩ (.int .i64 0)).setCell ⟨w4.heap.size, 3, none⟩ (.int .i64 (-1))) := by
                    refine Fr.setCell (p := ⟨w4.heap.size, 3, none⟩) (Fr.setCell (p := ⟨w4.heap.size, 2, none⟩) (Fr.setCell (p := ⟨w4.heap.size, 1, none⟩) (Fr.setCell (p := ⟨w4.heap.size, 0, none⟩) (Fr.refl _ _) ?_ _) ?_ _) ?_ _) ?_ _
                    all_goals exact fun _ => rfl
                  exact
                  { blk := ((((kBh.out.set 0 _).set 1 _).set 2 _).set 3 _)
                    own := O2h.out.fr G (fun j h e => hoff (e ▸ h))
                    fr := (FW.out.trans0 G2h.out).trans G (fun j h1 e => by have := hs4.out; omega)
                    off := hoff })
                 generalize ((((w5.setCell ⟨w4.heap.size, 0, none⟩ (.int .i64 page)).setCell ⟨w4.heap.size, 1, none⟩ (.slice a' m c')).setCell ⟨w4.heap.size, 2, none⟩ (.int .i64 0)).setCell ⟨w4.heap.size, 3, none⟩ (.int .i64 (-1))) = w8 at *
                 generalize w4.heap.size = b8 at *)
              | (have X : Hid (TFc w (w5.alloc (.cells #[.int .i64 page, .slice a' m c', (.int .i64 0), .int .i64 (-1)] 24)) page (bs.take m) m a' c' 0 w5.heap.size) := Lib.hid
                  { blk := Blk.new w5 24 [.int .i64 page, .slice a' m c', (.int .i64 0), .int .i64 (-1)]
                    own := O2h.out.alloc _
                    fr := (FW.out.trans0 G2h.out).alloc _
                    off := fun h => by have := (O2h.out.blk _ h).2; omega }
                 generalize (w5.alloc (.cells #[.int .i64 page, .slice a' m c', (.int .i64 0), .int .i64 (-1)] 24)) = w8 at *
                 generalize w5.heap.size = b8 at *)
              try clear p0 p1 p2 p3 q0 q1 q2 q3 kBh
              clear k0 k1 x0 x1 nA1 nA2 O2h G2h G3h A3h Hcop s1 hRm
              obtain ⟨g, hg, hgb, hgl, hgc, hgf⟩ := X.out.own.at (by omega)
              subst hg
              have hkl : k < bs.length := by rw [Hbl.out]; omega
              obtain ⟨cb, hcb⟩ : ∃ cb, cb = bs[k] := ⟨_, rfl⟩
              have hbk : Hid (bs[k]? = some cb) := Lib.hid (by rw [hcb]; exact List.getElem?_eq_getElem hkl)
              have v5 := hgc k (bv cb) (by rw [List.getElem?_map, List.getElem?_take, if_pos hkm, hbk.out]; rfl)
              have v6 := hgf k
              obtain ⟨y, hy⟩ : ∃ y, y = cb.toNat := ⟨_, rfl⟩
              have hy2 : y < 256 := by rw [hy]; exact u8_lt cb
              unfold bv at v5
              rw [← hy] at v5
              have xq := xor_u8 hy2 hq
              have hd8 : y ^^^ q < 256 := Nat.xor_lt_two_pow (n := 8) (by omega) (by omega)
              obtain ⟨d, hd⟩ : ∃ d, d = UInt8.ofNat (y ^^^ q) := ⟨_, rfl⟩
              have hdv : Hid (Value.int .u8 ((y ^^^ q : Nat) : Int) = bv d) := Lib.hid (by unfold bv; rw [hd, UInt8.toNat_ofNat', Nat.mod_eq_of_lt (by omega)])
              have hdne : Hid (∀ c, bs[k]? = some c → d ≠ c) := Lib.hid (fun c hc e => by
                rw [hbk.out] at hc
                injection hc with hc
                have h1 : d.toNat = y := by rw [e, ← hc, hy]
                rw [hd, UInt8.toNat_ofNat', Nat.mod_eq_of_lt (by omega)] at h1
                exact xor_ne Hq0.out h1)
              have hct := T5.out k d hk4 hkm hdne.out
              have v0 := X.out.blk.cell (i := 0) rfl
              have v1 := X.out.blk.cell (i := 1) rfl
              have v2 := X.out.blk.cell (i := 2) rfl
              have v3 := X.out.blk.cell (i := 3) rfl
              have n8g : b8 ≠ g := fun e => X.out.off (by rw [e]; exact (onBlk_some _ _ _ _).2 rfl)
              have ng8 : g ≠ b8 := fun e => n8g e.symm
              have Hct := Lib.hid hct
              have i0 : (0 : Int) ≤ (k : Int) := by omega
              have i1 : (k : Int) < (m : Int) := by omega
              clear hct hgc hgf hcb hy hd hd8 ez ek
              go_wp2_with fail
              rw [hdv.out]
              have O9 := Lib.hid (X.out.own.set (i := k) (bv d))
              have Fs : Fr (fun j => j = g) w8 (w8.setCell ⟨g, k, none⟩ (bv d)) := Fr.setCell (S := fun j => j = g) (p := ⟨g, k, none⟩) (Fr.refl _ _) (fun _ => rfl) _
              have FX := Lib.hid (X.out.fr.trans Fs (fun j h1 e => by omega))
              have cap9 := O9.out.cap
              have hrd : Rd (w8.setCell ⟨g, k, none⟩ (bv d)) (some ⟨g, 0, none⟩) m (byt ((bs.take m).set k d)) := by
                have h := O9.out.rd
                rwa [show (byt (bs.take m)).set k (bv d) = byt ((bs.take m).set k d) by simp only [byt, List.map_set]] at h
              have hcm := Commits_any (some ⟨g, 0, none⟩) m c' (page : Int) 0 (-1) _ _ hrd cap9
              rw [show ctS (page : Int) ((bs.take m).set k d) 0 (-1) = ((L.length : Int), 0) from Hct.out] at hcm
              simp only at hcm
              rw [← Hln.out] at hcm
              clear v0 v1 v2 v3 v5 v6 Fs hrd cap9 xq
              refine hcm.mono ?_
              rintro e w9 ⟨rfl, F9⟩
              have FY := Lib.hid (FX.out.trans0 F9)
              clear F9 hcm
              go_wp2_with fail
              go_ret
              exact ⟨rfl, FY.out⟩
          · subst hbz
            rw [← Nat.add_assoc] at hcz
            have g3 : (0 : Int) ≤ (ln : Int) + 1 - 2 := by omega
            have g4 : (ln : Int) + 1 - 2 < (ln : Int) + 1 := by omega
            have g5 : ((ln : Int) + 1 - 2).toNat = ln - 1 := by omega
            have hsz0 : 0 < sz := by omega
            have ez : (m : Int) - (fr : Int) - 4 = (sz : Int) := by omega
            have hk0 : at' % sz < sz := Nat.mod_lt _ hsz0
            obtain ⟨k, hk⟩ : ∃ k, k = fr + 4 + at' % sz := ⟨_, rfl⟩
            have ek : (fr : Int) + 4 + (at' : Int) % (sz : Int) = (k : Int) := by omega
            have hkm : k < m := by omega
            have hk4 : fr + 4 ≤ k := by omega
            clear hk hk0 hsz
            have s1 : ∀ w, (Instr.sliceAt 22 (.slice a n c) none (some (.int .i64 (m : Int))) none).run Try.prog w = .ok (.slice (cutA a c 0) m c) w := fun w => run_cutHi E5 w a (by have := HC.out; omega) rfl
            have hRm : Hid (Rd w (cutA a c 0) m (byt (bs.take m))) := Lib.hid (by have h := Hr.out.cutHi HC.out (k := m) (by omega); rwa [byt_take] at h)
            have x0 := CA.out.cell (i := 0) rfl
            have x1 := CA.out.cell (i := 1) rfl
            have hs4 : Hid (w.heap.size ≤ w4.heap.size) := Lib.hid FW.out.size
            have hcop : ∀ (W : World), Fr F0 w4 W → Calls Try.prog 18 #[.slice (cutA a c 0) m c] W fun e w' => ∃ a' c', e = .returned (.slice a' m c') ∧ Own w' w.heap.size 5 a' m c' (byt (bs.take m)) ∧ Fr F0 w4 w' ∧ Fr F0 W w' ∧
                w'.cell? ⟨bA, 0, none⟩ = some (.int .i64 page) ∧ w'.cell? ⟨bA, 1, none⟩ = some (.slice a n c) ∧ (∀ j, onBlk a' j → W.heap.size ≤ j) := fun W F =>
              (Clone_any (cutA a c 0) m c (bs.take m) W ((hRm.out.fr0 FW.out).fr0 F) (by omega)).mono fun e w' ⟨a', c', h1, h2, h3⟩ =>
                have F9 := F.trans0 h3
                ⟨a', c', h1, h2.mono (by have := F.size; have := hs4.out; omega), F9, h3, F9.cell x0 id, F9.cell x1 id, fun j h => (h2.blk j h).1⟩
            have Hcop := Lib.hid hcop
            have nA1 : bA ≠ w4.heap.size := by have := CA.out.lt; omega
            have nA2 : w4.heap.size ≠ bA := fun e => nA1 e.symm
            clear hcop
            go_wp2_with fail
            go_region_held3 (fun w' => w'.cell? ⟨bA, 0, none⟩ = some (.int .i64 page) ∧ w'.cell? ⟨bA, 1, none⟩ = some (.slice a n c)) (go_keep)
              (first | (go_at_call 18; refine (Hcop.out _ (by repeat (first | exact Fr.refl _ _ | refine Fr.alloc ?_ _ | refine Fr.drew ?_))).mono ?_; rintro e w5 ⟨a', c', rfl, O2, G2, G3, k0, k1, A3⟩; have O2h := Lib.hid O2; have G2h := Lib.hid G2; have G3h := Lib.hid G3; have A3h := Lib.hid A3; clear O2 G2 G3 A3; try (have kB : Blk w5 w4.heap.size 24 [.int .i64 0, .slice none 0 0, .int .i64 0, .int .i64 0] := ((Blk.new w4 24 [.int .i64 0, .slice none 0 0, .int .i64 0, .int .i64 0]).fr (Fr.refl F0 _).drew id).fr G3h.out id; have p0 := kB.cell (i := 0) rfl; have p1 := kB.cell (i := 1) rfl; have p2 := kB.cell (i := 2) rfl; have p3 := kB.cell (i := 3) rfl; have q0 := kB.free 0; have q1 := kB.free 1; have q2 := kB.free 2; have q3 := kB.free 3; have kBh := Lib.hid kB; clear kB)))
            all_goals
              first
              | (have X : Hid (TFc w ((((w5.setCell ⟨w4.heap.size, 0, none⟩ (.int .i64 page)).setCell ⟨w4.heap.size, 1, none⟩ (.slice a' m c')).setCell ⟨w4.heap.size, 2, none⟩ (.int .i64 fr)).setCell ⟨w4.heap.size, 3, none⟩ (.int .i64 (-1))) page (bs.take m) m a' c' fr w4.heap.size) := Lib.hid (by
                  have hoff : ¬ onBlk a' w4.heap.size := fun h => by
                    have h2 := A3h.out _ h
                    have h3 : (w4.alloc (.cells #[.int .i64 0, .slice none 0 0, .int .i64 0, .int .i64 0] 24)).heap.size ≤ w4.heap.size := h2
                    rw [size_alloc] at h3
                    omega
                  have G : Fr (fun j => j = w4.heap.size) w5 ((((w5.setCell ⟨w4.heap.size, 0, none⟩ (.int .i64 page)).setCell ⟨w4.heap.size, 1, none⟩ (.slice a' m c')).setCell ⟨w4.heap.size, 2, none⟩ (.int .i64 fr)).setCell ⟨w4.heap.size, 3, none⟩ (.int .i64 (-1))) := by
                    refine Fr.setCell (p := ⟨w4.heap.size, 3, none⟩) (Fr.setCell (p := ⟨w4.heap.size, 2, none⟩) (Fr.setCell (p := ⟨w4.heap.size, 1, none⟩) (Fr.setCell (p := ⟨w4.heap.size, 0, none⟩) (Fr.refl _ _) ?_ _) ?_ _) ?_ _) ?_ _
                    all_goals exact fun _ => rfl
                  exact
                  { blk := ((((kBh.out.set 0 _).set 1 _).set 2 _).set 3 _)
                    own := O2h.out.fr G (fun j h e => hoff (e ▸ h))
                    fr := (FW.out.trans0 G2h.out).trans G (fun j h1 e => by have := hs4.out; omega)
                    off := hoff })
                 generalize ((((w5.setCell ⟨w4.heap.size, 0, none⟩ (.int .i64 page)).setCell ⟨w4.heap.size, 1, none⟩ (.slice a' m c')).setCell ⟨w4.heap.size, 2, none⟩ (.int .i64 fr)).setCell ⟨w4.heap.size, 3, none⟩ (.int .i64 (-1))) = w8 at *
                 generalize w4.heap.size = b8 at *)
              | (have X : Hid (TFc w (w5.alloc (.cells #[.int .i64 page, .slice a' m c', (.int .i64 fr), .int .i64 (-1)] 24)) page (bs.take m) m a' c' fr w5.heap.size) := Lib.hid
                  { blk := Blk.new w5 24 [.int .i64 page, .slice a' m c', (.int .i64 fr), .int .i64 (-1)]
                    own := O2h.out.alloc _
                    fr := (FW.out.trans0 G2h.out).alloc _
                    off := fun h => by have := (O2h.out.blk _ h).2; omega }
                 generalize (w5.alloc (.cells #[.int .i64 page, .slice a' m c', (.int .i64 fr), .int .i64 (-1)] 24)) = w8 at *
                 generalize w5.heap.size = b8 at *)
              try clear p0 p1 p2 p3 q0 q1 q2 q3 kBh
              clear k0 k1 x0 x1 nA1 nA2 O2h G2h G3h A3h Hcop s1 hRm
              obtain ⟨g, hg, hgb, hgl, hgc, hgf⟩ := X.out.own.at (by omega)
              subst hg
              have hkl : k < bs.length := by rw [Hbl.out]; omega
              obtain ⟨cb, hcb⟩ : ∃ cb, cb = bs[k] := ⟨_, rfl⟩
              have hbk : Hid (bs[k]? = some cb) := Lib.hid (by rw [hcb]; exact List.getElem?_eq_getElem hkl)
              have v5 := hgc k (bv cb) (by rw [List.getElem?_map, List.getElem?_take, if_pos hkm, hbk.out]; rfl)
              have v6 := hgf k
              obtain ⟨y, hy⟩ : ∃ y, y = cb.toNat := ⟨_, rfl⟩
              have hy2 : y < 256 := by rw [hy]; exact u8_lt cb
              unfold bv at v5
              rw [← hy] at v5
              have xq := xor_u8 hy2 hq
              have hd8 : y ^^^ q < 256 := Nat.xor_lt_two_pow (n := 8) (by omega) (by omega)
              obtain ⟨d, hd⟩ : ∃ d, d = UInt8.ofNat (y ^^^ q) := ⟨_, rfl⟩
              have hdv : Hid (Value.int .u8 ((y ^^^ q : Nat) : Int) = bv d) := Lib.hid (by unfold bv; rw [hd, UInt8.toNat_ofNat', Nat.mod_eq_of_lt (by omega)])
              have hdne : Hid (∀ c, bs[k]? = some c → d ≠ c) := Lib.hid (fun c hc e => by
                rw [hbk.out] at hc
                injection hc with hc
                have h1 : d.toNat = y := by rw [e, ← hc, hy]
                rw [hd, UInt8.toNat_ofNat', Nat.mod_eq_of_lt (by omega)] at h1
                exact xor_ne Hq0.out h1)
              have hct := T5.out k d hk4 hkm hdne.out
              have v0 := X.out.blk.cell (i := 0) rfl
              have v1 := X.out.blk.cell (i := 1) rfl
              have v2 := X.out.blk.cell (i := 2) rfl
              have v3 := X.out.blk.cell (i := 3) rfl
              have n8g : b8 ≠ g := fun e => X.out.off (by rw [e]; exact (onBlk_some _ _ _ _).2 rfl)
              have ng8 : g ≠ b8 := fun e => n8g e.symm
              have Hct := Lib.hid hct
              have i0 : (0 : Int) ≤ (k : Int) := by omega
              have i1 : (k : Int) < (m : Int) := by omega
              clear hct hgc hgf hcb hy hd hd8 ez ek
              go_wp2_with fail
              rw [hdv.out]
              have O9 := Lib.hid (X.out.own.set (i := k) (bv d))
              have Fs : Fr (fun j => j = g) w8 (w8.setCell ⟨g, k, none⟩ (bv d)) := Fr.setCell (S := fun j => j = g) (p := ⟨g, k, none⟩) (Fr.refl _ _) (fun _ => rfl) _
              have FX := Lib.hid (X.out.fr.trans Fs (fun j h1 e => by omega))
              have cap9 := O9.out.cap
              have hrd : Rd (w8.setCell ⟨g, k, none⟩ (bv d)) (some ⟨g, 0, none⟩) m (byt ((bs.take m).set k d)) := by
                have h := O9.out.rd
                rwa [show (byt (bs.take m)).set k (bv d) = byt ((bs.take m).set k d) by simp only [byt, List.map_set]] at h
              have hcm := Commits_any (some ⟨g, 0, none⟩) m c' (page : Int) (fr : Int) (-1) _ _ hrd cap9
              rw [Hct.out] at hcm
              simp only at hcm
              rw [← Hln.out] at hcm
              clear v0 v1 v2 v3 v5 v6 Fs hrd cap9 xq
              refine hcm.mono ?_
              rintro e w9 ⟨rfl, F9⟩
              have FY := Lib.hid (FX.out.trans0 F9)
              clear F9 hcm
              go_wp2_with fail
              go_ret
              exact ⟨rfl, FY.out⟩
theorem Torn_law (a : Option Addr) (n c : Nat) (pg sy af : Int) (bs : List UInt8) (z1 z2 : Int) (w : World) (h0 : ArgBy w a n c bs) (h1 : (Lit.int .u16 z1).wf = true) (h2 : (Lit.int .u8 z2).wf = true) :
    Calls Try.prog 4 #[.agg #[.int .i64 pg, .slice a n c, .int .i64 sy, .int .i64 af], .int .u16 z1, .int .u8 z2] w fun e w' => e = .returned (.bool true) ∧ Fr F0 w w' := by
  simp only [Lit.wf, Bool.and_eq_true, decide_eq_true_eq] at h1 h2
  have e1 : IntKind.u16.min = 0 := by decide
  have e2 : IntKind.u16.max = 65535 := by decide
  have e3 : IntKind.u8.min = 0 := by decide
  have e4 : IntKind.u8.max = 255 := by decide
  rw [e1, e2] at h1
  rw [e3, e4] at h2
  obtain ⟨x1, rfl⟩ := Int.eq_ofNat_of_zero_le h1.1
  obtain ⟨x2, rfl⟩ := Int.eq_ofNat_of_zero_le h2.1
  exact Torn_walk a n c pg sy af bs x1 x2 w h0 (by omega) (by omega)
end Go.Proofs.Ytehpikjhjghplaa
