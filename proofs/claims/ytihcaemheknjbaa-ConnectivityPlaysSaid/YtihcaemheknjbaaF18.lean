/- Solve: the visit. -/
import Derived.Test.YtihcaemheknjbaaF17
import Derived.Test.YtihcaemheknjbaaComAll
namespace Go.Proofs.Ytihcaemheknjbaa
open Go.RowKit
attribute [local go_sem ↓] Go.wp_at_zero Go.wp_at_succ
theorem Gt.of_drew {c1 c2 : Nat → Nat} {w w' : World} (h : Gt c1 c2 w.drew w') : Gt c1 c2 w w' := ⟨⟨h.fr.os, h.fr.tape, h.fr.output, h.fr.size, h.fr.block⟩, h.eq⟩
theorem VS.to {w : World} {col : Nat → Nat} {bf bv bl ba bc f n : Nat} {a : Option Addr} {N c : Nat} {l : List Ev} {NF : Nat → Prop} {ps ps' : List (List Nat)} {p p' : List Nat} {A : List Bool} {C : List Nat} {aA : Option Addr} {cA : Nat} {aC : Option Addr} {cC : Nat} (h : VS w col bf bv bl ba bc f n a N c l NF ps p A C aA cA aC cC) (e1 : ps = ps') (e2 : p = p') : VS w col bf bv bl ba bc f n a N c l NF ps' p' A C aA cA aC cC := by subst e1; subst e2; exact h
/-- What the visit leaves. -/
def VP (w : World) (col : Nat → Nat) (bf bv bl ba bc f n : Nat) (a : Option Addr) (N c : Nat) (l : List Ev) (ps : List (List Nat)) (p : List Nat) (A : List Bool) (C : List Nat) (e : Ending) (w' : World) : Prop :=
  e = .returned (.tuple #[]) ∧ ∃ col' NF' aA' cA' aC' cC', VS w' col' bf bv bl ba bc f n a N c l NF' ps p A C aA' cA' aC' cC' ∧ Gt col col' w w'
set_option maxRecDepth 100000 in
set_option maxHeartbeats 16000000 in
theorem visit_any {bf bv bl ba bc f n : Nat} {a : Option Addr} {N c : Nat} {l : List Ev} (hn : n ≤ 1000) (hev : ∀ (i : Nat) (x : Ev), l[i]? = some x → okE n x = true) :
    ∀ (T : Sg) (w : World) (col : Nat → Nat) (NT NF : Nat → Prop) (ps : List (List Nat)) (p : List Nat) (A : List Bool) (C : List Nat) (aA : Option Addr) (cA : Nat) (aC : Option Addr) (cC x y : Nat),
      VS w col bf bv bl ba bc f n a N c l NF ps p A C aA cA aC cC → TM w 0 T NT → (∀ k, NT k → col k = 9 ∧ k < w.heap.size) → Sh x y T → y ≤ N → (∀ i z, z ∈ pathE T i → z.1 < n ∧ z.2.1 < n) → mp T + ps.length < 100000 → A.length + (y - x) ≤ 100000 → C.length + (y - x) ≤ 100000 →
      Calls Try.prog 41 #[T.ptr, .pointer (some ⟨bf, 0, none⟩), .pointer (some ⟨bv, 0, none⟩), .pointer (some ⟨bl, 0, none⟩), .pointer (some ⟨ba, 0, none⟩), .pointer (some ⟨bc, 0, none⟩)] w (VP w col bf bv bl ba bc f n a N c l ps p (A ++ visA l p T) (C ++ visC p T)) := by
  intro T
  induction T with
  | nil =>
    intro w col NT NF ps p A C aA cA aC cC x y V _ _ _ _ _ _ _ _
    have HV := Lib.hid V
    clear V
    have np : Sg.nil.ptr = .pointer none := rfl
    rw [np]
    go_enter Try.func41, Try.ntmps41
    go_wp2_with fail
    go_end0
    refine ⟨rfl, col, NF, aA, cA, aC, cC, ?_, Gt.refl _ _⟩
    unfold visA visC
    rw [List.append_nil, List.append_nil]
    exact HV.out
  | node b x0 y0 es L R ihl ihr =>
    intro w col NT NF ps p A C aA cA aC cC x y V hT hNT hS hyN hed hmp hAl hCl
    obtain ⟨rfl, rfl, hxy, hd⟩ := hS
    obtain ⟨ae, ce, Nl, Nr, h1, h2, h3, h4, hf, ht, he, h5, h6, h7, h8, h9, h10, h11, h12, h13, h14, h15, h16, h17⟩ := hT
    obtain ⟨m, hm⟩ : ∃ m, m = es.length := ⟨_, rfl⟩
    rw [← hm] at h1 h2
    have hml : m + ps.length < 100000 := by simp only [mp] at hmp; omega
    obtain ⟨pl, hpl⟩ : ∃ v, v = L.adr := ⟨_, rfl⟩
    obtain ⟨pr, hpr⟩ : ∃ v, v = R.adr := ⟨_, rfl⟩
    unfold Sg.ptr at h1
    rw [← hpl, ← hpr] at h1
    have HV := Lib.hid V
    have HM := Lib.hid hm
    have HB1 := Lib.hid h1
    have HO := Lib.hid h2
    have HTL := Lib.hid h3
    have HTR := Lib.hid h4
    have hcb : col b = 9 := (hNT b h6).1
    have HC : Hid (col b = 9 ∧ (∀ k, onBlk ae k → col k = 9) ∧ (∀ k, Nl k → col k = 9 ∧ k < w.heap.size) ∧ (∀ k, Nr k → col k = 9 ∧ k < w.heap.size)) := Lib.hid ⟨hcb, fun k hk => (hNT k (h7 k hk)).1, fun k hk => hNT k (h8 k hk), fun k hk => hNT k (h9 k hk)⟩
    have HD := Lib.hid hd
    have HED := Lib.hid hed
    have HEV := Lib.hid hev
    have HMP := Lib.hid hmp
    have HAC := Lib.hid (And.intro hAl hCl)
    have HPL := Lib.hid (And.intro hpl hpr)
    have HXY := Lib.hid (And.intro hxy hyN)
    have IHL := Lib.hid ihl
    have IHR := Lib.hid ihr
    have hes : Hid (∀ z ∈ es, z.1 < n ∧ z.2.1 < n) := Lib.hid (fun z hz => hed x0 z (by rw [pathE_in ⟨Nat.le_refl _, hxy⟩]; exact List.mem_append_left _ hz))
    have keep : Hid (∀ (col1 : Nat → Nat) (W : World), Gt col col1 w W → Blk W b 81 [.int .i64 (x0 : Int), .int .i64 (y0 : Int), .slice ae m ce, .pointer pl, .pointer pr] ∧ OwnZ W 0 83 4 ae m ce (ivs es)) := Lib.hid (fun col1 W g =>
      ⟨h1.fr g.fr (fun hk => by unfold Mv at hk; rw [hcb] at hk; omega), OwnZ.fr h2 g.fr (fun k hk hs => by unfold Mv at hs; rw [(hNT k (h7 k hk)).1] at hs; omega)⟩)
    have bp : (Sg.node b x0 y0 es L R).ptr = .pointer (some ⟨b, 0, none⟩) := rfl
    rw [bp]
    clear h1 h2 h3 h4 h5 h6 h7 h8 h9 h10 h11 h12 h13 h14 h15 h16 h17 hcb hd hed hev hmp hAl hCl hpl hpr hxy hyN ihl ihr V hm he bp hNT
    have y2 := HB1.out.cell (i := 2) rfl
    go_enter Try.func41, Try.ntmps41
    go_wp2_with fail
    clear y2
    go_loopw [17] (fun s17 wr => ∃ (i : Nat) (col1 : Nat → Nat) (NF1 : Nat → Prop), i ≤ m ∧ s17 = .int .i64 i ∧ Hid (VS wr col1 bf bv bl ba bc f n a N c l NF1 (ps ++ hist p es i) (pf p es i) A C aA cA aC cC ∧ Gt col col1 w wr)) (fun s17 _ => m - (intOf s17).toNat)
    case atStart =>
      refine ⟨0, col, NF, Nat.zero_le _, rfl, Lib.hid ⟨?_, Gt.refl _ _⟩⟩
      rw [hist_zero, List.append_nil]
      exact HV.out
    case round =>
      obtain ⟨i, col1, NF1, hi, rfl, H⟩ := hrel
      by_cases hlt : i < m
      · obtain ⟨⟨xa, xb, xf, xt⟩, hx⟩ : ∃ x, es[i]? = some x := ⟨_, List.getElem?_eq_getElem (by rw [← HM.out]; exact hlt)⟩
        have hxn := hes.out _ (List.mem_of_getElem? hx)
        dsimp only at hxn
        obtain ⟨ge, rfl, _, _, hgc, _⟩ := (keep.out col1 wr H.out.2).2.at (by omega)
        have x0 := hgc (i * 4) (.int .i64 (xa : Int)) (by have := ivs_get hx 0 (by omega); rw [Nat.add_zero] at this; rw [this]; rfl)
        have x1 := hgc (i * 4 + 1) (.int .i64 (xb : Int)) (by rw [ivs_get hx 1 (by omega)]; rfl)
        have x2 := hgc (i * 4 + 2) (.int .i64 (xf : Int)) (by rw [ivs_get hx 2 (by omega)]; rfl)
        have x3 := hgc (i * 4 + 3) (.int .i64 (xt : Int)) (by rw [ivs_get hx 3 (by omega)]; rfl)
        have hlt' : (i : Int) < (m : Int) := by omega
        have HX := Lib.hid hx
        obtain ⟨w3, hw3⟩ : ∃ w3, wr.alloc (.cells #[.int .i64 (xa : Int), .int .i64 (xb : Int), .int .i64 (xf : Int), .int .i64 (xt : Int)] 83) = w3 := ⟨_, rfl⟩
        obtain ⟨b3, hb3⟩ : ∃ b, wr.heap.size = b := ⟨_, rfl⟩
        have B3 : Blk w3 b3 83 (iv4 (xa, xb, xf, xt)) := by rw [← hw3, ← hb3]; exact Blk.new wr 83 _
        have F3 : Fr F0 wr w3 := by rw [← hw3]; exact (Fr.refl _ _).alloc _
        have H3 := Lib.hid (And.intro (H.out.1.fr0 F3) (H.out.2.fr0 F3))
        have yy0 := B3.cell (i := 0) rfl
        have yy1 := B3.cell (i := 1) rfl
        have zf := H3.out.1.xf.cell
        have HU := Lib.hid (Union_h H3.out.1.fh hn (by rw [List.length_append, hist_len]; omega) hxn.1 hxn.2)
        clear hgc hx B3 F3 hxn
        go_wp2_with fail
        refine HU.out.mono ?_
        rintro e w4 ⟨rfl, hF, F4⟩
        have H4 := Lib.hid (H3.out.1.union hF F4)
        clear hF F4 HU zf yy0 yy1
        go_wp2_with fail
        go_roundw
        case rel =>
          refine ⟨i + 1, recol col1 w3 6, ext NF1 w3 w4, by omega, by go_num, Lib.hid ⟨?_, H3.out.2.trans H4.out.2⟩⟩
          rw [hist_succ, pf_succ HX.out, ← List.append_assoc]
          exact H4.out.1
        case measure => simp [intOf]; omega
      · obtain rfl : m = i := by omega
        have eq1 : pf p es m = es.foldl joinE p := by rw [HM.out, pf_all]
        rw [eq1] at H
        obtain ⟨q, hq⟩ : ∃ q, q = es.foldl joinE p := ⟨_, rfl⟩
        rw [← hq] at H
        obtain ⟨ps1, hps1⟩ : ∃ ps1, ps1 = ps ++ hist p es m := ⟨_, rfl⟩
        rw [← hps1] at H
        have hpl1 : ps1.length = ps.length + m := by rw [hps1, List.length_append, hist_len]
        have HQ := Lib.hid (And.intro hq (And.intro hps1 hpl1))
        clear eq1 hq hps1 hpl1
        rcases HD.out with ⟨g1, gl, gr⟩ | ⟨g1, gl, gr⟩
        · have hsh := Lib.hid (And.intro gl gr)
          have hin : Hid (1 < y0 - x0 ∧ x0 < (x0 + y0) / 2 ∧ (x0 + y0) / 2 < y0) := Lib.hid (by omega)
          obtain ⟨bL, xL, yL, eL, LL, RL, hLe⟩ : ∃ bL xL yL eL LL RL, L = .node bL xL yL eL LL RL := by
            cases L with
            | nil => exfalso; have : (x0 + y0) / 2 ≤ x0 := gl; omega
            | node bL xL yL eL LL RL => exact ⟨_, _, _, _, _, _, rfl⟩
          have HLe := Lib.hid hLe
          have hpb : pl = some ⟨bL, 0, none⟩ := by rw [HPL.out.1, hLe]; rfl
          have HPB := Lib.hid hpb
          clear g1 gl gr hLe hpb
          go_wp2_with fail
          obtain ⟨W2, hW2⟩ : ∃ W, W = wr := ⟨_, rfl⟩
          rw [← hW2] at H ⊢
          obtain ⟨col2, hc2⟩ : ∃ c, c = col1 := ⟨_, rfl⟩
          rw [← hc2] at H
          have H2 := H
          clear H hW2 hc2
          have HK2 : Hid (∀ W', Fr F0 W2 W' → Calls Try.prog 41 #[.pointer pl, .pointer (some ⟨bf, 0, none⟩), .pointer (some ⟨bv, 0, none⟩), .pointer (some ⟨bl, 0, none⟩), .pointer (some ⟨ba, 0, none⟩), .pointer (some ⟨bc, 0, none⟩)] W' (VP W' col2 bf bv bl ba bc f n a N c l ps1 q (A ++ visA l q L) (C ++ visC q L))) := Lib.hid (fun W' F => by
            have g := H2.out.2.fr0 F
            rw [HPL.out.1]
            refine IHL.out W' col2 Nl _ ps1 q _ _ _ _ _ _ x0 ((x0 + y0) / 2) (H2.out.1.fr0 F) (TM.fr g.fr HTL.out (fun k hk hs => ?_)) (fun k hk => ⟨?_, ?_⟩) ?_ ?_ ?_ ?_ ?_ ?_
            · unfold Mv at hs; have := (HC.out.2.2.1 k hk).1; omega
            · rw [g.eq k (HC.out.2.2.1 k hk).2]; exact (HC.out.2.2.1 k hk).1
            · exact Nat.lt_of_lt_of_le (HC.out.2.2.1 k hk).2 g.fr.size
            · exact hsh.out.1
            · have := HXY.out.2; have := hin.out; omega
            · intro i z hz
              have hi : x0 ≤ i ∧ i < y0 := by
                by_cases hi : x0 ≤ i ∧ i < ((x0 + y0) / 2)
                · have := hin.out; omega
                · rw [pathE_out hsh.out.1 hi] at hz; cases hz
              exact HED.out i z (by rw [pathE_in hi]; exact List.mem_append_right _ (List.mem_append_left _ hz))
            · have := HMP.out; simp only [mp] at this; have := HQ.out.2.2; have := HM.out; omega
            · have := HAC.out.1; have := hin.out; omega
            · have := HAC.out.2; have := hin.out; omega)
          have t0 := (keep.out col2 W2 H2.out.2).1.cell (i := 3) rfl
          have t1 := H2.out.1.xv.cell
          go_region_held3 (fun w' => w'.cell? ⟨b, 3, none⟩ = some (.pointer pl) ∧ w'.cell? ⟨bv, 0, none⟩ = some (.func (.func 41) #[] #[.pointer (some ⟨bf, 0, none⟩), .pointer (some ⟨bv, 0, none⟩), .pointer (some ⟨bl, 0, none⟩), .pointer (some ⟨ba, 0, none⟩), .pointer (some ⟨bc, 0, none⟩)])) (go_keep)
            (first | (go_at_call 41; (with_reducible refine (HK2.out _ (by repeat (first | exact Fr.refl _ _ | refine Fr.drew ?_))).mono ?_); rintro e W3 ⟨rfl, col3, NF3, aA3, cA3, aC3, cC3, V3, g3⟩; have H3 := Lib.hid (And.intro V3 (H2.out.2.trans g3.of_drew)); have t0' := (keep.out col3 W3 H3.out.2).1.cell (i := 3) rfl; have t1' := V3.xv.cell; clear V3 g3) | fail)
          clear t0 t1 t0' t1' HK2
          go_wp2_with fail
          have HK3 : Hid (∀ W', Fr F0 W3 W' → Calls Try.prog 41 #[.pointer pr, .pointer (some ⟨bf, 0, none⟩), .pointer (some ⟨bv, 0, none⟩), .pointer (some ⟨bl, 0, none⟩), .pointer (some ⟨ba, 0, none⟩), .pointer (some ⟨bc, 0, none⟩)] W' (VP W' col3 bf bv bl ba bc f n a N c l ps1 q ((A ++ visA l q L) ++ visA l q R) ((C ++ visC q L) ++ visC q R))) := Lib.hid (fun W' F => by
            have g := H3.out.2.fr0 F
            rw [HPL.out.2]
            refine IHR.out W' col3 Nr _ ps1 q _ _ _ _ _ _ ((x0 + y0) / 2) y0 (H3.out.1.fr0 F) (TM.fr g.fr HTR.out (fun k hk hs => ?_)) (fun k hk => ⟨?_, ?_⟩) ?_ ?_ ?_ ?_ ?_ ?_
            · unfold Mv at hs; have := (HC.out.2.2.2 k hk).1; omega
            · rw [g.eq k (HC.out.2.2.2 k hk).2]; exact (HC.out.2.2.2 k hk).1
            · exact Nat.lt_of_lt_of_le (HC.out.2.2.2 k hk).2 g.fr.size
            · exact hsh.out.2
            · have := HXY.out.2; have := hin.out; omega
            · intro i z hz
              have hi : x0 ≤ i ∧ i < y0 := by
                by_cases hi : ((x0 + y0) / 2) ≤ i ∧ i < y0
                · have := hin.out; omega
                · rw [pathE_out hsh.out.2 hi] at hz; cases hz
              exact HED.out i z (by rw [pathE_in hi]; exact List.mem_append_right _ (List.mem_append_right _ hz))
            · have := HMP.out; simp only [mp] at this; have := HQ.out.2.2; have := HM.out; omega
            · have h1 := visA_len l (p := q) hsh.out.1; have := HAC.out.1; have := hin.out; rw [List.length_append]; omega
            · have h1 := visC_len (p := q) hsh.out.1; have := HAC.out.2; have := hin.out; rw [List.length_append]; omega)
          have t0 := (keep.out col3 W3 H3.out.2).1.cell (i := 4) rfl
          have t1 := H3.out.1.xv.cell
          go_region_held3 (fun w' => w'.cell? ⟨b, 4, none⟩ = some (.pointer pr) ∧ w'.cell? ⟨bv, 0, none⟩ = some (.func (.func 41) #[] #[.pointer (some ⟨bf, 0, none⟩), .pointer (some ⟨bv, 0, none⟩), .pointer (some ⟨bl, 0, none⟩), .pointer (some ⟨ba, 0, none⟩), .pointer (some ⟨bc, 0, none⟩)])) (go_keep)
            (first | (go_at_call 41; (with_reducible refine (HK3.out _ (by repeat (first | exact Fr.refl _ _ | refine Fr.drew ?_))).mono ?_); rintro e W4 ⟨rfl, col4, NF4, aA4, cA4, aC4, cC4, V4, g4⟩; have H4 := Lib.hid (And.intro V4 (H3.out.2.trans g4.of_drew)); have t0' := (keep.out col4 W4 H4.out.2).1.cell (i := 4) rfl; have t1' := V4.xv.cell; clear V4 g4) | fail)
          clear t0 t1 t0' t1' HK3
          have t3 := (keep.out col4 W4 H4.out.2).1.cell (i := 3) rfl
          rw [HPB.out] at t3
          have t0 := (keep.out col4 W4 H4.out.2).1.cell (i := 2) rfl
          go_wp2_with fail
          clear t0
          go_loopw [77] (fun s77 wq => ∃ (j : Nat) (colx : Nat → Nat) (NFx : Nat → Prop) (aAx : Option Addr) (cAx : Nat) (aCx : Option Addr) (cCx : Nat), j ≤ m ∧ s77 = .int .i64 j ∧ Hid (VS wq colx bf bv bl ba bc f n a N c l NFx (ps ++ hist p es (m - j)) (pf p es (m - j)) (A ++ visA l q L ++ visA l q R) (C ++ visC q L ++ visC q R) aAx cAx aCx cCx ∧ Gt col colx w wq)) (fun s77 _ => m - (intOf s77).toNat)
          case atStart =>
            have h := H4.out
            have h1 := h.1.to (ps' := ps ++ hist p es m) (p' := pf p es m) HQ.out.2.1 (by rw [HQ.out.1, HM.out, pf_all])
            exact ⟨0, _, _, _, _, _, _, Nat.zero_le _, rfl, Lib.hid ⟨h1, h.2⟩⟩
          case round =>
            obtain ⟨j, colx, NFx, aAx, cAx, aCx, cCx, hj, rfl, HX⟩ := hrel
            by_cases hlt : j < m
            · obtain ⟨d, hd⟩ : ∃ d, m - j = d + 1 := ⟨m - j - 1, by omega⟩
              have hd2 : m - (j + 1) = d := by omega
              have HXX := HX.out
              rw [hd, hist_succ, ← List.append_assoc] at HXX
              have HU := Lib.hid (Undo_h HXX.1.fh hn (by rw [List.length_append, hist_len]; omega))
              have H5 := Lib.hid HXX
              have zf := HXX.1.xf.cell
              have Hd2 := Lib.hid hd2
              have hlt' : (j : Int) < (m : Int) := by omega
              clear HXX hd hd2
              go_wp2_with fail
              refine HU.out.mono ?_
              rintro e w6 ⟨rfl, hF, F6⟩
              have H6 := Lib.hid (H5.out.1.undo hF F6)
              clear hF F6 HU zf
              go_wp2_with fail
              go_roundw
              case rel => exact ⟨j + 1, colx, NFx, aAx, cAx, aCx, cCx, by omega, by go_num, Lib.hid ⟨by rw [Hd2.out]; exact H6.out.1, H5.out.2.trans H6.out.2⟩⟩
              case measure => simp [intOf]; omega
            · obtain rfl : m = j := by omega
              go_wp2_with fail
              go_end0
              have h := HX.out
              rw [Nat.sub_self, hist_zero, List.append_nil, pf_zero] at h
              refine ⟨rfl, colx, NFx, aAx, cAx, aCx, cCx, ?_, h.2⟩
              have hl := HLe.out
              have h1 := h.1
              rw [HQ.out.1] at h1
              subst hl
              rw [visA, visC, ← List.append_assoc, ← List.append_assoc]
              exact h1
        · have HLR := Lib.hid (And.intro gl gr)
          have hy1 : Hid (y0 = x0 + 1) := Lib.hid (by have := HXY.out.1; omega)
          have hpb : pl = none := by rw [HPL.out.1, gl]; rfl
          have HPB := Lib.hid hpb
          clear g1 gl gr hpb
          go_wp2_with fail
          obtain ⟨W2, hW2⟩ : ∃ W, W = wr := ⟨_, rfl⟩
          rw [← hW2] at H ⊢
          obtain ⟨col2, hc2⟩ : ∃ c, c = col1 := ⟨_, rfl⟩
          rw [← hc2] at H
          have H2 := H
          clear H hW2 hc2
          have HK2 : Hid (∀ W', Fr F0 W2 W' → Calls Try.prog 41 #[.pointer pl, .pointer (some ⟨bf, 0, none⟩), .pointer (some ⟨bv, 0, none⟩), .pointer (some ⟨bl, 0, none⟩), .pointer (some ⟨ba, 0, none⟩), .pointer (some ⟨bc, 0, none⟩)] W' (VP W' col2 bf bv bl ba bc f n a N c l ps1 q (A ++ visA l q L) (C ++ visC q L))) := Lib.hid (fun W' F => by
            have g := H2.out.2.fr0 F
            rw [HPL.out.1]
            refine IHL.out W' col2 Nl _ ps1 q _ _ _ _ _ _ x0 x0 (H2.out.1.fr0 F) (TM.fr g.fr HTL.out (fun k hk hs => ?_)) (fun k hk => ⟨?_, ?_⟩) ?_ ?_ ?_ ?_ ?_ ?_
            · unfold Mv at hs; have := (HC.out.2.2.1 k hk).1; omega
            · rw [g.eq k (HC.out.2.2.1 k hk).2]; exact (HC.out.2.2.1 k hk).1
            · exact Nat.lt_of_lt_of_le (HC.out.2.2.1 k hk).2 g.fr.size
            · rw [HLR.out.1]; exact Nat.le_refl _
            · have := HXY.out; omega
            · intro i z hz
              rw [HLR.out.1] at hz; cases hz
            · have := HMP.out; simp only [mp] at this; have := HQ.out.2.2; have := HM.out; omega
            · have := HAC.out.1; have := HXY.out.1; omega
            · have := HAC.out.2; have := HXY.out.1; omega)
          have t0 := (keep.out col2 W2 H2.out.2).1.cell (i := 3) rfl
          have t1 := H2.out.1.xv.cell
          go_region_held3 (fun w' => w'.cell? ⟨b, 3, none⟩ = some (.pointer pl) ∧ w'.cell? ⟨bv, 0, none⟩ = some (.func (.func 41) #[] #[.pointer (some ⟨bf, 0, none⟩), .pointer (some ⟨bv, 0, none⟩), .pointer (some ⟨bl, 0, none⟩), .pointer (some ⟨ba, 0, none⟩), .pointer (some ⟨bc, 0, none⟩)])) (go_keep)
            (first | (go_at_call 41; (with_reducible refine (HK2.out _ (by repeat (first | exact Fr.refl _ _ | refine Fr.drew ?_))).mono ?_); rintro e W3 ⟨rfl, col3, NF3, aA3, cA3, aC3, cC3, V3, g3⟩; have H3 := Lib.hid (And.intro V3 (H2.out.2.trans g3.of_drew)); have t0' := (keep.out col3 W3 H3.out.2).1.cell (i := 3) rfl; have t1' := V3.xv.cell; clear V3 g3) | fail)
          clear t0 t1 t0' t1' HK2
          go_wp2_with fail
          have HK3 : Hid (∀ W', Fr F0 W3 W' → Calls Try.prog 41 #[.pointer pr, .pointer (some ⟨bf, 0, none⟩), .pointer (some ⟨bv, 0, none⟩), .pointer (some ⟨bl, 0, none⟩), .pointer (some ⟨ba, 0, none⟩), .pointer (some ⟨bc, 0, none⟩)] W' (VP W' col3 bf bv bl ba bc f n a N c l ps1 q ((A ++ visA l q L) ++ visA l q R) ((C ++ visC q L) ++ visC q R))) := Lib.hid (fun W' F => by
            have g := H3.out.2.fr0 F
            rw [HPL.out.2]
            refine IHR.out W' col3 Nr _ ps1 q _ _ _ _ _ _ y0 y0 (H3.out.1.fr0 F) (TM.fr g.fr HTR.out (fun k hk hs => ?_)) (fun k hk => ⟨?_, ?_⟩) ?_ ?_ ?_ ?_ ?_ ?_
            · unfold Mv at hs; have := (HC.out.2.2.2 k hk).1; omega
            · rw [g.eq k (HC.out.2.2.2 k hk).2]; exact (HC.out.2.2.2 k hk).1
            · exact Nat.lt_of_lt_of_le (HC.out.2.2.2 k hk).2 g.fr.size
            · rw [HLR.out.2]; exact Nat.le_refl _
            · have := HXY.out; omega
            · intro i z hz
              rw [HLR.out.2] at hz; cases hz
            · have := HMP.out; simp only [mp] at this; have := HQ.out.2.2; have := HM.out; omega
            · rw [HLR.out.1, visA, List.append_nil]; have := HAC.out.1; omega
            · rw [HLR.out.1, visC, List.append_nil]; have := HAC.out.2; omega)
          have t0 := (keep.out col3 W3 H3.out.2).1.cell (i := 4) rfl
          have t1 := H3.out.1.xv.cell
          go_region_held3 (fun w' => w'.cell? ⟨b, 4, none⟩ = some (.pointer pr) ∧ w'.cell? ⟨bv, 0, none⟩ = some (.func (.func 41) #[] #[.pointer (some ⟨bf, 0, none⟩), .pointer (some ⟨bv, 0, none⟩), .pointer (some ⟨bl, 0, none⟩), .pointer (some ⟨ba, 0, none⟩), .pointer (some ⟨bc, 0, none⟩)])) (go_keep)
            (first | (go_at_call 41; (with_reducible refine (HK3.out _ (by repeat (first | exact Fr.refl _ _ | refine Fr.drew ?_))).mono ?_); rintro e W4 ⟨rfl, col4, NF4, aA4, cA4, aC4, cC4, V4, g4⟩; have H4 := Lib.hid (And.intro V4 (H3.out.2.trans g4.of_drew)); have t0' := (keep.out col4 W4 H4.out.2).1.cell (i := 4) rfl; have t1' := V4.xv.cell; clear V4 g4) | fail)
          clear t0 t1 t0' t1' HK3
          have t0 := (keep.out col4 W4 H4.out.2).1.cell (i := 3) rfl
          rw [HPB.out] at t0
          go_wp2_with fail
          clear t0
          have H4' : Hid (VS W4 col4 bf bv bl ba bc f n a N c l NF4 ps1 q A C aA4 cA4 aC4 cC4 ∧ Gt col col4 w W4) := Lib.hid (by
            have h := H4.out
            rw [HLR.out.1, HLR.out.2, visA, visC, List.append_nil, List.append_nil, List.append_nil, List.append_nil] at h
            exact h)
          clear H4
          obtain ⟨⟨K, A0, B0⟩, hx⟩ : ∃ x, l[x0]? = some x := ⟨_, List.getElem?_eq_getElem (by rw [H4'.out.1.ev.len]; have := HXY.out; omega)⟩
          have hok := HEV.out x0 _ hx
          unfold okE at hok
          simp at hok
          obtain ⟨va, rfl⟩ := Int.eq_ofNat_of_zero_le (show 0 ≤ A0 by omega)
          obtain ⟨vb, rfl⟩ := Int.eq_ofNat_of_zero_le (show 0 ≤ B0 by omega)
          have hvn : va < n ∧ vb < n := by omega
          have HX := Lib.hid hx
          have hleaf : Hid (leafA l q x0 = if K = 3 then [q.getD va 0 == q.getD vb 0] else []) := Lib.hid (by unfold leafA; rw [hx]; rfl)
          have hxN : (x0 : Int) < (N : Int) := by have := HXY.out; omega
          obtain ⟨be, oe, hae, e0, e1, e2⟩ := H4'.out.1.ev.cells x0 _ hx
          subst hae
          dsimp only at e0 e1 e2
          have t1 := H4'.out.1.xl.cell
          have t2 := (keep.out col4 W4 H4'.out.2).1.cell (i := 0) rfl
          obtain ⟨W5, hW5⟩ : ∃ W, W = W4.drew := ⟨_, rfl⟩
          have F5 : Fr F0 W4 W5 := by rw [hW5]; exact (Fr.refl _ _).drew
          have H5 := Lib.hid (And.intro (H4'.out.1.fr0 F5) (H4'.out.2.fr0 F5))
          have hHeld : (fun w' : World => w'.cell? ⟨bl, 0, none⟩ = some (.slice (some ⟨be, oe, none⟩) N c) ∧ w'.cell? ⟨b, 0, none⟩ = some (.int .i64 (x0 : Int)) ∧ w'.cell? ⟨be, oe + x0 * 3, none⟩ = some (.int .i64 K) ∧ w'.cell? ⟨be, oe + x0 * 3 + 1, none⟩ = some (.int .i64 (va : Int)) ∧ w'.cell? ⟨be, oe + x0 * 3 + 2, none⟩ = some (.int .i64 (vb : Int))) W5 := ⟨F5.cell t1 id, F5.cell t2 id, F5.cell e0 id, F5.cell e1 id, F5.cell e2 id⟩
          refine wp_region_last 8 (fun w' : World => w'.cell? ⟨bl, 0, none⟩ = some (.slice (some ⟨be, oe, none⟩) N c) ∧ w'.cell? ⟨b, 0, none⟩ = some (.int .i64 (x0 : Int)) ∧ w'.cell? ⟨be, oe + x0 * 3, none⟩ = some (.int .i64 K) ∧ w'.cell? ⟨be, oe + x0 * 3 + 1, none⟩ = some (.int .i64 (va : Int)) ∧ w'.cell? ⟨be, oe + x0 * 3 + 2, none⟩ = some (.int .i64 (vb : Int))) (by kernel_rfl) ?_
          rw [← hW5]
          clear hx hok hW5 F5 t1 t2 e0 e1 e2
          refine anyP_take 0 (v := ?_) rfl rfl (by kernel_rfl) (fun _ _ _ h => h) (Or.inl ⟨by rfl, ?_⟩) hHeld ?_
          rotate_left 1
          · (intro w0 hSw; (try dsimp only at hSw); go_simp; (try (with_reducible rfl)))
          (try simp only [Act.put, List.setIfInBounds_toArray])
          refine anyP_takeF 1 (v := ?_) rfl (by kernel_rfl) (fun _ _ _ h => h) (Or.inl ⟨by rfl, ?_⟩) (.inr hHeld) ?_
          rotate_left 1
          · (intro w0 hSw; (try dsimp only at hSw); go_simp; (try (with_reducible rfl)))
          (try simp only [Act.put])
          refine anyP_takeF 2 (v := ?_) rfl (by kernel_rfl) (fun _ _ _ h => h) (Or.inl ⟨by rfl, ?_⟩) (.inr hHeld) ?_
          rotate_left 1
          · (intro w0 hSw; (try dsimp only at hSw); go_simp; (try (with_reducible rfl)))
          (try simp only [Act.put])
          refine anyP_takeF 3 (v := ?_) rfl (by kernel_rfl) (fun _ _ _ h => h) (Or.inl ⟨by rfl, ?_⟩) (.inr hHeld) ?_
          rotate_left 1
          · (intro w0 hSw; (try dsimp only at hSw); go_simp; (try (with_reducible rfl)))
          (try simp only [Act.put])
          refine anyP_take 4 (v := ?_) rfl rfl (by kernel_rfl) (fun _ _ _ h => h) (Or.inl ⟨by rfl, ?_⟩) hHeld ?_
          rotate_left 1
          · (intro w0 hSw; (try dsimp only at hSw); go_simp; (try (with_reducible rfl)))
          (try simp only [Act.put])
          refine anyP_takeF 5 (v := ?_) rfl (by kernel_rfl) (fun _ _ _ h => h) (Or.inl ⟨by rfl, ?_⟩) (.inr hHeld) ?_
          rotate_left 1
          · (intro w0 hSw; (try dsimp only at hSw); go_simp; (try (with_reducible rfl)))
          (try simp only [Act.put])
          refine anyP_take 6 (v := ?_) rfl rfl (by kernel_rfl) (fun _ _ _ h => h) (Or.inl ⟨by rfl, ?_⟩) hHeld ?_
          rotate_left 1
          · (intro w0 hSw; (try dsimp only at hSw); go_simp; (try (with_reducible rfl)))
          (try simp only [Act.put])
          have F6 := (Fr.refl F0 W5).alloc (.cells #[.int .i64 0, .int .i64 0, .int .i64 0] 45)
          have sh : (fun w' : World => w'.cell? ⟨bl, 0, none⟩ = some (.slice (some ⟨be, oe, none⟩) N c) ∧ w'.cell? ⟨b, 0, none⟩ = some (.int .i64 (x0 : Int)) ∧ w'.cell? ⟨be, oe + x0 * 3, none⟩ = some (.int .i64 K) ∧ w'.cell? ⟨be, oe + x0 * 3 + 1, none⟩ = some (.int .i64 (va : Int)) ∧ w'.cell? ⟨be, oe + x0 * 3 + 2, none⟩ = some (.int .i64 (vb : Int))) (W5.alloc (.cells #[.int .i64 0, .int .i64 0, .int .i64 0] 45)) := ⟨F6.cell hHeld.1 id, F6.cell hHeld.2.1 id, F6.cell hHeld.2.2.1 id, F6.cell hHeld.2.2.2.1 id, F6.cell hHeld.2.2.2.2 id⟩
          refine anyP_one 7 (by kernel_rfl) rfl (fun K hK => ?_)
          replace hK := Lib.hid hK
          go_simp
          refine hK.out _ _ (.inr sh) ?_
          clear hK K
          (try simp only [Act.put, List.setIfInBounds_toArray, List.set_cons_zero, List.set_cons_succ])
          clear sh F6
          refine anyP_one 8 (by kernel_rfl) rfl (fun K hK => ?_)
          replace hK := Lib.hid hK
          go_simp
          refine hK.out _ _ (.inl (by kernel_rfl)) ?_
          clear hK K
          (try simp only [Act.put, List.setIfInBounds_toArray, List.set_cons_zero, List.set_cons_succ])
          refine anyP_done (by kernel_rfl) ?_ _
          refine NoPanic.normal ?_
          obtain ⟨W6, hW6⟩ : ∃ W, W = W5.alloc (.cells #[.int .i64 K, .int .i64 (va : Int), .int .i64 (vb : Int)] 45) := ⟨_, rfl⟩
          obtain ⟨bx, hbx⟩ : ∃ b, b = W5.heap.size := ⟨_, rfl⟩
          have F6 : Fr F0 W5 W6 := by rw [hW6]; exact (Fr.refl _ _).alloc _
          have BX : Hid (Blk W6 bx 45 [.int .i64 K, .int .i64 (va : Int), .int .i64 (vb : Int)]) := Lib.hid (by rw [hW6, hbx]; exact Blk.new W5 45 _)
          have H6 := Lib.hid (And.intro (H5.out.1.fr0 F6) (H5.out.2.fr0 F6))
          have nbx : Hid (¬ onBlk aA4 bx) := Lib.hid (fun h => by have h1 := (H5.out.1.oa.blk bx h).2; rw [hbx] at h1; omega)
          rw [← hW6, ← hbx]
          clear hW6 hbx F6 hHeld H5 H4'
          have v0 := BX.out.cell (i := 0) rfl
          by_cases g3 : K = 3
          · have k3 : (K == 3) = true := by simpa using g3
            have HL3 : Hid (leafA l q x0 = [q.getD va 0 == q.getD vb 0]) := Lib.hid (by rw [hleaf.out, if_pos g3])
            clear g3
            go_wp2_with fail
            clear k3 v0
            obtain ⟨rt, hrt1, hrt2⟩ := Root_h H6.out.1.fh hn
            have hrt := hrt2 va vb hvn.1 hvn.2
            have HR1 := Lib.hid (fun (W : World) (F : Fr F0 W6 W) => hrt1 W F va hvn.1)
            have HR2 := Lib.hid (fun (W : World) (F : Fr F0 W6 W) => hrt1 W F vb hvn.2)
            obtain ⟨ra, hra⟩ : ∃ r, r = rt va := ⟨_, rfl⟩
            obtain ⟨rb, hrb⟩ : ∃ r, r = rt vb := ⟨_, rfl⟩
            rw [← hra] at HR1 hrt
            rw [← hrb] at HR2 hrt
            have HRT := Lib.hid hrt
            obtain ⟨ans, hans⟩ : ∃ v, v = (q.getD va 0 == q.getD vb 0) := ⟨_, rfl⟩
            rw [← hans] at hrt HL3
            clear hrt1 hrt2 hra hrb hans HRT
            obtain ⟨W7, hW7⟩ : ∃ W, W = W6.drew := ⟨_, rfl⟩
            have F7 : Fr F0 W6 W7 := by rw [hW7]; exact (Fr.refl _ _).drew
            have H7 := Lib.hid (And.intro (H6.out.1.fr0 F7) (H6.out.2.fr0 F7))
            have BX7 := Lib.hid (BX.out.fr F7 id)
            have FF7 := Lib.hid F7
            have sh : Hid (∀ W, Fr F0 W7 W → (fun w' : World => w'.cell? ⟨ba, 0, none⟩ = some (.slice aA4 A.length cA4) ∧ w'.cell? ⟨bf, 0, none⟩ = some (.pointer (some ⟨f, 0, none⟩)) ∧ w'.cell? ⟨bx, 1, none⟩ = some (.int .i64 (va : Int)) ∧ w'.cell? ⟨bx, 2, none⟩ = some (.int .i64 (vb : Int))) W) := Lib.hid (fun W F => ⟨F.cell H7.out.1.xa.cell id, F.cell H7.out.1.xf.cell id, (BX7.out.fr F id).cell (i := 1) rfl, (BX7.out.fr F id).cell (i := 2) rfl⟩)
            refine wp_region_last 12 (fun w' : World => w'.cell? ⟨ba, 0, none⟩ = some (.slice aA4 A.length cA4) ∧ w'.cell? ⟨bf, 0, none⟩ = some (.pointer (some ⟨f, 0, none⟩)) ∧ w'.cell? ⟨bx, 1, none⟩ = some (.int .i64 (va : Int)) ∧ w'.cell? ⟨bx, 2, none⟩ = some (.int .i64 (vb : Int))) (by kernel_rfl) ?_
            rw [← hW7]
            have hHeld := sh.out W7 (Fr.refl _ _)
            have hA1 : (A.length + 1) * 1 ≤ 140737488355328 ∧ A.length + 1 ≤ 9223372036854775807 := by have := HAC.out.1; omega
            clear hW7 F7
            refine anyP_take 0 (v := ?_) rfl rfl (by kernel_rfl) (fun _ _ _ h => h) (Or.inl ⟨by rfl, ?_⟩) hHeld ?_
            rotate_left 1
            · (intro w0 hSw; (try dsimp only at hSw); go_simp; (try (with_reducible rfl)))
            (try simp only [Act.put, List.setIfInBounds_toArray])
            refine anyP_take 1 (v := ?_) rfl rfl (by kernel_rfl) (fun _ _ _ h => h) (Or.inl ⟨by rfl, ?_⟩) hHeld ?_
            rotate_left 1
            · (intro w0 hSw; (try dsimp only at hSw); go_simp; (try (with_reducible rfl)))
            (try simp only [Act.put])
            refine anyP_takeF 2 (v := ?_) rfl (by kernel_rfl) (fun _ _ _ h => h) (Or.inl ⟨by rfl, ?_⟩) (.inr hHeld) ?_
            rotate_left 1
            · (intro w0 hSw; (try dsimp only at hSw); go_simp; (try (with_reducible rfl)))
            (try simp only [Act.put])
            refine anyP_take 3 (v := ?_) rfl rfl (by kernel_rfl) (fun _ _ _ h => h) (Or.inl ⟨by rfl, ?_⟩) hHeld ?_
            rotate_left 1
            · (intro w0 hSw; (try dsimp only at hSw); go_simp; (try (with_reducible rfl)))
            (try simp only [Act.put])
            refine anyP_take 5 (v := ?_) rfl rfl (by kernel_rfl) (fun _ _ _ h => h) (Or.inl ⟨by rfl, ?_⟩) hHeld ?_
            rotate_left 1
            · (intro w0 hSw; (try dsimp only at hSw); go_simp; (try (with_reducible rfl)))
            (try simp only [Act.put])
            refine anyP_takeF 6 (v := ?_) rfl (by kernel_rfl) (fun _ _ _ h => h) (Or.inl ⟨by rfl, ?_⟩) (.inr hHeld) ?_
            rotate_left 1
            · (intro w0 hSw; (try dsimp only at hSw); go_simp; (try (with_reducible rfl)))
            (try simp only [Act.put])
            refine anyP_take 7 (v := ?_) rfl rfl (by kernel_rfl) (fun _ _ _ h => h) (Or.inl ⟨by rfl, ?_⟩) hHeld ?_
            rotate_left 1
            · (intro w0 hSw; (try dsimp only at hSw); go_simp; (try (with_reducible rfl)))
            (try simp only [Act.put])
            refine anyP_one 4 (by kernel_rfl) rfl (fun K hK => ?_)
            replace hK := Lib.hid hK
            go_simp
            refine (HR1.out _ FF7.out).mono ?_
            rintro e w9 ⟨rfl, rfl⟩
            refine hK.out _ _ (.inr hHeld) ?_
            clear hK K
            (try simp only [Act.put, List.setIfInBounds_toArray, List.set_cons_zero, List.set_cons_succ])
            refine anyP_one 8 (by kernel_rfl) rfl (fun K hK => ?_)
            replace hK := Lib.hid hK
            go_simp
            refine (HR2.out _ FF7.out).mono ?_
            rintro e w9 ⟨rfl, rfl⟩
            refine hK.out _ _ (.inr hHeld) ?_
            clear hK K
            (try simp only [Act.put, List.setIfInBounds_toArray, List.set_cons_zero, List.set_cons_succ])
            refine anyP_takeF 9 (v := ?_) rfl (by kernel_rfl) (fun _ _ _ h => h) (Or.inl ⟨by rfl, ?_⟩) (.inr hHeld) ?_
            rotate_left 1
            · (intro w0 hSw; (try dsimp only at hSw); go_simp; (try (with_reducible rfl)))
            (try simp only [Act.put, List.setIfInBounds_toArray])
            clear hrt
            refine anyP_one 10 (by kernel_rfl) rfl (fun K hK => ?_)
            replace hK := Lib.hid hK
            go_simp
            refine hK.out _ _ (.inr (sh.out _ ((Fr.refl F0 W7).alloc _))) ?_
            clear hK K
            (try simp only [Act.put, List.setIfInBounds_toArray, List.set_cons_zero, List.set_cons_succ])
            have lit := Own.rd (Own.lit (w := W7) (B := 0) (T := 4) [.bool ans] 1 rfl (Nat.zero_le _) (by omega))
            have F8 := (Fr.refl F0 W7).alloc (.cells [.bool ans].toArray 4)
            have H8 := H7.out.1.fr0 F8
            have G8 := H7.out.2.fr0 F8
            have sh8 := fun (W : World) (F : Fr F0 (W7.alloc (.cells [.bool ans].toArray 4)) W) => sh.out W (F8.trans0 F)
            have FF8 := F8
            obtain ⟨W8, hW8⟩ : ∃ W, W = W7.alloc (.cells [.bool ans].toArray 4) := ⟨_, rfl⟩
            obtain ⟨g8, hg8⟩ : ∃ g, g = W7.heap.size := ⟨_, rfl⟩
            change anyP _ _ _ _ _ _ _ _ _ (W7.alloc (.cells [.bool ans].toArray 4))
            rw [← hW8] at lit H8 G8 sh8 FF8 ⊢
            rw [← hg8] at lit ⊢
            replace H8 := Lib.hid H8; replace G8 := Lib.hid G8; replace sh8 := Lib.hid sh8; replace FF8 := Lib.hid FF8; replace lit := Lib.hid lit
            clear hW8 hg8 F8 hHeld
            refine anyP_one 11 (by kernel_rfl) rfl (fun KK hKK => ?_)
            replace hKK := Lib.hid hKK
            refine stepAppRd E25 (by rfl) (by rfl) (by rfl) (by rfl) H8.out.oa lit.out (fun u hu => by simp at hu; subst hu; rfl) (by omega) (by omega) (Nat.zero_le _) (A.length + 1) rfl ?_
            intro a9 c9 W9 own9 fr9 at9
            have x9a := (H8.out.xa.fr fr9 (fun hk => by have := H8.out.kA _ hk; have := H8.out.ka; omega))
            have x9f := (H8.out.xf.fr fr9 (fun hk => by have := H8.out.kA _ hk; have := H8.out.kf; omega))
            have x9b := ((BX7.out.fr (FF8.out) id).fr fr9 (fun hk => nbx.out hk))
            have s9 : (fun w' : World => w'.cell? ⟨ba, 0, none⟩ = some (.slice aA4 A.length cA4) ∧ w'.cell? ⟨bf, 0, none⟩ = some (.pointer (some ⟨f, 0, none⟩)) ∧ w'.cell? ⟨bx, 1, none⟩ = some (.int .i64 (va : Int)) ∧ w'.cell? ⟨bx, 2, none⟩ = some (.int .i64 (vb : Int))) W9 := ⟨x9a.cell, x9f.cell, x9b.cell (i := 1) rfl, x9b.cell (i := 2) rfl⟩
            refine hKK.out _ _ (.inr s9) ?_
            clear hKK KK
            (try simp only [Act.put, List.setIfInBounds_toArray])
            have q1 := x9a.cell
            have q2 := x9a.free
            have H10 := Lib.hid (H8.out.ans own9 fr9 at9)
            have BX9 := Lib.hid x9b
            clear own9 fr9 at9 x9a x9f x9b s9
            refine anyP_one 12 (by kernel_rfl) rfl (fun K hK => ?_)
            replace hK := Lib.hid hK
            go_simp
            refine hK.out _ _ (.inl (by kernel_rfl)) ?_
            clear hK K
            (try simp only [Act.put, List.setIfInBounds_toArray, List.set_cons_zero, List.set_cons_succ])
            refine anyP_done (by kernel_rfl) ?_ _
            refine NoPanic.normal ?_
            go_wp2_with fail
            obtain ⟨W10, hW10⟩ : ∃ W, W = W9.setCell ⟨ba, 0, none⟩ (.slice a9 (A.length + 1) c9) := ⟨_, rfl⟩
            rw [← hW10] at H10 ⊢
            have H11 := Lib.hid (And.intro H10.out.1 (G8.out.trans H10.out.2))
            clear hW10 q1 q2 H10 H8 G8 sh8 lit BX9 sh H7 BX7 FF7 hA1 FF8 nbx
            have eA : Hid ((A ++ visA l p (.node b x0 y0 es L R)) = A ++ [ans]) := Lib.hid (by have h1 := HLR.out.1; have h2 := HLR.out.2; subst h1; subst h2; rw [visA, visA, List.nil_append, ← HQ.out.1, HL3.out])
            have H7 := Lib.hid (And.intro (H11.out.1.fr0 (Fr.refl F0 _).drew) (H11.out.2.fr0 (Fr.refl F0 _).drew))
            refine wp_region_last 5 (fun w' : World => w'.cell? ⟨bc, 0, none⟩ = some (.slice aC4 C.length cC4) ∧ w'.cell? ⟨bf, 0, none⟩ = some (.pointer (some ⟨f, 0, none⟩))) (by kernel_rfl) ?_
            generalize World.drew _ = W7 at H7 ⊢
            have HCt := Lib.hid (Count_h H7.out.1.fh)
            obtain ⟨cn, hcn⟩ : ∃ c, c = cntP q := ⟨_, rfl⟩
            rw [← hcn] at HCt
            have Hcn := Lib.hid hcn
            have sh : Hid (∀ W, Fr F0 W7 W → (fun w' : World => w'.cell? ⟨bc, 0, none⟩ = some (.slice aC4 C.length cC4) ∧ w'.cell? ⟨bf, 0, none⟩ = some (.pointer (some ⟨f, 0, none⟩))) W) := Lib.hid (fun W F => ⟨F.cell H7.out.1.xc.cell id, F.cell H7.out.1.xf.cell id⟩)
            have hHeld := sh.out W7 (Fr.refl _ _)
            have hC1 : (C.length + 1) * 8 ≤ 140737488355328 ∧ C.length + 1 ≤ 9223372036854775807 := by have := HAC.out.2; omega
            clear hcn
            refine anyP_take 0 (v := ?_) rfl rfl (by kernel_rfl) (fun _ _ _ h => h) (Or.inl ⟨by rfl, ?_⟩) hHeld ?_
            rotate_left 1
            · (intro w0 hSw; (try dsimp only at hSw); go_simp; (try (with_reducible rfl)))
            (try simp only [Act.put, List.setIfInBounds_toArray])
            refine anyP_take 1 (v := ?_) rfl rfl (by kernel_rfl) (fun _ _ _ h => h) (Or.inl ⟨by rfl, ?_⟩) hHeld ?_
            rotate_left 1
            · (intro w0 hSw; (try dsimp only at hSw); go_simp; (try (with_reducible rfl)))
            (try simp only [Act.put])
            refine anyP_one 2 (by kernel_rfl) rfl (fun K hK => ?_)
            replace hK := Lib.hid hK
            go_simp
            refine HCt.out.mono ?_
            rintro e w9 ⟨rfl, rfl⟩
            refine hK.out _ _ (.inr hHeld) ?_
            clear hK K
            (try simp only [Act.put, List.setIfInBounds_toArray, List.set_cons_zero, List.set_cons_succ])
            refine anyP_one 3 (by kernel_rfl) rfl (fun K hK => ?_)
            replace hK := Lib.hid hK
            go_simp
            refine hK.out _ _ (.inr (sh.out _ ((Fr.refl F0 W7).alloc _))) ?_
            clear hK K
            (try simp only [Act.put, List.setIfInBounds_toArray, List.set_cons_zero, List.set_cons_succ])
            have lit := Own.rd (Own.lit (w := W7) (B := 0) (T := 3) [.int .i64 (cn : Int)] 1 rfl (Nat.zero_le _) (by omega))
            have F8 := (Fr.refl F0 W7).alloc (.cells [.int .i64 (cn : Int)].toArray 3)
            have H8 := H7.out.1.fr0 F8
            have G8 := H7.out.2.fr0 F8
            have sh8 := fun (W : World) (F : Fr F0 (W7.alloc (.cells [.int .i64 (cn : Int)].toArray 3)) W) => sh.out W (F8.trans0 F)
            have FF8 := F8
            obtain ⟨W8, hW8⟩ : ∃ W, W = W7.alloc (.cells [.int .i64 (cn : Int)].toArray 3) := ⟨_, rfl⟩
            obtain ⟨g8, hg8⟩ : ∃ g, g = W7.heap.size := ⟨_, rfl⟩
            change anyP _ _ _ _ _ _ _ _ _ (W7.alloc (.cells [.int .i64 (cn : Int)].toArray 3))
            rw [← hW8] at lit H8 G8 sh8 FF8 ⊢
            rw [← hg8] at lit ⊢
            replace H8 := Lib.hid H8; replace G8 := Lib.hid G8; replace sh8 := Lib.hid sh8; replace FF8 := Lib.hid FF8; replace lit := Lib.hid lit
            clear hW8 hg8 F8 hHeld
            refine anyP_one 4 (by kernel_rfl) rfl (fun KK hKK => ?_)
            replace hKK := Lib.hid hKK
            refine stepAppRd E3 (by rfl) (by rfl) (by rfl) (by rfl) H8.out.oc lit.out (fun u hu => by simp at hu; subst hu; rfl) (by omega) (by omega) (Nat.zero_le _) (C.length + 1) rfl ?_
            intro a9 c9 W9 own9 fr9 at9
            have x9a := (H8.out.xc.fr fr9 (fun hk => by have := H8.out.kC _ hk; have := H8.out.kc; omega))
            have x9f := (H8.out.xf.fr fr9 (fun hk => by have := H8.out.kC _ hk; have := H8.out.kf; omega))
            have s9 : (fun w' : World => w'.cell? ⟨bc, 0, none⟩ = some (.slice aC4 C.length cC4) ∧ w'.cell? ⟨bf, 0, none⟩ = some (.pointer (some ⟨f, 0, none⟩))) W9 := ⟨x9a.cell, x9f.cell⟩
            refine hKK.out _ _ (.inr s9) ?_
            clear hKK KK
            (try simp only [Act.put, List.setIfInBounds_toArray])
            have q1 := x9a.cell
            have q2 := x9a.free
            have H10 := Lib.hid (H8.out.cnt own9 fr9 at9)
            clear own9 fr9 at9 x9a x9f s9
            refine anyP_one 5 (by kernel_rfl) rfl (fun K hK => ?_)
            replace hK := Lib.hid hK
            go_simp
            refine hK.out _ _ (.inl (by kernel_rfl)) ?_
            clear hK K
            (try simp only [Act.put, List.setIfInBounds_toArray, List.set_cons_zero, List.set_cons_succ])
            refine anyP_done (by kernel_rfl) ?_ _
            refine NoPanic.normal ?_
            obtain ⟨W12, hW12⟩ : ∃ W, W = W9.setCell ⟨bc, 0, none⟩ (.slice a9 (C.length + 1) c9) := ⟨_, rfl⟩
            rw [← hW12] at H10 ⊢
            have H12 := Lib.hid (And.intro H10.out.1 (G8.out.trans H10.out.2))
            clear hW12 q1 q2 H10 H8 G8 sh8 lit sh H7 hC1 FF8
            have t0 := (keep.out _ W12 H12.out.2).1.cell (i := 2) rfl
            go_wp2_with fail
            clear t0
            go_loopw [77] (fun s77 wq => ∃ (j : Nat) (colx : Nat → Nat) (NFx : Nat → Prop) (aAx : Option Addr) (cAx : Nat) (aCx : Option Addr) (cCx : Nat), j ≤ m ∧ s77 = .int .i64 j ∧ Hid (VS wq colx bf bv bl ba bc f n (some ⟨be, oe, none⟩) N c l NFx (ps ++ hist p es (m - j)) (pf p es (m - j)) (A ++ [ans]) (C ++ [cn]) aAx cAx aCx cCx ∧ Gt col colx w wq)) (fun s77 _ => m - (intOf s77).toNat)
            case atStart =>
              have h := H12.out
              have h1 := h.1.to (ps' := ps ++ hist p es m) (p' := pf p es m) HQ.out.2.1 (by rw [HQ.out.1, HM.out, pf_all])
              exact ⟨0, _, _, _, _, _, _, Nat.zero_le _, rfl, Lib.hid ⟨h1, h.2⟩⟩
            case round =>
              obtain ⟨j, colx, NFx, aAx, cAx, aCx, cCx, hj, rfl, HX⟩ := hrel
              by_cases hlt : j < m
              · obtain ⟨d, hd⟩ : ∃ d, m - j = d + 1 := ⟨m - j - 1, by omega⟩
                have hd2 : m - (j + 1) = d := by omega
                have HXX := HX.out
                rw [hd, hist_succ, ← List.append_assoc] at HXX
                have HU := Lib.hid (Undo_h HXX.1.fh hn (by rw [List.length_append, hist_len]; omega))
                have H5 := Lib.hid HXX
                have zf := HXX.1.xf.cell
                have Hd2 := Lib.hid hd2
                have hlt' : (j : Int) < (m : Int) := by omega
                clear HXX hd hd2
                go_wp2_with fail
                refine HU.out.mono ?_
                rintro e w6 ⟨rfl, hF, F6⟩
                have H6 := Lib.hid (H5.out.1.undo hF F6)
                clear hF F6 HU zf
                go_wp2_with fail
                go_roundw
                case rel => exact ⟨j + 1, colx, NFx, aAx, cAx, aCx, cCx, by omega, by go_num, Lib.hid ⟨by rw [Hd2.out]; exact H6.out.1, H5.out.2.trans H6.out.2⟩⟩
                case measure => simp [intOf]; omega
              · obtain rfl : m = j := by omega
                go_wp2_with fail
                go_end0
                have h := HX.out
                rw [Nat.sub_self, hist_zero, List.append_nil, pf_zero] at h
                refine ⟨rfl, colx, NFx, aAx, cAx, aCx, cCx, ?_, h.2⟩
                rw [eA.out]
                have h1 := HLR.out.1
                have h2 := HLR.out.2
                have h3 := h.1
                rw [Hcn.out, HQ.out.1] at h3
                subst h1
                subst h2
                rw [visC, visC, List.nil_append]
                exact h3
          · have k3 : (K == 3) = false := by simpa using g3
            have eA : Hid ((A ++ visA l p (.node b x0 y0 es L R)) = A) := Lib.hid (by have h1 := HLR.out.1; have h2 := HLR.out.2; subst h1; subst h2; rw [visA, visA, List.nil_append, ← HQ.out.1, hleaf.out, if_neg g3, List.append_nil])
            clear g3
            go_wp2_with fail
            clear k3 v0
            have H7 := Lib.hid (And.intro (H6.out.1.fr0 (Fr.refl F0 _).drew) (H6.out.2.fr0 (Fr.refl F0 _).drew))
            refine wp_region_last 5 (fun w' : World => w'.cell? ⟨bc, 0, none⟩ = some (.slice aC4 C.length cC4) ∧ w'.cell? ⟨bf, 0, none⟩ = some (.pointer (some ⟨f, 0, none⟩))) (by kernel_rfl) ?_
            generalize World.drew _ = W7 at H7 ⊢
            have HCt := Lib.hid (Count_h H7.out.1.fh)
            obtain ⟨cn, hcn⟩ : ∃ c, c = cntP q := ⟨_, rfl⟩
            rw [← hcn] at HCt
            have Hcn := Lib.hid hcn
            have sh : Hid (∀ W, Fr F0 W7 W → (fun w' : World => w'.cell? ⟨bc, 0, none⟩ = some (.slice aC4 C.length cC4) ∧ w'.cell? ⟨bf, 0, none⟩ = some (.pointer (some ⟨f, 0, none⟩))) W) := Lib.hid (fun W F => ⟨F.cell H7.out.1.xc.cell id, F.cell H7.out.1.xf.cell id⟩)
            have hHeld := sh.out W7 (Fr.refl _ _)
            have hC1 : (C.length + 1) * 8 ≤ 140737488355328 ∧ C.length + 1 ≤ 9223372036854775807 := by have := HAC.out.2; omega
            clear hcn
            refine anyP_take 0 (v := ?_) rfl rfl (by kernel_rfl) (fun _ _ _ h => h) (Or.inl ⟨by rfl, ?_⟩) hHeld ?_
            rotate_left 1
            · (intro w0 hSw; (try dsimp only at hSw); go_simp; (try (with_reducible rfl)))
            (try simp only [Act.put, List.setIfInBounds_toArray])
            refine anyP_take 1 (v := ?_) rfl rfl (by kernel_rfl) (fun _ _ _ h => h) (Or.inl ⟨by rfl, ?_⟩) hHeld ?_
            rotate_left 1
            · (intro w0 hSw; (try dsimp only at hSw); go_simp; (try (with_reducible rfl)))
            (try simp only [Act.put])
            refine anyP_one 2 (by kernel_rfl) rfl (fun K hK => ?_)
            replace hK := Lib.hid hK
            go_simp
            refine HCt.out.mono ?_
            rintro e w9 ⟨rfl, rfl⟩
            refine hK.out _ _ (.inr hHeld) ?_
            clear hK K
            (try simp only [Act.put, List.setIfInBounds_toArray, List.set_cons_zero, List.set_cons_succ])
            refine anyP_one 3 (by kernel_rfl) rfl (fun K hK => ?_)
            replace hK := Lib.hid hK
            go_simp
            refine hK.out _ _ (.inr (sh.out _ ((Fr.refl F0 W7).alloc _))) ?_
            clear hK K
            (try simp only [Act.put, List.setIfInBounds_toArray, List.set_cons_zero, List.set_cons_succ])
            have lit := Own.rd (Own.lit (w := W7) (B := 0) (T := 3) [.int .i64 (cn : Int)] 1 rfl (Nat.zero_le _) (by omega))
            have F8 := (Fr.refl F0 W7).alloc (.cells [.int .i64 (cn : Int)].toArray 3)
            have H8 := H7.out.1.fr0 F8
            have G8 := H7.out.2.fr0 F8
            have sh8 := fun (W : World) (F : Fr F0 (W7.alloc (.cells [.int .i64 (cn : Int)].toArray 3)) W) => sh.out W (F8.trans0 F)
            have FF8 := F8
            obtain ⟨W8, hW8⟩ : ∃ W, W = W7.alloc (.cells [.int .i64 (cn : Int)].toArray 3) := ⟨_, rfl⟩
            obtain ⟨g8, hg8⟩ : ∃ g, g = W7.heap.size := ⟨_, rfl⟩
            change anyP _ _ _ _ _ _ _ _ _ (W7.alloc (.cells [.int .i64 (cn : Int)].toArray 3))
            rw [← hW8] at lit H8 G8 sh8 FF8 ⊢
            rw [← hg8] at lit ⊢
            replace H8 := Lib.hid H8; replace G8 := Lib.hid G8; replace sh8 := Lib.hid sh8; replace FF8 := Lib.hid FF8; replace lit := Lib.hid lit
            clear hW8 hg8 F8 hHeld
            refine anyP_one 4 (by kernel_rfl) rfl (fun KK hKK => ?_)
            replace hKK := Lib.hid hKK
            refine stepAppRd E3 (by rfl) (by rfl) (by rfl) (by rfl) H8.out.oc lit.out (fun u hu => by simp at hu; subst hu; rfl) (by omega) (by omega) (Nat.zero_le _) (C.length + 1) rfl ?_
            intro a9 c9 W9 own9 fr9 at9
            have x9a := (H8.out.xc.fr fr9 (fun hk => by have := H8.out.kC _ hk; have := H8.out.kc; omega))
            have x9f := (H8.out.xf.fr fr9 (fun hk => by have := H8.out.kC _ hk; have := H8.out.kf; omega))
            have s9 : (fun w' : World => w'.cell? ⟨bc, 0, none⟩ = some (.slice aC4 C.length cC4) ∧ w'.cell? ⟨bf, 0, none⟩ = some (.pointer (some ⟨f, 0, none⟩))) W9 := ⟨x9a.cell, x9f.cell⟩
            refine hKK.out _ _ (.inr s9) ?_
            clear hKK KK
            (try simp only [Act.put, List.setIfInBounds_toArray])
            have q1 := x9a.cell
            have q2 := x9a.free
            have H10 := Lib.hid (H8.out.cnt own9 fr9 at9)
            clear own9 fr9 at9 x9a x9f s9
            refine anyP_one 5 (by kernel_rfl) rfl (fun K hK => ?_)
            replace hK := Lib.hid hK
            go_simp
            refine hK.out _ _ (.inl (by kernel_rfl)) ?_
            clear hK K
            (try simp only [Act.put, List.setIfInBounds_toArray, List.set_cons_zero, List.set_cons_succ])
            refine anyP_done (by kernel_rfl) ?_ _
            refine NoPanic.normal ?_
            obtain ⟨W12, hW12⟩ : ∃ W, W = W9.setCell ⟨bc, 0, none⟩ (.slice a9 (C.length + 1) c9) := ⟨_, rfl⟩
            rw [← hW12] at H10 ⊢
            have H12 := Lib.hid (And.intro H10.out.1 (G8.out.trans H10.out.2))
            clear hW12 q1 q2 H10 H8 G8 sh8 lit sh H7 hC1 FF8
            have t0 := (keep.out _ W12 H12.out.2).1.cell (i := 2) rfl
            go_wp2_with fail
            clear t0
            go_loopw [77] (fun s77 wq => ∃ (j : Nat) (colx : Nat → Nat) (NFx : Nat → Prop) (aAx : Option Addr) (cAx : Nat) (aCx : Option Addr) (cCx : Nat), j ≤ m ∧ s77 = .int .i64 j ∧ Hid (VS wq colx bf bv bl ba bc f n (some ⟨be, oe, none⟩) N c l NFx (ps ++ hist p es (m - j)) (pf p es (m - j)) A (C ++ [cn]) aAx cAx aCx cCx ∧ Gt col colx w wq)) (fun s77 _ => m - (intOf s77).toNat)
            case atStart =>
              have h := H12.out
              have h1 := h.1.to (ps' := ps ++ hist p es m) (p' := pf p es m) HQ.out.2.1 (by rw [HQ.out.1, HM.out, pf_all])
              exact ⟨0, _, _, _, _, _, _, Nat.zero_le _, rfl, Lib.hid ⟨h1, h.2⟩⟩
            case round =>
              obtain ⟨j, colx, NFx, aAx, cAx, aCx, cCx, hj, rfl, HX⟩ := hrel
              by_cases hlt : j < m
              · obtain ⟨d, hd⟩ : ∃ d, m - j = d + 1 := ⟨m - j - 1, by omega⟩
                have hd2 : m - (j + 1) = d := by omega
                have HXX := HX.out
                rw [hd, hist_succ, ← List.append_assoc] at HXX
                have HU := Lib.hid (Undo_h HXX.1.fh hn (by rw [List.length_append, hist_len]; omega))
                have H5 := Lib.hid HXX
                have zf := HXX.1.xf.cell
                have Hd2 := Lib.hid hd2
                have hlt' : (j : Int) < (m : Int) := by omega
                clear HXX hd hd2
                go_wp2_with fail
                refine HU.out.mono ?_
                rintro e w6 ⟨rfl, hF, F6⟩
                have H6 := Lib.hid (H5.out.1.undo hF F6)
                clear hF F6 HU zf
                go_wp2_with fail
                go_roundw
                case rel => exact ⟨j + 1, colx, NFx, aAx, cAx, aCx, cCx, by omega, by go_num, Lib.hid ⟨by rw [Hd2.out]; exact H6.out.1, H5.out.2.trans H6.out.2⟩⟩
                case measure => simp [intOf]; omega
              · obtain rfl : m = j := by omega
                go_wp2_with fail
                go_end0
                have h := HX.out
                rw [Nat.sub_self, hist_zero, List.append_nil, pf_zero] at h
                refine ⟨rfl, colx, NFx, aAx, cAx, aCx, cCx, ?_, h.2⟩
                rw [eA.out]
                have h1 := HLR.out.1
                have h2 := HLR.out.2
                have h3 := h.1
                rw [Hcn.out, HQ.out.1] at h3
                subst h1
                subst h2
                rw [visC, visC, List.nil_append]
                exact h3
end Go.Proofs.Ytihcaemheknjbaa
