/- Buffer trees: a tree beside the reference's. -/
import Derived.Test.YtkmnnfflibamnaaH10
import Derived.Test.YtkmnnfflibamnaaL2
import Derived.Test.YtkmnnfflibamnaaG27
import Derived.Test.YtkmnnfflibamnaaComArg
namespace Go.Proofs.Ytkmnnfflibamnaa
open Go.RowKit
theorem Blk.has {w : World} {b T i : Nat} {vs : List Value} {u : Value} (h : Blk w b T vs) (hu : w.cell? ⟨b, i, none⟩ = some u) : vs[i]? = some u := by
  rw [cell_of_row w b i vs.toArray T (0, 0) h] at hu; simpa using hu
/-- No run lies at a block without truth values. -/
theorem TS.off {w : World} {col : Nat → Nat} {t B M g T0 : Nat} {T : TV} {vs : List Value} (h : TS w col t B M T) (hb : Blk w g T0 vs) (hv : ∀ (i : Nat) (u : Bool), vs[i]? ≠ some (.bool u)) (hne : ∀ l ∈ lvT T.lv, ∀ r ∈ l, 0 < r.length) :
    ∀ (i : Nat) (L : LV), T.lv[i]? = some L → ∀ r ∈ L.rv, ¬ onBlk (RV.a r) g := by
  intro i L hL r hr hg
  obtain ⟨_, _, h3⟩ := h.lev i L hL
  obtain ⟨h4, _, _⟩ := h3 r hr
  have hpos : 0 < r.l.length := hne (ls L.rv) (List.mem_map.2 ⟨L, List.mem_of_getElem? hL, rfl⟩) r.l (List.mem_map.2 ⟨r, hr, rfl⟩)
  obtain ⟨x, hx⟩ : ∃ x, r.l[0]? = some x := ⟨_, List.getElem?_eq_getElem hpos⟩
  obtain ⟨b, o, ha, _, _, d2⟩ := h4.ent hx
  rw [ha] at hg
  have := (onBlk_some _ _ _ _).1 hg
  subst this
  exact hv _ _ (hb.has d2)
/-- A block beside the tree is written. -/
theorem TS.wr {w w' : World} {col : Nat → Nat} {t B M g T0 : Nat} {T : TV} {vs : List Value} (h : TS w col t B M T) (hg : col g = 0) (hb : Blk w g T0 vs) (hv : ∀ (i : Nat) (u : Bool), vs[i]? ≠ some (.bool u)) (hne : ∀ l ∈ lvT T.lv, ∀ r ∈ l, 0 < r.length) (F : Fr (fun k => k = g) w w') :
    TS w' col t B M T := by
  have hoff := h.off hb hv hne
  refine ⟨h.blk.fr F (fun e => ?_), h.ct, h.bown.fr F (fun k hk e => ?_), h.cb, h.lown.fr F (fun k hk e => ?_), h.cl, fun i L hL => ?_, fun k hk => h.up k (Nat.le_trans F.size hk)⟩
  · have := h.ct; rw [e, hg] at this; omega
  · have := h.cb k hk; rw [e, hg] at this; omega
  · have := h.cl k hk; rw [e, hg] at this; omega
  · obtain ⟨h1, h2, h3⟩ := h.lev i L hL
    refine ⟨h1.fr F (fun k hk e => ?_), h2, fun r hr => ?_⟩
    · have := h2 k hk; rw [e, hg] at this; omega
    · obtain ⟨p1, p2, p3⟩ := h3 r hr
      exact ⟨p1.fr F (fun k hk e => hoff i L hL r hr (e ▸ hk)), p2, fun k hk => ⟨Nat.lt_of_lt_of_le (p3 k hk).1 F.size, (p3 k hk).2⟩⟩
/-- Blocks made since s that the tree does not write. -/
def Pw (s : Nat) (w : World) (col : Nat → Nat) (k : Nat) : Prop := s ≤ k ∧ k < w.heap.size ∧ col k = 0
/-- What lies in memory while a script is played: the box of the reference's tree has vb, its present value is vr; the box of results has vc. -/
structure PM (w0 w : World) (s g c t B M : Nat) (col : Nat → Nat) (T : TV) (r : RT) (rb : List En) (vb vc vr : List Value) : Prop where
  ts : TS w col t B M T
  tr : TrS w (Pw s w col) B M r rb (.agg vr.toArray)
  mb : Blk w g 51 vb
  cb : Blk w c 51 vc
  gs : g < s
  cs : c < g
  sw : s ≤ w.heap.size
  c0 : w0.heap.size ≤ c
  cg : col g = 0
  cc : col c = 0
  old : ∀ k, k < w0.heap.size → col k = 0
  fr : Fr F0 w0 w
section
variable {w0 w w' : World} {s g c t B M : Nat} {col col' : Nat → Nat} {T T' : TV} {r r' : RT} {rb rb' : List En} {vb vc vr vr' : List Value}
theorem PM.fr0 (h : PM w0 w s g c t B M col T r rb vb vc vr) (F : Fr F0 w w') : PM w0 w' s g c t B M col T r rb vb vc vr :=
  ⟨h.ts.fr0 F, (h.tr.fr F (fun _ _ => id)).mono (fun _ hk => ⟨hk.1, Nat.lt_of_lt_of_le hk.2.1 F.size, hk.2.2⟩), h.mb.fr F id, h.cb.fr F id, h.gs, h.cs, Nat.le_trans h.sw F.size, h.c0, h.cg, h.cc, h.old, h.fr.trans0 F⟩
/-- The program's tree takes a step. -/
theorem PM.prog (h : PM w0 w s g c t B M col T r rb vb vc vr) (hT : TS w' col' t B M T') (C : Ch w w' col col') : PM w0 w' s g c t B M col' T' r rb vb vc vr := by
  have hg := h.gs; have hc := h.cs; have hs := h.sw
  exact ⟨hT, (h.tr.fr C.fr (fun k hk hn => hn hk.2.2)).mono (fun k hk => ⟨hk.1, Nat.lt_of_lt_of_le hk.2.1 C.fr.size, C.col k hk.2.1 hk.2.2⟩), h.mb.fr C.fr (fun hn => hn h.cg), h.cb.fr C.fr (fun hn => hn h.cc), h.gs, h.cs, Nat.le_trans h.sw C.fr.size, h.c0, C.col g (by omega) h.cg, C.col c (by omega) h.cc, fun k hk => C.col k (Nat.lt_of_lt_of_le hk h.fr.size) (h.old k hk), h.fr.trans C.fr (fun k hk hn => hn (h.old k hk))⟩
/-- The reference's tree takes a step. -/
theorem PM.ref (h : PM w0 w s g c t B M col T r rb vb vc vr) (hT : TrS w' (PN (Pw s w col) w w') B M r' rb' (.agg vr'.toArray)) (F : Fr F0 w w') : PM w0 w' s g c t B M col T r' rb' vb vc vr' := by
  have h1 := h.fr0 F
  refine ⟨h1.ts, hT.mono (fun k hk => ?_), h1.mb, h1.cb, h1.gs, h1.cs, h1.sw, h1.c0, h1.cg, h1.cc, h1.old, h1.fr⟩
  rcases hk with e | e
  · exact ⟨e.1, Nat.lt_of_lt_of_le e.2.1 F.size, e.2.2⟩
  · exact ⟨Nat.le_trans h.sw e.1, e.2, h.ts.up k e.1⟩
theorem TrS.form {P : Nat → Prop} {v : Value} (h : TrS w P B M r rb v) : ∃ ba bc ra rn rc, v = .agg (tcs B M r.bl ba rb.length bc ra rn rc).toArray := by
  obtain ⟨ba, bc, ra, rc, rv, rfl, _⟩ := h
  exact ⟨ba, bc, ra, rv.length, rc, rfl⟩
theorem PM.form (h : PM w0 w s g c t B M col T r rb vb vc vr) : ∃ ba bc ra rn rc, vr = tcs B M r.bl ba rb.length bc ra rn rc := by
  obtain ⟨ba, bc, ra, rn, rc, e⟩ := h.tr.form
  refine ⟨ba, bc, ra, rn, rc, ?_⟩
  injection e with e
  exact List.toArray_inj e
theorem nobool {bl : Nat} {ba ra : Option Addr} {bn bc rn rc : Nat} (i : Nat) (u : Bool) : (tcs B M bl ba bn bc ra rn rc)[i]? ≠ some (.bool u) := by
  rcases i with _ | _ | _ | _ | _ | i <;> simp
theorem nobool0 (i : Nat) (u : Bool) : tcz[i]? ≠ some (.bool u) := by
  rcases i with _ | _ | _ | _ | _ | i <;> simp
/-- The box takes the present value. -/
theorem PM.store (h : PM w0 w s g c t B M col T r rb vb vc vr) (hb : ∀ (i : Nat) (u : Bool), vb[i]? ≠ some (.bool u)) (hne : ∀ l ∈ lvT T.lv, ∀ x ∈ l, 0 < x.length) (F : Fr (fun k => k = g) w w') (hB : Blk w' g 51 vr) : PM w0 w' s g c t B M col T r rb vr vc vr := by
  have hg := h.gs; have hc := h.cs; have hs := h.sw; have h0 := h.c0
  exact ⟨h.ts.wr h.cg h.mb hb hne F, (h.tr.fr F (fun k hk e => by have := hk.1; omega)).mono (fun k hk => ⟨hk.1, Nat.lt_of_lt_of_le hk.2.1 F.size, hk.2.2⟩), hB, h.cb.fr F (by omega), h.gs, h.cs, Nat.le_trans h.sw F.size, h.c0, h.cg, h.cc, h.old, h.fr.trans F (fun k hk e => by omega)⟩
theorem PM.res (h : PM w0 w s g c t B M col T r rb vb vc vr) (hb : ∀ (i : Nat) (u : Bool), vc[i]? ≠ some (.bool u)) (hne : ∀ l ∈ lvT T.lv, ∀ x ∈ l, 0 < x.length) (F : Fr (fun k => k = c) w w') (hB : Blk w' c 51 vr) : PM w0 w' s g c t B M col T r rb vb vr vr := by
  have hg := h.gs; have hc := h.cs; have hs := h.sw; have h0 := h.c0
  exact ⟨h.ts.wr h.cc h.cb hb hne F, (h.tr.fr F (fun k hk e => by have := hk.1; omega)).mono (fun k hk => ⟨hk.1, Nat.lt_of_lt_of_le hk.2.1 F.size, hk.2.2⟩), h.mb.fr F (by omega), hB, h.gs, h.cs, Nat.le_trans h.sw F.size, h.c0, h.cg, h.cc, h.old, h.fr.trans F (fun k hk e => by omega)⟩
theorem PM.new (hw : Blk w t 77 [.int .i64 (B : Int), .int .i64 (M : Int), .slice none 0 0, .slice none 0 0, .int .i64 0]) (ht : t ≠ g ∧ t ≠ c) (hm : Blk w g 51 (tcs B M 0 none 0 0 none 0 0)) (hc : Blk w c 51 vc) (hs : g < s ∧ c < g ∧ s ≤ w.heap.size ∧ w0.heap.size ≤ c ∧ w0.heap.size ≤ t) (F : Fr F0 w0 w) :
    PM w0 w s g c t B M (colN t) tvN ⟨[], 0⟩ [] (tcs B M 0 none 0 0 none 0 0) vc (tcs B M 0 none 0 0 none 0 0) :=
  ⟨TS.new hw, ⟨none, 0, none, 0, [], rfl, rfl, ⟨⟨rfl, by decide, fun h => absurd h (by decide)⟩, fun k hk => absurd hk (onBlk_none k), Nat.le_refl _, fun r hr => (by cases hr)⟩, ⟨rfl, by decide, fun h => absurd h (by decide)⟩, Nat.le_refl _, fun k hk => absurd hk (onBlk_none k)⟩, hm, hc, hs.1, hs.2.1, hs.2.2.1, hs.2.2.2.1, by unfold colN; rw [if_neg (Ne.symm ht.1)], by unfold colN; rw [if_neg (Ne.symm ht.2)], fun k hk => by unfold colN; rw [if_neg (by omega)], F⟩
end
/-- The updates of a step that are not refused. -/
def stU (k key v : Int) : List En :=
  if k = 1 then (if inK key && inK v then [(key, v, false)] else []) else if k = 2 then (if inK key then [(key, 0, true)] else []) else []
def upsR (R : Nat → Nat → Int) : Nat → List En
  | 0 => []
  | i + 1 => upsR R i ++ stU (R i 0) (R i 1) (R i 2)
/-- Where a script stands. -/
def At (w0 w : World) (s g c t B M : Nat) (R : Nat → Nat → Int) (i : Nat) : Prop :=
  ∃ col T r vb, PM w0 w s g c t B M col T r T.buf vb tcz vb ∧ UQ i T.tt r T.buf ∧ Says (upsR R i) T.tt.lv T.buf
end Go.Proofs.Ytkmnnfflibamnaa
