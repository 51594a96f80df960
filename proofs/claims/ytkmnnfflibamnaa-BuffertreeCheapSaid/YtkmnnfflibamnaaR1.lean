/- Buffer trees: merge of the reference. -/
import Derived.Test.YtkmnnfflibamnaaG12
import Derived.Laws.Rows
namespace Go.Proofs.Ytkmnnfflibamnaa
open Go.RowKit
attribute [local go_sem ↓] Go.wp_at_zero Go.wp_at_succ
theorem E122 : ElemZ Try.prog 49 122 (.agg #[.int .i64 0, .slice none 0 0]) 2 32 := ⟨by kernel_rfl, by kernel_rfl, rfl⟩
theorem OwnZ.ty {w : World} {B : Nat} {T : TypeId} {s n c : Nat} {a : Option Addr} {vs : List Value} (h : OwnZ w B T s a n c vs) {k : Nat} (hk : onBlk a k) : ∃ cur, w.heap[k]? = some (.cells cur T (0, 0)) := by
  obtain ⟨o, sp, rfl⟩ := hk
  rcases h.2 with ⟨hv, _⟩ | ⟨g, cap, cur, hv, hb, hh, _⟩
  · injection hv with ha; cases ha
  · injection hv with ha
    injection ha with ha
    injection ha with ha
    subst ha
    exact ⟨cur, hh⟩
/-- Blocks of P, and those made since. -/
def PN (P : Nat → Prop) (w w' : World) (k : Nat) : Prop := P k ∨ (w.heap.size ≤ k ∧ k < w'.heap.size)
abbrev tcs (B M bl : Nat) (ba : Option Addr) (bn bc : Nat) (ra : Option Addr) (rn rc : Nat) : List Value := [.int .i64 (B : Int), .int .i64 (M : Int), .int .i64 (bl : Int), .slice ba bn bc, .slice ra rn rc]
abbrev tcz : List Value := [.int .i64 0, .int .i64 0, .int .i64 0, .slice none 0 0, .slice none 0 0]
/-- What lies in memory while a level is merged. -/
structure MSz (w wr : World) (zs vs : List Value) (a : Option Addr) (c : Nat) (O : List En) (a2 : Option Addr) (c2 : Nat) (R : List RunV) : Prop where
  own : OwnZ wr w.heap.size 58 3 a O.length c (ents O)
  rst : OwnZ wr w.heap.size 122 2 a2 R.length c2 (rcs R)
  bx : Blk wr w.heap.size 51 vs
  rb : Blk wr (w.heap.size + 1) 51 zs
  fr : Fr F0 w wr
section
variable {w wr w' : World} {zs vs : List Value} {a : Option Addr} {c : Nat} {O : List En} {a2 : Option Addr} {c2 : Nat} {R : List RunV}
theorem MSz.fr0 (h : MSz w wr zs vs a c O a2 c2 R) (f : Fr F0 wr w') : MSz w w' zs vs a c O a2 c2 R := ⟨h.own.fr0 f, h.rst.fr0 f, h.bx.fr f id, h.rb.fr f id, h.fr.trans0 f⟩
theorem MSz.put (h : MSz w wr zs vs a c O a2 c2 R) {O' : List En} {e : Ending} (h2 : EnR wr O' e w') : ∃ a' c', e = .returned (.slice a' O'.length c') ∧ MSz w w' zs vs a' c' O' a2 c2 R ∧ Fr F0 wr w' := by
  obtain ⟨a', c', he, ho, hf⟩ := h2
  exact ⟨a', c', he, ⟨ho.mono h.fr.size, h.rst.fr0 hf, h.bx.fr hf id, h.rb.fr hf id, h.fr.trans0 hf⟩, hf⟩
theorem MSz.app (h : MSz w wr zs vs a c O a2 c2 R) {a3 : Option Addr} {c3 : Nat} (r : RunV) (own' : OwnZ w' w.heap.size 122 2 a3 (R.length + 1) c3 (rcs R ++ r.cells)) (f : Fr (onBlk a2) wr w') : MSz w w' zs vs a c O a3 c3 (R ++ [r]) := by
  have hd : ∀ k, onBlk a k → ¬ onBlk a2 k := fun k h1 h2 => by
    obtain ⟨c1, e1⟩ := h.own.ty h1
    obtain ⟨c2, e2⟩ := h.rst.ty h2
    rw [e1] at e2; injection e2 with e2; injection e2 with _ e2; cases e2
  have hb : ∀ b vs, Blk wr b 51 vs → ¬ onBlk a2 b := fun b vs h1 h2 => by
    obtain ⟨c2, e2⟩ := h.rst.ty h2
    have h1 : wr.heap[b]? = _ := h1
    rw [h1] at e2; injection e2 with e2; injection e2 with _ e2; cases e2
  refine ⟨h.own.fr f hd, ?_, h.bx.fr f (hb _ _ h.bx), h.rb.fr f (hb _ _ h.rb), h.fr.trans f (fun k hk hs => by have := (h.rst.blk k hs).1; omega)⟩
  rw [List.length_append, rcs_app]
  show OwnZ w' w.heap.size 122 2 a3 (R.length + 1) c3 (rcs R ++ rcs [r])
  have e : rcs [r] = r.cells := by unfold rcs; rw [List.flatMap_cons, List.flatMap_nil, List.append_nil]
  rw [e]; exact own'
theorem MSz.set (h : MSz w wr zs vs a c O a2 c2 R) (i : Nat) (u : Value) : MSz w (wr.setCell ⟨w.heap.size, i, none⟩ u) zs (vs.set i u) a c O a2 c2 R := by
  have h1 : ∀ {T : TypeId} {s n c : Nat} {a : Option Addr} {us : List Value}, T ≠ 51 → OwnZ wr w.heap.size T s a n c us → ¬ onBlk a w.heap.size := fun hT ho hk => by
    obtain ⟨c2, e2⟩ := ho.ty hk
    have h1 : wr.heap[w.heap.size]? = _ := h.bx
    rw [h1] at e2; injection e2 with e2; injection e2 with _ e2; exact hT e2.symm
  exact ⟨h.own.other (h1 (by decide) h.own) u, h.rst.other (h1 (by decide) h.rst) u, h.bx.set i u, h.rb.other (by show w.heap.size + 1 ≠ w.heap.size; omega) u, h.fr.trans (Fr.setCell (S := fun k => w.heap.size ≤ k) (Fr.refl _ _) (fun _ => Nat.le_refl _) u) (fun k hk hs => by omega)⟩
theorem MSz.setR (h : MSz w wr zs vs a c O a2 c2 R) (i : Nat) (u : Value) : MSz w (wr.setCell ⟨w.heap.size + 1, i, none⟩ u) (zs.set i u) vs a c O a2 c2 R := by
  have h1 : ∀ {T : TypeId} {s n c : Nat} {a : Option Addr} {us : List Value}, T ≠ 51 → OwnZ wr w.heap.size T s a n c us → ¬ onBlk a (w.heap.size + 1) := fun hT ho hk => by
    obtain ⟨c2, e2⟩ := ho.ty hk
    have h1 : wr.heap[w.heap.size + 1]? = _ := h.rb
    rw [h1] at e2; injection e2 with e2; injection e2 with _ e2; exact hT e2.symm
  exact ⟨h.own.other (h1 (by decide) h.own) u, h.rst.other (h1 (by decide) h.rst) u, h.bx.other (by show w.heap.size ≠ w.heap.size + 1; omega) u, h.rb.set i u, h.fr.trans (Fr.setCell (S := fun k => w.heap.size ≤ k) (Fr.refl _ _) (fun _ => by show w.heap.size ≤ w.heap.size + 1; omega) u) (fun k hk hs => by omega)⟩
/-- The tree in the cell of the results. -/
theorem MSz.leave (h : MSz w wr tcz vs a c O a2 c2 R) (v0 v1 v2 v3 v4 : Value) :
    MSz w (((((wr.setCell ⟨w.heap.size + 1, 0, none⟩ v0).setCell ⟨w.heap.size + 1, 1, none⟩ v1).setCell ⟨w.heap.size + 1, 2, none⟩ v2).setCell ⟨w.heap.size + 1, 3, none⟩ v3).setCell ⟨w.heap.size + 1, 4, none⟩ v4) [v0, v1, v2, v3, v4] vs a c O a2 c2 R :=
  ((((h.setR 0 v0).setR 1 v1).setR 2 v2).setR 3 v3).setR 4 v4
end
abbrev MS (w wr : World) (vs : List Value) (a : Option Addr) (c : Nat) (O : List En) (a2 : Option Addr) (c2 : Nat) (R : List RunV) : Prop := MSz w wr tcz vs a c O a2 c2 R
set_option maxRecDepth 100000 in
theorem rsz51 : (Try.prog.info? 51).map (·.size) = some 5 := by kernel_rfl
set_option maxRecDepth 100000 in
theorem load51 {w : World} {g : Nat} {vs : List Value} (hg : Blk w g 51 vs) (hl : vs.length = 5) : (loadVar 51 ⟨g, 0, none⟩).run Try.prog w = .ok (.agg vs.toArray) w :=
  run_loadVar_row w g 51 51 vs.toArray (0, 0) ((Try.prog.underlying 51).getD (.struct #[])) hg (by kernel_rfl) (by kernel_rfl) (by rw [List.size_toArray, hl]; exact rsz51)
section
variable {fn : Func} {p u v : Tmp} {tmps : Array Value} {w : World} {g : Nat} {vs : List Value}
theorem results_c1 (h : fn.results = #[.cell p 51]) (hp : tmps.getD p undef = .pointer (some ⟨g, 0, none⟩)) (hg : Blk w g 51 vs) (hl : vs.length = 5) : (results fn tmps).run Try.prog w = .ok (.agg vs.toArray) w := by
  have hp' : tmps[p]?.getD undef = .pointer (some ⟨g, 0, none⟩) := by simpa using hp
  simp [results, h, hp', asAddr, load51 hg hl]
theorem results_c2 (h : fn.results = #[.cell p 51, .tmp u]) (hp : tmps.getD p undef = .pointer (some ⟨g, 0, none⟩)) (hg : Blk w g 51 vs) (hl : vs.length = 5) : (results fn tmps).run Try.prog w = .ok (.tuple #[.agg vs.toArray, tmps.getD u undef]) w := by
  have hp' : tmps[p]?.getD undef = .pointer (some ⟨g, 0, none⟩) := by simpa using hp
  simp [results, h, hp', asAddr, load51 hg hl, Result.andThen]
theorem results_c3 (h : fn.results = #[.cell p 51, .tmp u, .tmp v]) (hp : tmps.getD p undef = .pointer (some ⟨g, 0, none⟩)) (hg : Blk w g 51 vs) (hl : vs.length = 5) : (results fn tmps).run Try.prog w = .ok (.tuple #[.agg vs.toArray, tmps.getD u undef, tmps.getD v undef]) w := by
  have hp' : tmps[p]?.getD undef = .pointer (some ⟨g, 0, none⟩) := by simpa using hp
  simp [results, h, hp', asAddr, load51 hg hl, Result.andThen]
end
/-- The runs that stay. -/
def keepV (rv : List RunV) (lev : Nat) : List RunV := rv.filter (fun r => r.lv != lev)
theorem rsO_keep (rv : List RunV) (lev : Nat) : rsO (keepV rv lev) = restR (rsO rv) lev := by
  unfold rsO keepV restR
  rw [List.filter_map]; rfl
theorem keepV_snoc (rv : List RunV) (i lev : Nat) {r : RunV} (h : rv[i]? = some r) : keepV (rv.take (i + 1)) lev = if r.lv = lev then keepV (rv.take i) lev else keepV (rv.take i) lev ++ [r] := by
  unfold keepV
  rw [List.take_add_one, h, List.filter_append]
  by_cases c : r.lv = lev
  · rw [if_pos c]; simp [c]
  · rw [if_neg c]; simp [c]
theorem cnts_flat (B : Nat) (hB : 1 ≤ B) : ∀ l : List (List En), cnts B l ≤ l.flatten.length
  | [] => Nat.le_refl _
  | x :: l => by
    have := cnts_flat B hB l
    have e : cnts B (x :: l) = cnt B x.length + cnts B l := by unfold cnts; rw [List.map_cons, List.sum_cons]
    have h1 : cnt B x.length ≤ x.length := by
      unfold cnt
      rw [Nat.div_le_iff_le_mul_add_pred (by omega)]
      have : x.length ≤ B * x.length := Nat.le_mul_of_pos_left _ hB
      omega
    rw [e, List.flatten_cons, List.length_append]; omega
theorem cnt_cntN (B n : Nat) : cntN B n = cnt B n := rfl
/-- What merge leaves. -/
def MgR (w : World) (P : Nat → Prop) (B M : Nat) (ba : Option Addr) (bn bc : Nat) (t : RT) (e : Ending) (w' : World) : Prop :=
  ∃ ra rc rv, e = .returned (rtv B M t.bl ba bn bc ra rv.length rc) ∧ rsO rv = t.rs ∧ RefS w' (PN P w w') ra rc rv ∧ Fr F0 w w'
theorem MSz.ref {P : Nat → Prop} {w wr : World} {zs vs : List Value} {a : Option Addr} {c : Nat} {O : List En} {a2 : Option Addr} {c2 : Nat} {R : List RunV} {ra : Option Addr} {rc : Nat} {rv : List RunV} (h : MSz w wr zs vs a c O a2 c2 R) (hr : RefS w P ra rc rv) (hR : ∀ r ∈ R, r ∈ rv ∨ (r.l = O ∧ r.a = a ∧ r.c = c)) : RefS wr (PN P w wr) a2 c2 R :=
  ⟨h.rst.rd, fun k hk => .inr (h.rst.blk k hk), OwnZ.cap h.rst, fun r hm => by
    rcases hR r hm with c | ⟨rfl, rfl, rfl⟩
    · obtain ⟨h1, h2, h3⟩ := hr.run r c
      exact ⟨h1.fr0 h.fr, h2, fun k hk => .inl (h3 k hk)⟩
    · exact ⟨h.own.rd, OwnZ.cap h.own, fun k hk => .inr (h.own.blk k hk)⟩⟩
theorem Count_still {B n : Nat} {W : World} (hB : 1 ≤ B ∧ B ≤ 64) (hn : n ≤ 1000000) : Calls Try.prog 19 #[.int .i64 (n : Int), .int .i64 (B : Int)] W fun e w' => e = .returned (.int .i64 (cnt B n : Int)) ∧ w' = W :=
  (Count_any B n W hB hn).mono fun _ _ h => ⟨h.1, h.2.symm⟩
set_option maxRecDepth 100000 in
set_option maxHeartbeats 4000000 in
theorem rmerge_any {P : Nat → Prop} {w : World} {ra : Option Addr} {rc : Nat} {rv : List RunV} (B M bl : Nat) (ba : Option Addr) (bn bc lev : Nat) (h : RefS w P ra rc rv) (hn : rv.length ≤ 100000) (hB : 1 ≤ B ∧ B ≤ 64) (hbl : bl ≤ 1000000000) (hlv : lev ≤ 100000) (ht : totR (rsO rv) ≤ 1000) :
    Calls Try.prog 103 #[rtv B M bl ba bn bc ra rv.length rc, .int .i64 (lev : Int)] w (MgR w P B M ba bn bc (mergeR B ⟨rsO rv, bl⟩ lev)) := by
  have F1 : Fr F0 w ((w.alloc (.cells (tcs B M bl ba bn bc ra rv.length rc).toArray 51)).alloc (.cells tcz.toArray 51)) := ((Fr.refl F0 w).alloc _).alloc _
  have HX : Hid (MS w _ (tcs B M bl ba bn bc ra rv.length rc) none 0 [] none 0 []) := Lib.hid ⟨OwnZ.nil _ _ _ _, OwnZ.nil _ _ _ _, (Blk.new w 51 (tcs B M bl ba bn bc ra rv.length rc)).alloc _, by have := Blk.new (w.alloc (.cells (tcs B M bl ba bn bc ra rv.length rc).toArray 51)) 51 tcz; rw [size_alloc] at this; exact this, F1⟩
  have HR0 := Lib.hid h
  have HR : Hid (∀ W, Fr F0 w W → RefS W P ra rc rv) := Lib.hid (fun W F => h.fr0 F)
  have HH : Hid (∀ (bl : Nat) W, Fr F0 w W → _) := Lib.hid (fun bl W F => highest_any (w := W) B M bl ba bn bc (h.fr0 F) hn)
  have HC := Lib.hid (fun n W (hn : n ≤ 1000000) => Count_still (W := W) hB hn)
  have Ht := Lib.hid ht
  obtain ⟨n, hN⟩ : ∃ n, n = rv.length := ⟨_, rfl⟩
  unfold rtv at HH ⊢
  rw [← hN] at HX HH hn ⊢
  have Hl := Lib.hid hN
  have HB := Lib.hid hB
  clear h hN ht F1 hB
  go_enter Try.func103, Try.ntmps103
  go_wp2_with fail
  go_loopw [5, 6, 7, 8] (fun s5 s6 s7 s8 wr => ∃ (i k k2 b' : Nat) (a' : Option Addr) (c' : Nat) (a2 : Option Addr) (c2 : Nat), i ≤ n ∧ b' ≤ 1000002000 ∧ s7 = .int .i64 (i : Int) ∧ s5 = .slice a' k c' ∧ s6 = .slice a2 k2 c2 ∧ Hid (k = (pt (lvl (rsO (rv.take i)) lev)).length ∧ k2 = (keepV (rv.take i) lev).length ∧ b' = bl + cnts B (lvl (rsO (rv.take i)) lev) ∧ MS w wr (tcs B M b' ba bn bc ra n rc) a' c' (pt (lvl (rsO (rv.take i)) lev)) a2 c2 (keepV (rv.take i) lev))) (fun _ _ s7 _ _ => n - (intOf s7).toNat)
  case atStart => exact ⟨0, 0, 0, bl, none, 0, none, 0, Nat.zero_le _, by omega, rfl, rfl, rfl, Lib.hid ⟨rfl, rfl, rfl, HX.out⟩⟩
  case round =>
    obtain ⟨i, k, k2, b', a', c', a2, c2, hi, hb', rfl, rfl, rfl, H⟩ := hrel
    have y0 := H.out.2.2.2.bx.cell (i := 0) rfl
    have y1 := H.out.2.2.2.bx.cell (i := 1) rfl
    have y2 := H.out.2.2.2.bx.cell (i := 2) rfl
    have y3 := H.out.2.2.2.bx.cell (i := 3) rfl
    have y4 := H.out.2.2.2.bx.cell (i := 4) rfl
    by_cases hlt : i < n
    · have hlt' : (i : Int) < (n : Int) := by omega
      obtain ⟨r, hr⟩ : ∃ r, rv[i]? = some r := ⟨_, List.getElem?_eq_getElem (by have := Hl.out; omega)⟩
      obtain ⟨b, o, rfl, d0, d1, hrd, hrc⟩ := (HR.out _ H.out.2.2.2.fr).at hr
      have HRD := Lib.hid hrd
      have hs1 := keepV_snoc rv i lev hr
      have hs2 : lvl (rsO (rv.take (i + 1))) lev = lvl (rsO (rv.take i)) lev ++ if lev = r.lv then [r.l] else [] := by
        rw [rsO_take _ _ hr, lvl_app, lvl_one]
      by_cases hk : lev = r.lv
      · rw [if_pos hk] at hs2
        rw [if_pos hk.symm] at hs1
        have hb : ((r.lv : Int) == (lev : Int)) = true := by simp [hk]
        have hb2 : (r.lv == lev) = true := by simp [hk]
        have hrl : r.l.length ≤ 1000 := Nat.le_trans (totR_run (List.mem_of_getElem? hr)) Ht.out
        have hlen : (pt (lvl (rsO (rv.take i)) lev)).length ≤ 1000 := by
          have h1 := foldI_len (lvl (rsO (rv.take i)) lev).flatten []
          have h2 := lvl_tot (rsO (rv.take i)) lev
          have h3 := totR_take rv i
          have h6 := Ht.out
          have e : pt (lvl (rsO (rv.take i)) lev) = (lvl (rsO (rv.take i)) lev).flatten.foldl ins [] := rfl
          rw [e]
          simp only [List.length_nil, Nat.zero_add] at h1
          omega
        have hbn : b' + cnt B r.l.length ≤ 1000002000 := by
          have h1 := cnts_flat B HB.out.1 (lvl (rsO (rv.take (i + 1))) lev)
          have h2 := lvl_tot (rsO (rv.take (i + 1))) lev
          have h3 := totR_take rv (i + 1)
          have h6 := Ht.out
          have h7 := H.out.2.2.1
          rw [hs2, cnts_app] at h1
          have e : cnts B [r.l] = cnt B r.l.length := by unfold cnts; simp
          rw [e] at h1
          rw [hs2] at h2
          omega
        have HLn := Lib.hid hlen
        have HS := Lib.hid (And.intro hs1 hs2)
        obtain ⟨O, hO⟩ : ∃ O, O = pt (lvl (rsO (rv.take i)) lev) := ⟨_, rfl⟩
        have hfin : pt (lvl (rsO (rv.take (i + 1))) lev) = r.l.foldl ins O := by
          rw [hs2, hO]; unfold pt; rw [List.flatten_append, List.foldl_append]; simp
        have hfc : b' + cnt B r.l.length = bl + cnts B (lvl (rsO (rv.take (i + 1))) lev) := by
          rw [hs2, cnts_app, H.out.2.2.1, ← Nat.add_assoc]; unfold cnts; simp
        rw [← hO] at H HLn
        have HFin := Lib.hid (And.intro hfin hfc)
        obtain ⟨m, hm⟩ : ∃ m, m = r.l.length := ⟨_, rfl⟩
        rw [← hm] at d1 hrl HRD hbn
        have Hm := Lib.hid hm
        have hC2 := HC.out m (World.drew wr) (by omega)
        have H2 := H.out.2.2.2.fr0 ((Fr.refl F0 wr).drewN 1)
        obtain ⟨cm, hcm⟩ : ∃ cm, cm = cnt B m := ⟨_, rfl⟩
        rw [← hcm] at hC2 hbn
        have Hcm := Lib.hid hcm
        have HK2 := Lib.hid H.out.2.1
        have Hr := Lib.hid hr
        clear hs1 hs2 hr hk hlen hrd hrc hO hfin hm hfc hcm
        go_wp2_with fail
        obtain ⟨wz, hwz⟩ : ∃ wz, wz = World.drew wr := ⟨_, rfl⟩
        have H3 : Hid (MS w wz (tcs B M b' ba bn bc (some ⟨b, o, none⟩) n rc) a' c' O a2 c2 (keepV (rv.take i) lev)) := Lib.hid (by rw [hwz]; exact H2)
        have z0 := H3.out.bx.cell (i := 0) rfl
        have z2 := H3.out.bx.cell (i := 2) rfl
        have z4 := H3.out.bx.cell (i := 4) rfl
        have e1 : wz.cell? ⟨b, o + i * 2 + 1, none⟩ = some (.slice r.a m r.c) := by rw [hwz]; exact d1
        have e0 : wz.cell? ⟨b, o + i * 2, none⟩ = some (.int .i64 (r.lv : Int)) := by rw [hwz]; exact d0
        rw [← hwz] at hC2
        refine wp_region_still_tail 14 (by kernel_rfl) (by kernel_rfl) ?_
        change wpStill _ _ (World.drew wr) (fun a' => wpList _ _ _ _ a' (World.drew wr)) _ _
        rw [← hwz]
        replace hwz := Lib.hid hwz
        simp only [List.take_succ_cons, List.take_zero, List.drop_succ_cons, List.drop_zero]
        repeat (first | still_step | still_call (hC2))
        refine wpStill_nil ?_
        have H4 : Hid (MS w (wz.setCell ⟨w.heap.size, 2, none⟩ (.int .i64 ((b' : Int) + (cm : Int)))) (tcs B M (b' + cm) ba bn bc (some ⟨b, o, none⟩) n rc) a' c' O a2 c2 (keepV (rv.take i) lev)) := Lib.hid (by have := H3.out.set 2 (.int .i64 ((b' : Int) + (cm : Int))); exact this)
        have hf1 : ∀ i, wz.frozen? ⟨w.heap.size, i, none⟩ = false := H3.out.bx.free
        have f1 : (wz.setCell ⟨w.heap.size, 2, none⟩ (.int .i64 ((b' : Int) + (cm : Int)))).cell? ⟨b, o + i * 2 + 1, none⟩ = some (.slice r.a m r.c) := by
          have h1 := ((HR.out _ H4.out.fr).at Hr.out)
          obtain ⟨b3, o3, q1, q2, q3, _⟩ := h1
          injection q1 with q1; injection q1 with q1 q4
          subst q1 q4
          rw [← Hm.out] at q3; exact q3
        clear y0 y1 y2 y3 y4 d0 d1 e0 hwz
        go_wp2_with fail
        go_loopw [5, 8] (fun s5 s8 wr => ∃ (j k : Nat) (a' : Option Addr) (c' : Nat), j ≤ m ∧ s8 = .int .i64 (j : Int) ∧ s5 = .slice a' k c' ∧ Hid (k = ((r.l.take j).foldl ins O).length ∧ MS w wr (tcs B M (b' + cm) ba bn bc (some ⟨b, o, none⟩) n rc) a' c' ((r.l.take j).foldl ins O) a2 c2 (keepV (rv.take i) lev) ∧ wr.cell? ⟨b, o + i * 2 + 1, none⟩ = some (.slice r.a m r.c) ∧ RdZ wr 3 r.a m (ents r.l))) (fun _ s8 _ => m - (intOf s8).toNat)
        case atStart => exact ⟨0, k, a', c', Nat.zero_le _, rfl, rfl, Lib.hid ⟨H.out.1, H4.out, f1, by
          have h1 := ((HR.out _ H4.out.fr).at Hr.out)
          obtain ⟨b3, o3, q1, q2, q3, q4, _⟩ := h1
          rw [← Hm.out] at q4; exact q4⟩⟩
        case round =>
          obtain ⟨j, k, a', c', hj, rfl, rfl, H⟩ := hrel
          clear f1 z0 z2 z4 e1 hf1 hC2
          have y4 := H.out.2.1.bx.cell (i := 4) rfl
          have d1 := H.out.2.2.1
          by_cases hlj : j < m
          · have hlj' : (j : Int) < (m : Int) := by omega
            obtain ⟨x, hx⟩ : ∃ x, r.l[j]? = some x := ⟨_, List.getElem?_eq_getElem (by have := Hm.out; omega)⟩
            obtain ⟨b2, o2, hra, e0, e1, e2⟩ := H.out.2.2.2.ent hx
            have hfin : (r.l.take (j + 1)).foldl ins O = ins ((r.l.take j).foldl ins O) x := by
              rw [List.take_add_one, hx, List.foldl_append]; rfl
            have hk9 : k ≤ 100000000 := by
              have h1 := foldI_len (r.l.take j) O
              rw [List.length_take] at h1
              have := H.out.1
              have := HLn.out
              omega
            have HP := Lib.hid (put_any x (by have := H.out.2.1.own.rd; rw [← H.out.1] at this; exact this) (by have := OwnZ.cap H.out.2.1.own; rw [← H.out.1] at this; exact this) hk9)
            have HFn := Lib.hid hfin
            rw [hra] at d1
            obtain ⟨x1, x2, x3⟩ := x
            dsimp only at e0 e1 e2 HP
            clear hx hfin hra
            go_wp2_with (go_at_call 53; refine HP.out.mono ?_; intro e w3 hE; obtain ⟨a3, c3, rfl, hA⟩ := H.out.2.1.put hE; have HA3 := Lib.hid hA; clear hA hE)
            go_roundw
            case rel => exact ⟨j + 1, _, a3, c3, by omega, by go_num, rfl, Lib.hid ⟨by rw [HFn.out], by rw [HFn.out]; exact HA3.out.1, HA3.out.2.cell H.out.2.2.1 id, H.out.2.2.2.fr0 HA3.out.2⟩⟩
            case measure => simp [intOf]; omega
          · obtain rfl : m = j := by omega
            have H9 := H.out
            rw [List.take_of_length_le (by rw [Hm.out]; exact Nat.le_refl _), ← HFin.out.1] at H9
            have H10 : Hid (k = (pt (lvl (rsO (rv.take (i + 1))) lev)).length ∧ k2 = (keepV (rv.take (i + 1)) lev).length ∧ b' + cm = bl + cnts B (lvl (rsO (rv.take (i + 1))) lev) ∧ MS w _ (tcs B M (b' + cm) ba bn bc (some ⟨b, o, none⟩) n rc) a' c' (pt (lvl (rsO (rv.take (i + 1))) lev)) a2 c2 (keepV (rv.take (i + 1)) lev)) := Lib.hid (by
              rw [HS.out.1]
              exact ⟨H9.1, HK2.out, by rw [Hcm.out]; rw [Hm.out]; exact HFin.out.2, H9.2.1⟩)
            clear H9
            go_wp2_with fail
            go_roundw
            case rel => exact ⟨i + 1, _, _, b' + cm, a', c', a2, c2, by omega, hbn, by go_num, rfl, rfl, Lib.hid H10.out⟩
            case measure => simp [intOf]; omega
      · rw [if_neg hk] at hs2
        rw [if_neg (Ne.symm hk)] at hs1
        rw [List.append_nil] at hs2
        have hb : ((r.lv : Int) == (lev : Int)) = false := by simp; omega
        have hb2 : (r.lv == lev) = false := by simp; omega
        have hk29 : k2 ≤ 100000 := by
          have h1 : (keepV (rv.take i) lev).length ≤ (rv.take i).length := List.length_filter_le _ _
          rw [List.length_take] at h1
          have h2 := H.out.2.1
          omega
        have HS := Lib.hid (And.intro hs1 hs2)
        have Hr := Lib.hid hr
        have HO := Lib.hid H.out.2.2.2.rst
        rw [← H.out.2.1] at HO
        have HBw : Hid (w.heap.size ≤ wr.heap.size) := Lib.hid H.out.2.2.2.fr.size
        clear hs1 hs2 hr hrd hrc HRD
        obtain ⟨m, hm⟩ : ∃ m, m = r.l.length := ⟨_, rfl⟩
        rw [← hm] at d1
        have Hm := Lib.hid hm
        clear hm
        go_wp2_with (at_builtin; refine wpAppZAt E122 (by omega) HO.out (us := [.int .i64 (r.lv : Int), .slice r.a m r.c]) rfl (fun u hu => by simp at hu; rcases hu with rfl | rfl <;> rfl) (by omega) (by omega) HBw.out (by rfl) (by rfl) ?_; intro a3 c3 w3 own3 fr3 at3; have X1 := Lib.hid (And.intro own3 fr3); clear own3 fr3 at3)
        go_roundw
        case rel => exact ⟨i + 1, k, k2 + 1, b', a', c', a3, c3, by omega, hb', by go_num, rfl, rfl, Lib.hid (by
          have H9 := H.out
          have X9 := X1.out
          rw [H9.2.1] at X9
          rw [HS.out.1, HS.out.2, List.length_append, List.length_singleton]
          refine ⟨H9.1, by rw [H9.2.1], H9.2.2.1, H9.2.2.2.app r ?_ X9.2⟩
          have := X9.1
          rw [Hm.out] at this
          exact this)⟩
        case measure => simp [intOf]; omega
    · obtain rfl : n = i := by omega
      clear y0 y1 y2 y3 y4
      have H9 := H.out
      rw [List.take_of_length_le (by rw [Hl.out]; exact Nat.le_refl _)] at H9
      have H10 := Lib.hid H9
      clear H9
      obtain ⟨z, hz⟩ : ∃ z, z = high (rsO rv) := ⟨_, rfl⟩
      have HH2 := HH.out b' wr H.out.2.2.2.fr
      rw [← hz] at HH2
      have HHs := Lib.hid HH2
      clear HH2 H
      have y0 := H10.out.2.2.2.bx.cell (i := 0) rfl
      have y1 := H10.out.2.2.2.bx.cell (i := 1) rfl
      have y2 := H10.out.2.2.2.bx.cell (i := 2) rfl
      have y3 := H10.out.2.2.2.bx.cell (i := 3) rfl
      have y4 := H10.out.2.2.2.bx.cell (i := 4) rfl
      have hk9 : Hid (k ≤ 1000) := Lib.hid (by
        have h1 := foldI_len (lvl (rsO rv) lev).flatten []
        have h2 := lvl_tot (rsO rv) lev
        have h6 := Ht.out
        have e : pt (lvl (rsO rv) lev) = (lvl (rsO rv) lev).flatten.foldl ins [] := rfl
        rw [← e] at h1
        simp only [List.length_nil, Nat.zero_add] at h1
        have := H10.out.1
        omega)
      by_cases hzl : z = (lev : Int)
      · subst hzl
        have hzr : resR (rsO rv) lev = drp (pt (lvl (rsO rv) lev)) := by unfold resR; rw [if_pos hz.symm]
        have HZ := Lib.hid hzr
        clear hzr hz
        go_upto_region 15 with (first | (go_at_call 78; refine HHs.out.mono ?_; rintro e w2 ⟨rfl, F2⟩; have X2 := Lib.hid (And.intro H10.out.1 (H10.out.2.2.2.fr0 F2)); clear F2) | (go_at_call 54; refine (drop_any (by have := X2.out.2.own.rd; rw [← X2.out.1] at this; exact this) (by have := hk9.out; omega)).mono ?_; intro e w3 hE; obtain ⟨a3, c3, rfl, hA, _⟩ := X2.out.2.put hE; have X3 := Lib.hid hA; clear hA hE))
        have hk8 : (drp (pt (lvl (rsO rv) lev))).length ≤ 1000 := by
          have h1 : (drp (pt (lvl (rsO rv) lev))).length ≤ (pt (lvl (rsO rv) lev)).length := List.length_filter_le _ _
          have := hk9.out
          have := H10.out.1
          omega
        clear y0 y1 y2 y3 y4 hk9
        obtain ⟨k9, hk9⟩ : ∃ k9, k9 = (drp (pt (lvl (rsO rv) lev))).length := ⟨_, rfl⟩
        rw [← hk9] at hk8 ⊢
        have X4 := Lib.hid (And.intro hk9 X3.out)
        clear hk9
        have hk9 := Lib.hid hk8
        clear hk8
        have HM := X4.out.2
        have g0 := X4.out.2.bx.cell (i := 0) rfl
        have g1 := X4.out.2.bx.cell (i := 1) rfl
        have g2 := X4.out.2.bx.cell (i := 2) rfl
        have g3 := X4.out.2.bx.cell (i := 3) rfl
        have g4 := X4.out.2.bx.cell (i := 4) rfl
        have p0 := X4.out.2.rb.cell (i := 0) rfl
        have p1 := X4.out.2.rb.cell (i := 1) rfl
        have p2 := X4.out.2.rb.cell (i := 2) rfl
        have p3 := X4.out.2.rb.cell (i := 3) rfl
        have p4 := X4.out.2.rb.cell (i := 4) rfl
        have q0 := X4.out.2.bx.free
        have q1 := X4.out.2.rb.free
        by_cases hk0 : k9 = 0
        · subst hk0
          replace HM := Lib.hid HM
          go_wp2_with fail
          have Y := (HM.out.set 4 (.slice a2 k2 c2)).leave (.int .i64 (B : Int)) (.int .i64 (M : Int)) (.int .i64 (b' : Int)) (.slice ba bn bc) (.slice a2 k2 c2)
          refine bodyPost_ret (results_c1 rfl rfl Y.rb rfl) rfl ?_
          have e : mergeR B ⟨rsO rv, bl⟩ lev = ⟨rsO (keepV rv lev), b'⟩ := by
            unfold mergeR
            rw [if_pos (by show (resR (rsO rv) lev).length = 0; rw [HZ.out, ← X4.out.1]), rsO_keep, H10.out.2.2.1]
          rw [e]
          refine ⟨a2, c2, keepV rv lev, ?_, rfl, Y.ref HR0.out (fun r hr => .inl (List.mem_filter.1 hr).1), Y.fr⟩
          rw [← H10.out.2.1]; rfl
        · have hk1 : 0 < (k9 : Int) := by omega
          have hC2 := HC.out k9 (World.drew w3) (by have := hk9.out; omega)
          obtain ⟨cm, hcm⟩ : ∃ cm, cm = cnt B k9 := ⟨_, rfl⟩
          rw [← hcm] at hC2
          have hcm2 : b' + cm ≤ 2000000000 := by
            have h1 := cnts_flat B HB.out.1 [List.replicate k9 ((0, 0, false) : En)]
            have e : cnts B [List.replicate k9 ((0, 0, false) : En)] = cnt B k9 := by unfold cnts; simp
            rw [e] at h1
            simp at h1
            have := hk9.out
            omega
          have Hcm := Lib.hid hcm
          clear hcm
          replace HM := Lib.hid HM
          go_wp2_with fail
          obtain ⟨wz, hwz⟩ : ∃ wz, wz = World.drew w3 := ⟨_, rfl⟩
          have H3 : Hid (MS w wz (tcs B M b' ba bn bc ra n rc) a3 c3 (drp (pt (lvl (rsO rv) lev))) a2 c2 (keepV rv lev)) := Lib.hid (by rw [hwz]; exact HM.out.fr0 ((Fr.refl F0 w3).drewN 1))
          clear g0 g1 g2 g3 g4 p0 p1 p2 p3 p4 q0 q1
          have g0 := H3.out.bx.cell (i := 0) rfl
          have g2 := H3.out.bx.cell (i := 2) rfl
          have q0 := H3.out.bx.free
          rw [← hwz] at hC2
          refine wp_region_still_tail 9 (by kernel_rfl) (by kernel_rfl) ?_
          change wpStill _ _ (World.drew w3) (fun a' => wpList _ _ _ _ a' (World.drew w3)) _ _
          rw [← hwz]
          replace hwz := Lib.hid hwz
          simp only [List.take_succ_cons, List.take_zero, List.drop_succ_cons, List.drop_zero]
          repeat (first | still_step | still_call (hC2))
          refine wpStill_nil ?_
          have H4 : Hid (MS w (wz.setCell ⟨w.heap.size, 2, none⟩ (.int .i64 ((b' : Int) + (cm : Int)))) (tcs B M (b' + cm) ba bn bc ra n rc) a3 c3 (drp (pt (lvl (rsO rv) lev))) a2 c2 (keepV rv lev)) := Lib.hid (by have := H3.out.set 2 (.int .i64 ((b' : Int) + (cm : Int))); exact this)
          have HO : Hid (OwnZ (wz.setCell ⟨w.heap.size, 2, none⟩ (.int .i64 ((b' : Int) + (cm : Int)))) w.heap.size 122 2 a2 k2 c2 (rcs (keepV rv lev))) := Lib.hid (by rw [H10.out.2.1]; exact H4.out.rst)
          have HBw : Hid (w.heap.size ≤ (wz.setCell ⟨w.heap.size, 2, none⟩ (.int .i64 ((b' : Int) + (cm : Int)))).heap.size) := Lib.hid H4.out.fr.size
          have hk29 : k2 ≤ 100000 := by
            have h1 : (keepV rv lev).length ≤ rv.length := List.length_filter_le _ _
            have h2 := H10.out.2.1
            have h3 := Hl.out
            omega
          go_upto_region 17 with fail
          generalize World.setCell wz { block := w.heap.size, off := 2 } (.int .i64 ((b' : Int) + (cm : Int))) = wy at *
          go_wp2_with (at_builtin; (refine wpAppZAt E122 (by omega) HO.out (us := [.int .i64 ((lev : Int) + 1), .slice a3 k9 c3]) rfl (fun u hu => by simp at hu; rcases hu with rfl | rfl <;> rfl) (by omega) (by omega) HBw.out (by rfl) (by rfl) ?_); intro a4 c4 w4 own3 fr3 at3; have X1 : Hid (MS w w4 (tcs B M (b' + cm) ba bn bc ra n rc) a3 c3 (drp (pt (lvl (rsO rv) lev))) a4 c4 (keepV rv lev ++ [⟨lev + 1, (drp (pt (lvl (rsO rv) lev))), a3, c3⟩])) := Lib.hid (H4.out.app ⟨lev + 1, (drp (pt (lvl (rsO rv) lev))), a3, c3⟩ (by have h1 := own3; rw [H10.out.2.1, X4.out.1] at h1; exact h1) fr3); have g0 := X1.out.bx.cell (i := 0) rfl; have g1 := X1.out.bx.cell (i := 1) rfl; have g2 := X1.out.bx.cell (i := 2) rfl; have g3 := X1.out.bx.cell (i := 3) rfl; have g4 := X1.out.bx.cell (i := 4) rfl; have p0 := X1.out.rb.cell (i := 0) rfl; have p1 := X1.out.rb.cell (i := 1) rfl; have p2 := X1.out.rb.cell (i := 2) rfl; have p3 := X1.out.rb.cell (i := 3) rfl; have p4 := X1.out.rb.cell (i := 4) rfl; have q0 := X1.out.bx.free; have q1 := X1.out.rb.free; clear own3 fr3 at3)
          have Y := (X1.out.set 4 (.slice a4 (k2 + 1) c4)).leave (.int .i64 (B : Int)) (.int .i64 (M : Int)) (.int .i64 ((b' : Int) + (cm : Int))) (.slice ba bn bc) (.slice a4 (k2 + 1) c4)
          refine bodyPost_ret (results_c1 rfl rfl Y.rb rfl) rfl ?_
          have e : mergeR B ⟨rsO rv, bl⟩ lev = ⟨rsO (keepV rv lev ++ [⟨lev + 1, (drp (pt (lvl (rsO rv) lev))), a3, c3⟩]), b' + cm⟩ := by
            unfold mergeR
            have e1 : rsO (keepV rv lev ++ [⟨lev + 1, (drp (pt (lvl (rsO rv) lev))), a3, c3⟩]) = restR (rsO rv) lev ++ [(lev + 1, (drp (pt (lvl (rsO rv) lev))))] := by
              rw [← rsO_keep]; unfold rsO; rw [List.map_append]; rfl
            have e2 : (resR (rsO rv) lev).length = k9 := by rw [HZ.out, ← X4.out.1]
            rw [if_neg (by show ¬ (resR (rsO rv) lev).length = 0; omega), e1, H10.out.2.2.1, Hcm.out]
            show RT.mk (restR (rsO rv) lev ++ [(lev + 1, resR (rsO rv) lev)]) _ = _
            rw [e2, HZ.out]
          rw [e]
          refine ⟨a4, c4, keepV rv lev ++ [⟨lev + 1, (drp (pt (lvl (rsO rv) lev))), a3, c3⟩], ?_, rfl, Y.ref HR0.out (fun r hr => ?_), Y.fr⟩
          · rw [List.length_append, List.length_singleton, ← H10.out.2.1]; rfl
          · rcases List.mem_append.1 hr with hr | hr
            · exact .inl (List.mem_filter.1 hr).1
            · rw [List.mem_singleton] at hr; subst hr; exact .inr ⟨rfl, rfl, rfl⟩
      · have hzr : resR (rsO rv) lev = pt (lvl (rsO rv) lev) := by unfold resR; rw [if_neg (by rw [← hz]; exact hzl)]
        have HZ := Lib.hid hzr
        have hzb : (z == (lev : Int)) = false := by simpa using hzl
        clear hzr hz
        go_upto_region 15 with (go_at_call 78; refine HHs.out.mono ?_; rintro e w2 ⟨rfl, F2⟩; have X2 := Lib.hid (And.intro H10.out.1 (H10.out.2.2.2.fr0 F2)); clear F2)
        clear y0 y1 y2 y3 y4
        have HM := X2.out.2
        have g0 := X2.out.2.bx.cell (i := 0) rfl
        have g1 := X2.out.2.bx.cell (i := 1) rfl
        have g2 := X2.out.2.bx.cell (i := 2) rfl
        have g3 := X2.out.2.bx.cell (i := 3) rfl
        have g4 := X2.out.2.bx.cell (i := 4) rfl
        have p0 := X2.out.2.rb.cell (i := 0) rfl
        have p1 := X2.out.2.rb.cell (i := 1) rfl
        have p2 := X2.out.2.rb.cell (i := 2) rfl
        have p3 := X2.out.2.rb.cell (i := 3) rfl
        have p4 := X2.out.2.rb.cell (i := 4) rfl
        have q0 := X2.out.2.bx.free
        have q1 := X2.out.2.rb.free
        by_cases hk0 : k = 0
        · subst hk0
          replace HM := Lib.hid HM
          go_wp2_with fail
          have Y := (HM.out.set 4 (.slice a2 k2 c2)).leave (.int .i64 (B : Int)) (.int .i64 (M : Int)) (.int .i64 (b' : Int)) (.slice ba bn bc) (.slice a2 k2 c2)
          refine bodyPost_ret (results_c1 rfl rfl Y.rb rfl) rfl ?_
          have e : mergeR B ⟨rsO rv, bl⟩ lev = ⟨rsO (keepV rv lev), b'⟩ := by
            unfold mergeR
            rw [if_pos (by show (resR (rsO rv) lev).length = 0; rw [HZ.out, ← X2.out.1]), rsO_keep, H10.out.2.2.1]
          rw [e]
          refine ⟨a2, c2, keepV rv lev, ?_, rfl, Y.ref HR0.out (fun r hr => .inl (List.mem_filter.1 hr).1), Y.fr⟩
          rw [← H10.out.2.1]; rfl
        · have hk1 : 0 < (k : Int) := by omega
          have hC2 := HC.out k (World.drew w2) (by have := hk9.out; omega)
          obtain ⟨cm, hcm⟩ : ∃ cm, cm = cnt B k := ⟨_, rfl⟩
          rw [← hcm] at hC2
          have hcm2 : b' + cm ≤ 2000000000 := by
            have h1 := cnts_flat B HB.out.1 [List.replicate k ((0, 0, false) : En)]
            have e : cnts B [List.replicate k ((0, 0, false) : En)] = cnt B k := by unfold cnts; simp
            rw [e] at h1
            simp at h1
            have := hk9.out
            omega
          have Hcm := Lib.hid hcm
          clear hcm
          replace HM := Lib.hid HM
          go_wp2_with fail
          obtain ⟨wz, hwz⟩ : ∃ wz, wz = World.drew w2 := ⟨_, rfl⟩
          have H3 : Hid (MS w wz (tcs B M b' ba bn bc ra n rc) a' c' (pt (lvl (rsO rv) lev)) a2 c2 (keepV rv lev)) := Lib.hid (by rw [hwz]; exact HM.out.fr0 ((Fr.refl F0 w2).drewN 1))
          clear g0 g1 g2 g3 g4 p0 p1 p2 p3 p4 q0 q1
          have g0 := H3.out.bx.cell (i := 0) rfl
          have g2 := H3.out.bx.cell (i := 2) rfl
          have q0 := H3.out.bx.free
          rw [← hwz] at hC2
          refine wp_region_still_tail 9 (by kernel_rfl) (by kernel_rfl) ?_
          change wpStill _ _ (World.drew w2) (fun a' => wpList _ _ _ _ a' (World.drew w2)) _ _
          rw [← hwz]
          replace hwz := Lib.hid hwz
          simp only [List.take_succ_cons, List.take_zero, List.drop_succ_cons, List.drop_zero]
          repeat (first | still_step | still_call (hC2))
          refine wpStill_nil ?_
          have H4 : Hid (MS w (wz.setCell ⟨w.heap.size, 2, none⟩ (.int .i64 ((b' : Int) + (cm : Int)))) (tcs B M (b' + cm) ba bn bc ra n rc) a' c' (pt (lvl (rsO rv) lev)) a2 c2 (keepV rv lev)) := Lib.hid (by have := H3.out.set 2 (.int .i64 ((b' : Int) + (cm : Int))); exact this)
          have HO : Hid (OwnZ (wz.setCell ⟨w.heap.size, 2, none⟩ (.int .i64 ((b' : Int) + (cm : Int)))) w.heap.size 122 2 a2 k2 c2 (rcs (keepV rv lev))) := Lib.hid (by rw [H10.out.2.1]; exact H4.out.rst)
          have HBw : Hid (w.heap.size ≤ (wz.setCell ⟨w.heap.size, 2, none⟩ (.int .i64 ((b' : Int) + (cm : Int)))).heap.size) := Lib.hid H4.out.fr.size
          have hk29 : k2 ≤ 100000 := by
            have h1 : (keepV rv lev).length ≤ rv.length := List.length_filter_le _ _
            have h2 := H10.out.2.1
            have h3 := Hl.out
            omega
          go_upto_region 17 with fail
          generalize World.setCell wz { block := w.heap.size, off := 2 } (.int .i64 ((b' : Int) + (cm : Int))) = wy at *
          go_wp2_with (at_builtin; (refine wpAppZAt E122 (by omega) HO.out (us := [.int .i64 ((lev : Int) + 1), .slice a' k c']) rfl (fun u hu => by simp at hu; rcases hu with rfl | rfl <;> rfl) (by omega) (by omega) HBw.out (by rfl) (by rfl) ?_); intro a3 c3 w3 own3 fr3 at3; have X1 : Hid (MS w w3 (tcs B M (b' + cm) ba bn bc ra n rc) a' c' (pt (lvl (rsO rv) lev)) a3 c3 (keepV rv lev ++ [⟨lev + 1, (pt (lvl (rsO rv) lev)), a', c'⟩])) := Lib.hid (H4.out.app ⟨lev + 1, (pt (lvl (rsO rv) lev)), a', c'⟩ (by have h1 := own3; rw [H10.out.2.1, X2.out.1] at h1; exact h1) fr3); have g0 := X1.out.bx.cell (i := 0) rfl; have g1 := X1.out.bx.cell (i := 1) rfl; have g2 := X1.out.bx.cell (i := 2) rfl; have g3 := X1.out.bx.cell (i := 3) rfl; have g4 := X1.out.bx.cell (i := 4) rfl; have p0 := X1.out.rb.cell (i := 0) rfl; have p1 := X1.out.rb.cell (i := 1) rfl; have p2 := X1.out.rb.cell (i := 2) rfl; have p3 := X1.out.rb.cell (i := 3) rfl; have p4 := X1.out.rb.cell (i := 4) rfl; have q0 := X1.out.bx.free; have q1 := X1.out.rb.free; clear own3 fr3 at3)
          have Y := (X1.out.set 4 (.slice a3 (k2 + 1) c3)).leave (.int .i64 (B : Int)) (.int .i64 (M : Int)) (.int .i64 ((b' : Int) + (cm : Int))) (.slice ba bn bc) (.slice a3 (k2 + 1) c3)
          refine bodyPost_ret (results_c1 rfl rfl Y.rb rfl) rfl ?_
          have e : mergeR B ⟨rsO rv, bl⟩ lev = ⟨rsO (keepV rv lev ++ [⟨lev + 1, (pt (lvl (rsO rv) lev)), a', c'⟩]), b' + cm⟩ := by
            unfold mergeR
            have e1 : rsO (keepV rv lev ++ [⟨lev + 1, (pt (lvl (rsO rv) lev)), a', c'⟩]) = restR (rsO rv) lev ++ [(lev + 1, (pt (lvl (rsO rv) lev)))] := by
              rw [← rsO_keep]; unfold rsO; rw [List.map_append]; rfl
            have e2 : (resR (rsO rv) lev).length = k := by rw [HZ.out, ← X2.out.1]
            rw [if_neg (by show ¬ (resR (rsO rv) lev).length = 0; omega), e1, H10.out.2.2.1, Hcm.out]
            show RT.mk (restR (rsO rv) lev ++ [(lev + 1, resR (rsO rv) lev)]) _ = _
            rw [e2, HZ.out]
          rw [e]
          refine ⟨a3, c3, keepV rv lev ++ [⟨lev + 1, (pt (lvl (rsO rv) lev)), a', c'⟩], ?_, rfl, Y.ref HR0.out (fun r hr => ?_), Y.fr⟩
          · rw [List.length_append, List.length_singleton, ← H10.out.2.1]; rfl
          · rcases List.mem_append.1 hr with hr | hr
            · exact .inl (List.mem_filter.1 hr).1
            · rw [List.mem_singleton] at hr; subst hr; exact .inr ⟨rfl, rfl, rfl⟩
end Go.Proofs.Ytkmnnfflibamnaa
