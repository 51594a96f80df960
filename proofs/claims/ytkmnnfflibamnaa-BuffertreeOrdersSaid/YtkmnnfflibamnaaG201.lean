/- Common texts of this seat, one behind another. -/
import Derived.Test.YtkmnnfflibamnaaG18
import Derived.Test.YtkmnnfflibamnaaH4
/- Buffer trees: a level is merged. -/
namespace Go.Proofs.Ytkmnnfflibamnaa
open Go.RowKit
attribute [local go_sem ↓] Go.wp_at_zero Go.wp_at_succ
section
variable {w w' : World} {col : Nat → Nat} {t B M : Nat} {T : TV}
/-- Level i loses its runs. -/
theorem TS.nilAt (h : TS w col t B M T) {i g : Nat} {L : LV} (hL : T.lv[i]? = some L) (hg : T.la = some ⟨g, 0, none⟩) :
    TS (w.setCell ⟨g, i, none⟩ (.slice none 0 0)) col t B M { T with lv := T.lv.set i lv0 } ∧ Kq w (w.setCell ⟨g, i, none⟩ (.slice none 0 0)) col col (fun c => c = 3) := by
  have hi := (List.getElem?_eq_some_iff.1 hL).1
  have hgb : onBlk T.la g := by rw [hg]; exact (onBlk_some _ _ _ _).2 rfl
  have K : Kq w (w.setCell ⟨g, i, none⟩ (.slice none 0 0)) col col (fun c => c = 3) := ⟨Fr.setCell (Fr.refl _ _) (fun _ => h.cl g hgb) _, fun _ _ => rfl⟩
  have kb := h.kbuf K (by omega)
  have k1 := h.kblk K (by omega)
  refine ⟨⟨?_, h.ct, kb.1, kb.2, ?_, h.cl, fun j L' hL' => ?_, fun k hk => h.up k (by simpa using hk)⟩, K⟩
  · show Blk _ _ _ (tcells B M { T with lv := T.lv.set i lv0 })
    unfold tcells
    dsimp only
    rw [List.length_set]
    exact k1.1
  · dsimp only
    rw [List.length_set, lvs, List.map_set]
    have := h.lown
    rw [hg] at this ⊢
    exact this.set _
  · dsimp only at hL'
    rw [List.getElem?_set] at hL'
    by_cases hij : i = j
    · rw [if_pos hij, if_pos hi] at hL'
      injection hL' with hL'
      subst hL'
      exact ⟨Own.nil _ _ _, fun k hk => absurd hk (onBlk_none _), fun r hr => by cases hr⟩
    · rw [if_neg hij] at hL'
      exact h.keach K (by omega) (by omega) hL'
end
theorem lvT_setNil (lv : List LV) (i : Nat) : lvT (lv.set i lv0) = (lvT lv).set i [] := by
  show List.map _ _ = List.set (List.map _ _) _ _
  rw [List.map_set]; rfl
theorem lvT_any (lv : List LV) (i : Nat) : ((lv.drop (i + 1)).any fun L => decide (0 < L.rv.length)) = hiT (lvT lv) i := by
  unfold hiT lvT
  rw [← List.map_drop, List.any_map]
  congr 1
  funext L
  simp [ls]
theorem lvT_mem {lv : List LV} {L : LV} (h : L ∈ lv) : ls L.rv ∈ lvT lv := List.mem_map_of_mem h
theorem ls_len (rv : List RV) : (ls rv).length = rv.length := List.length_map ..
theorem len1_mem {l : List (List En)} {r : List En} (h : r ∈ l) : r.length ≤ len1 l := by
  induction l with
  | nil => cases h
  | cons x l ih =>
    unfold len1 at *
    rw [List.map_cons, List.sum_cons]
    rcases List.mem_cons.1 h with rfl | h
    · omega
    · have := ih h; omega
theorem totT_mem {lv : Lv} {l : List (List En)} (h : l ∈ lv) : len1 l ≤ totT lv ∧ l.length ≤ runsN lv := by
  obtain ⟨i, hi⟩ := List.getElem?_of_mem h
  have hl := (List.getElem?_eq_some_iff.1 hi).1
  have e : lv.getD i [] = l := by rw [List.getD_eq_getElem?_getD, hi]; rfl
  have h1 := len1_le hl
  have h2 := runs_le hl
  rw [e] at h1 h2
  exact ⟨h1, h2⟩
set_option maxRecDepth 100000 in
set_option maxHeartbeats 4000000 in
theorem merge_any {w : World} {col : Nat → Nat} {t B M i k1 k2 k3 : Nat} {T : TV} {L : LV} (h : TS w col t B M T) (hP : PI T.tt k1 k2 k3) (hk1 : k1 ≤ 400) (hk2 : k2 ≤ 2000) (hk3 : k3 ≤ 1000000000) (hL : T.lv[i]? = some L) (hB : 1 ≤ B ∧ B ≤ 64) (hn2 : 2 ≤ L.rv.length) :
    Calls Try.prog 88 #[.pointer (some ⟨t, 0, none⟩), .int .i64 (i : Int)] w fun e w' => e = .returned (.tuple #[]) ∧ ∃ col' T', TS w' col' t B M T' ∧ T'.buf = T.buf ∧ T'.ba = T.ba ∧ T'.tt = mergeT B T.tt i ∧ Ch w w' col col' := by
  have hi := (List.getElem?_eq_some_iff.1 hL).1
  have hmem := List.mem_of_getElem? hL
  have hlen := hP.len
  have htot : totT (lvT T.lv) ≤ k1 := hP.tot
  have hmv := hP.mv
  have hll : (lvT T.lv).length = T.lv.length := lvT_len _
  have hmm := totT_mem (lvT_mem hmem)
  rw [ls_len] at hmm
  have hat := lvT_at hL
  obtain ⟨g, hg, d0, df, dg⟩ := h.at hL
  have hlev := h.lev i L hL
  have hsr := short_runs (l := ls L.rv) (k := k1) (fun r hr => hP.ne _ (lvT_mem hmem) r hr) (Nat.le_trans hmm.1 htot) hk1
  rw [ls_len] at hsr
  have hSd : ∀ r ∈ L.rv, Sd r.l := fun r hr => hP.sd _ (lvT_mem hmem) r.l (List.mem_map_of_mem hr)
  have hlr : ∀ L' ∈ T.lv, L'.rv.length ≤ 1000 := fun L' hL' => by
    have := (totT_mem (lvT_mem hL')).2; rw [ls_len] at this
    have h2 : (TV.tt T).lv.length + runsN (lvT T.lv) ≤ k2 := hlen
    have := short_runs (l := ls L'.rv) (k := k1) (fun r hr => hP.ne _ (lvT_mem hL') r hr) (Nat.le_trans (totT_mem (lvT_mem hL')).1 htot) hk1
    rw [ls_len] at this; omega
  have hres : resT (lvT T.lv) i = jres (hiT (lvT T.lv) i) (ls L.rv) := by unfold resT jres; rw [hat]
  have hresl := resT_len (lvT T.lv) i
  rw [hat] at hresl
  have hcn : cnts B (ls L.rv) ≤ 400 := Nat.le_trans (cnts_le hB.1 _) (by omega)
  have hmvT : T.mv ≤ 1000000000 := by have : T.mv + 800 * runsN (lvT T.lv) ≤ k3 := hmv; omega
  have hlvl : T.lv.length ≤ 2000 := by have : (lvT T.lv).length + runsN (lvT T.lv) ≤ k2 := hlen; omega
  have hrl4 : ∀ r ∈ L.rv, r.l.length ≤ 400 := fun r hr => by have := hsr.2.1 r.l (List.mem_map_of_mem hr); omega
  obtain ⟨n, hn⟩ : ∃ n, n = T.lv.length := ⟨_, rfl⟩
  obtain ⟨q, hq⟩ : ∃ q, q = L.rv.length := ⟨_, rfl⟩
  have y3 := h.blk.cell (i := 3) rfl
  rw [← hn] at y3 hlvl hi
  rw [← hq] at d0 hsr hn2
  have hown := hlev.1
  rw [← hq] at hown
  -- move
  have HM : Hid _ := Lib.hid (move_any (c := L.c) h hown.rd (fun k hk => by rw [hlev.2.1 k hk]; omega) hB (by omega) (fun r hr => Nat.le_trans (hrl4 r hr) (by omega)) (by omega))
  have HT := Lib.hid h
  have HLv := Lib.hid hlev
  have Hn := Lib.hid hn
  have Hq := Lib.hid hq
  have HL := Lib.hid hL
  have HSr := Lib.hid hsr
  have HSd := Lib.hid hSd
  have HLr := Lib.hid hlr
  have HRes := Lib.hid hres
  have HResl := Lib.hid hresl
  have Hat := Lib.hid hat
  have HMm := Lib.hid hmm
  have HCn := Lib.hid hcn
  have Htot : Hid (totT (lvT T.lv) ≤ k1) := Lib.hid htot
  have HG := Lib.hid hg
  rw [hg] at y3
  clear h hP hL hmem hlen htot hmv hll hmm hat hlev hsr hSd hlr hres hresl hn hq hown hg hcn hrl4
  obtain ⟨rr, hrr⟩ : ∃ rr, n = (i + 1) + rr := ⟨n - (i + 1), by omega⟩
  have hcut := fun (W : World) => run_cutLo E104 W (some ⟨g, 0, none⟩) (c := T.lc) hrr (x := (i : Int) + 1) (by omega)
  have Hrr := Lib.hid hrr
  clear hrr
  go_enter Try.func88, Try.ntmps88
  go_wp2_with (go_at_call 62; refine HM.out.mono ?_; rintro e w1 ⟨rfl, T1, K1⟩; have y1 : w1.cell? ⟨t, 3, none⟩ = some (.slice (some ⟨g, 0, none⟩) n T.lc) := (by rw [Hn.out, ← HG.out]; exact T1.blk.cell (i := 3) rfl); have H1 := Lib.hid (And.intro T1 K1); clear T1 K1)
  have HC := Lib.hid (Contains_any (c := T.lc - (i + 1)) (w := w1) (a := cutA (some ⟨g, 0, none⟩) T.lc (i + 1)) (n := rr) (lv := T.lv.drop (i + 1)) (by
    have o := H1.out.1.lown
    dsimp only at o
    rw [HG.out, ← Hn.out] at o
    have := o.rd.cut (Own.cap o) (k := i + 1) Hrr.out
    rwa [← List.map_drop] at this) (fun L' hL' => Nat.le_trans (HLr.out L' (List.mem_of_mem_drop hL')) (by omega)) (by have := Hrr.out; omega))
  obtain ⟨hb, hhb⟩ : ∃ hb, hb = hiT (lvT T.lv) i := ⟨_, rfl⟩
  rw [lvT_any, ← hhb] at HC
  have Hhb := Lib.hid hhb
  clear hhb
  refine HC.out.mono ?_
  rintro e w2 ⟨rfl, F2⟩
  have T2 := H1.out.1.fr0 F2
  have K2 := H1.out.2.fr0 F2
  obtain ⟨_, e2, c2, f2, _⟩ := T2.at HL.out
  dsimp only at e2
  rw [HG.out] at e2
  injection e2 with e2; injection e2 with e2; subst e2
  have y2 : w2.cell? ⟨t, 3, none⟩ = some (.slice (some ⟨g, 0, none⟩) n T.lc) := F2.cell y1 id
  have H2 := Lib.hid (And.intro T2 K2)
  have H3 := Lib.hid (T2.nilAt HL.out HG.out)
  have hin : i < n := hi
  clear T2 K2 F2 y1 HC
  go_wp2_with fail
  obtain ⟨w3, hw3⟩ : ∃ w3, w3 = w2.setCell ⟨g, i, none⟩ (.slice none 0 0) := ⟨_, rfl⟩
  rw [← hw3] at H3 ⊢
  clear hw3 c2 f2 y2
  have K3 := (H2.out.2.mono (Q' := fun c => c = 1 ∨ c = 3) (fun _ e => .inl e)).trans (H3.out.2.mono (fun _ e => .inr e))
  have L3 := HLv.out.fr K3.fr (fun k _ e => ⟨fun e0 => by rw [e0] at e; omega, fun e0 => by rw [e0] at e; omega⟩) (fun k hk _ => K3.col k hk)
  have own3 := L3.1
  rw [← Hq.out] at own3
  have HJ := Lib.hid (joined_any (R := k1 + 1 - q) hb own3 (fun r hr => ⟨(L3.2.2 r hr).1, HSd.out r hr, HSr.out.2.1 r.l (List.mem_map_of_mem hr)⟩) (by have := HSr.out.1; omega) (by omega) HSr.out.2.2)
  have HK3 := Lib.hid K3
  obtain ⟨J, hJ⟩ : ∃ J, J = jres hb (ls L.rv) := ⟨_, rfl⟩
  rw [← hJ] at HJ
  have hJr : resT (lvT T.lv) i = J := by rw [hJ, Hhb.out]; exact HRes.out
  have hJl : J.length ≤ 400 := by have := HResl.out; rw [hJr] at this; have := HMm.out.1; have := Htot.out; omega
  have HJr := Lib.hid hJr
  clear K3 L3 own3 hJ hJr
  refine HJ.out.mono ?_
  rintro e w4 ⟨a4, c4, rfl, own4, F4⟩
  have T4 := H3.out.1.fr0 F4
  have K4 := HK3.out.fr0 F4
  have hr4 : RunOK w4 col ⟨J, a4, c4⟩ := ⟨own4.rd, OwnZ.cap own4, fun k hk => ⟨(own4.blk k hk).2, H3.out.1.up k (own4.blk k hk).1⟩⟩
  have H4 := Lib.hid (And.intro T4 (And.intro K4 hr4))
  have hmg : mergeT B T.tt i = if J.length = 0 then ⟨(lvT T.lv).set i [], T.mv + cnts B (ls L.rv)⟩ else addT B ⟨(lvT T.lv).set i [], T.mv + cnts B (ls L.rv)⟩ (i + 1) J := by
    unfold mergeT TV.tt
    dsimp only
    rw [HJr.out, Hat.out]
  have HMg := Lib.hid hmg
  clear own4 F4 T4 K4 hr4 HJ hmg
  by_cases hz : J.length = 0
  · have hJ0 : J = [] := List.length_eq_zero_iff.1 hz
    subst hJ0
    clear hz
    go_wp2_with fail
    go_end0
    refine ⟨rfl, col, _, H4.out.1, rfl, rfl, ?_, H4.out.2.1.ch (by omega)⟩
    rw [HMg.out, if_pos List.length_nil]
    unfold TV.tt
    dsimp only
    rw [lvT_setNil]
  · have hz' : (0 : Int) < ((J.length : Nat) : Int) := by omega
    have HA := Lib.hid (add_any (i := i + 1) (r := ⟨J, a4, c4⟩) H4.out.1 H4.out.2.2 hB (by omega) (by dsimp only; rw [List.length_set, ← Hn.out]; omega) (fun L' hL' => by
      rcases List.mem_or_eq_of_mem_set hL' with h | h
      · exact Nat.le_trans (HLr.out L' h) (by omega)
      · rw [h]; exact Nat.zero_le _) (by show J.length ≤ 100000; omega) (by dsimp only; have := HCn.out; omega))
    unfold RV.v at HA
    dsimp only at HA
    rw [Int.natCast_add] at HA
    have Hz := Lib.hid hz
    clear hz
    go_wp2_with (go_at_call 63; refine HA.out.mono ?_; rintro e w5 ⟨rfl, col5, T5, a1, a2, a3, a4, a5⟩; have H5 := Lib.hid (And.intro a1 (And.intro a2 (And.intro a3 (And.intro a4 a5)))); clear a1 a2 a3 a4 a5)
    go_end0
    refine ⟨rfl, col5, T5, H5.out.1, H5.out.2.1, H5.out.2.2.1, ?_, (H4.out.2.1.ch (by omega)).trans H5.out.2.2.2.2⟩
    rw [HMg.out, if_neg Hz.out, H5.out.2.2.2.1]
    unfold TV.tt
    dsimp only
    rw [lvT_setNil]
end Go.Proofs.Ytkmnnfflibamnaa
/- Buffer trees: the buffer is spilled. -/
namespace Go.Proofs.Ytkmnnfflibamnaa
open Go.RowKit
attribute [local go_sem ↓] Go.wp_at_zero Go.wp_at_succ
theorem exists_least {P : Nat → Prop} (h : ∃ n, P n) : ∃ n, P n ∧ ∀ m, P m → n ≤ m := by
  obtain ⟨n, hn⟩ := h
  induction n using Nat.strongRecOn with
  | ind n ih =>
    by_cases c : ∃ m, m < n ∧ P m
    · obtain ⟨m, hm, hp⟩ := c; exact ih m hm hp
    · exact ⟨n, hn, fun m hm => by
        rcases Nat.lt_or_ge m n with h | h
        · exact absurd ⟨m, h, hm⟩ c
        · exact h⟩
/-- The least number with a property (0 if there is none). -/
noncomputable def least (P : Nat → Prop) : Nat := @dite Nat (∃ n, P n) (Classical.propDecidable _) (fun h => Classical.choose (exists_least h)) (fun _ => 0)
theorem least_spec {P : Nat → Prop} (h : ∃ n, P n) : P (least P) := by
  unfold least
  rw [dif_pos h]
  exact (Classical.choose_spec (exists_least h)).1
theorem least_le {P : Nat → Prop} {n : Nat} (h : P n) : least P ≤ n := by
  unfold least
  rw [dif_pos ⟨n, h⟩]
  exact (Classical.choose_spec (exists_least ⟨n, h⟩)).2 n h
theorem Ch.fr0w {w w1 w2 : World} {col c1 : Nat → Nat} (h : Ch w1 w2 col c1) (F : Fr F0 w w1) : Ch w w2 col c1 := ⟨(F.mono (S' := fun k => col k ≠ 0) (fun _ _ h => h.elim)).trans h.fr (fun _ _ h => h), fun k hk e => h.col k (Nat.lt_of_lt_of_le hk F.size) e⟩
section
variable {w w' : World} {col : Nat → Nat} {t B M : Nat} {T : TV}
/-- The buffer becomes a run, and the tree has an empty one. -/
theorem TS.drain (h : TS w col t B M T) : ∃ col', TS (w.setCell ⟨t, 2, none⟩ (.slice none 0 0)) col' t B M { T with buf := [], ba := none, bc := 0 } ∧ RunOK (w.setCell ⟨t, 2, none⟩ (.slice none 0 0)) col' ⟨T.buf, T.ba, T.bc⟩ ∧ Ch w (w.setCell ⟨t, 2, none⟩ (.slice none 0 0)) col col' := by
  refine ⟨rcol col T.ba 0, ?_, ?_, ?_⟩
  · have K := h.kset 2 (.slice none 0 0)
    have ho : ∀ k, k < w.heap.size → col k ≠ 2 → rcol col T.ba 0 k = col k := fun k hk e => by
      by_cases c : onBlk T.ba k
      · exact absurd (h.cb k c) e
      · exact rcol_off c
    have ht : ¬ onBlk T.ba t := fun hk => by have := h.cb t hk; have := h.ct; omega
    have kl := h.klev K (by omega)
    refine ⟨h.blk.set 2 _, (rcol_off ht).trans h.ct, OwnZ.nil _ _ _ _, fun k hk => absurd hk (onBlk_none _), kl.1, fun k hk => ?_, fun i L hL => ?_, fun k hk => ?_⟩
    · rw [ho k (h.lown.blk k hk).2 (by rw [h.cl k hk]; omega)]; exact h.cl k hk
    · exact (h.lev i L hL).fr K.fr (fun k _ e => ⟨fun e2 => by omega, fun e2 => by omega⟩) (fun k hk e => ho k hk (by omega))
    · rw [rcol_off (fun hk' => by have := (h.bown.blk k hk').2; have hs : (w.setCell ⟨t, 2, none⟩ (.slice none 0 0)).heap.size = w.heap.size := by simp
                                  omega)]
      exact h.up k (by simpa using hk)
  · refine ⟨h.bown.rd.fr (Fr.setCell (S := fun k => k = t) (Fr.refl _ w) (fun _ => rfl) _) (fun k hk e => by have := h.cb k hk; have := h.ct; subst e; omega), OwnZ.cap h.bown, fun k hk => ⟨by have := (h.bown.blk k hk).2; simpa using this, rcol_on hk⟩⟩
  · refine ⟨Fr.setCell (Fr.refl _ _) (fun _ => by rw [h.ct]; omega) _, fun k hk e => ?_⟩
    by_cases c : onBlk T.ba k
    · exact rcol_on c
    · rw [rcol_off c]; exact e
end
/-- The loop in spill, some rounds from its end. -/
def SpS (w : World) (col : Nat → Nat) (t B M bx F : Nat) (ba : Option Addr) (fin : TT) (k1 k2 k3 : Nat) (wr : World) (n : Nat) : Prop :=
  ∃ col1 T1, TS wr col1 t B M T1 ∧ PI T1.tt k1 k2 k3 ∧ T1.buf = [] ∧ T1.ba = ba ∧ loopT B F n T1.tt = fin ∧ runsN T1.tt.lv ≤ n ∧ Ch w wr col col1 ∧ One wr bx 26 (.pointer (some ⟨t, 0, none⟩)) ∧ col1 bx = 0
theorem full_idx (F : Nat) (lv : List LV) : idxP (fun m => decide (F ≤ m)) lv = match fullT F (lvT lv) with | some i => (i : Int) | none => -1 := by
  unfold idxP fullT lvT
  rw [List.findIdx?_map]
  have e : ((fun l : List (List En) => decide (F ≤ l.length)) ∘ fun L : LV => ls L.rv) = fun L : LV => decide (F ≤ L.rv.length) := by funext L; simp [ls]
  rw [e]
  rfl
set_option maxRecDepth 100000 in
set_option maxHeartbeats 4000000 in
theorem spill_any {w : World} {col : Nat → Nat} {t B M k1 k2 k3 : Nat} {T : TV} (h : TS w col t B M T) (hP : PI T.tt k1 k2 k3) (hk1 : k1 + T.buf.length ≤ 400) (hk2 : k2 ≤ 1900) (hk3 : k3 ≤ 900000000) (hb0 : 0 < T.buf.length) (hbs : Sd T.buf) (hB : 1 ≤ B ∧ B ≤ 64) (hM : 2 * B ≤ M ∧ M ≤ 1000) :
    Calls Try.prog 61 #[.pointer (some ⟨t, 0, none⟩)] w fun e w' => e = .returned (.tuple #[]) ∧ ∃ col' T', TS w' col' t B M T' ∧ T'.buf = [] ∧ T'.tt = spillT B (fanN B M) T.tt T.buf ∧ Ch w w' col col' := by
  have hF : 2 ≤ fanN B M := Nat.le_max_left _ _
  have hP1 := hP.add (B := B) (i := 0) (Nat.zero_le _) hbs hb0
  have hcn := cnt_le hB.1 T.buf.length
  have hP2 := hP1.mono (Nat.le_refl _) (show k2 + 2 ≤ 2000 by omega) (show _ ≤ 1000000000 by omega)
  have F1 : Fr F0 w (w.alloc (.cells #[.pointer (some ⟨t, 0, none⟩)] 26)) := (Fr.refl _ _).alloc _
  have T1 := h.fr0 F1
  have b1 := One.new (w := w) 26 (.pointer (some ⟨t, 0, none⟩))
  have hbx := b1.cell
  have y2 := T1.blk.cell (i := 2) rfl
  have z2 := T1.blk.free 2
  obtain ⟨nb, hnb⟩ : ∃ nb, nb = T.buf.length := ⟨_, rfl⟩
  rw [← hnb] at y2
  have HT := Lib.hid T1
  have HB1 := Lib.hid b1
  have HF1 := Lib.hid F1
  have HP2 := Lib.hid hP2
  have Hup := Lib.hid h.up
  have Hnb := Lib.hid hnb
  have hlv : T.lv.length ≤ 2000 := by have : (lvT T.lv).length + runsN (lvT T.lv) ≤ k2 := hP.len; rw [lvT_len] at this; omega
  have hmvT : T.mv ≤ 1000000000 := by have : T.mv + 800 * runsN (lvT T.lv) ≤ k3 := hP.mv; omega
  have hlr : ∀ L' ∈ T.lv, L'.rv.length ≤ 2000 := fun L' hL' => by
    have := (totT_mem (lvT_mem hL')).2; rw [ls_len] at this
    have h2 : (lvT T.lv).length + runsN (lvT T.lv) ≤ k2 := hP.len
    omega
  have HLr := Lib.hid hlr
  rw [← hnb] at hk1
  clear h hP hb0 hbs hP1 hP2 hcn F1 T1 b1 hnb hlr
  obtain ⟨F, hFd⟩ : ∃ F, F = fanN B M := ⟨_, rfl⟩
  rw [← hFd] at hF ⊢
  have HFd := Lib.hid hFd
  obtain ⟨fin, hfin⟩ : ∃ fin, fin = spillT B F T.tt T.buf := ⟨_, rfl⟩
  rw [← hfin]
  have HFin := Lib.hid hfin
  clear hFd hfin
  go_enter Try.func61, Try.ntmps61
  go_wp2_with fail
  obtain ⟨col0, D1, D2, D3⟩ := HT.out.drain
  have hbx0 : col w.heap.size = 0 := Hup.out _ (Nat.le_refl _)
  have e0 : col0 w.heap.size = 0 := D3.col _ (by simp) hbx0
  have HA := Lib.hid (add_any (i := 0) (r := ⟨T.buf, T.ba, T.bc⟩) D1 D2 hB (by omega) (by dsimp only; omega) (fun L' hL' => Nat.le_trans (HLr.out L' hL') (by omega)) (by dsimp only; rw [← Hnb.out]; omega) (by dsimp only; omega))
  have HX1 := Lib.hid (And.intro e0 D3)
  have HBx := Lib.hid (HB1.out.fr (S := fun k => col k ≠ 0) D3.fr (fun e => e hbx0))
  clear D1 D2 D3 e0 hbx0
  unfold RV.v at HA
  dsimp only at HA
  rw [← Hnb.out, show ((0 : Nat) : Int) = 0 from rfl] at HA
  refine HA.out.mono ?_
  rintro e w2 ⟨rfl, col2, T2, a1, a2, a3, a4, a5⟩
  have hbxc := HBx.out.fr (S := fun k => col0 k ≠ 0) a5.fr (fun e => e HX1.out.1)
  have S2 : Hid (SpS w col t B M w.heap.size F T2.ba fin (k1 + T.buf.length) 2000 1000000000 w2 (runsN (addT B T.tt 0 T.buf).lv)) := Lib.hid ⟨col2, T2, a1, by rw [a4]; exact HP2.out, a2, rfl, by rw [a4, HFin.out]; rfl, by rw [a4]; exact Nat.le_refl _, (((Ch.refl w col).fr0 HF1.out).trans HX1.out.2).trans a5, hbxc, a5.col _ HBx.out.lt HX1.out.1⟩
  clear a1 a2 a3 a4 a5 hbxc
  go_wp2_with fail
  obtain ⟨ba2, hba2⟩ : ∃ ba, ba = T2.ba := ⟨_, rfl⟩
  rw [← hba2] at S2
  obtain ⟨bx, hbxe⟩ : ∃ bx, bx = w.heap.size := ⟨_, rfl⟩
  rw [← hbxe] at S2 ⊢
  have S3 : Hid (∃ n, SpS w col t B M bx F ba2 fin (k1 + T.buf.length) 2000 1000000000 w2 n) := Lib.hid ⟨_, S2.out⟩
  obtain ⟨kk, hkk⟩ : ∃ kk, kk = k1 + T.buf.length := ⟨_, rfl⟩
  rw [← hkk] at S3
  have hkk4 : kk ≤ 400 := by rw [hkk, ← Hnb.out]; exact hk1
  clear hba2 S2 HA HBx HX1 HP2 HT HB1 HF1 hbxe hkk hbx y2 z2
  go_loopw [3] (fun _ wr => Hid (∃ n, SpS w col t B M bx F ba2 fin kk 2000 1000000000 wr n)) (fun _ wr => least (SpS w col t B M bx F ba2 fin kk 2000 1000000000 wr))
  case atStart => exact S3
  case round =>
    have hsp := least_spec hrel.out
    obtain ⟨N, hN⟩ : ∃ N, N = least (SpS w col t B M bx F ba2 fin kk 2000 1000000000 wr) := ⟨_, rfl⟩
    rw [← hN] at hsp
    have HN := Lib.hid hN
    obtain ⟨col1, T1, s1, s2, s3, s4, s5, s6, s7, s8, s9⟩ := hsp
    have hx := s8.cell
    have hlen := s2.len
    have hlv1 : T1.lv.length ≤ 2000 := by have : (lvT T1.lv).length + runsN (lvT T1.lv) ≤ 2000 := hlen; rw [lvT_len] at this; omega
    have hlr1 : ∀ L' ∈ T1.lv, L'.rv.length ≤ 1000000 := fun L' hL' => by
      have := (totT_mem (lvT_mem hL')).2; rw [ls_len] at this
      have h2 : (lvT T1.lv).length + runsN (lvT T1.lv) ≤ 2000 := hlen
      omega
    have y3 := s1.blk.cell (i := 3) rfl
    have HI := Lib.hid (IndexSpill_any (bx := bx) (c := T1.lc) (p := fun m => decide (F ≤ m)) s1.lown.rd hlr1 (by omega) (fun a m c W _ hF0 => by rw [HFd.out]; exact spillCl_any a m c bx t B M W (s8.fr hF0 id) (hF0.cell (s1.blk.cell (i := 0) rfl) id) (hF0.cell (s1.blk.cell (i := 1) rfl) id) hB hM))
    rw [full_idx] at HI
    have HS := Lib.hid (And.intro s1 (And.intro s2 (And.intro s3 (And.intro s4 (And.intro s5 (And.intro s6 (And.intro s7 (And.intro s8 s9))))))))
    obtain ⟨n1, hn1⟩ : ∃ n1, n1 = T1.lv.length := ⟨_, rfl⟩
    rw [← hn1] at y3 HI hlv1
    have Hn1 := Lib.hid hn1
    clear s1 s2 s3 s4 s5 s6 s7 s8 s9 hlen hlr1 hN hn1 hrel
    cases hf : fullT F (lvT T1.lv) with
    | none =>
      rw [hf] at HI
      have Hf := Lib.hid hf
      clear hf
      go_wp2_with (go_at_call 86; refine HI.out.mono ?_; rintro e w3 ⟨rfl, F3⟩; replace F3 := Lib.hid F3)
      refine bodyPost_ret (results_none rfl _ _ _) rfl ?_
      refine ⟨rfl, col1, T1, HS.out.1.fr0 F3.out, HS.out.2.2.1, ?_, HS.out.2.2.2.2.2.2.1.fr0 F3.out⟩
      have e := HS.out.2.2.2.2.1
      rw [← e]
      cases N with
      | zero => rfl
      | succ m => unfold loopT; rw [show fullT F T1.tt.lv = none from Hf.out]
    | some i =>
      rw [hf] at HI
      obtain ⟨f1, f2, _⟩ := fullT_some hf
      have Hf := Lib.hid hf
      rw [lvT_len] at f1
      obtain ⟨L, hL⟩ : ∃ L, T1.lv[i]? = some L := ⟨_, List.getElem?_eq_getElem f1⟩
      rw [lvT_at hL, ls_len] at f2
      have HM := Lib.hid (fun W (F3 : Fr F0 wr W) => merge_any (HS.out.1.fr0 F3) HS.out.2.1 hkk4 (Nat.le_refl _) (Nat.le_refl _) hL hB (by omega))
      have hpm : PI (mergeT B T1.tt i) kk 2000 1000000000 := HS.out.2.1.merge hB.1 hkk4 (by show i < (lvT T1.lv).length; rw [lvT_len]; exact f1) (by show 2 ≤ ((lvT T1.lv).getD i []).length; rw [lvT_at hL, ls_len]; omega)
      have hrn : runsN (mergeT B T1.tt i).lv + 1 ≤ runsN T1.tt.lv := mergeT_runs hF hf
      have HPm := Lib.hid (And.intro hpm hrn)
      have hi0 : ¬ (i : Int) < 0 := by omega
      clear hf f1 f2 hL hpm hrn
      go_wp2_with (first | (go_at_call 86; refine HI.out.mono ?_; rintro e w3 ⟨rfl, F3⟩; have hx3 := F3.cell hx id; replace F3 := Lib.hid F3) | (go_at_call 88; refine (HM.out _ F3.out).mono ?_; rintro e w4 ⟨rfl, col4, T4, a1, a2, a3, a4, a5⟩; have H4 := Lib.hid (And.intro a1 (And.intro a2 (And.intro a3 (And.intro a4 a5)))); clear a1 a2 a3 a4 a5))
      have hnew : ∃ m, N = m + 1 ∧ SpS w col t B M bx F ba2 fin kk 2000 1000000000 w4 m := by
        obtain ⟨q1, q2, q3, q4, q5, q6, q7, q8, q9⟩ := HS.out
        obtain ⟨r1, r2, r3, r4, r5⟩ := H4.out
        have hr := HPm.out.2
        cases N with
        | zero => omega
        | succ m =>
          refine ⟨m, rfl, col4, T4, r1, by rw [r4]; exact HPm.out.1, r2.trans q3, r3.trans q4, ?_, by rw [r4]; omega, q7.trans ((Ch.fr0w r5 F3.out)), (q8.fr F3.out id).fr r5.fr (fun e => e q9), r5.col _ (Nat.lt_of_lt_of_le q8.lt F3.out.size) q9⟩
          rw [r4, ← q5]
          conv => rhs; unfold loopT
          rw [show fullT F T1.tt.lv = some i from Hf.out]
      obtain ⟨m, hm, hs4⟩ := hnew
      have HS4 := Lib.hid hs4
      have Hm := Lib.hid hm
      clear hm hs4
      go_roundw
      case rel => exact Lib.hid ⟨m, HS4.out⟩
      case measure =>
        have := least_le HS4.out
        rw [← HN.out, Hm.out]; omega
end Go.Proofs.Ytkmnnfflibamnaa
