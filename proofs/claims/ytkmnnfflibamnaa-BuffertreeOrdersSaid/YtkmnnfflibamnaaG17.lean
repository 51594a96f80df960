/- Buffer trees: a run is added to a level. -/
import Derived.Test.YtkmnnfflibamnaaG146
namespace Go.Proofs.Ytkmnnfflibamnaa
open Go.RowKit
attribute [local go_sem ↓] Go.wp_at_zero Go.wp_at_succ
section
variable {w w' : World} {col : Nat → Nat} {t B M : Nat} {T : TV}
/-- One level more. -/
theorem TS.grow (h : TS w col t B M T) {la' : Option Addr} {lc' n : Nat} (hn : T.lv.length = n) (own' : Own w' 0 104 la' (n + 1) lc' (lvs T.lv ++ [.slice none 0 0])) (F : Fr (onBlk T.la) w w') (at' : ∀ k, onBlk la' k → onBlk T.la k ∨ w.heap.size ≤ k) :
    TS (w'.setCell ⟨t, 3, none⟩ (.slice la' (n + 1) lc')) (rcol col la' 3) t B M { T with lv := T.lv ++ [lv0], la := la', lc := lc' } ∧ Kq w (w'.setCell ⟨t, 3, none⟩ (.slice la' (n + 1) lc')) col (rcol col la' 3) (fun c => c = 1 ∨ c = 3) := by
  subst hn
  have K := Kq.recol F at' h.cl
  have b := h.kblk K (by omega)
  have K1 : Kq w' (w'.setCell ⟨t, 3, none⟩ (.slice la' (T.lv.length + 1) lc')) (rcol col la' 3) (rcol col la' 3) (fun c => c = 1) := ⟨Fr.setCell (Fr.refl _ _) (fun _ => b.2) _, fun _ _ => rfl⟩
  have K2 := (K.mono (Q' := fun c => c = 1 ∨ c = 3) (fun _ e => .inr e)).trans (K1.mono (fun _ e => .inl e))
  have e1 : (T.lv ++ [lv0]).length = T.lv.length + 1 := by simp
  have e2 : lvs (T.lv ++ [lv0]) = lvs T.lv ++ [.slice none 0 0] := by simp [lv0, LV.v]
  have kb := h.kbuf K2 (by omega)
  refine ⟨⟨?_, b.2, kb.1, kb.2, ?_, fun k hk => rcol_on hk, fun i L hL => ?_, up_rcol (s := w.heap.size) (by have := F.size; simpa using this) (fun k hk => by have := (own'.blk k hk).2; simpa using this) h.up⟩, K2⟩
  · show Blk _ _ _ (tcells B M { T with lv := T.lv ++ [lv0], la := la', lc := lc' })
    unfold tcells
    dsimp only
    rw [e1]
    exact b.1.set 3 _
  · dsimp only
    rw [e1, e2]
    exact own'.other (fun hk => by have := rcol_on (col := col) (q := 3) hk; rw [b.2] at this; omega) _
  · dsimp only at hL
    rw [List.getElem?_append] at hL
    split at hL
    · exact h.keach K2 (by omega) (by omega) hL
    · rename_i hge
      cases hj : i - T.lv.length with
      | zero =>
        rw [hj] at hL
        injection hL with hL
        subst hL
        exact ⟨Own.nil _ _ _, fun k hk => absurd hk (onBlk_none _), fun r hr => by cases hr⟩
      | succ j => rw [hj] at hL; cases hL
/-- A run more at level i. -/
theorem TS.app (h : TS w col t B M T) {i g n c' : Nat} {L : LV} (hL : T.lv[i]? = some L) {a' : Option Addr} {r : RV} (hr : RunOK w col r) (hg : T.la = some ⟨g, 0, none⟩) (hn : L.rv.length = n) (own' : Own w' 0 74 a' (n + 1) c' (rvs L.rv ++ [r.v])) (F : Fr (onBlk L.a) w w') (at' : ∀ k, onBlk a' k → onBlk L.a k ∨ w.heap.size ≤ k) :
    TS (w'.setCell ⟨g, i, none⟩ (.slice a' (n + 1) c')) (rcol col a' (4 + i)) t B M { T with lv := T.lv.set i ⟨L.rv ++ [r], a', c'⟩ } ∧ Kq w (w'.setCell ⟨g, i, none⟩ (.slice a' (n + 1) c')) col (rcol col a' (4 + i)) (fun c => c = 3 ∨ c = 4 + i) := by
  subst hn
  have hi := (List.getElem?_eq_some_iff.1 hL).1
  have hlev := h.lev i L hL
  have K := Kq.recol F at' hlev.2.1
  have b := h.kblk K (by omega)
  have l := h.klev K (by omega)
  have hgb : onBlk T.la g := by rw [hg]; exact (onBlk_some _ _ _ _).2 rfl
  have K1 : Kq w' (w'.setCell ⟨g, i, none⟩ (.slice a' (L.rv.length + 1) c')) (rcol col a' (4 + i)) (rcol col a' (4 + i)) (fun c => c = 3) := ⟨Fr.setCell (Fr.refl _ _) (fun _ => l.2 g hgb) _, fun _ _ => rfl⟩
  have K2 := (K.mono (Q' := fun c => c = 3 ∨ c = 4 + i) (fun _ e => .inr e)).trans (K1.mono (fun _ e => .inl e))
  have kb := h.kbuf K2 (by omega)
  have k1 := h.kblk K2 (by omega)
  refine ⟨⟨?_, b.2, kb.1, kb.2, ?_, l.2, fun j L' hL' => ?_, up_rcol (s := w.heap.size) (by have := F.size; simpa using this) (fun k hk => by have := (own'.blk k hk).2; simpa using this) h.up⟩, K2⟩
  · show Blk _ _ _ (tcells B M { T with lv := T.lv.set i ⟨L.rv ++ [r], a', c'⟩ })
    unfold tcells
    dsimp only
    rw [List.length_set]
    exact k1.1
  · dsimp only
    rw [List.length_set, lvs, List.map_set]
    have := l.1
    rw [hg] at this ⊢
    have e : LV.v ⟨L.rv ++ [r], a', c'⟩ = .slice a' (L.rv.length + 1) c' := by unfold LV.v; dsimp only; rw [List.length_append]; rfl
    rw [e]
    exact this.set _
  · dsimp only at hL'
    rw [List.getElem?_set] at hL'
    by_cases hij : i = j
    · subst hij
      rw [if_pos rfl, if_pos hi] at hL'
      injection hL' with hL'
      subst hL'
      have o := own'.other (p := ⟨g, i, none⟩) (fun hk => by have h1 := rcol_on (col := col) (q := 4 + i) hk; have h2 := l.2 g hgb; dsimp only at h1; omega) (.slice a' (L.rv.length + 1) c')
      refine ⟨?_, fun k hk => rcol_on hk, fun r' hr' => ?_⟩
      · show Own _ 0 74 a' (L.rv ++ [r]).length c' (rvs (L.rv ++ [r]))
        have e2 : rvs (L.rv ++ [r]) = rvs L.rv ++ [r.v] := by simp
        rw [e2, List.length_append]
        exact o
      · have hok : RunOK w col r' := by
          rcases List.mem_append.1 hr' with h1 | h1
          · exact hlev.2.2 r' h1
          · rw [List.mem_singleton] at h1; subst h1; exact hr
        exact hok.fr K2.fr (fun k _ e e0 => by rw [e0] at e; omega) (fun k hk e0 => (K2.col k hk).trans e0)
    · rw [if_neg hij] at hL'
      exact h.keach K2 (by omega) (by omega) hL'
end
def lvlen (w : World) (t : Nat) : Nat := match w.cell? ⟨t, 3, none⟩ with | some (.slice _ n _) => n | _ => 0
theorem lvT_len (lv : List LV) : (lvT lv).length = lv.length := List.length_map ..
theorem lvT_app (a b : List LV) : lvT (a ++ b) = lvT a ++ lvT b := List.map_append ..
theorem lvT_rep (k : Nat) : lvT (List.replicate k lv0) = List.replicate k [] := by unfold lvT; rw [List.map_replicate]; rfl
theorem lvT_at {lv : List LV} {i : Nat} {L : LV} (h : lv[i]? = some L) : (lvT lv).getD i [] = ls L.rv := by
  unfold lvT; rw [List.getD_eq_getElem?_getD, List.getElem?_map, h]; rfl
theorem lvT_add {lv : List LV} {k i : Nat} {L : LV} {r : RV} {a' : Option Addr} {c' : Nat} (hk : k = i + 1 - lv.length) (hL : (lv ++ List.replicate k lv0)[i]? = some L) : lvT ((lv ++ List.replicate k lv0).set i ⟨L.rv ++ [r], a', c'⟩) = addL (lvT lv) i r.l := by
  have h1 : lvT (lv ++ List.replicate k lv0) = padL (lvT lv) (i + 1) := by unfold padL; rw [lvT_app, lvT_rep, lvT_len, hk]
  have h2 := lvT_at hL
  rw [h1, padL_getD] at h2
  unfold addL
  rw [← h1, h2]
  show List.map _ _ = List.set (List.map _ _) _ _
  rw [List.map_set]
  congr 1
  simp [ls]
set_option maxRecDepth 100000 in
set_option maxHeartbeats 4000000 in
theorem add_any {w : World} {col : Nat → Nat} {t B M i : Nat} {T : TV} {r : RV} (h : TS w col t B M T) (hr : RunOK w col r) (hB : 1 ≤ B ∧ B ≤ 64) (hi : i ≤ 5000) (hlv : T.lv.length ≤ 5000) (hlr : ∀ L ∈ T.lv, L.rv.length ≤ 100000) (hrl : r.l.length ≤ 100000) (hm : T.mv ≤ 1000000000000) :
    Calls Try.prog 63 #[.pointer (some ⟨t, 0, none⟩), .int .i64 (i : Int), r.v] w fun e w' => e = .returned (.tuple #[]) ∧ ∃ col' T', TS w' col' t B M T' ∧ T'.buf = T.buf ∧ T'.ba = T.ba ∧ T'.tt = addT B T.tt i r.l ∧ Ch w w' col col' := by
  have HT := Lib.hid h
  have HR := Lib.hid hr
  have HLr := Lib.hid hlr
  obtain ⟨len, hlen⟩ : ∃ len, len = T.lv.length := ⟨_, rfl⟩
  rw [← hlen] at hlv
  have Hlen := Lib.hid hlen
  have y3 := h.blk.cell (i := 3) rfl
  rw [← hlen] at y3
  obtain ⟨nr, hnr⟩ : ∃ nr, nr = r.l.length := ⟨_, rfl⟩
  have Hnr := Lib.hid hnr
  rw [← hnr] at hrl
  unfold RV.v
  rw [← hnr]
  clear h hr hlr hlen hnr
  go_enter Try.func63, Try.ntmps63
  go_wp2_with fail
  go_loopw [12] (fun _ wr => ∃ (k n : Nat) (la : Option Addr) (lc : Nat) (col1 : Nat → Nat), n ≤ 5001 ∧ wr.cell? ⟨t, 3, none⟩ = some (.slice la n lc) ∧ Hid (n = len + k ∧ n ≤ max len (i + 1) ∧ TS wr col1 t B M { T with lv := T.lv ++ List.replicate k lv0, la := la, lc := lc } ∧ Kq w wr col col1 (fun c => c = 1 ∨ c = 3))) (fun _ wr => i + 1 - lvlen wr t)
  case atStart => exact ⟨0, len, T.la, T.lc, col, by omega, y3, Lib.hid ⟨rfl, Nat.le_max_left _ _, by simpa using HT.out, Kq.refl _ _ _⟩⟩
  case round =>
    clear y3
    obtain ⟨k, n, la, lc, col1, hn5, y3, H⟩ := hrel
    by_cases hlt : n ≤ i
    · have hlt' : (n : Int) ≤ (i : Int) := by omega
      obtain ⟨h1, h2, h3, h4⟩ := H.out
      have hln : (T.lv ++ List.replicate k lv0).length = n := by rw [List.length_append, List.length_replicate, ← Hlen.out]; exact h1.symm
      have own := h3.lown
      dsimp only at own
      rw [hln] at own
      have HO := Lib.hid own
      have hlvl : lvlen wr t = n := by unfold lvlen; rw [y3]
      have Hlvl := Lib.hid hlvl
      have Hln := Lib.hid hln
      clear h1 h2 h3 h4 own hln hlvl
      go_wp2_with (at_builtin; refine wpAppAt E104 HO.out (by omega) (by omega) (by omega) (u := .slice none 0 0) rfl (by first | rfl | (simp; done) | (simp; rfl)) (by first | rfl | (simp; done) | (simp; rfl)) ?_; intro a8 c8 w8 own8 fr8 at8; have b8 := H.out.2.2.1.kblk (Kq.recol fr8 at8 H.out.2.2.1.cl) (by omega); have z3 := b8.1.cell (i := 3) rfl; have f3 := b8.1.free 3; have H8 := Lib.hid (H.out.2.2.1.grow Hln.out own8 fr8 at8); clear own8 fr8 at8 b8)
      go_roundw
      case rel =>
        refine ⟨k + 1, n + 1, a8, c8, rcol col1 a8 3, by omega, ?_, Lib.hid ⟨by have := H.out.1; omega, by omega, ?_, (H.out.2.2.2).trans H8.out.2⟩⟩
        · have := H8.out.1.blk.cell (i := 3) rfl
          dsimp only at this
          rw [List.length_append, Hln.out] at this
          exact this
        · have := H8.out.1
          rw [List.replicate_succ']
          rw [← List.append_assoc]
          exact this
      case measure =>
        have e : lvlen (w8.setCell ⟨t, 3, none⟩ (.slice a8 (n + 1) c8)) t = n + 1 := by
          have := H8.out.1.blk.cell (i := 3) rfl
          dsimp only at this
          rw [List.length_append, Hln.out] at this
          unfold lvlen
          rw [this]
          rfl
        rw [e, Hlvl.out]; omega
    · have hlt' : ¬ (n : Int) ≤ (i : Int) := by omega
      obtain ⟨h1, h2, h3, h4⟩ := H.out
      have hln : (T.lv ++ List.replicate k lv0).length = n := by rw [List.length_append, List.length_replicate, ← Hlen.out]; exact h1.symm
      obtain ⟨L, hL⟩ : ∃ L, (T.lv ++ List.replicate k lv0)[i]? = some L := ⟨_, List.getElem?_eq_getElem (by omega)⟩
      obtain ⟨g, hg, d0, df, dg⟩ := h3.at hL
      dsimp only at hg
      subst hg
      have hok := h3.lev i L hL
      have hLl : L.rv.length ≤ 100000 := by
        have := List.mem_of_getElem? hL
        rcases List.mem_append.1 this with h | h
        · exact HLr.out L h
        · rw [List.eq_of_mem_replicate h]; exact Nat.zero_le _
      have hke : k = i + 1 - T.lv.length := by have := Hlen.out; omega
      have hadd := fun a' c' => lvT_add (r := r) (a' := a') (c' := c') hke hL
      obtain ⟨q, hq⟩ : ∃ q, q = L.rv.length := ⟨_, rfl⟩
      rw [← hq] at d0 hLl
      have Hq := Lib.hid hq
      have HL := Lib.hid hL
      have HAdd := Lib.hid hadd
      have hown := hok.1
      rw [← hq] at hown
      have Hown := Lib.hid hown
      have hrk := (HR.out.fr h4.fr (fun k _ e e0 => by rw [e0] at e; omega) (fun k hk e0 => (h4.col k hk).trans e0))
      have HRk := Lib.hid hrk
      have hq7 : (q + 1) * 24 ≤ 140737488355328 := by omega
      have hii : i < n := by omega
      clear h1 h2 h4 hln hL hok hke hadd hq hown hrk
      have hb := h3.blk
      have HX : Hid (∀ W, Fr F0 wr W → W.cell? ⟨t, 3, none⟩ = some (.slice (some ⟨g, 0, none⟩) n lc) ∧ W.cell? ⟨g, i, none⟩ = some (.slice L.a q L.c)) := Lib.hid (fun W F => ⟨F.cell y3 id, F.cell d0 id⟩)
      clear h3 hb
      go_wp2_with fail
      obtain ⟨w7, hw7⟩ : ∃ wz, wz = wr.drew := ⟨_, rfl⟩
      have F7 : Fr F0 wr w7 := by rw [hw7]; exact (Fr.refl _ _).drew
      refine wp_region_last 16 (fun w' : World => w'.cell? ⟨t, 3, none⟩ = some (.slice (some ⟨g, 0, none⟩) n lc) ∧ w'.cell? ⟨g, i, none⟩ = some (.slice L.a q L.c)) (by kernel_rfl) ?_
      rw [← hw7]
      have hHeld := HX.out w7 F7
      have FF7 := Lib.hid F7
      clear hw7 F7 y3 d0 df
      refine anyP_takeF 0 (v := ?_) rfl (by kernel_rfl) (fun _ _ _ h => h) (Or.inl ⟨by rfl, ?_⟩) (.inr hHeld) ?_
      rotate_left 1
      · (intro w0 hSw; (try dsimp only at hSw); go_simp; (try (with_reducible rfl)))
      (try simp only [Act.put, List.setIfInBounds_toArray])
      refine anyP_takeF 1 (v := ?_) rfl (by kernel_rfl) (fun _ _ _ h => h) (Or.inl ⟨by rfl, ?_⟩) (.inr hHeld) ?_
      rotate_left 1
      · (intro w0 hSw; (try dsimp only at hSw); go_simp; (try (with_reducible rfl)))
      (try simp only [Act.put])
      refine anyP_takeF 2 (v := ?_) rfl (by kernel_rfl) (fun _ _ _ h => h) (Or.inl ⟨by rfl, ?_⟩) (.inr hHeld) ?_
      rotate_left 1
      · (intro w0 hSw; (try dsimp only at hSw); go_simp; (try (with_reducible rfl)))
      (try simp only [Act.put])
      refine anyP_take 3 (v := ?_) rfl rfl (by kernel_rfl) (fun _ _ _ h => h) (Or.inl ⟨by rfl, ?_⟩) hHeld ?_
      rotate_left 1
      · (intro w0 hSw; (try dsimp only at hSw); go_simp; (try (with_reducible rfl)))
      (try simp only [Act.put])
      refine anyP_takeF 4 (v := ?_) rfl (by kernel_rfl) (fun _ _ _ h => h) (Or.inl ⟨by rfl, ?_⟩) (.inr hHeld) ?_
      rotate_left 1
      · (intro w0 hSw; (try dsimp only at hSw); go_simp; (try (with_reducible rfl)))
      (try simp only [Act.put])
      refine anyP_takeF 5 (v := ?_) rfl (by kernel_rfl) (fun _ _ _ h => h) (Or.inl ⟨by rfl, ?_⟩) (.inr hHeld) ?_
      rotate_left 1
      · (intro w0 hSw; (try dsimp only at hSw); go_simp; (try (with_reducible rfl)))
      (try simp only [Act.put])
      refine anyP_takeF 6 (v := ?_) rfl (by kernel_rfl) (fun _ _ _ h => h) (Or.inl ⟨by rfl, ?_⟩) (.inr hHeld) ?_
      rotate_left 1
      · (intro w0 hSw; (try dsimp only at hSw); go_simp; (try (with_reducible rfl)))
      (try simp only [Act.put])
      refine anyP_takeF 7 (v := ?_) rfl (by kernel_rfl) (fun _ _ _ h => h) (Or.inl ⟨by rfl, ?_⟩) (.inr hHeld) ?_
      rotate_left 1
      · (intro w0 hSw; (try dsimp only at hSw); go_simp; (try (with_reducible rfl)))
      (try simp only [Act.put])
      refine anyP_take 8 (v := ?_) rfl rfl (by kernel_rfl) (fun _ _ _ h => h) (Or.inl ⟨by rfl, ?_⟩) hHeld ?_
      rotate_left 1
      · (intro w0 hSw; (try dsimp only at hSw); go_simp; (try (with_reducible rfl)))
      (try simp only [Act.put])
      refine anyP_takeF 9 (v := ?_) rfl (by kernel_rfl) (fun _ _ _ h => h) (Or.inl ⟨by rfl, ?_⟩) (.inr hHeld) ?_
      rotate_left 1
      · (intro w0 hSw; (try dsimp only at hSw); go_simp; (try (with_reducible rfl)))
      (try simp only [Act.put])
      refine anyP_takeF 10 (v := ?_) rfl (by kernel_rfl) (fun _ _ _ h => h) (Or.inl ⟨by rfl, ?_⟩) (.inr hHeld) ?_
      rotate_left 1
      · (intro w0 hSw; (try dsimp only at hSw); go_simp; (try (with_reducible rfl)))
      (try simp only [Act.put])
      refine anyP_take 11 (v := ?_) rfl rfl (by kernel_rfl) (fun _ _ _ h => h) (Or.inl ⟨by rfl, ?_⟩) hHeld ?_
      rotate_left 1
      · (intro w0 hSw; (try dsimp only at hSw); go_simp; (try (with_reducible rfl)))
      (try simp only [Act.put])
      refine anyP_takeF 12 (v := ?_) rfl (by kernel_rfl) (fun _ _ _ h => h) (Or.inl ⟨by rfl, ?_⟩) (.inr hHeld) ?_
      rotate_left 1
      · (intro w0 hSw; (try dsimp only at hSw); go_simp; (try (with_reducible rfl)))
      (try simp only [Act.put])
      refine anyP_one 13 (by kernel_rfl) rfl (fun K hK => ?_)
      replace hK := Lib.hid hK
      go_simp
      refine hK.out _ _ (.inr (HX.out _ (FF7.out.alloc _))) ?_
      clear hK K
      (try simp only [Act.put, List.setIfInBounds_toArray, List.set_cons_zero, List.set_cons_succ])
      have lit := Own.rd (Own.lit (w := w7) (B := 0) (T := 74) [.slice r.a nr r.c] 1 rfl (Nat.zero_le _) (by omega))
      have F8 := FF7.out.alloc (.cells [.slice r.a nr r.c].toArray 74)
      obtain ⟨w8, hw8⟩ : ∃ W, W = w7.alloc (.cells [.slice r.a nr r.c].toArray 74) := ⟨_, rfl⟩
      obtain ⟨g8, hg8⟩ : ∃ g, g = w7.heap.size := ⟨_, rfl⟩
      change anyP _ _ _ _ _ _ _ _ _ (w7.alloc (.cells [.slice r.a nr r.c].toArray 74))
      rw [← hw8] at lit F8 ⊢
      rw [← hg8] at lit ⊢
      have FF8 := Lib.hid F8; replace lit := Lib.hid lit
      clear hw8 hg8 F8 hHeld
      refine anyP_one 14 (by kernel_rfl) rfl (fun KK hKK => ?_)
      replace hKK := Lib.hid hKK
      refine stepAppRd E74 (by rfl) (by rfl) (by rfl) (by rfl) (Hown.out.fr0 FF8.out) lit.out (fun u hu => by simp at hu; subst hu; rfl) (by omega) (by omega) (Nat.zero_le _) (q + 1) rfl ?_
      intro a9 c9 w9 own9 fr9 at9
      have H8 := H.out.2.2.1.fr0 FF8.out
      have K9 := Kq.recol fr9 at9 (H8.lev i L HL.out).2.1
      have b9 := H8.kblk K9 (by omega)
      have l9 := H8.klev K9 (by omega)
      have t9 := b9.1.cell (i := 3) rfl
      dsimp only at t9
      have hln : (T.lv ++ List.replicate k lv0).length = n := by rw [List.length_append, List.length_replicate, ← Hlen.out]; exact H.out.1.symm
      rw [hln] at t9
      have e9 : w9.cell? ⟨g, i, none⟩ = some (.slice L.a q L.c) := by
        have := l9.1.rd.cells (by dsimp only; omega)
        obtain ⟨b, o, e, hc⟩ := this
        dsimp only at e
        injection e with e; injection e with e1 e2; subst e1; subst e2
        have := hc i (.slice L.a q L.c) (by dsimp only; rw [List.getElem?_map, HL.out, Hq.out]; rfl)
        rwa [Nat.zero_add] at this
      have f9 : w9.frozen? ⟨g, i, none⟩ = false := by
        obtain ⟨b, e, _, _, _, hf⟩ := l9.1.at (by dsimp only; omega)
        dsimp only at e
        injection e with e; injection e with e1 e2; subst e1
        exact hf i
      have H9 := Lib.hid (H8.app HL.out (HRk.out.fr FF8.out (fun _ _ h => h.elim) (fun _ _ h => h)) rfl Hq.out.symm (by unfold RV.v; rw [← Hnr.out]; exact own9) fr9 at9)
      refine hKK.out _ _ (.inr ⟨t9, e9⟩) ?_
      clear hKK KK
      (try simp only [Act.put, List.setIfInBounds_toArray])
      have hHeld : (fun w' : World => w'.cell? ⟨t, 3, none⟩ = some (.slice (some ⟨g, 0, none⟩) n lc) ∧ w'.cell? ⟨g, i, none⟩ = some (.slice L.a q L.c)) w9 := ⟨t9, e9⟩
      have Hln := Lib.hid hln
      clear own9 fr9 at9 H8 K9 b9 l9 hln lit HX
      refine anyP_one 15 (by kernel_rfl) rfl (fun K hK => ?_)
      replace hK := Lib.hid hK
      go_simp
      refine hK.out _ _ (.inr hHeld) ?_
      clear hK K
      (try simp only [Act.put, List.setIfInBounds_toArray, List.set_cons_zero, List.set_cons_succ])
      refine anyP_one 16 (by kernel_rfl) rfl (fun K hK => ?_)
      replace hK := Lib.hid hK
      go_simp
      refine hK.out _ _ (.inl (by kernel_rfl)) ?_
      clear hK K
      (try simp only [Act.put, List.setIfInBounds_toArray, List.set_cons_zero, List.set_cons_succ])
      refine anyP_done (by kernel_rfl) ?_ _
      refine NoPanic.normal ?_
      clear t9 e9 f9 hHeld
      obtain ⟨w10, hw10⟩ : ∃ W, W = w9.setCell ⟨g, i, none⟩ (.slice a9 (q + 1) c9) := ⟨_, rfl⟩
      have T10 := H9.out.1
      have K10 := H9.out.2
      rw [← hw10] at T10 K10 ⊢
      have hr10 : RunOK w10 (rcol col1 a9 (4 + i)) r := (HRk.out.fr FF8.out (fun _ _ h => h.elim) (fun _ _ h => h)).fr K10.fr (fun k _ e e0 => by rw [e0] at e; omega) (fun k hk e0 => (K10.col k hk).trans e0)
      have lit2 := Own.rd (Own.lit (w := w10) (B := 0) (T := 74) [.slice r.a nr r.c] 1 rfl (Nat.zero_le _) (by omega))
      have hc10 : ∀ k, onBlk (some ⟨w10.heap.size, 0, none⟩) k → rcol col1 a9 (4 + i) k ≠ 1 := fun k hk => by
        rw [T10.up k (by rw [(onBlk_some _ _ _ _).1 hk]; exact Nat.le_refl _)]; omega
      have HM := Lib.hid (move_any (rv := [r]) (c := 1) (T10.fr0 ((Fr.refl F0 _).alloc (.cells #[.slice r.a nr r.c] 74))) (by rw [show rvs [r] = [.slice r.a nr r.c] by simp [RV.v, Hnr.out]]; exact lit2) hc10 hB (by omega) (fun x hx => by rw [List.mem_singleton] at hx; subst hx; rw [← Hnr.out]; exact hrl) hm)
      have hch : Ch w w10 col (rcol col1 a9 (4 + i)) := ((H.out.2.2.2.ch (by omega)).fr0 FF8.out).trans (K10.ch (by omega))
      have HCh := Lib.hid hch
      have htt := HAdd.out a9 c9
      have HTt := Lib.hid htt
      clear hw10 T10 K10 hr10 lit2 hc10 hch htt
      go_wp2_with (go_at_call 62; refine HM.out.mono ?_; rintro e w11 ⟨rfl, T11, K11⟩; have H11 := Lib.hid (And.intro T11 K11); clear T11 K11)
      go_end0
      refine ⟨rfl, _, _, H11.out.1, rfl, rfl, ?_, (HCh.out.fr0 ((Fr.refl F0 _).alloc _)).trans (H11.out.2.ch (by omega))⟩
      unfold TV.tt addT
      dsimp only
      rw [HTt.out]
      rfl
end Go.Proofs.Ytkmnnfflibamnaa
