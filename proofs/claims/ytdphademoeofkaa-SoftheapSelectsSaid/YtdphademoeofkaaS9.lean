/- DeleteMin. -/
import Derived.Test.YtdphademoeofkaaS8
import Derived.Test.YtdphademoeofkaaCom9
import Derived.OwnWalk
namespace Go.Proofs.Ytdphademoeofkaa
open Go.RowKit
attribute [local go_sem ↓] Go.wp_at_zero Go.wp_at_succ
section
variable {w w' : World} {hb rate : Nat} {n : Int} {ts : List Tr} {own : List Int} {I : List (Option Nat)} {T : Nat → Prop} {at_ ao : Option Addr} {ct co ci g : Nat} {Nt : Nat → Nat → Prop}
/-- One tree has changed, its root where it was. -/
theorem HS.retree {i : Nat} {x x1 : Tr} {N1 F : Nat → Prop} {I' : List (Option Nat)} {n' : Int} (h : HS w hb rate n ts own I T at_ ct ao co (some ⟨g, 0, none⟩) ci Nt) (hi : ts[i]? = some x) (hp : x1.ptr = x.ptr) (T1 : TM w' x1 N1) (hN1 : ∀ q, N1 q → Nt i q ∨ w.heap.size ≤ q) (f : Fr F w w') (hF : ∀ q, T q → F q → q = g ∨ q = hb ∨ Nt i q)
    (B : Blk w' hb 59 (heC rate n' ts own I at_ ct ao co (some ⟨g, 0, none⟩) ci)) (O : Own w' 0 60 (some ⟨g, 0, none⟩) I.length ci (ptrs I')) (hl : I'.length = I.length) :
    HS w' hb rate n' (ts.set i x1) own I' (fun q => T q ∨ N1 q) at_ ct ao co (some ⟨g, 0, none⟩) ci (fun j q => (j = i ∧ N1 q) ∨ (j ≠ i ∧ Nt j q)) := by
  have hgb : onBlk (some ⟨g, 0, none⟩) g := (onBlk_some _ _ _ _).2 rfl
  have hgT := h.iT g hgb
  have nF : ∀ q, T q → q ≠ g → q ≠ hb → ¬ Nt i q → ¬ F q := fun q hq g1 g2 g3 e => (hF q hq e).elim g1 (fun e => e.elim g2 g3)
  have n1 : ∀ q, T q → ¬ Nt i q → ¬ N1 q := fun q hq g1 e => (hN1 q e).elim g1 (fun e => by have := h.lt q hq; omega)
  have nb : ¬ N1 hb := n1 hb h.hT (fun e => (h.tT i hb e).2.1 rfl)
  have na : ∀ q, onBlk at_ q → ¬ N1 q := fun q hq => n1 q (h.aT q hq).1 (fun e => (h.tT i q e).2.2.1 hq)
  have no : ∀ q, onBlk ao q → ¬ N1 q := fun q hq => n1 q (h.oT q hq).1 (fun e => (h.tT i q e).2.2.2.1 hq)
  have ni : ∀ q, onBlk (some ⟨g, 0, none⟩) q → ¬ N1 q := fun q hq => n1 q (h.iT q hq).1 (fun e => (h.tT i q e).2.2.2.2 hq)
  refine ⟨by simpa [heC, hl] using B, ?_, h.oo.fr f (fun q hq => ?_), by rw [hl]; exact O, hl.trans h.len, fun j t ht => ?_, ?_, ?_, .inl h.hT, fun q hq => ⟨.inl (h.aT q hq).1, (h.aT q hq).2⟩, fun q hq => ⟨.inl (h.oT q hq).1, (h.oT q hq).2⟩, fun q hq => ⟨.inl (h.iT q hq).1, (h.iT q hq).2⟩, fun q hq => hq.elim (fun e => Nat.lt_of_lt_of_le (h.lt q e) f.size) (T1.lt q)⟩
  · have e : tps (ts.set i x1) = tps ts := by
      unfold tps
      rw [List.map_set, hp]
      obtain ⟨hil, rfl⟩ := List.getElem?_eq_some_iff.1 hi
      apply List.ext_getElem?
      intro j
      rw [List.getElem?_set]
      split
      · next e => subst e; simp [hil]
      · rfl
    rw [e, List.length_set]
    refine h.ot.fr f (fun q hq => ?_)
    have := h.aT q hq
    exact nF q this.1 (fun e => this.2.2.2 (e ▸ hgb)) this.2.1 (fun e => (h.tT i q e).2.2.1 hq)
  · have := h.oT q hq
    exact nF q this.1 (fun e => this.2.2 (e ▸ hgb)) this.2.1 (fun e => (h.tT i q e).2.2.2.1 hq)
  · rw [List.getElem?_set] at ht
    split at ht
    · next e =>
      split at ht
      · injection ht with ht
        subst ht
        subst e
        exact T1.big (fun q hq => .inl ⟨rfl, hq⟩) (fun q hq => hq.elim (fun e => T1.lt q e.2) (fun e => absurd rfl e.1))
      · cases ht
    · next e =>
      have := (h.tm j t ht).fr f (fun q hq => nF q (h.tT j q hq).1 (fun g1 => (h.tT j q hq).2.2.2.2 (g1 ▸ hgb)) (h.tT j q hq).2.1 (fun g1 => e (h.sep i j q g1 hq)))
      exact this.big (fun q hq => .inr ⟨fun g1 => e g1.symm, hq⟩) (fun q hq => hq.elim (fun g1 => absurd g1.1.symm e) (fun e => this.lt q e.2))
  · rintro j1 j2 q (⟨rfl, q1⟩ | ⟨q0, q1⟩) (⟨rfl, q2⟩ | ⟨q3, q2⟩)
    · rfl
    · exact absurd q1 (n1 q (h.tT j2 q q2).1 (fun e => q3 (h.sep j2 _ q q2 e)))
    · exact absurd q2 (n1 q (h.tT j1 q q1).1 (fun e => q0 (h.sep j1 _ q q1 e)))
    · exact h.sep j1 j2 q q1 q2
  · rintro j q (⟨rfl, q1⟩ | ⟨q0, q1⟩)
    · exact ⟨.inr q1, fun e => nb (e ▸ q1), fun e => na q e q1, fun e => no q e q1, fun e => ni q e q1⟩
    · exact ⟨.inl (h.tT j q q1).1, (h.tT j q q1).2⟩
end
/-- The first tree with the least key. -/
def Best (ts : List Tr) (j i : Nat) : Prop := i < j ∧ (∃ t, ts[i]? = some t ∧ t ≠ .nil) ∧ ∀ i' t t', i' < j → ts[i]? = some t → ts[i']? = some t' → t' ≠ .nil → t.key ≤ t'.key ∧ (i' < i → t.key < t'.key)
/-- What DeleteMin does: the tree, its items but the last, the item. -/
def Dm (ts : List Tr) (I : List (Option Nat)) (id key : Int) (ts' : List Tr) (I' : List (Option Nat)) : Prop :=
  ∃ i b l r it rk sz, Best ts ts.length i ∧ ts[i]? = some (.nd b l r (it ++ [id]) key rk sz) ∧
    ((2 * it.length ≤ sz ∧ ¬ (l = .nil ∧ r = .nil) ∧ ∃ n x', Rf n (.nd b l r it key rk sz) (I.set id.toNat none) x' I' ∧ x'.Ok ∧ ts' = ts.set i x') ∨
     (l = .nil ∧ r = .nil ∧ it = [] ∧ I' = I.set id.toNat none ∧ ts' = ts.set i .nil) ∨
     (it ≠ [] ∧ (sz < 2 * it.length ∨ (l = .nil ∧ r = .nil)) ∧ I' = I.set id.toNat none ∧ ts' = ts.set i (.nd b l r it key rk sz)))
theorem DeleteMin_none {w : World} {hb rate : Nat} {ts : List Tr} {own : List Int} {I : List (Option Nat)} {T : Nat → Prop} (h : Hp w hb rate ts own I T) (h0 : flat ts = []) :
    Calls Try.prog 13 #[.pointer (some ⟨hb, 0, none⟩)] w fun e w' => e = .returned (.tuple #[.int .i64 0, .int .i64 0, .int .i64 14]) ∧ w = w' := by
  obtain ⟨at_, ct, ao, co, ai, ci, Nt, h1, h2, h3⟩ := h
  rw [h0] at h1
  have y4 : w.cell? ⟨hb, 4, none⟩ = some (.int .i64 0) := h1.blk.cell (i := 4) rfl
  clear h1 h2 h3
  go_enter Try.func13, Try.ntmps13
  go_wp2_with fail
  go_ret3
  exact ⟨rfl, rfl⟩
theorem best_none {ts : List Tr} {j : Nat} (h1 : ∀ i t, i < j → ts[i]? = some t → t = .nil) {x : Tr} (hx : ts[j]? = some x) (hn : x ≠ .nil) : Best ts (j + 1) j := by
  refine ⟨by omega, ⟨x, hx, hn⟩, fun i' t t' hi ht ht' hn' => ?_⟩
  by_cases e : i' = j
  · subst e
    rw [ht] at ht'
    injection ht' with ht'
    subst ht'
    exact ⟨Int.le_refl _, fun e => by omega⟩
  · exact absurd (h1 i' t' (by omega) ht') hn'
theorem best_skip {ts : List Tr} {j i : Nat} (h : Best ts j i) {x t : Tr} (hx : ts[j]? = some x) (ht : ts[i]? = some t) (hk : x = .nil ∨ t.key ≤ x.key) : Best ts (j + 1) i := by
  obtain ⟨h1, h2, h3⟩ := h
  refine ⟨by omega, h2, fun i' t1 t' hi ht1 ht' hn' => ?_⟩
  by_cases e : i' = j
  · subst e
    rw [hx] at ht'
    injection ht' with ht'
    subst ht'
    rw [ht] at ht1
    injection ht1 with ht1
    subst ht1
    exact ⟨hk.elim (fun e => absurd e hn') id, fun e => by omega⟩
  · exact h3 i' t1 t' (by omega) ht1 ht' hn'
theorem best_new {ts : List Tr} {j i : Nat} (h : Best ts j i) {x t : Tr} (hx : ts[j]? = some x) (hn : x ≠ .nil) (ht : ts[i]? = some t) (hk : x.key < t.key) : Best ts (j + 1) j := by
  obtain ⟨h1, h2, h3⟩ := h
  refine ⟨by omega, ⟨x, hx, hn⟩, fun i' t1 t' hi ht1 ht' hn' => ?_⟩
  rw [hx] at ht1
  injection ht1 with ht1
  subst ht1
  by_cases e : i' = j
  · subst e
    rw [hx] at ht'
    injection ht' with ht'
    subst ht'
    exact ⟨Int.le_refl _, fun e => by omega⟩
  · have := h3 i' t t' (by omega) ht ht' hn'
    exact ⟨by omega, fun _ => by omega⟩
theorem split_last {l : List Int} (h : l ≠ []) : ∃ i x, l = i ++ [x] := ⟨l.dropLast, l.getLast h, (List.dropLast_concat_getLast h).symm⟩
theorem flat_nil {ts : List Tr} (h : ∀ i t, i < ts.length → ts[i]? = some t → t = .nil) : flat ts = [] := by
  unfold flat
  rw [List.flatMap_eq_nil_iff]
  intro t ht
  obtain ⟨i, hi⟩ := List.mem_iff_getElem?.1 ht
  rw [h i t (List.getElem?_eq_some_iff.1 hi).1 hi]
  rfl
/-- An item goes out of a tree. -/
theorem Gd.upd {m : Nat} {ts : List Tr} {i : Nat} {x x1 : Tr} {id : Int} (h : Gd m ts []) (hi : ts[i]? = some x) (hp : (id :: x1.ids).Perm x.ids) (hg : Gt i x1) (hw : x1.wt ≤ x.wt) : Gd m (ts.set i x1) [] ∧ (flat ts).Perm (id :: flat (ts.set i x1)) := by
  have h1 := flat_set hi x1
  have h2 : (flat ts).Perm (id :: flat (ts.set i x1)) := by
    have e : (x1.ids ++ (id :: flat (ts.set i x1))).Perm (x1.ids ++ flat ts) := by
      refine List.Perm.trans ?_ h1
      refine (List.perm_middle).trans ?_
      rw [← List.cons_append]
      exact hp.append_right _
    exact ((List.perm_append_left_iff _).1 e).symm
  have h3 := wts_set hi x1
  refine ⟨⟨fun j t ht => ?_, by simp, ?_, fun j hj => ?_, ?_, h.m2, by simpa using h.tl⟩, h2⟩
  · rw [List.getElem?_set] at ht
    split at ht
    · next e =>
      split at ht
      · injection ht with ht
        rw [← ht, ← e]; exact hg
      · cases ht
    · exact h.tr j t ht
  · have := h.nd
    simp only [flat, List.flatMap_nil, List.nil_append] at this h2 ⊢
    exact (List.nodup_cons.1 (h2.nodup_iff.1 this)).2
  · have := h.bd j
    simp only [flat, List.flatMap_nil, List.nil_append] at this h2 hj
    exact this (h2.mem_iff.2 (List.mem_cons.2 (.inr hj)))
  · have := h.wt
    simp only [wts, List.map_nil, List.sum_nil] at this h3 ⊢
    omega
theorem Gd.nodup {m : Nat} {ts : List Tr} (h : Gd m ts []) : (flat ts).Nodup := by have := h.nd; simpa [flat] using this
theorem Gd.bdf {m : Nat} {ts : List Tr} (h : Gd m ts []) (i : Int) (hi : i ∈ flat ts) : 0 ≤ i ∧ i < (m : Int) := h.bd i (by simp [hi])
theorem smx {fs fs' : List Int} {idn : Nat} {I I' : List (Option Nat)} (hp : fs.Perm ((idn : Int) :: fs')) (hn : fs.Nodup) (hs : ∀ i ∈ fs, Sm I i) (hI : ∀ i, Sm (I.set idn none) i → Sm I' i) (h0 : ∀ i ∈ fs, 0 ≤ i) : ∀ i ∈ fs', Sm I' i := by
  intro i hi
  have h1 := (List.nodup_cons.1 (hp.nodup_iff.1 hn)).1
  have hif := hp.mem_iff.2 (List.mem_cons.2 (.inr hi))
  have hne : idn ≠ i.toNat := fun e => h1 (by have := h0 i hif; rw [show ((idn : Nat) : Int) = i by omega]; exact hi)
  obtain ⟨c, hc⟩ := hs i hif
  exact hI i ⟨c, by rw [List.getElem?_set_ne hne]; exact hc⟩
/-- What DeleteMin leaves. -/
def DmP (w : World) (hb rate : Nat) (ts : List Tr) (own : List Int) (I : List (Option Nat)) (T : Nat → Prop) (e : Ending) (w' : World) : Prop :=
  ∃ id key ts' I' T', e = .returned (.tuple #[.int .i64 id, .int .i64 key, .int .i64 0]) ∧ Dm ts I id key ts' I' ∧ Hp w' hb rate ts' own I' T' ∧ Fr T w w' ∧ ∀ q, T' q → T q ∨ w.heap.size ≤ q
/-- What the loop over the trees knows. -/
def Bl (ts : List Tr) (j : Nat) (v : Int) : Prop := (v = -1 ∧ ∀ i t, i < j → ts[i]? = some t → t = .nil) ∨ ∃ i : Nat, v = i ∧ Best ts j i
theorem tr_nd {t : Tr} (h : t ≠ .nil) : ∃ b l r it k rk sz, t = .nd b l r it k rk sz := by
  cases t with
  | nil => exact absurd rfl h
  | nd => exact ⟨_, _, _, _, _, _, _, rfl⟩
theorem key_cell {w : World} {b l r it k rk sz} {N : Nat → Prop} (h : TM w (.nd b l r it k rk sz) N) : w.cell? ⟨b, 3, none⟩ = some (.int .i64 k) := by
  obtain ⟨_, _, _, _, _, X⟩ := h
  exact X.blk.cell (i := 3) rfl
set_option maxRecDepth 100000 in
set_option maxHeartbeats 8000000 in
theorem DeleteMin_any {w : World} {hb rate : Nat} {ts : List Tr} {own : List Int} {I : List (Option Nat)} {T : Nat → Prop} (h : Hp w hb rate ts own I T) (h0 : flat ts ≠ []) :
    Calls Try.prog 13 #[.pointer (some ⟨hb, 0, none⟩)] w (DmP w hb rate ts own I T) := by
  obtain ⟨at_, ct, ao, co, ai, ci, Nt, hS, hG, hr, hsm⟩ := h
  have HSm := Lib.hid hsm
  clear hsm
  have HS0 := Lib.hid hS
  have HG := Lib.hid hG
  obtain ⟨fl, hfl⟩ : ∃ fl, fl = (flat ts).length := ⟨_, rfl⟩
  have hfl0 : ¬ fl = 0 := by
    rw [hfl]
    intro e
    exact h0 (List.length_eq_zero_iff.1 e)
  have hfl2 : fl ≤ 2000 := by
    rw [hfl]
    have := nodup_bound own.length (flat ts) (by have := hG.nd; simpa [flat] using this) (fun i hi => hG.bd i (by simp [hi]))
    have := hG.m2
    omega
  have Hfl := Lib.hid hfl
  have H0 := Lib.hid h0
  obtain ⟨L, hL⟩ : ∃ L, L = ts.length := ⟨_, rfl⟩
  have HL := Lib.hid hL
  have hL11 : L ≤ 11 := by rw [hL]; exact hG.tl
  have y4 : w.cell? ⟨hb, 4, none⟩ = some (.int .i64 fl) := by rw [hfl]; exact hS.blk.cell (i := 4) rfl
  have y1 : w.cell? ⟨hb, 1, none⟩ = some (.slice at_ L ct) := by rw [hL]; exact hS.blk.cell (i := 1) rfl
  have hfz : ((fl : Int) == 0) = false := by simp; omega
  clear hS hG hfl hL h0
  go_enter Try.func13, Try.ntmps13
  go_wp2_with fail
  go_loopw [5, 26] (fun s5 s26 wr => ∃ (j : Nat) (v : Int), j ≤ L ∧ s5 = .int .i64 v ∧ s26 = .int .i64 j ∧ Hid (Bl ts j v) ∧ ∃ q, wr = w.drewN q) (fun _ s26 _ => L - (intOf s26).toNat)
  case atStart => exact ⟨0, -1, by omega, rfl, rfl, Lib.hid (.inl ⟨rfl, fun i t hi => by omega⟩), 0, rfl⟩
  case round =>
    obtain ⟨j, v, hj, rfl, rfl, HB, q, rfl⟩ := hrel
    obtain ⟨wq, hwq⟩ : ∃ wq, w.drewN q = wq := ⟨_, rfl⟩
    have HSq : Hid (HS wq hb rate ((flat ts).length : Nat) ts own I T at_ ct ao co ai ci Nt) := Lib.hid (by rw [← hwq]; exact HS0.out.fr ((Fr.refl F0 w).drewN q) (fun _ _ => id))
    have y1q : wq.cell? ⟨hb, 1, none⟩ = some (.slice at_ L ct) := by rw [← hwq]; exact y1
    have y4q : wq.cell? ⟨hb, 4, none⟩ = some (.int .i64 fl) := by rw [← hwq]; exact y4
    rw [hwq]
    have Hwq := Lib.hid hwq
    clear hwq y1 y4
    by_cases hlt : j < L
    · obtain ⟨x, hx⟩ : ∃ x, ts[j]? = some x := ⟨_, List.getElem?_eq_getElem (by rw [← HL.out]; exact hlt)⟩
      obtain ⟨g, rfl, _, _, hgc, _⟩ := HSq.out.ot.at (by rw [← HL.out]; omega)
      have d := hgc j (.pointer x.ptr) (by rw [List.getElem?_map, hx]; rfl)
      have Hx := Lib.hid hx
      by_cases hxn : x = .nil
      · subst hxn
        have HB1 : Hid (Bl ts (j + 1) v) := Lib.hid (HB.out.elim (fun e => .inl ⟨e.1, fun i t hi ht => by
          by_cases g : i = j
          · subst g
            rw [Hx.out] at ht
            injection ht with ht
            exact ht.symm
          · exact e.2 i t (by omega) ht⟩) (fun ⟨i, e1, e2⟩ => .inr ⟨i, e1, by
            obtain ⟨t, ht, _⟩ := e2.2.1
            exact best_skip e2 Hx.out ht (.inl rfl)⟩))
        simp only [Tr.ptr] at d
        clear hx hgc
        go_wp2_with fail
        go_quiet (fail)
        go_wp2_with fail
        go_roundw
        case rel => exact ⟨j + 1, v, by omega, rfl, by go_num, HB1, _, by rw [← Hwq.out]; exact World.drewN_drewN _ _ _⟩
        case measure => simp [intOf]; omega
      · obtain ⟨b, l, r, it, k, rk, sz, rfl⟩ := tr_nd hxn
        have k1 := key_cell (HSq.out.tm j _ hx)
        simp only [Tr.ptr] at d
        have hgc2 := Lib.hid hgc
        clear hgc hxn hx
        rcases HB.out with ⟨rfl, hbn⟩ | ⟨i, rfl, hbi⟩
        · have HB1 : Hid (Bl ts (j + 1) (j : Int)) := Lib.hid (.inr ⟨j, rfl, best_none hbn Hx.out (by simp)⟩)
          clear hbn HB
          go_wp2_with fail
          go_quiet (fail)
          go_wp2_with fail
          go_roundw
          case rel => exact ⟨j + 1, (j : Int), by omega, rfl, by go_num, HB1, _, by rw [← Hwq.out]; exact World.drewN_drewN _ _ _⟩
          case measure => simp [intOf]; omega
        · obtain ⟨t, ht, htn⟩ := hbi.2.1
          obtain ⟨b2, l2, r2, it2, k2, rk2, sz2, rfl⟩ := tr_nd htn
          have d2 := hgc2.out i (.pointer (some ⟨b2, 0, none⟩)) (by rw [List.getElem?_map, ht]; rfl)
          have k3 := key_cell (HSq.out.tm i _ ht)
          have hij := hbi.1
          have hiL : i < L := by omega
          by_cases hkk : k < k2
          · have HB1 : Hid (Bl ts (j + 1) (j : Int)) := Lib.hid (.inr ⟨j, rfl, best_new hbi Hx.out (by simp) ht hkk⟩)
            clear hbi ht htn HB
            go_wp2_with fail
            go_quiet (fail)
            go_wp2_with fail
            go_roundw
            case rel => exact ⟨j + 1, (j : Int), by omega, rfl, by go_num, HB1, _, by rw [← Hwq.out]; exact World.drewN_drewN _ _ _⟩
            case measure => simp [intOf]; omega
          · have HB1 : Hid (Bl ts (j + 1) (i : Int)) := Lib.hid (.inr ⟨i, rfl, best_skip hbi Hx.out ht (.inr (by show k2 ≤ k; omega))⟩)
            clear hbi ht htn HB
            go_wp2_with fail
            go_quiet (fail)
            go_wp2_with fail
            go_roundw
            case rel => exact ⟨j + 1, (i : Int), by omega, rfl, by go_num, HB1, _, by rw [← Hwq.out]; exact World.drewN_drewN _ _ _⟩
            case measure => simp [intOf]; omega
    · obtain rfl : L = j := by omega
      obtain ⟨i, rfl, hbi⟩ : ∃ i : Nat, v = i ∧ Best ts L i := HB.out.elim (fun e => absurd (flat_nil (fun i t hi => e.2 i t (by rw [HL.out]; exact hi))) H0.out) id
      obtain ⟨t, ht, htn⟩ := hbi.2.1
      obtain ⟨b, l, r, its, k, rk, sz, rfl⟩ := tr_nd htn
      have hgt := HG.out.tr i _ ht
      obtain ⟨it, id, rfl⟩ : ∃ it id, its = it ++ [id] := split_last hgt.2.2.1
      obtain ⟨g, rfl, _, _, hgc, hgf⟩ := HSq.out.ot.at (by rw [← HL.out]; have := hbi.1; omega)
      have d := hgc i (.pointer (some ⟨b, 0, none⟩)) (by rw [List.getElem?_map, ht]; rfl)
      have dgf := hgf i
      obtain ⟨a, n, c, Nl, Nr, X⟩ := HSq.out.tm i _ ht
      obtain ⟨m, hm⟩ : ∃ m, m = it.length := ⟨_, rfl⟩
      have hn : n = m + 1 := by have := X.own.lens; simp at this; omega
      subst hn
      obtain ⟨ga, rfl, _, hgal, hac, haf⟩ := X.own.at (by omega)
      have dm := hac m (.int .i64 id) (by simp [hm])
      have hidb := HG.out.bd id (by
        simp only [flat, List.flatMap_nil, List.nil_append, List.mem_flatMap]
        exact ⟨_, List.mem_of_getElem? ht, by simp [Tr.ids]⟩)
      obtain ⟨idn, rfl⟩ : ∃ q : Nat, id = q := ⟨id.toNat, by omega⟩
      obtain ⟨M, hM⟩ : ∃ M, M = I.length := ⟨_, rfl⟩
      have hidM : idn < M := by rw [hM, HSq.out.len]; omega
      obtain ⟨ig, rfl, _, _, hic, hif⟩ := HSq.out.oi.at (by rw [← hM]; omega)
      obtain ⟨vI, dI⟩ : ∃ u, wq.cell? ⟨ig, idn, none⟩ = some u := ⟨_, hic idn _ (by rw [List.getElem?_map, List.getElem?_eq_getElem (by rw [← hM]; exact hidM)]; rfl)⟩
      have fI := hif idn
      have x2 : wq.cell? ⟨b, 2, none⟩ = some (.slice (some ⟨ga, 0, none⟩) (m + 1) c) := X.blk.cell (i := 2) rfl
      have x3 : wq.cell? ⟨b, 3, none⟩ = some (.int .i64 k) := X.blk.cell (i := 3) rfl
      have z2 := X.blk.free 2
      have y3 : wq.cell? ⟨hb, 3, none⟩ = some (.slice (some ⟨ig, 0, none⟩) M ci) := by rw [hM]; exact HSq.out.blk.cell (i := 3) rfl
      have z4 := HSq.out.blk.free 4
      have hiT := HSq.out.iT ig ((onBlk_some _ _ _ _).2 rfl)
      have hbN := HSq.out.tT i b X.nb
      have hga := X.oa ga ((onBlk_some _ _ _ _).2 rfl)
      have hgaT := HSq.out.tT i ga hga.1
      have n1 : b ≠ ig := fun e => hbN.2.2.2.2 ((onBlk_some _ _ _ _).2 e)
      have n2 : ig ≠ hb := hiT.2
      have n3 : b ≠ hb := hbN.2.1
      have n4 : ga ≠ b := hga.2.1
      have n5 : ga ≠ ig := fun e => hgaT.2.2.2.2 ((onBlk_some _ _ _ _).2 e)
      have n6 : ga ≠ hb := hgaT.2.1
      have HNE := Lib.hid (And.intro n4 (And.intro n5 n6))
      have hiL : i < L := hbi.1
      have hmb : Hid (m + 1 ≤ 2000) := Lib.hid (by
        have h1 := nodup_bound own.length (flat ts) (by have := HG.out.nd; simpa [flat] using this) (fun i hi => HG.out.bd i (by simp [hi]))
        have h2 : (Tr.ids (.nd b l r (it ++ [(idn : Int)]) k rk sz)).length ≤ (flat ts).length := by
          have := (flat_set ht .nil).length_eq
          simp only [List.length_append, Tr.ids, List.length_nil] at this ⊢
          omega
        simp only [Tr.ids, List.length_append, List.length_singleton] at h2
        have := HG.out.m2
        omega)
      have hm2 : m ≤ 2000 := by have := hmb.out; omega
      have HXX := Lib.hid X
      have HHH := Lib.hid (And.intro ht (And.intro hbi (And.intro hgt (And.intro hm hM))))
      have s1 : ∀ w, (Instr.sliceAt 22 (.slice (some ⟨ga, 0, none⟩) (m + 1) c) none (some (.int .i64 m)) none).run Try.prog w = .ok (.slice (some ⟨ga, 0, none⟩) m c) w := fun w => by
        have h1 := run_cutHi E3 w (some ⟨ga, 0, none⟩) (n := m + 1) (c := c) (k := m) (x := (m : Int)) (by have := X.own.cap; omega) rfl
        rw [cutA_some] at h1
        simpa using h1
      clear ht hbi hgt hgc hgf hac haf hic hif X hm hM hga hgaT hbN hiT n4 n5 n6 htn HB hmb hidb
      go_wp2_with fail
      go_quiet (fail)
      have HS2 : Hid (HS (wq.drewN nq) hb rate ((flat ts).length : Nat) ts own I T (some ⟨g, 0, none⟩) ct ao co (some ⟨ig, 0, none⟩) ci Nt) := Lib.hid (HSq.out.fr ((Fr.refl F0 wq).drewN nq) (fun _ _ => id))
      have X2 : Hid (NdM (wq.drewN nq) (TM (wq.drewN nq) l Nl) (TM (wq.drewN nq) r Nr) b l.ptr r.ptr (it ++ [(idn : Int)]) k rk sz (Nt i) (some ⟨ga, 0, none⟩) (m + 1) c Nl Nr) := Lib.hid (by
        have h := HXX.out
        exact { h with left := h.left.fr ((Fr.refl F0 wq).drewN nq) (fun _ _ => id), right := h.right.fr ((Fr.refl F0 wq).drewN nq) (fun _ _ => id) })
      have F2 : Hid (Fr F0 w (wq.drewN nq)) := Lib.hid (by rw [← Hwq.out]; exact ((Fr.refl F0 w).drewN _).drewN _)
      have x2' : (wq.drewN nq).cell? ⟨b, 2, none⟩ = some (.slice (some ⟨ga, 0, none⟩) (m + 1) c) := x2
      have z2' : (wq.drewN nq).frozen? ⟨b, 2, none⟩ = false := z2
      have y3' : (wq.drewN nq).cell? ⟨hb, 3, none⟩ = some (.slice (some ⟨ig, 0, none⟩) M ci) := y3
      have dI' : (wq.drewN nq).cell? ⟨ig, idn, none⟩ = some vI := dI
      have fI' : (wq.drewN nq).frozen? ⟨ig, idn, none⟩ = false := fI
      have y4' : (wq.drewN nq).cell? ⟨hb, 4, none⟩ = some (.int .i64 fl) := y4q
      have z4' : (wq.drewN nq).frozen? ⟨hb, 4, none⟩ = false := z4
      have y1' : (wq.drewN nq).cell? ⟨hb, 1, none⟩ = some (.slice (some ⟨g, 0, none⟩) L ct) := y1q
      clear HSq HXX x2 z2 y3 dI fI y4q z4 y1q d dgf dm x3 HS0 Hwq
      generalize wq.drewN nq = w2 at *
      go_wp2_with fail
      obtain ⟨W, hW⟩ : ∃ W, W = ((w2.setCell ⟨b, 2, none⟩ (.slice (some ⟨ga, 0, none⟩) m c)).setCell ⟨ig, idn, none⟩ (.pointer none)).setCell ⟨hb, 4, none⟩ (.int .i64 ((fl : Int) - 1)) := ⟨_, rfl⟩
      rw [← hW]
      have FW : Fr (fun q => q = b ∨ q = ig ∨ q = hb) w2 W := by
        rw [hW]
        exact (((Fr.refl _ w2).setCell (p := ⟨b, 2, none⟩) (fun _ => .inl rfl) _).setCell (p := ⟨ig, idn, none⟩) (fun _ => .inr (.inl rfl)) _).setCell (p := ⟨hb, 4, none⟩) (fun _ => .inr (.inr rfl)) _
      have hgaN := X2.out.oa ga ((onBlk_some _ _ _ _).2 rfl)
      have hiT := HS2.out.iT ig ((onBlk_some _ _ _ _).2 rfl)
      have ntF : ∀ q, Nt i q → q ≠ b → ¬ (q = b ∨ q = ig ∨ q = hb) := fun q hq h1 e => e.elim h1 (fun e => e.elim (fun e => (HS2.out.tT i q hq).2.2.2.2 ((onBlk_some _ _ _ _).2 e)) (HS2.out.tT i q hq).2.1)
      have BX : Blk W b 62 (ndS l.ptr r.ptr (some ⟨ga, 0, none⟩) m c k rk sz) := by
        rw [hW]
        exact ((X2.out.blk.set 2 (.slice (some ⟨ga, 0, none⟩) m c)).other (p := ⟨ig, idn, none⟩) n1 _).other (p := ⟨hb, 4, none⟩) n3 _
      have OX : Own W 0 3 (some ⟨ga, 0, none⟩) m c (ints it) := by
        have h1 := (X2.out.own.take (k := m) (by omega)).fr FW (fun q hq => by
          rw [(onBlk_some _ _ _ _).1 hq]
          exact ntF ga hgaN.1 hgaN.2.1)
        have h2 : (ints (it ++ [(idn : Int)])).take m = ints it := by
          rw [HHH.out.2.2.2.1]; simp [ints]
        rwa [h2] at h1
      have TX : TM W (.nd b l r it k rk sz) (Nt i) := ⟨some ⟨ga, 0, none⟩, m, c, Nl, Nr, ⟨BX, OX, X2.out.left.fr FW (fun q hq => ntF q (X2.out.ol q hq).1 (X2.out.ol q hq).2.1), X2.out.right.fr FW (fun q hq => ntF q (X2.out.or q hq).1 (X2.out.or q hq).2), X2.out.nb, X2.out.oa, X2.out.ol, X2.out.or, fun q hq => Nat.lt_of_lt_of_le (X2.out.lt q hq) FW.size⟩⟩
      have OI : Own W 0 60 (some ⟨ig, 0, none⟩) I.length ci (ptrs (I.set idn none)) := by
        have h1 := ((HS2.out.oi.other (p := ⟨b, 2, none⟩) (fun e => n1 ((onBlk_some _ _ _ _).1 e)) (.slice (some ⟨ga, 0, none⟩) m c)).set (i := idn) (.pointer none)).other (p := ⟨hb, 4, none⟩) (fun e => n2 ((onBlk_some _ _ _ _).1 e).symm) (.int .i64 ((fl : Int) - 1))
        rw [hW]
        have e : (ptrs I).set idn (.pointer none) = ptrs (I.set idn none) := by simp [ptrs, List.map_set]
        rwa [e] at h1
      have BH : Blk W hb 59 (heC rate ((fl : Int) - 1) ts own I (some ⟨g, 0, none⟩) ct ao co (some ⟨ig, 0, none⟩) ci) := by
        have h1 := ((HS2.out.blk.other (p := ⟨b, 2, none⟩) (fun e => n3 e.symm) (.slice (some ⟨ga, 0, none⟩) m c)).other (p := ⟨ig, idn, none⟩) (fun e => n2 e.symm) (.pointer none)).set 4 (.int .i64 ((fl : Int) - 1))
        rw [hW]
        simpa [heC] using h1
      have hR := HS2.out.retree (x1 := .nd b l r it k rk sz) HHH.out.1 rfl TX (fun q hq => .inl hq) FW (fun q hq e => e.elim (fun e => .inr (.inr (e ▸ X2.out.nb))) (fun e => e.elim .inl (fun e => .inr (.inl e)))) BH OI (by simp)
      have HRt := Lib.hid hR
      have HTX := Lib.hid TX
      have HFW : Hid (Fr T w W) := Lib.hid ((F2.out.mono (fun _ _ h => h.elim)).trans FW (fun q hq e => e.elim (fun e => e ▸ (HS2.out.tT i b X2.out.nb).1) (fun e => e.elim (fun e => e ▸ hiT.1) (fun e => e ▸ HS2.out.hT))))
      have hsW := FW.size
      have hs2 := F2.out.size
      have q2 : W.cell? ⟨b, 2, none⟩ = some (.slice (some ⟨ga, 0, none⟩) m c) := BX.cell (i := 2) rfl
      have q5 : W.cell? ⟨b, 5, none⟩ = some (.int .i64 sz) := BX.cell (i := 5) rfl
      have HBX := Lib.hid BX
      have HTT := Lib.hid HS2.out.tT
      have hnb : Hid (Nt i b ∧ T ig ∧ T hb) := Lib.hid ⟨X2.out.nb, hiT.1, HS2.out.hT⟩
      have hszb : sz ≤ 2048 := by
        have h1 := HHH.out.2.2.1.2.1
        have h2 : 2 ^ i ≤ 2 ^ 11 := Nat.pow_le_pow_right (by decide) (by omega)
        omega
      have HLT := Lib.hid HS2.out.lt
      clear hW FW hgaN hiT ntF BX OX TX OI BH hR HS2 X2 F2 x2' z2' y3' dI' fI' y4' z4' y1' s1
      -- the law of the forest
      have hxp : ∀ x1 : Tr, x1.ids.Perm (Tr.ids (.nd b l r it k rk sz)) → ((idn : Int) :: x1.ids).Perm (Tr.ids (.nd b l r (it ++ [(idn : Int)]) k rk sz)) := fun x1 h => by
        refine (h.cons _).trans ?_
        simp only [Tr.ids, List.append_assoc, List.singleton_append]
        exact List.perm_middle.symm
      have HXP := Lib.hid hxp
      clear hxp
      by_cases hbig : sz < 2 * m
      · have hd : ¬ ((2 : Int) * m ≤ sz) := by omega
        go_quiet (fail)
        go_wp2_with fail
        go_ret3
        have hit : it ≠ [] := fun e => by have := HHH.out.2.2.2.1; rw [e] at this; simp at this; omega
        have hok : (Tr.nd b l r it k rk sz).Ok := ⟨hit, HHH.out.2.2.1.2.2.2⟩
        obtain ⟨hG1, hP1⟩ := HG.out.upd HHH.out.1 (HXP.out _ (.refl _)) (x1 := .nd b l r it k rk sz) ⟨HHH.out.2.2.1.1, HHH.out.2.2.1.2.1, hok⟩ (Nat.le_refl _)
        have hfe : ((fl : Int) - 1) = (((flat (ts.set i (.nd b l r it k rk sz))).length : Nat) : Int) := by
          have := hP1.length_eq
          have := Hfl.out
          simp only [List.length_cons] at *
          omega
        refine ⟨idn, k, _, _, fun q => T q ∨ Nt i q, rfl, ⟨i, b, l, r, it, rk, sz, by rw [← HL.out]; exact HHH.out.2.1, HHH.out.1, .inr (.inr ⟨hit, .inl (by rw [← HHH.out.2.2.2.1]; exact hbig), rfl, rfl⟩)⟩, ⟨_, _, _, _, _, _, _, by rw [← hfe]; exact HRt.out.fr ((Fr.refl F0 W).drewN nq) (fun _ _ => id), hG1, hr, smx hP1 (HG.out.nodup) HSm.out (fun _ h => h) (fun i hi => (HG.out.bdf i hi).1)⟩, HFW.out.drewN nq, fun q hq => hq.elim .inl (fun e => .inl (HTT.out i q e).1)⟩
      · have hd : (2 : Int) * m ≤ sz := by omega
        go_quiet (fail)
        generalize hW2 : W.drewN nq = W2 at *
        have HR2 := Lib.hid (HRt.out.fr ((Fr.refl F0 W).drewN nq) (fun _ _ => id))
        have HT2 := Lib.hid (HTX.out.fr ((Fr.refl F0 W).drewN nq) (fun _ _ => id))
        have HF2 := Lib.hid (HFW.out.drewN nq)
        have HB2 := Lib.hid (HBX.out.fr ((Fr.refl F0 W).drewN nq) id)
        have hsz2 : (W.drewN nq).heap.size = W.heap.size := rfl
        rw [hW2] at HR2 HT2 HF2 HB2 hsz2
        clear hW2 HRt HTX HFW HBX q2 q5
        by_cases hlf : l = .nil ∧ r = .nil
        · obtain ⟨rfl, rfl⟩ := hlf
          have q2 : W2.cell? ⟨b, 2, none⟩ = some (.slice (some ⟨ga, 0, none⟩) m c) := HB2.out.cell (i := 2) rfl
          go_wp2_with fail
          refine (leaf_yes HB2.out).mono ?_
          rintro e w9 ⟨rfl, rfl⟩
          by_cases hm0 : m = 0
          · subst hm0
            have hit : it = [] := List.length_eq_zero_iff.1 HHH.out.2.2.2.1.symm
            subst hit
            have hkl : i < (ts.set i (.nd b .nil .nil [] k rk sz)).length := by simp; rw [← HL.out]; exact hiL
            have q1 : W2.cell? ⟨hb, 1, none⟩ = some (.slice (some ⟨g, 0, none⟩) L ct) := by
              have := HR2.out.blk.cell (i := 1) rfl
              simpa [heC, ← HL.out] using this
            obtain ⟨g', eg, _, _, hgc, hgf⟩ := HR2.out.ot.at (by omega)
            injection eg with eg
            injection eg with eg _ _
            subst eg
            have dg := hgc i _ (by rw [List.getElem?_map, List.getElem?_set_self (by simpa using hkl)]; rfl)
            have fg := hgf i
            clear hgc hgf
            go_wp2_with fail
            go_ret3
            have hSt := HR2.out.store hkl TM.none (fun _ h => h.elim)
            rw [List.set_set] at hSt
            obtain ⟨hG1, hP1⟩ := HG.out.upd HHH.out.1 (HXP.out .nil (by simp [Tr.ids])) (x1 := .nil) trivial (Nat.zero_le _)
            have hfe : ((fl : Int) - 1) = (((flat (ts.set i .nil)).length : Nat) : Int) := by
              have := hP1.length_eq
              have := Hfl.out
              simp only [List.length_cons] at *
              omega
            have hgT := (HR2.out.aT g ((onBlk_some _ _ _ _).2 rfl)).1
            refine ⟨idn, k, _, _, fun q => (T q ∨ Nt i q) ∨ False, rfl, ⟨i, b, .nil, .nil, [], rk, sz, by rw [← HL.out]; exact HHH.out.2.1, HHH.out.1, .inr (.inl ⟨rfl, rfl, rfl, rfl, rfl⟩)⟩, ⟨_, _, _, _, _, _, _, by rw [← hfe]; exact hSt, hG1, hr, smx hP1 (HG.out.nodup) HSm.out (fun _ h => h) (fun i hi => (HG.out.bdf i hi).1)⟩, HF2.out.setCell (p := ⟨g, i, none⟩) (fun _ => hgT.elim id (fun e => (HTT.out i g e).1)) _, fun q hq => hq.elim (fun e => e.elim .inl (fun e => .inl (HTT.out i q e).1)) (fun e => e.elim)⟩
          · have hm1 : ¬ (m : Int) = 0 := by omega
            have hmz : ((m : Int) == 0) = false := by simp; omega
            go_wp2_with fail
            go_ret3
            have hit : it ≠ [] := fun e => by have := HHH.out.2.2.2.1; rw [e] at this; simp at this; omega
            obtain ⟨hG1, hP1⟩ := HG.out.upd HHH.out.1 (HXP.out _ (.refl _)) (x1 := .nd b .nil .nil it k rk sz) ⟨HHH.out.2.2.1.1, HHH.out.2.2.1.2.1, hit, HHH.out.2.2.1.2.2.2⟩ (Nat.le_refl _)
            have hfe : ((fl : Int) - 1) = (((flat (ts.set i (.nd b .nil .nil it k rk sz))).length : Nat) : Int) := by
              have := hP1.length_eq
              have := Hfl.out
              simp only [List.length_cons] at *
              omega
            refine ⟨idn, k, _, _, fun q => T q ∨ Nt i q, rfl, ⟨i, b, .nil, .nil, it, rk, sz, by rw [← HL.out]; exact HHH.out.2.1, HHH.out.1, .inr (.inr ⟨hit, .inr ⟨rfl, rfl⟩, rfl, rfl⟩)⟩, ⟨_, _, _, _, _, _, _, by rw [← hfe]; exact HR2.out, hG1, hr, smx hP1 (HG.out.nodup) HSm.out (fun _ h => h) (fun i hi => (HG.out.bdf i hi).1)⟩, HF2.out, fun q hq => hq.elim .inl (fun e => .inl (HTT.out i q e).1)⟩
        · have hnl : ¬ (l.ptr = none ∧ r.ptr = none) := fun e => hlf ⟨Tr.ptr_nil.1 e.1, Tr.ptr_nil.1 e.2⟩
          have hok := HHH.out.2.2.1.2.2.2
          obtain ⟨nr, x', I', hRf, hxo⟩ := Rf.exists _ b l r it k rk sz (I.set idn none) hok.2.1 hok.2.2 hok.1 (Nat.le_refl _)
          have hxo := hxo (.inr hlf)
          have hilt := HR2.out.lt ig (.inl hnb.out.2.1)
          have HI2 : Hid (HI W2 hb ig (I.set idn none).length ci (I.set idn none) (Nt i)) := Lib.hid ⟨HR2.out.blk.cell (i := 3) rfl, HR2.out.oi, (HR2.out.iT ig ((onBlk_some _ _ _ _).2 rfl)).2.symm, fun e => (HTT.out i hb e).2.1 rfl, fun e => (HTT.out i ig e).2.2.2.2 ((onBlk_some _ _ _ _).2 rfl), HR2.out.lt hb (.inl hnb.out.2.2)⟩
          have hids : Hid ((∀ j ∈ Tr.ids (.nd b l r it k rk sz), 0 ≤ j ∧ j < (((I.set idn none).length : Nat) : Int)) ∧ (Tr.ids (.nd b l r it k rk sz)).length ≤ 100000) := Lib.hid (by
            obtain ⟨hG1, hP1⟩ := HG.out.upd HHH.out.1 (HXP.out x' hRf.perm) (x1 := x') (by
              obtain ⟨l', r', it', key', he⟩ := hRf.shape rfl
              rw [he]
              rw [he] at hxo
              exact ⟨HHH.out.2.2.1.1, HHH.out.2.2.1.2.1, hxo⟩) (by
              obtain ⟨l', r', it', key', he⟩ := hRf.shape rfl
              rw [he]; exact Nat.le_refl _)
            have hlI : (I.set idn none).length = own.length := HR2.out.len
            have hm : ∀ j ∈ Tr.ids (.nd b l r it k rk sz), j ∈ flat ts := fun j hj => by
              unfold flat
              rw [List.mem_flatMap]
              refine ⟨_, List.mem_of_getElem? HHH.out.1, ?_⟩
              exact (HXP.out _ (.refl _)).mem_iff.1 (List.mem_cons.2 (.inr hj))
            refine ⟨fun j hj => by rw [hlI]; exact HG.out.bd j (by simp [hm j hj]), ?_⟩
            have h1 := (flat_set HHH.out.1 .nil).length_eq
            have h2 := (HXP.out _ (.refl _)).length_eq
            simp only [List.length_append, List.length_cons, show Tr.ids .nil = [] from rfl, List.length_nil] at h1 h2
            have := Hfl.out
            omega)
          have HRf := Lib.hid (And.intro hRf hxo)
          clear hRf hxo hok
          go_wp2_with fail
          refine (leaf_no HB2.out hnl).mono ?_
          rintro e w9 ⟨rfl, rfl⟩
          go_wp2_with fail
          refine (refill_any nr _ _ _ _ HRf.out.1 W2 hb ig _ ci (Nt i) HT2.out HI2.out hids.out.1 hids.out.2).mono ?_
          rintro e w9 ⟨rfl, T9, I9, F9⟩
          have HP9 := Lib.hid (And.intro T9 (And.intro I9 F9))
          clear T9 I9 F9
          go_wp2_with fail
          go_ret3
          obtain ⟨T9, I9, F9⟩ := HP9.out
          obtain ⟨hRf, hxo⟩ := HRf.out
          obtain ⟨l', r', it', key', he⟩ := hRf.shape rfl
          have hgt' : Gt i x' := by
            rw [he]
            rw [he] at hxo
            exact ⟨HHH.out.2.2.1.1, HHH.out.2.2.1.2.1, hxo⟩
          obtain ⟨hG1, hP1⟩ := HG.out.upd HHH.out.1 (HXP.out x' hRf.perm) (x1 := x') hgt' (by rw [he]; exact Nat.le_refl _)
          have hfe : ((fl : Int) - 1) = (((flat (ts.set i x')).length : Nat) : Int) := by
            have := hP1.length_eq
            have := Hfl.out
            simp only [List.length_cons] at *
            omega
          have hkl : i < ts.length := by rw [← HL.out]; exact hiL
          have hB9 : Blk w9 hb 59 (heC rate ((fl : Int) - 1) (ts.set i (.nd b l r it k rk sz)) own (I.set idn none) (some ⟨g, 0, none⟩) ct ao co (some ⟨ig, 0, none⟩) ci) := HR2.out.blk.fr F9 (fun e => e.elim (fun e => (HTT.out i hb e).2.1 rfl) (fun e => HI2.out.hg e))
          have hS9 := HR2.out.retree (x1 := x') (List.getElem?_set_self hkl) (by rw [hRf.ptr]) T9 (fun q hq => hq.elim (fun e => .inl (.inl ⟨rfl, e⟩)) (fun e => .inr e.1)) F9 (fun q _ e => e.elim (fun e => .inr (.inr (.inl ⟨rfl, e⟩))) .inl) hB9 I9.own I9.len
          rw [List.set_set] at hS9
          refine ⟨idn, k, _, _, fun q => (T q ∨ Nt i q) ∨ Grw (Nt i) W2 w9 q, rfl, ⟨i, b, l, r, it, rk, sz, by rw [← HL.out]; exact HHH.out.2.1, HHH.out.1, .inl ⟨by rw [← HHH.out.2.2.2.1]; omega, hlf, nr, x', hRf, hxo, rfl⟩⟩, ⟨_, _, _, _, _, _, _, by rw [← hfe]; exact hS9, hG1, hr, smx hP1 (HG.out.nodup) HSm.out (fun _ h => hRf.sm h) (fun i hi => (HG.out.bdf i hi).1)⟩, HF2.out.trans F9 (fun q _ e => e.elim (fun e => (HTT.out i q e).1) (fun e => e ▸ hnb.out.2.1)), fun q hq => ?_⟩
          have hsF := HF2.out.size
          rcases hq with (hq | hq) | hq | hq
          · exact .inl hq
          · exact .inl (HTT.out i q hq).1
          · exact .inl (HTT.out i q hq).1
          · exact .inr (by omega)
end Go.Proofs.Ytdphademoeofkaa
