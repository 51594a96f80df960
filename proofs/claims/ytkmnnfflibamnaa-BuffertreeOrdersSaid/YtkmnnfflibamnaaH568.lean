/- Common texts of this seat, one behind another. -/
import Derived.Test.YtkmnnfflibamnaaH4
import Derived.Test.YtkmnnfflibamnaaG212
import Derived.Test.YtkmnnfflibamnaaG23
import Derived.Test.YtkmnnfflibamnaaG12
/- Buffer trees: a flush keeps a tree small (plain law). -/
namespace Go.Proofs.Ytkmnnfflibamnaa
theorem len1_flat (l : Lv) : len1 l.flatten = totT l := by
  induction l with
  | nil => rfl
  | cons x l ih => rw [List.flatten_cons, len1_app, ih]; rfl
theorem totT_rev (l : Lv) : totT l.reverse = totT l := by unfold totT; rw [List.map_reverse, List.sum_reverse]
theorem runsN_rev (l : Lv) : runsN l.reverse = runsN l := by unfold runsN; rw [List.map_reverse, List.sum_reverse]
theorem runsT_tot (lv : Lv) : len1 (runsT lv) = totT lv := by unfold runsT; rw [len1_flat, totT_rev]
theorem flat_runsN (l : Lv) : l.flatten.length = runsN l := by
  induction l with
  | nil => rfl
  | cons x l ih => rw [List.flatten_cons, List.length_append, ih]; rfl
theorem runsT_len (lv : Lv) : (runsT lv).length = runsN lv := by unfold runsT; rw [flat_runsN, runsN_rev]
theorem runsT_mem {lv : Lv} {r : List En} (h : r ∈ runsT lv) : ∃ l ∈ lv, r ∈ l := by
  unfold runsT at h
  rw [List.mem_flatten] at h
  obtain ⟨l, hl, hr⟩ := h
  exact ⟨l, List.mem_reverse.1 hl, hr⟩
theorem runsN_zero : ∀ {lv : Lv}, (∀ i, (lv.getD i []).length = 0) → runsN lv = 0
  | [], _ => rfl
  | x :: lv, h => by
    have h0 : x.length = 0 := h 0
    have ih := runsN_zero (lv := lv) (fun i => h (i + 1))
    unfold runsN at ih ⊢
    rw [List.map_cons, List.sum_cons, ih, h0]
theorem IsH.pos {lv : Lv} {k : Nat} (h : IsH lv k) (hr : (runsT lv).length ≠ 0) : 0 < k := by
  rcases Nat.eq_zero_or_pos k with e | e
  · subst e
    rw [runsT_len, runsN_zero (fun i => h.2.1 i (Nat.zero_le _))] at hr
    exact absurd rfl hr
  · exact e
theorem PI.flush {B : Nat} (hB : 1 ≤ B) {t : TT} {a b c k : Nat} (h : PI t a b c) (ha : a ≤ 400) (hk : IsH t.lv k) : PI (flushT B t k) a b (c + 800) := by
  have h1 := h.tot; have h2 := h.len; have h3 := h.mv
  have e1 := runsT_tot t.lv
  have e2 := runsT_len t.lv
  have e3 := cnts_le hB (runsT t.lv)
  have e4 := jn_len (runsT t.lv)
  have e5 := drp_len (jn (runsT t.lv))
  unfold flushT
  split
  · exact h.mono (Nat.le_refl _) (Nat.le_refl _) (by omega)
  · rename_i hne
    have hk0 := hk.pos hne
    have hkl := hk.1
    split
    · refine ⟨fun l hl => (by cases hl), fun l hl => (by cases hl), Nat.zero_le _, ?_, ?_⟩
      · show 0 + 0 ≤ b; omega
      · show t.mv + cnts B (runsT t.lv) + 800 * 0 ≤ _; omega
    · rename_i hd
      have e6 := cnt_le hB (drp (jn (runsT t.lv))).length
      have hg : ∀ l ∈ addL [] (k - 1) (drp (jn (runsT t.lv))), ∀ x ∈ l, x = drp (jn (runsT t.lv)) := fun l hl x hx => by
        rcases mem_add hl x hx with e | ⟨l', hl', _⟩
        · exact e
        · cases hl'
      refine ⟨fun l hl x hx => ?_, fun l hl x hx => ?_, ?_, ?_, ?_⟩
      · rw [hg l hl x hx]; exact (jn_sd _).drp
      · rw [hg l hl x hx]; omega
      · show totT (addL [] _ _) ≤ a; rw [totT_add]; show 0 + _ ≤ a; omega
      · show (addL [] _ _).length + runsN (addL [] _ _) ≤ b
        rw [addL_len, runsN_add]
        show max 0 (k - 1 + 1) + (0 + 1) ≤ b
        omega
      · show t.mv + cnts B (runsT t.lv) + cnt B _ + 800 * runsN (addL [] _ _) ≤ _
        rw [runsN_add]
        show _ + 800 * (0 + 1) ≤ _
        omega
end Go.Proofs.Ytkmnnfflibamnaa
/- Buffer trees: looking for a key (plain law). -/
namespace Go.Proofs.Ytkmnnfflibamnaa
/-- The first of some runs that has the key, and how many were looked at. -/
def lkR : List (List En) → Int → Nat × Option En
  | [], _ => (0, none)
  | r :: rs, k => match lk r k with
    | some e => (1, some e)
    | none => ((lkR rs k).1 + 1, (lkR rs k).2)
theorem lkR_no {r : List En} {rs : List (List En)} {k : Int} (h : lk r k = none) : lkR (r :: rs) k = ((lkR rs k).1 + 1, (lkR rs k).2) := by
  show (match lk r k with | some e => (1, some e) | none => ((lkR rs k).1 + 1, (lkR rs k).2)) = _
  rw [h]
theorem lkR_yes {r : List En} {rs : List (List En)} {k : Int} {e : En} (h : lk r k = some e) : lkR (r :: rs) k = (1, some e) := by
  show (match lk r k with | some e => (1, some e) | none => ((lkR rs k).1 + 1, (lkR rs k).2)) = _
  rw [h]
theorem lkR_none {a b : List (List En)} {k : Int} (h : ∀ r ∈ a, lk r k = none) : lkR (a ++ b) k = (a.length + (lkR b k).1, (lkR b k).2) := by
  induction a with
  | nil => rw [List.nil_append]; show lkR b k = (0 + _, _); rw [Nat.zero_add]
  | cons x a ih =>
    rw [List.cons_append, lkR_no (h x (List.mem_cons_self ..)), ih (fun r hr => h r (List.mem_cons_of_mem _ hr)), List.length_cons]
    dsimp only
    congr 1; omega
theorem lkR_hit {a b : List (List En)} {r : List En} {k : Int} {e : En} (h : ∀ r ∈ a, lk r k = none) (hr : lk r k = some e) : lkR (a ++ r :: b) k = (a.length + 1, some e) := by
  rw [lkR_none h, lkR_yes hr]
/-- All runs, the newest first. -/
def newT (lv : Lv) : List (List En) := lv.flatMap List.reverse
theorem newT_take {lv : Lv} {i : Nat} {l : List (List En)} (h : lv[i]? = some l) : newT (lv.take (i + 1)) = newT (lv.take i) ++ l.reverse := by
  unfold newT
  rw [List.take_add_one, h, List.flatMap_append]; simp
theorem newT_split {lv : Lv} {i : Nat} {l : List (List En)} (h : lv[i]? = some l) : newT lv = newT (lv.take i) ++ (l.reverse ++ newT (lv.drop (i + 1))) := by
  obtain ⟨hi, rfl⟩ := List.getElem?_eq_some_iff.1 h
  have e : lv = lv.take i ++ lv[i] :: lv.drop (i + 1) := by rw [← List.drop_eq_getElem_cons hi, List.take_append_drop]
  conv => lhs; rw [e]
  unfold newT
  rw [List.flatMap_append, List.flatMap_cons]
theorem came_take (len k : Nat) : came id len k = (came id len 0).take (len - k) := by
  unfold came
  rw [← List.map_take, Nat.sub_zero]
  congr 1
  rw [List.take_range]
  congr 1
  omega
/-- What Get says of an entry. -/
def eVal (e : Option En) : Int × Int := match e with
  | some x => if x.2.2 then (0, 12) else (x.2.1, 0)
  | none => (0, 12)
def getT (t : TT) (buf : List En) (k : Int) : TT × Int × Int := match lk buf k with
  | some e => (t, eVal (some e))
  | none => (⟨t.lv, t.mv + (lkR (newT t.lv) k).1⟩, eVal (lkR (newT t.lv) k).2)
end Go.Proofs.Ytkmnnfflibamnaa
/- Buffer trees: what stays small in the reference (plain law). -/
namespace Go.Proofs.Ytkmnnfflibamnaa
theorem totR_split (rs : Rs) (i : Nat) : totR (restR rs i) + len1 (lvl rs i) = totR rs ∧ (restR rs i).length + (lvl rs i).length = rs.length := by
  induction rs with
  | nil => exact ⟨rfl, rfl⟩
  | cons x rs ih =>
    obtain ⟨k, l⟩ := x
    have h1 : lvl ((k, l) :: rs) i = lvl [(k, l)] i ++ lvl rs i := lvl_app [(k, l)] rs i
    have h2 : totR ((k, l) :: rs) = l.length + totR rs := by unfold totR; rw [List.map_cons, List.sum_cons]
    rw [h1, h2, len1_app, List.length_append, lvl_one]
    by_cases c : i = k
    · subst c
      have h3 : restR ((i, l) :: rs) i = restR rs i := by unfold restR; rw [List.filter_cons]; simp
      rw [h3, if_pos rfl]
      have e : len1 [l] = l.length := by unfold len1; simp
      show _ + (len1 [l] + _) = _ ∧ _ + ([l].length + _) = rs.length + 1
      rw [e]
      have e9 : [l].length = 1 := rfl
      omega
    · have h3 : restR ((k, l) :: rs) i = (k, l) :: restR rs i := by unfold restR; rw [List.filter_cons]; simp [Ne.symm c]
      have h4 : totR ((k, l) :: restR rs i) = l.length + totR (restR rs i) := by unfold totR; rw [List.map_cons, List.sum_cons]
      rw [h3, if_neg c, h4, List.length_cons, List.length_cons]
      have e : len1 ([] : List (List En)) = 0 := rfl
      rw [e]
      simp only [List.length_nil]
      omega
theorem resR_len (rs : Rs) (i : Nat) : (resR rs i).length ≤ len1 (lvl rs i) := by
  have h := foldI_len (lvl rs i).flatten []
  rw [flat_len] at h
  have e : pt (lvl rs i) = (lvl rs i).flatten.foldl ins [] := rfl
  rw [← e] at h
  simp only [List.length_nil, Nat.zero_add] at h
  unfold resR
  split
  · exact Nat.le_trans (drp_len _) h
  · exact h
theorem high_le {rs : Rs} {z : Int} (hz : -1 ≤ z) (h : ∀ r ∈ rs, (r.1 : Int) ≤ z) : high rs ≤ z := by
  rcases (high_spec rs).2.1 with e | ⟨r, hr, e⟩
  · omega
  · rw [← e]; exact h r hr
theorem high_rest (rs : Rs) (i : Nat) : high (restR rs i) ≤ high rs :=
  high_le (high_spec rs).2.2 (fun r hr => (high_spec rs).1 r (List.mem_filter.1 hr).1)
theorem high_app (rs : Rs) (k : Nat) (l : List En) {z : Int} (h : high rs ≤ z) (hk : (k : Int) ≤ z) : high (rs ++ [(k, l)]) ≤ z := by
  rw [high_snoc]
  split
  · exact hk
  · exact h
/-- A small tree of the reference. -/
structure PR (t : RT) (a b c : Nat) : Prop where
  tot : totR t.rs ≤ a
  len : high t.rs + 1 + t.rs.length ≤ b
  bl : t.bl + 800 * t.rs.length ≤ c
theorem PR.mono {t : RT} {a b c a' b' c' : Nat} (h : PR t a b c) (ha : a ≤ a') (hb : b ≤ b') (hc : c ≤ c') : PR t a' b' c' := ⟨Nat.le_trans h.tot ha, by have := h.len; omega, Nat.le_trans h.bl hc⟩
theorem PR.add {B : Nat} {t : RT} {a b c : Nat} {r : List En} (h : PR t a b c) (hB : 1 ≤ B) : PR (addR B t r) (a + r.length) (b + 2) (c + 800 + r.length) := by
  have h1 := h.tot; have h2 := h.len; have h3 := h.bl
  have h4 := cnt_le hB r.length
  have hs := (high_spec t.rs).2.2
  refine ⟨?_, ?_, ?_⟩
  · show totR (t.rs ++ [(0, r)]) ≤ _; rw [totR_app, totR_one]; omega
  · show high (t.rs ++ [(0, r)]) + 1 + ((t.rs ++ [(0, r)]).length : Int) ≤ _
    have := high_app t.rs 0 r (z := high t.rs + 1) (by omega) (by omega)
    rw [List.length_append, List.length_singleton]; omega
  · show t.bl + cnt B r.length + 800 * (t.rs ++ [(0, r)]).length ≤ _
    rw [List.length_append, List.length_singleton]; omega
theorem PR.merge {B : Nat} {t : RT} {a b c i : Nat} (h : PR t a b c) (hB : 1 ≤ B) (ha : a ≤ 400) (hF : 2 ≤ (lvl t.rs i).length) : PR (mergeR B t i) a b c ∧ (mergeR B t i).rs.length + 1 ≤ t.rs.length := by
  have h1 := h.tot; have h2 := h.len; have h3 := h.bl
  obtain ⟨e1, e2⟩ := totR_split t.rs i
  have e3 := cnts_le hB (lvl t.rs i)
  have e4 := resR_len t.rs i
  have e5 := cnt_le hB (resR t.rs i).length
  have e6 := high_rest t.rs i
  have e7 := high_lvl (rs := t.rs) (i := i) (by omega)
  unfold mergeR
  split
  · refine ⟨⟨?_, ?_, ?_⟩, ?_⟩
    · show totR (restR t.rs i) ≤ a; omega
    · show high (restR t.rs i) + 1 + ((restR t.rs i).length : Int) ≤ _; omega
    · show t.bl + _ + 800 * (restR t.rs i).length ≤ _; omega
    · show (restR t.rs i).length + 1 ≤ _; omega
  · have e8 := high_app (restR t.rs i) (i + 1) (resR t.rs i) (z := high t.rs + 1) (by omega) (by omega)
    refine ⟨⟨?_, ?_, ?_⟩, ?_⟩
    · show totR (restR t.rs i ++ [(i + 1, resR t.rs i)]) ≤ a; rw [totR_app, totR_one]; omega
    · show high (restR t.rs i ++ [(i + 1, resR t.rs i)]) + 1 + ((restR t.rs i ++ [(i + 1, resR t.rs i)]).length : Int) ≤ _
      rw [List.length_append, List.length_singleton]; omega
    · show t.bl + _ + _ + 800 * (restR t.rs i ++ [(i + 1, resR t.rs i)]).length ≤ _
      rw [List.length_append, List.length_singleton]; omega
    · show (restR t.rs i ++ [(i + 1, resR t.rs i)]).length + 1 ≤ _
      rw [List.length_append, List.length_singleton]; omega
theorem fullR_len {F : Nat} {rs : Rs} {i : Nat} (h : fullR F rs = some i) : F ≤ (lvl rs i).length := by
  unfold fullR at h
  have := List.find?_some h
  simpa using this
/-- With fuel for each run the loop comes to its end. -/
theorem loopR_fuel {B F : Nat} (hF : 2 ≤ F) : ∀ (n m : Nat) (t : RT), t.rs.length ≤ n → t.rs.length ≤ m → loopR B F n t = loopR B F m t
  | n, m, t, h1, h2 => by
    cases hf : fullR F t.rs with
    | none =>
      have e : ∀ k, loopR B F k t = t := fun k => by
        cases k with
        | zero => rfl
        | succ k => unfold loopR; rw [hf]
      rw [e, e]
    | some i =>
      have h5 := fullR_len hf
      obtain ⟨e1, e2⟩ := totR_split t.rs i
      have h4 : (mergeR B t i).rs.length + 1 ≤ t.rs.length := by
        unfold mergeR
        split
        · show (restR t.rs i).length + 1 ≤ _; omega
        · show (restR t.rs i ++ [(i + 1, resR t.rs i)]).length + 1 ≤ _
          rw [List.length_append, List.length_singleton]; omega
      cases n with
      | zero => omega
      | succ n =>
        cases m with
        | zero => omega
        | succ m =>
          unfold loopR
          rw [hf]
          exact loopR_fuel hF n m _ (by omega) (by omega)
/-- The loop of a spill. -/
def endR (B F : Nat) (t : RT) : RT := loopR B F t.rs.length t
theorem endR_none {B F : Nat} {t : RT} (h : fullR F t.rs = none) : endR B F t = t := by
  unfold endR
  cases t.rs.length with
  | zero => rfl
  | succ n => unfold loopR; rw [h]
theorem endR_some {B F i : Nat} {t : RT} (hF : 2 ≤ F) (h : fullR F t.rs = some i) : endR B F t = endR B F (mergeR B t i) := by
  have h5 := fullR_len h
  obtain ⟨e1, e2⟩ := totR_split t.rs i
  have h4 : (mergeR B t i).rs.length + 1 ≤ t.rs.length := by
    unfold mergeR
    split
    · show (restR t.rs i).length + 1 ≤ _; omega
    · show (restR t.rs i ++ [(i + 1, resR t.rs i)]).length + 1 ≤ _
      rw [List.length_append, List.length_singleton]; omega
  unfold endR
  rw [loopR_fuel hF (mergeR B t i).rs.length (t.rs.length - 1) _ (Nat.le_refl _) (by omega)]
  obtain ⟨n, hn⟩ : ∃ n, t.rs.length = n + 1 := ⟨t.rs.length - 1, by omega⟩
  rw [hn]
  show loopR B F (n + 1) t = loopR B F n _
  conv => lhs; unfold loopR
  rw [h]
theorem PR.loop {B F : Nat} (hF : 2 ≤ F) (hB : 1 ≤ B) {a b c : Nat} (ha : a ≤ 400) : ∀ (n : Nat) {t : RT}, PR t a b c → PR (loopR B F n t) a b c
  | 0, t, h => h
  | n + 1, t, h => by
    unfold loopR
    cases hf : fullR F t.rs with
    | none => exact h
    | some i =>
      have h5 := fullR_len hf
      exact PR.loop hF hB ha n (h.merge hB ha (by omega)).1
def splR (B F : Nat) (t : RT) (buf : List En) : RT := endR B F (addR B t buf)
theorem PR.spill {B F : Nat} (hF : 2 ≤ F) (hB : 1 ≤ B) {t : RT} {a b c : Nat} {buf : List En} (h : PR t a b c) (ha : a + buf.length ≤ 400) : PR (splR B F t buf) (a + buf.length) (b + 2) (c + 1200) :=
  PR.loop hF hB ha _ ((h.add (r := buf) hB).mono (Nat.le_refl _) (Nat.le_refl _) (by omega))
theorem Cr.splR {B F : Nat} (hF : 2 ≤ F) {t : TT} {r : RT} (h : Cr t r) {buf : List En} (hb : Sd buf) : Cr (spillT B F t buf) (splR B F r buf) := by
  have hc := (h.add (B := B) hb).loop (B := B) (F := F) (by omega) (max (runsN (addT B t 0 buf).lv) (addR B r buf).rs.length)
  rw [loopT_fuel hF _ (runsN (addT B t 0 buf).lv) _ (Nat.le_max_left _ _) (Nat.le_refl _), loopR_fuel hF _ (addR B r buf).rs.length _ (Nat.le_max_right _ _) (Nat.le_refl _)] at hc
  exact hc
theorem runsR_tot (rs : Rs) : len1 (runsR rs) = totR rs := by
  have hp := cnts_perm 1 rs (high rs + 1).toNat (fun r hr => by have := (high_spec rs).1 r hr; omega)
  have hd := cnts_desc 1 (lvl rs) (high rs + 1).toNat
  have e4 : ∀ l : List (List En), cnts 1 l = len1 l := fun l => by
    unfold cnts len1 cnt
    congr 1
    refine List.map_congr_left (fun x _ => ?_)
    show (x.length + 1 - 1) / 1 = _
    rw [Nat.div_one]; omega
  have e5 : (rs.map (fun r => cnt 1 r.2.length)).sum = totR rs := by
    unfold totR cnt
    congr 1
    refine List.map_congr_left (fun x _ => ?_)
    show (x.2.length + 1 - 1) / 1 = _
    rw [Nat.div_one]; omega
  rw [← e4]
  show cnts 1 ((List.range (high rs + 1).toNat).reverse.flatMap (lvl rs)) = _
  rw [hd, hp, e5]
theorem PR.flush {B : Nat} (hB : 1 ≤ B) {t : RT} {a b c : Nat} (h : PR t a b c) (ha : a ≤ 400) : PR (flushR B t) a b (c + 800) := by
  have h1 := h.tot; have h2 := h.len; have h3 := h.bl
  have hs := (high_spec t.rs).2.2
  have g : ∀ rs : Rs, (rs.map (fun x => cnt B x.2.length)).sum ≤ totR rs := fun rs => by
    induction rs with
    | nil => exact Nat.le_refl _
    | cons x rs ih =>
      have := cnt_le hB x.2.length
      unfold totR at ih ⊢
      rw [List.map_cons, List.map_cons, List.sum_cons, List.sum_cons]; omega
  have g1 := g t.rs
  have g2 : (drp (pt (runsR t.rs))).length ≤ totR t.rs := by
    have e := foldI_len (runsR t.rs).flatten []
    have e2 : pt (runsR t.rs) = (runsR t.rs).flatten.foldl ins [] := rfl
    rw [← e2, flat_len] at e
    have e3 : len1 (runsR t.rs) = totR t.rs := runsR_tot t.rs
    have := drp_len (pt (runsR t.rs))
    simp only [List.length_nil, Nat.zero_add] at e
    omega
  unfold flushR
  split
  · exact h.mono (Nat.le_refl _) (Nat.le_refl _) (by omega)
  · rename_i hne
    split
    · refine ⟨Nat.zero_le _, ?_, ?_⟩
      · show (-1 : Int) + 1 + 0 ≤ b; omega
      · show t.bl + _ + 800 * 0 ≤ _; omega
    · have e6 := cnt_le hB (drp (pt (runsR t.rs))).length
      refine ⟨?_, ?_, ?_⟩
      · show totR [_] ≤ a; rw [totR_one]; omega
      · have hh : high [((high t.rs).toNat, drp (pt (runsR t.rs)))] ≤ max (high t.rs) 0 := by
          refine high_le (by omega) (fun r hr => ?_)
          rw [List.mem_singleton] at hr; subst hr
          show (((high t.rs).toNat : Nat) : Int) ≤ _; omega
        show high [_] + 1 + (1 : Int) ≤ b
        have h0 : 0 ≤ high t.rs := by
          obtain ⟨x, hx⟩ := List.length_pos_iff_exists_mem.1 (Nat.pos_of_ne_zero hne)
          have := (high_spec t.rs).1 x hx; omega
        omega
      · show t.bl + _ + _ + 800 * 1 ≤ _; omega
end Go.Proofs.Ytkmnnfflibamnaa
