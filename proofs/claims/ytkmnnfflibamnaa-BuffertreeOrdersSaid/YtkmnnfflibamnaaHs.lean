/- Common texts of this seat, one behind another. -/
import Derived.Test.YtkmnnfflibamnaaComAll
/- Sorted entries (plain law). -/
namespace Go.Proofs.Ytkmnnfflibamnaa
/-- Key, value, removed. -/
abbrev En := Int × Int × Bool
def Sd (l : List En) : Prop := l.Pairwise (fun a b => a.1 < b.1)
def lk (l : List En) (k : Int) : Option En := l.find? (fun e => e.1 == k)
theorem lk_cons (x : En) (l : List En) (k : Int) : lk (x :: l) k = if x.1 = k then some x else lk l k := by
  unfold lk
  rw [List.find?_cons]
  by_cases c : x.1 = k
  · rw [if_pos c, beq_iff_eq.2 c]
  · rw [if_neg c, beq_eq_false_iff_ne.2 c]
theorem lk_nil (k : Int) : lk [] k = none := rfl
theorem lk_append (l m : List En) (k : Int) : lk (l ++ m) k = (lk l k).or (lk m k) := by unfold lk; rw [List.find?_append]
theorem lk_key {l : List En} {k : Int} {e : En} (h : lk l k = some e) : e.1 = k ∧ e ∈ l := by
  unfold lk at h
  have h1 := List.find?_some h
  exact ⟨by simpa using h1, List.mem_of_find?_eq_some h⟩
theorem lk_none {l : List En} {k : Int} : lk l k = none ↔ ∀ e ∈ l, e.1 ≠ k := by
  unfold lk
  rw [List.find?_eq_none]
  constructor
  · intro h e he; simpa using h e he
  · intro h e he; simpa using h e he
theorem Sd.lt {x : En} {l : List En} (h : Sd (x :: l)) : ∀ e ∈ l, x.1 < e.1 := (List.pairwise_cons.1 h).1
theorem Sd.tail {x : En} {l : List En} (h : Sd (x :: l)) : Sd l := (List.pairwise_cons.1 h).2
theorem lk_mem {l : List En} (h : Sd l) {e : En} (he : e ∈ l) : lk l e.1 = some e := by
  induction l with
  | nil => cases he
  | cons x l ih =>
    rw [lk_cons]
    rcases List.mem_cons.1 he with rfl | he
    · rw [if_pos rfl]
    · have := h.lt e he
      rw [if_neg (by omega)]; exact ih h.tail he
theorem lk_low {x : En} {l : List En} (h : Sd (x :: l)) {k : Int} (hk : k ≤ x.1) : lk l k = none := lk_none.2 (fun e he => by have := h.lt e he; omega)
theorem Sd.ext : ∀ {l m : List En}, Sd l → Sd m → (∀ k, lk l k = lk m k) → l = m
  | [], [], _, _, _ => rfl
  | [], y :: m, _, _, h => by have := h y.1; rw [lk_nil, lk_cons, if_pos rfl] at this; cases this
  | x :: l, [], _, _, h => by have := h x.1; rw [lk_nil, lk_cons, if_pos rfl] at this; cases this
  | x :: l, y :: m, hl, hm, h => by
    have hxy : x.1 = y.1 := by
      rcases Int.lt_trichotomy x.1 y.1 with c | c | c
      · have := h x.1
        rw [lk_cons, if_pos rfl, lk_cons, if_neg (by omega), lk_low hm (by omega)] at this; cases this
      · exact c
      · have := h y.1
        rw [lk_cons, if_neg (by omega), lk_low hl (by omega), lk_cons, if_pos rfl] at this; cases this
    have hx := h x.1
    rw [lk_cons, if_pos rfl, lk_cons, if_pos hxy.symm] at hx
    injection hx with hx
    subst hx
    congr 1
    refine Sd.ext hl.tail hm.tail (fun k => ?_)
    have hk := h k
    rw [lk_cons, lk_cons] at hk
    by_cases c : x.1 = k
    · subst c; rw [lk_low hl (Int.le_refl _), lk_low hm (Int.le_refl _)]
    · rw [if_neg c, if_neg c] at hk; exact hk
/-- Entries with a further one, in place of the one with its key. -/
def ins : List En → En → List En
  | [], e => [e]
  | x :: l, e => if x.1 < e.1 then x :: ins l e else if x.1 = e.1 then e :: l else e :: x :: l
theorem ins_mem {l : List En} {e y : En} (h : y ∈ ins l e) : y = e ∨ y ∈ l := by
  induction l with
  | nil => exact .inl (by simpa [ins] using h)
  | cons x l ih =>
    unfold ins at h
    split at h
    · rcases List.mem_cons.1 h with rfl | h
      · exact .inr (List.mem_cons_self ..)
      · exact (ih h).imp id (List.mem_cons_of_mem _)
    · split at h
      · rcases List.mem_cons.1 h with rfl | h
        · exact .inl rfl
        · exact .inr (List.mem_cons_of_mem _ h)
      · rcases List.mem_cons.1 h with rfl | h
        · exact .inl rfl
        · exact .inr h
theorem Sd.ins {l : List En} (h : Sd l) (e : En) : Sd (ins l e) := by
  induction l with
  | nil => exact List.pairwise_singleton _ _
  | cons x l ih =>
    unfold Go.Proofs.Ytkmnnfflibamnaa.ins
    split
    · rename_i c
      refine List.pairwise_cons.2 ⟨fun y hy => ?_, ih h.tail⟩
      rcases ins_mem hy with rfl | hy
      · exact c
      · exact h.lt y hy
    · split
      · rename_i c1 c2
        exact List.pairwise_cons.2 ⟨fun y hy => by have := h.lt y hy; omega, h.tail⟩
      · rename_i c1 c2
        refine List.pairwise_cons.2 ⟨fun y hy => ?_, h⟩
        rcases List.mem_cons.1 hy with rfl | hy
        · omega
        · have := h.lt y hy; omega
theorem lk_ins {l : List En} (h : Sd l) (e : En) (k : Int) : lk (ins l e) k = if e.1 = k then some e else lk l k := by
  induction l with
  | nil => unfold ins; rw [lk_cons]
  | cons x l ih =>
    unfold ins
    split
    · rename_i c
      rw [lk_cons, ih h.tail, lk_cons]
      by_cases c1 : x.1 = k
      · rw [if_pos c1, if_neg (by omega), if_pos c1]
      · rw [if_neg c1, if_neg c1]
    · split
      · rename_i c1 c2
        rw [lk_cons, lk_cons]
        by_cases c3 : e.1 = k
        · rw [if_pos c3, if_pos c3]
        · rw [if_neg c3, if_neg c3, if_neg (by omega)]
      · rw [lk_cons]
/-- .. if its key is new. -/
def insN (l : List En) (e : En) : List En := if (lk l e.1).isSome then l else ins l e
theorem Sd.insN {l : List En} (h : Sd l) (e : En) : Sd (insN l e) := by
  unfold Go.Proofs.Ytkmnnfflibamnaa.insN; split
  · exact h
  · exact h.ins e
theorem lk_insN {l : List En} (h : Sd l) (e : En) (k : Int) : lk (insN l e) k = (lk l k).or (if e.1 = k then some e else none) := by
  unfold insN
  by_cases c : e.1 = k
  · subst c
    cases hl : lk l e.1 with
    | none => rw [if_neg (by simp), lk_ins h, if_pos rfl, if_pos rfl]; rfl
    | some x => rw [if_pos (by simp), hl]; rfl
  · rw [if_neg c]
    split
    · cases lk l k <;> rfl
    · rw [lk_ins h, if_neg c]; cases lk l k <;> rfl
theorem foldN_sd (m : List En) : ∀ l : List En, Sd l → Sd (m.foldl insN l) := by
  induction m with
  | nil => intro l h; exact h
  | cons x m ih => intro l h; exact ih _ (h.insN x)
theorem lk_foldN (m : List En) (k : Int) : ∀ l : List En, Sd l → lk (m.foldl insN l) k = (lk l k).or (lk m k) := by
  induction m with
  | nil => intro l _; rw [List.foldl_nil, lk_nil, Option.or_none]
  | cons x m ih =>
    intro l h
    rw [List.foldl_cons, ih _ (h.insN x), lk_insN h, Option.or_assoc, lk_cons]
    congr 1
    split <;> rfl
theorem foldI_sd (m : List En) : ∀ l : List En, Sd l → Sd (m.foldl ins l) := by
  induction m with
  | nil => intro l h; exact h
  | cons x m ih => intro l h; exact ih _ (h.ins x)
theorem lk_foldI (m : List En) (k : Int) : ∀ l : List En, Sd l → lk (m.foldl ins l) k = (lk m.reverse k).or (lk l k) := by
  induction m with
  | nil => intro l _; rfl
  | cons x m ih =>
    intro l h
    rw [List.foldl_cons, ih _ (h.ins x), lk_ins h, List.reverse_cons, lk_append, lk_cons, lk_nil, Option.or_assoc]
    congr 1
    split <;> rfl
theorem lk_rev {l : List En} (h : Sd l) (k : Int) : lk l.reverse k = lk l k := by
  induction l with
  | nil => rfl
  | cons x l ih =>
    rw [List.reverse_cons, lk_append, ih h.tail, lk_cons, lk_cons, lk_nil]
    by_cases c : x.1 = k
    · rw [if_pos c, if_pos c, lk_low h (by omega)]; rfl
    · rw [if_neg c, if_neg c]; cases lk l k <;> rfl
/-- What runs say, the oldest first: the newest entry of each key. -/
def jn (runs : List (List En)) : List En := runs.reverse.flatten.foldl insN []
def pt (runs : List (List En)) : List En := runs.flatten.foldl ins []
theorem lk_flat (k : Int) : ∀ runs : List (List En), (∀ r ∈ runs, Sd r) → lk runs.flatten.reverse k = lk runs.reverse.flatten k
  | [], _ => rfl
  | r :: runs, h => by
    rw [List.flatten_cons, List.reverse_append, lk_append, lk_flat k runs (fun r' hr => h r' (List.mem_cons_of_mem _ hr)), lk_rev (h r (List.mem_cons_self ..)), List.reverse_cons, List.flatten_append, lk_append]
    simp
theorem jn_pt {runs : List (List En)} (h : ∀ r ∈ runs, Sd r) : jn runs = pt runs := by
  refine Sd.ext (foldN_sd _ _ List.Pairwise.nil) (foldI_sd _ _ List.Pairwise.nil) (fun k => ?_)
  unfold jn pt
  rw [lk_foldN _ _ _ List.Pairwise.nil, lk_foldI _ _ _ List.Pairwise.nil, lk_nil, lk_flat k runs h, Option.or_none]; rfl
theorem jn_sd (runs : List (List En)) : Sd (jn runs) := foldN_sd _ _ List.Pairwise.nil
/-- The entries that are there. -/
def drp (l : List En) : List En := l.filter (fun e => !e.2.2)
theorem Sd.drp {l : List En} (h : Sd l) : Sd (drp l) := List.Pairwise.filter _ h
end Go.Proofs.Ytkmnnfflibamnaa
/- Buffer trees: the tree and its reference (plain law). -/
namespace Go.Proofs.Ytkmnnfflibamnaa
def cnt (B n : Nat) : Nat := (n + B - 1) / B
def cnts (B : Nat) (runs : List (List En)) : Nat := (runs.map (fun r => cnt B r.length)).sum
theorem cnts_app (B : Nat) (a b : List (List En)) : cnts B (a ++ b) = cnts B a + cnts B b := by unfold cnts; rw [List.map_append, List.sum_append]
abbrev Lv := List (List (List En))
def padL (lv : Lv) (n : Nat) : Lv := lv ++ List.replicate (n - lv.length) []
def addL (lv : Lv) (i : Nat) (r : List En) : Lv := (padL lv (i + 1)).set i (lv.getD i [] ++ [r])
theorem padL_getD (lv : Lv) (n j : Nat) : (padL lv n).getD j [] = lv.getD j [] := by
  unfold padL
  rw [List.getD_eq_getElem?_getD, List.getD_eq_getElem?_getD, List.getElem?_append]
  split
  · rfl
  · rename_i h
    rw [List.getElem?_replicate, List.getElem?_eq_none (by omega)]
    split <;> rfl
theorem padL_len (lv : Lv) (n : Nat) : (padL lv n).length = max lv.length n := by unfold padL; rw [List.length_append, List.length_replicate]; omega
theorem addL_len (lv : Lv) (i : Nat) (r : List En) : (addL lv i r).length = max lv.length (i + 1) := by unfold addL; rw [List.length_set, padL_len]
theorem set_getD (lv : Lv) (i j : Nat) (x : List (List En)) (hi : i < lv.length) : (lv.set i x).getD j [] = if j = i then x else lv.getD j [] := by
  rw [List.getD_eq_getElem?_getD, List.getD_eq_getElem?_getD, List.getElem?_set]
  by_cases c : i = j
  · subst c; rw [if_pos rfl, if_pos hi, if_pos rfl]; rfl
  · rw [if_neg c, if_neg (Ne.symm c)]
theorem addL_getD (lv : Lv) (i j : Nat) (r : List En) : (addL lv i r).getD j [] = if j = i then lv.getD i [] ++ [r] else lv.getD j [] := by
  unfold addL
  rw [set_getD _ _ _ _ (by rw [padL_len]; omega), padL_getD]
structure TT where
  lv : Lv
  mv : Nat
def hiT (lv : Lv) (i : Nat) : Bool := (lv.drop (i + 1)).any (fun l => decide (0 < l.length))
def resT (lv : Lv) (i : Nat) : List En := if hiT lv i then jn (lv.getD i []) else drp (jn (lv.getD i []))
def addT (B : Nat) (t : TT) (i : Nat) (r : List En) : TT := ⟨addL t.lv i r, t.mv + cnt B r.length⟩
def mergeT (B : Nat) (t : TT) (i : Nat) : TT :=
  let t1 : TT := ⟨t.lv.set i [], t.mv + cnts B (t.lv.getD i [])⟩
  if (resT t.lv i).length = 0 then t1 else addT B t1 (i + 1) (resT t.lv i)
def fullT (F : Nat) (lv : Lv) : Option Nat := lv.findIdx? (fun l => decide (F ≤ l.length))
def runsN (lv : Lv) : Nat := (lv.map List.length).sum
def loopT (B F : Nat) : Nat → TT → TT
  | 0, t => t
  | n + 1, t => match fullT F t.lv with
    | none => t
    | some i => loopT B F n (mergeT B t i)
def spillT (B F : Nat) (t : TT) (buf : List En) : TT := loopT B F (runsN (addT B t 0 buf).lv) (addT B t 0 buf)
theorem runsN_app (a b : Lv) : runsN (a ++ b) = runsN a + runsN b := by unfold runsN; rw [List.map_append, List.sum_append]
theorem runsN_rep (n : Nat) : runsN (List.replicate n []) = 0 := by
  induction n with
  | zero => rfl
  | succ n ih => rw [List.replicate_succ]; unfold runsN at ih ⊢; rw [List.map_cons, List.sum_cons, ih]; rfl
theorem runsN_set : ∀ (lv : Lv) (i : Nat) (x : List (List En)), i < lv.length → runsN (lv.set i x) + (lv.getD i []).length = runsN lv + x.length
  | [], i, x, h => by simp at h
  | y :: lv, 0, x, _ => by
    unfold runsN; rw [List.set_cons_zero, List.map_cons, List.map_cons, List.sum_cons, List.sum_cons]; show _ + y.length = _; omega
  | y :: lv, i + 1, x, h => by
    have := runsN_set lv i x (by simpa using h)
    unfold runsN at this ⊢
    rw [List.set_cons_succ, List.map_cons, List.map_cons, List.sum_cons, List.sum_cons]
    show _ + (lv.getD i []).length = _
    omega
theorem runsN_add (lv : Lv) (i : Nat) (r : List En) : runsN (addL lv i r) = runsN lv + 1 := by
  unfold addL
  have h := runsN_set (padL lv (i + 1)) i (lv.getD i [] ++ [r]) (by rw [padL_len]; omega)
  rw [padL_getD, List.length_append, List.length_singleton] at h
  have e : runsN (padL lv (i + 1)) = runsN lv := by unfold padL; rw [runsN_app, runsN_rep]; omega
  omega
theorem fullT_some {F : Nat} {lv : Lv} {i : Nat} (h : fullT F lv = some i) : i < lv.length ∧ F ≤ (lv.getD i []).length ∧ ∀ j, j < i → (lv.getD j []).length < F := by
  unfold fullT at h
  rw [List.findIdx?_eq_some_iff_getElem] at h
  obtain ⟨h1, h2, h3⟩ := h
  refine ⟨h1, ?_, fun j hj => ?_⟩
  · rw [List.getD_eq_getElem?_getD, List.getElem?_eq_getElem h1]; simpa using h2
  · rw [List.getD_eq_getElem?_getD, List.getElem?_eq_getElem (by omega)]
    have := h3 j hj
    simpa using this
theorem fullT_none {F : Nat} {lv : Lv} (h : fullT F lv = none) (hF : 0 < F) (j : Nat) : (lv.getD j []).length < F := by
  unfold fullT at h
  rw [List.findIdx?_eq_none_iff] at h
  rw [List.getD_eq_getElem?_getD]
  cases hj : lv[j]? with
  | none => exact hF
  | some l =>
    have := h l (List.mem_of_getElem? hj)
    simpa using this
theorem mergeT_runs {B F i : Nat} {t : TT} (hF : 2 ≤ F) (h : fullT F t.lv = some i) : runsN (mergeT B t i).lv + 1 ≤ runsN t.lv := by
  obtain ⟨h1, h2, _⟩ := fullT_some h
  have e := runsN_set t.lv i [] h1
  simp only [List.length_nil] at e
  unfold mergeT
  dsimp only
  split
  · show runsN (t.lv.set i []) + 1 ≤ _; omega
  · show runsN (addL (t.lv.set i []) (i + 1) _) + 1 ≤ _
    rw [runsN_add]; omega
/-- With fuel for each run the loop comes to its end. -/
theorem loopT_end {B F : Nat} (hF : 2 ≤ F) : ∀ (n : Nat) (t : TT), runsN t.lv ≤ n → fullT F (loopT B F n t).lv = none
  | 0, t, h => by
    unfold loopT
    cases hf : fullT F t.lv with
    | none => rfl
    | some i =>
      have := mergeT_runs (B := B) hF hf
      omega
  | n + 1, t, h => by
    unfold loopT
    cases hf : fullT F t.lv with
    | none => exact hf
    | some i =>
      have := mergeT_runs (B := B) hF hf
      exact loopT_end hF n _ (by omega)
theorem loopT_fuel {B F : Nat} (hF : 2 ≤ F) : ∀ (n m : Nat) (t : TT), runsN t.lv ≤ n → runsN t.lv ≤ m → loopT B F n t = loopT B F m t
  | n, m, t, h1, h2 => by
    cases hf : fullT F t.lv with
    | none =>
      have e : ∀ k, loopT B F k t = t := fun k => by
        cases k with
        | zero => rfl
        | succ k => unfold loopT; rw [hf]
      rw [e, e]
    | some i =>
      have := mergeT_runs (B := B) hF hf
      cases n with
      | zero => omega
      | succ n =>
        cases m with
        | zero => omega
        | succ m =>
          unfold loopT
          rw [hf]
          exact loopT_fuel hF n m _ (by omega) (by omega)
/-- The reference: runs with their levels, newer ones behind. -/
abbrev Rs := List (Nat × List En)
def lvl (rs : Rs) (i : Nat) : List (List En) := (rs.filter (fun r => r.1 == i)).map (·.2)
theorem lvl_app (a b : Rs) (i : Nat) : lvl (a ++ b) i = lvl a i ++ lvl b i := by unfold lvl; rw [List.filter_append, List.map_append]
theorem lvl_one (k : Nat) (r : List En) (i : Nat) : lvl [(k, r)] i = if i = k then [r] else [] := by
  unfold lvl
  rw [List.filter_cons, List.filter_nil]
  by_cases c : i = k
  · subst c; simp
  · rw [if_neg c, if_neg (by simp; omega)]; rfl
def high (rs : Rs) : Int := rs.foldl (fun h r => if h < (r.1 : Int) then (r.1 : Int) else h) (-1)
theorem high_snoc (rs : Rs) (r : Nat × List En) : high (rs ++ [r]) = if high rs < (r.1 : Int) then (r.1 : Int) else high rs := by unfold high; rw [List.foldl_append]; rfl
theorem snoc_rec {α : Type} {P : List α → Prop} (h0 : P []) (h1 : ∀ l x, P l → P (l ++ [x])) (l : List α) : P l := by
  have : ∀ m : List α, P m.reverse := fun m => by
    induction m with
    | nil => exact h0
    | cons x m ih => rw [List.reverse_cons]; exact h1 _ _ ih
  have := this l.reverse
  rwa [List.reverse_reverse] at this
theorem high_spec (rs : Rs) : (∀ r ∈ rs, (r.1 : Int) ≤ high rs) ∧ (high rs = -1 ∨ ∃ r ∈ rs, (r.1 : Int) = high rs) ∧ -1 ≤ high rs := by
  refine snoc_rec (P := fun rs : Rs => (∀ r ∈ rs, (r.1 : Int) ≤ high rs) ∧ (high rs = -1 ∨ ∃ r ∈ rs, (r.1 : Int) = high rs) ∧ -1 ≤ high rs) ⟨fun r h => (by cases h), Or.inl rfl, (by decide)⟩ ?_ rs
  · intro l x ih
    obtain ⟨i1, i2, i3⟩ := ih
    rw [high_snoc]
    refine ⟨fun r hr => ?_, ?_, ?_⟩
    · rcases List.mem_append.1 hr with hr | hr
      · have := i1 r hr; split <;> omega
      · rw [List.mem_singleton] at hr; subst hr; split <;> omega
    · split
      · exact .inr ⟨x, List.mem_append_right _ (List.mem_singleton.2 rfl), rfl⟩
      · rcases i2 with h | ⟨r, hr, h⟩
        · exact .inl h
        · exact .inr ⟨r, List.mem_append_left _ hr, h⟩
    · split <;> omega
theorem lvl_pos {rs : Rs} {i : Nat} : 0 < (lvl rs i).length ↔ ∃ r ∈ rs, r.1 = i := by
  unfold lvl
  rw [List.length_map, List.length_pos_iff_exists_mem]
  constructor
  · rintro ⟨r, hr⟩
    rw [List.mem_filter] at hr
    exact ⟨r, hr.1, by simpa using hr.2⟩
  · rintro ⟨r, hr, h⟩
    exact ⟨r, List.mem_filter.2 ⟨hr, by simpa using h⟩⟩
theorem high_lvl {rs : Rs} {i : Nat} (h : 0 < (lvl rs i).length) : (i : Int) ≤ high rs := by
  obtain ⟨r, hr, rfl⟩ := lvl_pos.1 h
  exact (high_spec rs).1 r hr
def restR (rs : Rs) (i : Nat) : Rs := rs.filter (fun r => r.1 != i)
def resR (rs : Rs) (i : Nat) : List En := if high rs = i then drp (pt (lvl rs i)) else pt (lvl rs i)
structure RT where
  rs : Rs
  bl : Nat
def mergeR (B : Nat) (t : RT) (i : Nat) : RT :=
  if (resR t.rs i).length = 0 then ⟨restR t.rs i, t.bl + cnts B (lvl t.rs i)⟩ else ⟨restR t.rs i ++ [(i + 1, resR t.rs i)], t.bl + cnts B (lvl t.rs i) + cnt B (resR t.rs i).length⟩
theorem lvl_rest (rs : Rs) (i j : Nat) : lvl (restR rs i) j = if j = i then [] else lvl rs j := by
  unfold lvl restR
  rw [List.filter_filter]
  by_cases c : j = i
  · subst c
    rw [if_pos rfl, List.filter_eq_nil_iff.2 (fun r _ => by simp)]; rfl
  · rw [if_neg c]
    congr 1
    refine List.filter_congr (fun r _ => ?_)
    by_cases c2 : r.1 = j
    · simp [c2, c]
    · simp [c2]
/-- The same tree. -/
structure Cr (t : TT) (r : RT) : Prop where
  mv : t.mv = r.bl
  lv : ∀ i, t.lv.getD i [] = lvl r.rs i
  sd : ∀ i, ∀ l ∈ t.lv.getD i [], Sd l
theorem hiT_iff {lv : Lv} {i : Nat} : hiT lv i = true ↔ ∃ j, i < j ∧ 0 < (lv.getD j []).length := by
  unfold hiT
  rw [List.any_eq_true]
  constructor
  · rintro ⟨l, hl, h⟩
    obtain ⟨k, hk⟩ := List.getElem?_of_mem hl
    rw [List.getElem?_drop] at hk
    exact ⟨i + 1 + k, by omega, by rw [List.getD_eq_getElem?_getD, hk]; simpa using h⟩
  · rintro ⟨j, hj, h⟩
    rw [List.getD_eq_getElem?_getD] at h
    cases hl : lv[j]? with
    | none => rw [hl] at h; simp at h
    | some l =>
      rw [hl] at h
      refine ⟨l, List.mem_of_getElem? (i := j - (i + 1)) ?_, by simpa using h⟩
      rw [List.getElem?_drop, show i + 1 + (j - (i + 1)) = j by omega]; exact hl
theorem Cr.res {t : TT} {r : RT} (h : Cr t r) {i : Nat} (hi : 0 < (t.lv.getD i []).length) : resT t.lv i = resR r.rs i := by
  unfold resT resR
  rw [h.lv i] at hi ⊢
  rw [jn_pt (fun l hl => h.sd i l (by rw [h.lv i]; exact hl))]
  obtain ⟨g1, g2, g3⟩ := high_spec r.rs
  have hhi := high_lvl hi
  by_cases c : hiT t.lv i = true
  · obtain ⟨j, hj, hp⟩ := hiT_iff.1 c
    rw [h.lv j] at hp
    have := high_lvl hp
    rw [if_pos c, if_neg (by omega)]
  · have hh : high r.rs = (i : Int) := by
      rcases g2 with e | ⟨x, hx, e⟩
      · omega
      · by_cases c2 : x.1 ≤ i
        · omega
        · exact absurd (hiT_iff.2 ⟨x.1, by omega, by rw [h.lv]; exact lvl_pos.2 ⟨x, hx, rfl⟩⟩) c
    rw [if_neg c, if_pos hh]
theorem resT_sd (lv : Lv) (i : Nat) : Sd (resT lv i) := by
  unfold resT; split
  · exact jn_sd _
  · exact (jn_sd _).drp
theorem Cr.merge {B : Nat} {t : TT} {r : RT} (h : Cr t r) {i : Nat} (hl : i < t.lv.length) (hi : 0 < (t.lv.getD i []).length) : Cr (mergeT B t i) (mergeR B r i) := by
  have hr := h.res hi
  have h1 : ∀ j, (t.lv.set i []).getD j [] = lvl (restR r.rs i) j := fun j => by rw [set_getD _ _ _ _ hl, lvl_rest, h.lv]
  have s1 : ∀ j, ∀ l ∈ (t.lv.set i []).getD j [], Sd l := fun j l hl' => by
    rw [set_getD _ _ _ _ hl] at hl'
    split at hl'
    · cases hl'
    · exact h.sd j l hl'
  unfold mergeT mergeR
  rw [← hr]
  dsimp only
  split
  · exact ⟨by show _ + _ = _ + _; rw [h.mv, h.lv], h1, s1⟩
  · refine ⟨by show _ + _ + _ = _ + _ + _; rw [h.mv, h.lv], fun j => ?_, fun j l hj => ?_⟩
    · show (addL (t.lv.set i []) (i + 1) _).getD j [] = _
      rw [addL_getD, lvl_app, lvl_one, h1, h1]
      split
      · rename_i e; subst e; rfl
      · rw [List.append_nil]
    · change l ∈ (addL (t.lv.set i []) (i + 1) _).getD j [] at hj
      rw [addL_getD] at hj
      split at hj
      · rcases List.mem_append.1 hj with hj | hj
        · exact s1 _ l hj
        · rw [List.mem_singleton] at hj; subst hj; exact resT_sd _ _
      · exact s1 j l hj
def fullR (F : Nat) (rs : Rs) : Option Nat := (List.range (high rs + 1).toNat).find? (fun i => decide (F ≤ (lvl rs i).length))
theorem find_range {p : Nat → Bool} : ∀ n : Nat, ((List.range n).find? p = none ∧ ∀ j, j < n → p j = false) ∨ (∃ i, (List.range n).find? p = some i ∧ i < n ∧ p i = true ∧ ∀ j, j < i → p j = false)
  | 0 => Or.inl ⟨rfl, fun j h => by omega⟩
  | n + 1 => by
    rw [List.range_succ, List.find?_append]
    rcases find_range (p := p) n with ⟨e, h⟩ | ⟨i, e, h1, h2, h3⟩
    · rw [e]
      by_cases c : p n = true
      · exact .inr ⟨n, by rw [Option.none_or, List.find?_cons, c], by omega, c, h⟩
      · have c' : p n = false := by simpa using c
        refine .inl ⟨by rw [Option.none_or, List.find?_cons, c']; rfl, fun j hj => ?_⟩
        by_cases e : j = n
        · subst e; exact c'
        · exact h j (by omega)
    · rw [e]; exact .inr ⟨i, rfl, by omega, h2, h3⟩
theorem Cr.full {F : Nat} (hF : 0 < F) {t : TT} {r : RT} (h : Cr t r) : fullT F t.lv = fullR F r.rs := by
  unfold fullR
  cases hf : fullT F t.lv with
  | none =>
    have hn := fullT_none hf hF
    rcases find_range (p := fun i => decide (F ≤ (lvl r.rs i).length)) (high r.rs + 1).toNat with ⟨e, _⟩ | ⟨i, e, _, h2, _⟩
    · rw [e]
    · have := hn i
      rw [h.lv i] at this
      simp at h2; omega
  | some i =>
    obtain ⟨h1, h2, h3⟩ := fullT_some hf
    rw [h.lv i] at h2
    have hh := high_lvl (rs := r.rs) (i := i) (by omega)
    rcases find_range (p := fun i => decide (F ≤ (lvl r.rs i).length)) (high r.rs + 1).toNat with ⟨e, hn⟩ | ⟨k, e, k1, k2, k3⟩
    · have := hn i (by omega)
      simp at this; omega
    · rw [e]
      congr 1
      rcases Nat.lt_trichotomy i k with c | c | c
      · have := k3 i c; simp at this; omega
      · exact c
      · have := h3 k c
        rw [h.lv k] at this
        simp at k2; omega
end Go.Proofs.Ytkmnnfflibamnaa
/- Buffer trees: spill, flush, list (plain law). -/
namespace Go.Proofs.Ytkmnnfflibamnaa
def loopR (B F : Nat) : Nat → RT → RT
  | 0, r => r
  | n + 1, r => match fullR F r.rs with
    | none => r
    | some i => loopR B F n (mergeR B r i)
theorem Cr.loop {B F : Nat} (hF : 0 < F) : ∀ (n : Nat) {t : TT} {r : RT}, Cr t r → Cr (loopT B F n t) (loopR B F n r)
  | 0, t, r, h => h
  | n + 1, t, r, h => by
    unfold loopT loopR
    rw [← h.full hF]
    cases hf : fullT F t.lv with
    | none => exact h
    | some i =>
      obtain ⟨h1, h2, _⟩ := fullT_some hf
      exact Cr.loop hF n (h.merge h1 (by omega))
def addR (B : Nat) (r : RT) (buf : List En) : RT := ⟨r.rs ++ [(0, buf)], r.bl + cnt B buf.length⟩
theorem Cr.add {B : Nat} {t : TT} {r : RT} (h : Cr t r) {buf : List En} (hb : Sd buf) : Cr (addT B t 0 buf) (addR B r buf) := by
  refine ⟨by show _ + _ = _ + _; rw [h.mv], fun j => ?_, fun j l hj => ?_⟩
  · show (addL t.lv 0 buf).getD j [] = lvl (r.rs ++ [(0, buf)]) j
    rw [addL_getD, lvl_app, lvl_one]
    split
    · rename_i e; subst e; rw [h.lv]
    · rw [List.append_nil, h.lv]
  · change l ∈ (addL t.lv 0 buf).getD j [] at hj
    rw [addL_getD] at hj
    split at hj
    · rcases List.mem_append.1 hj with hj | hj
      · exact h.sd _ l hj
      · rw [List.mem_singleton] at hj; subst hj; exact hb
    · exact h.sd j l hj
def spillR (B F n : Nat) (r : RT) (buf : List En) : RT := loopR B F n (addR B r buf)
theorem Cr.spill {B F : Nat} (hF : 0 < F) {t : TT} {r : RT} (h : Cr t r) {buf : List En} (hb : Sd buf) : Cr (spillT B F t buf) (spillR B F (runsN (addT B t 0 buf).lv) r buf) :=
  (h.add hb).loop hF _
/-- All runs, the oldest first. -/
def runsT (lv : Lv) : List (List En) := lv.reverse.flatten
def runsR (rs : Rs) : List (List En) := (List.range (high rs + 1).toNat).reverse.flatMap (lvl rs)
theorem desc_eq (g : Nat → List (List En)) : ∀ (n k : Nat), (∀ i, n ≤ i → g i = []) → (List.range (n + k)).reverse.flatMap g = (List.range n).reverse.flatMap g
  | n, 0, _ => rfl
  | n, k + 1, h => by
    rw [← Nat.add_assoc, List.range_succ, List.reverse_append, List.flatMap_append, desc_eq g n k h]
    show g (n + k) ++ [] ++ _ = _
    rw [h (n + k) (by omega)]; rfl
theorem runsT_desc (lv : Lv) : runsT lv = (List.range lv.length).reverse.flatMap (fun i => lv.getD i []) := by
  unfold runsT
  refine snoc_rec (P := fun lv : Lv => lv.reverse.flatten = (List.range lv.length).reverse.flatMap (fun i => lv.getD i [])) rfl ?_ lv
  intro l x ih
  rw [List.reverse_append, List.length_append, List.length_singleton, List.range_succ, List.reverse_append, List.flatMap_append, List.flatten_append, ih]
  have e1 : ([x].reverse).flatten = [l.length].reverse.flatMap (fun i => (l ++ [x]).getD i []) := by
    show x ++ [] = (l ++ [x]).getD l.length [] ++ []
    rw [List.getD_eq_getElem?_getD, List.getElem?_append_right (Nat.le_refl _), Nat.sub_self]; rfl
  rw [e1]
  congr 1
  rw [List.flatMap_def, List.flatMap_def]
  congr 1
  refine List.map_congr_left (fun i hi => ?_)
  rw [List.mem_reverse, List.mem_range] at hi
  rw [List.getD_eq_getElem?_getD, List.getD_eq_getElem?_getD, List.getElem?_append_left hi]
theorem Cr.runs {t : TT} {r : RT} (h : Cr t r) : runsT t.lv = runsR r.rs := by
  rw [runsT_desc]
  unfold runsR
  have hg : (fun i => t.lv.getD i []) = lvl r.rs := funext h.lv
  rw [hg]
  have z1 : ∀ i, t.lv.length ≤ i → lvl r.rs i = [] := fun i hi => by rw [← h.lv, List.getD_eq_getElem?_getD, List.getElem?_eq_none hi]; rfl
  have z2 : ∀ i, (high r.rs + 1).toNat ≤ i → lvl r.rs i = [] := fun i hi => by
    rcases Nat.eq_zero_or_pos (lvl r.rs i).length with e | e
    · exact List.length_eq_zero_iff.1 e
    · have := high_lvl e; omega
  rw [← desc_eq _ t.lv.length (high r.rs + 1).toNat z1, Nat.add_comm, desc_eq _ _ _ z2]
/-- The height. -/
theorem Cr.height {t : TT} {r : RT} (h : Cr t r) (k : Nat) (hk : ∀ i, k ≤ i → (t.lv.getD i []).length = 0) (hk1 : k = 0 ∨ 0 < (t.lv.getD (k - 1) []).length) : (k : Int) = high r.rs + 1 := by
  obtain ⟨g1, g2, g3⟩ := high_spec r.rs
  rcases hk1 with rfl | hk1
  · rcases g2 with e | ⟨x, hx, e⟩
    · omega
    · have := hk x.1 (by omega)
      rw [h.lv] at this
      have := lvl_pos.2 ⟨x, hx, rfl⟩
      omega
  · have hk0 : 0 < k := by
      rcases Nat.eq_zero_or_pos k with e | e
      · subst e; have := hk 0 (Nat.le_refl _); rw [show 0 - 1 = 0 from rfl] at hk1; omega
      · exact e
    rw [h.lv] at hk1
    have h1 := high_lvl hk1
    rcases g2 with e | ⟨x, hx, e⟩
    · omega
    · by_cases c : k ≤ x.1
      · have := hk x.1 c
        rw [h.lv] at this
        have := lvl_pos.2 ⟨x, hx, rfl⟩
        omega
      · omega
theorem cnts_perm (B : Nat) : ∀ rs : Rs, ∀ n, (∀ r ∈ rs, r.1 < n) → ((List.range n).map (fun i => cnts B (lvl rs i))).sum = (rs.map (fun r => cnt B r.2.length)).sum
  | [], n, _ => by
    show ((List.range n).map (fun _ => 0)).sum = 0
    induction n with
    | zero => rfl
    | succ n ih => rw [List.range_succ, List.map_append, List.sum_append, ih (fun r h => by cases h)]; rfl
  | x :: rs, n, h => by
    have ih := cnts_perm B rs n (fun r hr => h r (List.mem_cons_of_mem _ hr))
    have e : ∀ i, cnts B (lvl (x :: rs) i) = cnts B (lvl rs i) + (if i = x.1 then cnt B x.2.length else 0) := fun i => by
      have h1 : lvl (x :: rs) i = lvl [x] i ++ lvl rs i := lvl_app [x] rs i
      rw [h1, cnts_app, Nat.add_comm]
      congr 1
      obtain ⟨k, l⟩ := x
      rw [lvl_one]
      split <;> rfl
    rw [show (fun i => cnts B (lvl (x :: rs) i)) = fun i => cnts B (lvl rs i) + (if i = x.1 then cnt B x.2.length else 0) from funext e, List.map_cons, List.sum_cons, ← ih]
    have hx := h x (List.mem_cons_self ..)
    clear h ih e
    have key : ∀ n, ((List.range n).map (fun i => cnts B (lvl rs i) + (if i = x.1 then cnt B x.2.length else 0))).sum = (if x.1 < n then cnt B x.2.length else 0) + ((List.range n).map (fun i => cnts B (lvl rs i))).sum := fun n => by
      induction n with
      | zero => rfl
      | succ n ih =>
        rw [List.range_succ, List.map_append, List.map_append, List.sum_append, List.sum_append, ih]
        simp only [List.map_cons, List.map_nil, List.sum_cons, List.sum_nil]
        by_cases c : n = x.1
        · rw [if_pos c, if_neg (by omega), if_pos (by omega)]; omega
        · rw [if_neg c]
          by_cases c2 : x.1 < n
          · rw [if_pos c2, if_pos (by omega)]; omega
          · rw [if_neg c2, if_neg (by omega)]; omega
    rw [key n, if_pos hx]
theorem cnts_desc (B : Nat) (g : Nat → List (List En)) : ∀ n, cnts B ((List.range n).reverse.flatMap g) = ((List.range n).map (fun i => cnts B (g i))).sum
  | 0 => rfl
  | n + 1 => by
    rw [List.range_succ, List.reverse_append, List.flatMap_append, cnts_app, cnts_desc B g n, List.map_append, List.sum_append, Nat.add_comm]
    congr 1
    show cnts B (g n ++ []) = cnts B (g n) + 0
    rw [List.append_nil]; rfl
theorem runsR_cnts (B : Nat) (rs : Rs) : cnts B (runsR rs) = (rs.map (fun r => cnt B r.2.length)).sum := by
  unfold runsR
  rw [cnts_desc]
  exact cnts_perm B rs _ (fun r hr => by have := (high_spec rs).1 r hr; omega)
/-- A flush. -/
def flushT (B : Nat) (t : TT) (h : Nat) : TT :=
  if (runsT t.lv).length = 0 then t
  else if (drp (jn (runsT t.lv))).length = 0 then ⟨[], t.mv + cnts B (runsT t.lv)⟩
  else addT B ⟨[], t.mv + cnts B (runsT t.lv)⟩ (h - 1) (drp (jn (runsT t.lv)))
def flushR (B : Nat) (r : RT) : RT :=
  if r.rs.length = 0 then r
  else if (drp (pt (runsR r.rs))).length = 0 then ⟨[], r.bl + (r.rs.map (fun x => cnt B x.2.length)).sum⟩
  else ⟨[((high r.rs).toNat, drp (pt (runsR r.rs)))], r.bl + (r.rs.map (fun x => cnt B x.2.length)).sum + cnt B (drp (pt (runsR r.rs))).length⟩
theorem Cr.sdR {t : TT} {r : RT} (h : Cr t r) : ∀ l ∈ runsT t.lv, Sd l := fun l hl => by
  rw [runsT_desc, List.mem_flatMap] at hl
  obtain ⟨i, _, hl⟩ := hl
  exact h.sd i l hl
theorem runsR_len (rs : Rs) : (runsR rs).length = 0 ↔ rs.length = 0 := by
  constructor
  · intro h
    rcases Nat.eq_zero_or_pos rs.length with e | e
    · exact e
    · obtain ⟨x, hx⟩ := List.length_pos_iff_exists_mem.1 e
      have hp := lvl_pos.2 ⟨x, hx, rfl⟩
      obtain ⟨l, hl⟩ := List.length_pos_iff_exists_mem.1 hp
      have : l ∈ runsR rs := by
        unfold runsR
        rw [List.mem_flatMap]
        refine ⟨x.1, ?_, hl⟩
        rw [List.mem_reverse, List.mem_range]
        have := (high_spec rs).1 x hx; omega
      have := List.length_pos_of_mem this; omega
  · intro h
    have : rs = [] := List.length_eq_zero_iff.1 h
    subst this; rfl
theorem Cr.flush {B : Nat} {t : TT} {r : RT} (h : Cr t r) {k : Nat} (hk : (k : Int) = high r.rs + 1) : Cr (flushT B t k) (flushR B r) := by
  unfold flushT flushR
  rw [jn_pt h.sdR, h.runs]
  have e0 : ((runsR r.rs).length = 0) = (r.rs.length = 0) := propext (runsR_len r.rs)
  simp only [e0]
  split
  · exact h
  · have z : ∀ i, ([] : Lv).getD i [] = lvl [] i := fun i => by rw [List.getD_nil]; rfl
    split
    · exact ⟨by show _ + _ = _ + _; rw [h.mv, runsR_cnts], z, fun i l hl => by rw [z] at hl; cases hl⟩
    · refine ⟨by show _ + _ + _ = _ + _ + _; rw [h.mv, runsR_cnts], fun j => ?_, fun j l hl => ?_⟩
      · show (addL [] (k - 1) _).getD j [] = lvl [((high r.rs).toNat, _)] j
        rw [addL_getD, lvl_one, show (high r.rs).toNat = k - 1 by omega]
        split <;> simp
      · change l ∈ (addL [] (k - 1) _).getD j [] at hl
        rw [addL_getD] at hl
        split at hl
        · rw [List.getD_nil, List.nil_append, List.mem_singleton] at hl
          subst hl
          exact (foldI_sd _ _ List.Pairwise.nil).drp
        · rw [List.getD_nil] at hl; cases hl
/-- All entries that are there. -/
def listT (lv : Lv) (buf : List En) : List En := drp (jn (runsT lv ++ [buf]))
theorem pt_app (a : List (List En)) (buf : List En) : pt (a ++ [buf]) = buf.foldl ins (pt a) := by
  unfold pt; rw [List.flatten_append, List.foldl_append]; simp
theorem Cr.list {t : TT} {r : RT} (h : Cr t r) {buf : List En} (hb : Sd buf) : listT t.lv buf = drp (buf.foldl ins (pt (runsR r.rs))) := by
  unfold listT
  rw [jn_pt (fun l hl => by
    rcases List.mem_append.1 hl with hl | hl
    · exact h.sdR l hl
    · rw [List.mem_singleton] at hl; subst hl; exact hb), h.runs, pt_app]
end Go.Proofs.Ytkmnnfflibamnaa
