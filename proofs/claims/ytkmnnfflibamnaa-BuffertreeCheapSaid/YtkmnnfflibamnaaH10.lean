/- Buffer trees: what a tree's updates say, and that it stays small (plain law). -/
import Derived.Test.YtkmnnfflibamnaaH9
import Derived.Test.YtkmnnfflibamnaaG26
namespace Go.Proofs.Ytkmnnfflibamnaa
/-- The value that an entry stands for. -/
def vl (o : Option En) : Option Int := match o with
  | some x => if x.2.2 then none else some x.2.1
  | none => none
theorem lkR_snd : ∀ (rs : List (List En)) (k : Int), (lkR rs k).2 = lk rs.flatten k
  | [], _ => rfl
  | r :: rs, k => by
    rw [List.flatten_cons, lk_append]
    cases h : lk r k with
    | some e => rw [lkR_yes h]; rfl
    | none => rw [lkR_no h]; exact lkR_snd rs k
theorem lkR_le : ∀ (rs : List (List En)) (k : Int), (lkR rs k).1 ≤ rs.length
  | [], _ => Nat.le_refl _
  | r :: rs, k => by
    rw [List.length_cons]
    cases h : lk r k with
    | some e => rw [lkR_yes h]; show 1 ≤ _; omega
    | none => rw [lkR_no h]; have := lkR_le rs k; show (lkR rs k).1 + 1 ≤ _; omega
/-- All entries, the newest first. -/
def alT (lv : Lv) (buf : List En) : List En := buf ++ (newT lv).flatten
def Says (U : List En) (lv : Lv) (buf : List En) : Prop := ∀ k, vl (lk (alT lv buf) k) = vl (lk U.reverse k)
theorem Says.nil : Says [] [] [] := fun _ => rfl
theorem getT_says (t : TT) (buf : List En) (k : Int) : (getT t buf k).1.lv = t.lv ∧ (getT t buf k).2 = eVal (lk (alT t.lv buf) k) := by
  unfold getT alT
  rw [lk_append, ← lkR_snd]
  cases lk buf k <;> exact ⟨rfl, rfl⟩
theorem vl_eVal (o : Option En) : eVal o = match vl o with | some v => (v, 0) | none => (0, 12) := by
  unfold eVal vl
  cases o with
  | none => rfl
  | some x => dsimp only; split <;> rfl
theorem vl_or {a b c : Option En} (h : vl b = vl c) : vl (a.or b) = vl (a.or c) := by
  cases a with
  | some x => rfl
  | none => exact h
theorem lk_drp {l : List En} (h : Sd l) (k : Int) : vl (lk (drp l) k) = vl (lk l k) := by
  induction l with
  | nil => rfl
  | cons x l ih =>
    have hi := ih h.tail
    obtain ⟨x1, x2, x3⟩ := x
    unfold drp at hi ⊢
    rw [List.filter_cons]
    cases x3 with
    | true =>
      rw [if_neg (by simp), hi, lk_cons]
      dsimp only
      split
      · rename_i e
        subst e
        rw [lk_low h (Int.le_refl _)]; rfl
      · rfl
    | false =>
      rw [if_pos (by simp), lk_cons, lk_cons]
      dsimp only
      split
      · rfl
      · exact hi
theorem addL_cons (a : List (List En)) (l : Lv) (i : Nat) (r : List En) : addL (a :: l) (i + 1) r = a :: addL l i r := by
  unfold addL padL
  simp [Nat.add_sub_add_right]
theorem addL_nil (i : Nat) (r : List En) : addL [] (i + 1) r = [] :: addL [] i r := by
  unfold addL padL
  simp [List.replicate_succ]
theorem newT_addL : ∀ (i : Nat) (lv : Lv) (r : List En), newT (addL lv i r) = newT (lv.take i) ++ (r :: newT (lv.drop i))
  | 0, [], r => by simp [addL, padL, newT]
  | 0, a :: l, r => by simp [addL, padL, newT]
  | i + 1, [], r => by
    rw [addL_nil]
    have h := newT_addL i [] r
    unfold newT at h ⊢
    rw [List.flatMap_cons, h]; simp
  | i + 1, a :: l, r => by
    rw [addL_cons]
    have h := newT_addL i l r
    unfold newT at h ⊢
    rw [List.flatMap_cons, h]; simp
theorem newT_hi {lv : Lv} {i : Nat} (h : hiT lv i = false) : newT (lv.drop (i + 1)) = [] := by
  unfold newT
  rw [List.flatMap_eq_nil_iff]
  intro l hl
  unfold hiT at h
  rw [List.any_eq_false] at h
  have := h l hl
  simp at this
  rw [this]; rfl
theorem lk_jn (runs : List (List En)) (k : Int) : lk (jn runs) k = lk runs.reverse.flatten k := by
  unfold jn
  rw [lk_foldN _ _ _ List.Pairwise.nil, lk_nil]; rfl
theorem says_merge {B i : Nat} {t : TT} (hi : i < t.lv.length) (buf : List En) (k : Int) : vl (lk (alT (mergeT B t i).lv buf) k) = vl (lk (alT t.lv buf) k) := by
  have hl : t.lv[i]? = some (t.lv.getD i []) := by rw [List.getD_eq_getElem?_getD, List.getElem?_eq_getElem hi]; rfl
  have e1 : newT (mergeT B t i).lv = newT (t.lv.take i) ++ ((if (resT t.lv i).length = 0 then [] else [resT t.lv i]) ++ newT (t.lv.drop (i + 1))) := by
    unfold mergeT
    have hi2 : i < (t.lv.set i []).length := by rw [List.length_set]; exact hi
    have hs : (t.lv.set i [])[i]? = some [] := by rw [List.getElem?_set_self (by exact hi)]
    have ht : newT ((t.lv.set i []).take i) = newT (t.lv.take i) := by rw [List.take_set_of_le (Nat.le_refl _)]
    have hd : (t.lv.set i []).drop (i + 1) = t.lv.drop (i + 1) := by rw [List.drop_set_of_lt (by omega)]
    dsimp only
    split
    · show newT (t.lv.set i []) = _
      rw [newT_split hs, ht, hd]; rfl
    · show newT (addL (t.lv.set i []) (i + 1) (resT t.lv i)) = _
      rw [newT_addL, newT_take hs, ht, hd]; simp
  have e2 : (if (resT t.lv i).length = 0 then [] else [resT t.lv i] : List (List En)).flatten = resT t.lv i := by
    split
    · rename_i h; rw [List.length_eq_zero_iff.1 h]; rfl
    · simp
  unfold alT
  rw [e1, newT_split hl]
  simp only [List.flatten_append, lk_append, e2]
  refine vl_or (vl_or ?_)
  unfold resT
  cases hh : hiT t.lv i with
  | true => rw [if_pos rfl, lk_jn]
  | false =>
    rw [if_neg (by simp), newT_hi hh, ← lk_jn]
    show vl ((lk _ k).or none) = vl ((lk _ k).or none)
    rw [Option.or_none, Option.or_none]
    exact lk_drp (jn_sd _) k
theorem says_loop {B F : Nat} (hF : 2 ≤ F) : ∀ (n : Nat) (t : TT) (buf : List En) (k : Int), vl (lk (alT (loopT B F n t).lv buf) k) = vl (lk (alT t.lv buf) k)
  | 0, _, _, _ => rfl
  | n + 1, t, buf, k => by
    unfold loopT
    cases h : fullT F t.lv with
    | none => rfl
    | some i =>
      dsimp only
      rw [says_loop hF n (mergeT B t i) buf k, says_merge (fullT_some h).1]
theorem says_spill {B F : Nat} (hF : 2 ≤ F) (t : TT) (buf : List En) (k : Int) : vl (lk (alT (spillT B F t buf).lv []) k) = vl (lk (alT t.lv buf) k) := by
  unfold spillT
  rw [says_loop hF]
  unfold alT addT
  dsimp only
  rw [newT_addL]
  simp [newT]
theorem Says.upd {B F M : Nat} (hF : 2 ≤ F) {U : List En} {t : TT} {buf : List En} (h : Says U t.lv buf) (hs : Sd buf) (e : En) : Says (U ++ [e]) (updT B F M t buf e).1.lv (updT B F M t buf e).2 := by
  have key : ∀ k, vl (lk (alT t.lv (ins buf e)) k) = vl (lk (U ++ [e]).reverse k) := fun k => by
    have h1 := h k
    unfold alT at h1 ⊢
    rw [lk_append] at h1 ⊢
    rw [lk_ins hs, List.reverse_append, List.reverse_singleton, List.singleton_append, lk_cons]
    split
    · rfl
    · exact h1
  unfold updT
  split
  · exact fun k => (says_spill hF t _ k).trans (key k)
  · exact key
theorem Says.fsp {B F : Nat} (hF : 2 ≤ F) {U : List En} {t : TT} {buf : List En} (h : Says U t.lv buf) : Says U (fspT B F t buf).lv [] := by
  unfold fspT
  split
  · rename_i h0
    rw [List.length_eq_zero_iff.1 h0] at h
    exact h
  · exact fun k => (says_spill hF t _ k).trans (h k)
theorem runsT_newT (lv : Lv) : (runsT lv).reverse = newT lv := by
  unfold runsT newT
  rw [List.reverse_flatten, List.map_reverse, List.reverse_reverse, List.flatMap_def]
theorem Says.flush {B : Nat} {U : List En} {t : TT} (h : Says U t.lv []) (k : Nat) : Says U (flushT B t k).lv [] := by
  have key : ∀ z, vl (lk (drp (jn (runsT t.lv))) z) = vl (lk U.reverse z) := fun z => by
    rw [lk_drp (jn_sd _), lk_jn, runsT_newT]
    exact h z
  unfold flushT
  split
  · exact h
  · split
    · rename_i h0
      intro z
      rw [← key z, List.length_eq_zero_iff.1 h0]; rfl
    · intro z
      rw [← key z]
      unfold alT addT
      dsimp only
      rw [newT_addL]
      simp [newT]
/-- The list has what the tree says. -/
theorem listT_lk {lv : Lv} {buf : List En} (k : Int) : vl (lk (listT lv buf) k) = vl (lk (alT lv buf) k) := by
  unfold listT
  rw [lk_drp (jn_sd _), lk_jn, List.reverse_append, runsT_newT]; rfl
theorem listT_sd (lv : Lv) (buf : List En) : Sd (listT lv buf) := (jn_sd _).drp
theorem listT_live {lv : Lv} {buf : List En} {e : En} (h : e ∈ listT lv buf) : e.2.2 = false := by
  have := (List.mem_filter.1 h).2
  simpa using this
theorem PI.get {t : TT} {a b c : Nat} (h : PI t a b c) (buf : List En) (k : Int) : PI (getT t buf k).1 a b (c + b) := by
  unfold getT
  cases lk buf k with
  | some e => exact h.mono (Nat.le_refl _) (Nat.le_refl _) (by omega)
  | none =>
    have h1 := lkR_le (newT t.lv) k
    rw [newT_len] at h1
    have h2 := h.len
    have h3 := h.mv
    exact ⟨h.sd, h.ne, h.tot, h.len, by show t.mv + (lkR (newT t.lv) k).1 + 800 * runsN t.lv ≤ c + b; omega⟩
theorem PR.get {r : RT} {a b c : Nat} (h : PR r a b c) (buf : List En) (k : Int) : PR (getR r buf k).1 a b (c + b) := by
  unfold getR
  cases lk buf k with
  | some e => exact h.mono (Nat.le_refl _) (Nat.le_refl _) (by omega)
  | none =>
    have h1 := lkR_le (newR r.rs) k
    have h4 := newRL_le r.rs (high r.rs + 1).toNat
    have h5 : newR r.rs = newRL r.rs (high r.rs + 1).toNat := rfl
    rw [← h5] at h4
    have h2 := h.len
    have h3 := h.bl
    have h6 := (high_spec r.rs).2.2
    exact ⟨h.tot, h.len, by show r.bl + (lkR (newR r.rs) k).1 + 800 * r.rs.length ≤ c + b; omega⟩
/-- How far steps have come, on both sides. -/
def UQ (n : Nat) (t : TT) (r : RT) (buf : List En) : Prop := ∃ a, PI t a (2 * n) (5000 * n) ∧ PR r a (2 * n) (5000 * n) ∧ a + buf.length ≤ n ∧ Sd buf ∧ Cr t r
theorem UQ.nil : UQ 0 ⟨[], 0⟩ ⟨[], 0⟩ [] := ⟨0, PI.nil, PR.nil, Nat.le_refl _, List.Pairwise.nil, Cr.nil⟩
theorem UQ.succ {n : Nat} {t : TT} {r : RT} {buf : List En} (h : UQ n t r buf) : UQ (n + 1) t r buf := by
  obtain ⟨a, h1, h2, h3, h4, h5⟩ := h
  exact ⟨a, h1.mono (Nat.le_refl _) (by omega) (by omega), h2.mono (Nat.le_refl _) (by omega) (by omega), by omega, h4, h5⟩
theorem PI.upd2 {B F M : Nat} (hF : 2 ≤ F) (hB : 1 ≤ B) {t : TT} {r : RT} {buf : List En} {a b c : Nat} (e : En) (h : PI t a b c) (h' : PR r a b c) (hs : Sd buf) (ha : a + buf.length ≤ 399) :
    ∃ a', PI (updT B F M t buf e).1 a' (b + 2) (c + 1200) ∧ PR (updR B F M r buf e).1 a' (b + 2) (c + 1200) ∧ a' + (updT B F M t buf e).2.length ≤ a + buf.length + 1 ∧ Sd (updT B F M t buf e).2 := by
  have hl := ins_len (l := buf) e
  unfold updT updR
  split
  · exact ⟨a + (ins buf e).length, h.spill hF hB (hs.ins e) (ins_pos buf e) (by omega), h'.spill hF hB (by omega), by show _ + 0 ≤ _; omega, List.Pairwise.nil⟩
  · exact ⟨a, h.mono (Nat.le_refl _) (by omega) (by omega), h'.mono (Nat.le_refl _) (by omega) (by omega), by show _ + (ins buf e).length ≤ _; omega, hs.ins e⟩
theorem UQ.upd {n B F M : Nat} (hF : 2 ≤ F) (hB : 1 ≤ B) {t : TT} {r : RT} {buf : List En} (h : UQ n t r buf) (hn : n ≤ 399) (e : En) : UQ (n + 1) (updT B F M t buf e).1 (updR B F M r buf e).1 (updT B F M t buf e).2 ∧ (updT B F M t buf e).2 = (updR B F M r buf e).2 := by
  obtain ⟨a, h1, h2, h3, h4, h5⟩ := h
  obtain ⟨a', p1, p2, p3, p4⟩ := h1.upd2 (M := M) hF hB e h2 h4 (by omega)
  have hc := h5.upd (B := B) (M := M) hF h4 e
  exact ⟨⟨a', p1.mono (Nat.le_refl _) (by omega) (by omega), p2.mono (Nat.le_refl _) (by omega) (by omega), by omega, p4, hc.1⟩, hc.2⟩
theorem UQ.get {n : Nat} {t : TT} {r : RT} {buf : List En} (h : UQ n t r buf) (hn : n ≤ 399) (k : Int) : UQ (n + 1) (getT t buf k).1 (getR r buf k).1 buf ∧ (getT t buf k).2 = (getR r buf k).2 := by
  obtain ⟨a, h1, h2, h3, h4, h5⟩ := h
  have hc := h5.get buf k
  exact ⟨⟨a, (h1.get buf k).mono (Nat.le_refl _) (by omega) (by omega), (h2.get buf k).mono (Nat.le_refl _) (by omega) (by omega), by omega, h4, hc.1⟩, hc.2⟩
theorem UQ.flush {n B F k : Nat} (hF : 2 ≤ F) (hB : 1 ≤ B) {t : TT} {r : RT} {buf : List En} (h : UQ n t r buf) (hn : n ≤ 399) (hk : IsH (fspT B F t buf).lv k) : UQ (n + 1) (flushT B (fspT B F t buf) k) (flushR B (fspR B F r buf)) [] := by
  obtain ⟨a, h1, h2, h3, h4, h5⟩ := h
  have hc := h5.fsp (B := B) hF h4
  have hp : PI (fspT B F t buf) (a + buf.length) (2 * n + 2) (5000 * n + 1200) ∧ PR (fspR B F r buf) (a + buf.length) (2 * n + 2) (5000 * n + 1200) := by
    unfold fspT fspR
    split
    · exact ⟨h1.mono (by omega) (by omega) (by omega), h2.mono (by omega) (by omega) (by omega)⟩
    · exact ⟨h1.spill hF hB h4 (by omega) (by omega), h2.spill hF hB (by omega)⟩
  exact ⟨a + buf.length, (hp.1.flush hB (by omega) hk).mono (Nat.le_refl _) (by omega) (by omega), (hp.2.flush hB (by omega)).mono (Nat.le_refl _) (by omega) (by omega), by show _ + 0 ≤ _; omega, List.Pairwise.nil, hc.flush (hc.isH hk)⟩
end Go.Proofs.Ytkmnnfflibamnaa
