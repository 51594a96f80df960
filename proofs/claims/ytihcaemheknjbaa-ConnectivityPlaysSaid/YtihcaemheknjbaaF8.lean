/- A forest with its history: Find, Union, Undo, Count, Depth in the words of partitions. -/
import Derived.Test.YtihcaemheknjbaaF7
namespace Go.Proofs.Ytihcaemheknjbaa
open Go.RowKit
attribute [local go_sem ↓] Go.wp_at_zero Go.wp_at_succ
/-- The partition with two sets put together. -/
def joinP (p : List Nat) (v u : Nat) : List Nat := mrg (min (p.getD v 0) (p.getD u 0)) (max (p.getD v 0) (p.getD u 0)) p
theorem joinP_len (p : List Nat) (v u : Nat) : (joinP p v u).length = p.length := by unfold joinP mrg; rw [List.length_map]
/-- The forest S, the changes K, the partitions before, and the present one. -/
inductive Hs (n : Nat) : FS → List Chg → List (List Nat) → List Nat → Prop
  | one {S : FS} {p : List Nat} : Pt n S p → Hs n S [] [] p
  | same {S : FS} {K : List Chg} {ps : List (List Nat)} {p : List Nat} : Hs n S K ps p → Hs n S (K ++ [none]) (ps ++ [p]) p
  | join {S S' : FS} {K : List Chg} {ps : List (List Nat)} {p p' : List Nat} {a b l za zb : Nat} : Hs n S K ps p → Pt n S' p' → S'.P[b]? = some a → S'.Z[a]? = some (za + zb) → S'.Z[b]? = some zb → za + zb ≤ n → a < n → b < n →
      (⟨S'.P.set b b, S'.Z.set a za, S'.L.set a l, S'.c + 1⟩ : FS) = S → S'.c ≤ n → Hs n S' (K ++ [some (b, l)]) (ps ++ [p]) p'
theorem Hs.pt {n : Nat} {S : FS} {K : List Chg} {ps : List (List Nat)} {p : List Nat} (h : Hs n S K ps p) : Pt n S p := by
  induction h with
  | one h => exact h
  | same _ ih => exact ih
  | join _ h _ _ _ _ _ _ _ _ _ => exact h
theorem Hs.len {n : Nat} {S : FS} {K : List Chg} {ps : List (List Nat)} {p : List Nat} (h : Hs n S K ps p) : K.length = ps.length := by
  induction h with
  | one h => rfl
  | same _ ih => simp [ih]
  | join _ _ _ _ _ _ _ _ _ _ ih => simp [ih]
theorem Pt.cle {n : Nat} {S : FS} {p : List Nat} (h : Pt n S p) : S.c ≤ n := by
  rw [h.cnt]
  unfold cntP
  have := List.countP_le_length (p := fun i => p[i]? == some i) (l := List.range p.length)
  rw [List.length_range] at this
  have e := h.lp
  omega
theorem range_get {n i : Nat} (h : i < n) : (List.range n)[i]? = some i := by rw [List.getElem?_eq_getElem (by simpa using h)]; simp
theorem pt_start (n : Nat) : Pt n ⟨List.range n, List.replicate n 1, List.range n, n⟩ (List.range n) where
  lP := by simp
  lZ := by simp
  lL := by simp
  lp := by simp
  ex v x hx := by
    have hv : v < n := by simpa using (List.getElem?_eq_some_iff.1 hx).1
    have e := range_get hv
    rw [e] at hx
    injection hx with hx
    subst hx
    refine ⟨v, .root e, e, ?_⟩
    have hc : (List.range n).count v = 1 := List.nodup_range.count (a := v) ▸ if_pos (List.mem_range.2 hv)
    rw [hc]
    simp [hv]
  inj v w r s x hv hw hr hs := by
    have e1 : v = x := by have h := range_get (show v < n by simpa using (List.getElem?_eq_some_iff.1 hv).1); rw [hv] at h; injection h with h; exact h.symm
    have e2 : w = x := by have h := range_get (show w < n by simpa using (List.getElem?_eq_some_iff.1 hw).1); rw [hw] at h; injection h with h; exact h.symm
    subst e1
    subst e2
    exact hr.uniq hs
  nm x hx := range_get (List.mem_range.1 hx)
  lo v x hx := by
    have h := range_get (show v < n by simpa using (List.getElem?_eq_some_iff.1 hx).1)
    rw [hx] at h; injection h with h; omega
  cnt := by
    unfold cntP
    show n = _
    rw [List.length_range]
    have : (List.range n).countP (fun i => (List.range n)[i]? == some i) = (List.range n).length := List.countP_eq_length.2 (fun i hi => by rw [range_get (List.mem_range.1 hi)]; simp)
    rw [this, List.length_range]
/-- A forest in memory, its blocks among N. -/
def Fh (w : World) (B : Nat) (N : Nat → Prop) (f n : Nat) (ps : List (List Nat)) (p : List Nat) : Prop := ∃ S K, Fo w B N f n S K ∧ Hs n S K ps p
section
variable {w w' : World} {B f n : Nat} {N M : Nat → Prop} {ps : List (List Nat)} {p : List Nat}
theorem Fh.fr (h : Fh w B N f n ps p) (g : Fr M w w') (hM : ∀ j, N j → ¬ M j) : Fh w' B N f n ps p := by
  obtain ⟨S, K, h1, h2⟩ := h
  exact ⟨S, K, h1.fr g hM, h2⟩
theorem Fh.fr0 (h : Fh w B N f n ps p) (g : Fr F0 w w') : Fh w' B N f n ps p := h.fr g (fun _ _ => id)
theorem Fh.len (h : Fh w B N f n ps p) : p.length = n := by obtain ⟨S, K, _, h2⟩ := h; exact h2.pt.lp
theorem Fh.lo (h : Fh w B N f n ps p) {v x : Nat} (hx : p[v]? = some x) : x < n := by obtain ⟨S, K, _, h2⟩ := h; exact (h2.pt.lt hx).1
theorem Fh.mono (h : Fh w B N f n ps p) (hM : ∀ j, N j → M j) : Fh w B M f n ps p := by
  obtain ⟨S, K, ⟨ap, az, al, ak, cp, cz, cl, ck, h1, h2⟩, h3⟩ := h
  exact ⟨S, K, ⟨ap, az, al, ak, cp, cz, cl, ck, h1, fun j hj => hM j (h2 j hj)⟩, h3⟩
theorem NewForest_h (n : Nat) (w : World) (h1 : 1 ≤ n) (h2 : n ≤ 1000) : Calls Try.prog 40 #[.int .i64 n] w fun e w' => ∃ f, e = .returned (.tuple #[.pointer (some ⟨f, 0, none⟩), .int .i64 0]) ∧ Fh w' w.heap.size (fun k => w.heap.size ≤ k) f n [] (List.range n) ∧ Fr F0 w w' :=
  (NewForest_ok n w h1 h2).mono fun _ _ ⟨f, he, hF, hf⟩ => ⟨f, he, ⟨_, _, hF, .one (pt_start n)⟩, hf⟩
theorem Find_h (v : Int) (h : Fh w B N f n ps p) (hn : n ≤ 1000) : Calls Try.prog 25 #[.pointer (some ⟨f, 0, none⟩), .int .i64 v] w fun e w' => e = .returned (.tuple #[.int .i64 (fndS n p v).1, .int .i64 (fndS n p v).2]) ∧ Fr F0 w w' := by
  obtain ⟨S, K, h1, h2⟩ := h
  exact Find_any v h1 hn h2.pt
theorem Count_h (h : Fh w B N f n ps p) : Calls Try.prog 24 #[.pointer (some ⟨f, 0, none⟩)] w fun e w' => e = .returned (.int .i64 (cntP p : Int)) ∧ w = w' := by
  obtain ⟨S, K, h1, h2⟩ := h
  rw [← h2.pt.cnt]
  exact Count_any h1
theorem Depth_h (h : Fh w B N f n ps p) : Calls Try.prog 31 #[.pointer (some ⟨f, 0, none⟩)] w fun e w' => e = .returned (.int .i64 (ps.length : Int)) ∧ w = w' := by
  obtain ⟨S, K, h1, h2⟩ := h
  rw [← h2.len]
  exact Depth_any h1
theorem Union_bad {v u : Int} (h : Fh w B N f n ps p) (hv : v < 0 ∨ (n : Int) ≤ v ∨ u < 0 ∨ (n : Int) ≤ u) : Calls Try.prog 23 #[.pointer (some ⟨f, 0, none⟩), .int .i64 v, .int .i64 u] w fun e w' => e = .returned (.tuple #[.bool false, .int .i64 2]) ∧ w = w' := by
  obtain ⟨S, K, h1, h2⟩ := h
  exact Union_out h1 hv
theorem set_set_back {l : List Nat} {i x y : Nat} (h : l[i]? = some x) : (l.set i y).set i x = l := by
  rw [List.set_set]
  refine List.ext_getElem? (fun j => ?_)
  rw [List.getElem?_set]
  split
  · rename_i e
    subst e
    rw [if_pos (List.getElem?_eq_some_iff.1 h).1, h]
  · rfl
theorem Hs.joined {S : FS} {K : List Chg} {a b x y : Nat} (h : Hs n S K ps p) {v u : Nat} (hx : p[v]? = some x) (hy : p[u]? = some y) (ha : Rt S.P v a) (hb : Rt S.P u b) (hxy : x ≠ y) : Hs n (uni S a b) (K ++ [some (b, S.L.getD a 0)]) (ps ++ [p]) (joinP p v u) := by
  have hp := h.pt
  obtain ⟨hU, hab, hc⟩ := hp.union hx hy ha hb hxy
  obtain ⟨hLa, hZa⟩ := hp.root hx ha
  obtain ⟨hLb, hZb⟩ := hp.root hy hb
  have hal : a < n := by have := ha.ltr; rwa [hp.lP] at this
  have hbl : b < n := by have := hb.ltr; rwa [hp.lP] at this
  have ej : joinP p v u = mrg (min x y) (max x y) p := by unfold joinP; rw [gd hx, gd hy]
  rw [ej]
  have e1 : (uni S a b).P[b]? = some a := by show (S.P.set b a)[b]? = _; rw [List.getElem?_set_self (by rw [hp.lP]; exact hbl)]
  have e2 : (uni S a b).Z[a]? = some (p.count x + p.count y) := by
    show (S.Z.set a (S.Z.getD a 0 + S.Z.getD b 0))[a]? = _
    rw [List.getElem?_set_self (by rw [hp.lZ]; exact hal), gd hZa, gd hZb]
  have e3 : (uni S a b).Z[b]? = some (p.count y) := by
    show (S.Z.set a _)[b]? = _
    rw [List.getElem?_set_ne hab, hZb]
  refine .join h hU e1 e2 e3 ?_ hal hbl ?_ hU.cle
  · have := count_two hxy p; rw [hp.lp] at this; exact this
  · show (⟨(S.P.set b a).set b b, (S.Z.set a (S.Z.getD a 0 + S.Z.getD b 0)).set a (p.count x), (S.L.set a (min (S.L.getD a 0) (S.L.getD b 0))).set a (S.L.getD a 0), S.c - 1 + 1⟩ : FS) = S
    rw [set_set_back hb.fix, set_set_back hZa, gd hLa, set_set_back hLa, Nat.sub_add_cancel hc]
theorem joinP_comm (p : List Nat) (v u : Nat) : joinP p u v = joinP p v u := by unfold joinP; rw [Nat.min_comm, Nat.max_comm]
/-- What Union leaves. -/
def UnP (w : World) (B : Nat) (N : Nat → Prop) (f n : Nat) (ps : List (List Nat)) (p : List Nat) (v u : Nat) (e : Ending) (w' : World) : Prop := e = .returned (.tuple #[.bool (!(p.getD v 0 == p.getD u 0)), .int .i64 0]) ∧ Fh w' B (ext N w w') f n (ps ++ [p]) (joinP p v u) ∧ Fr N w w'
theorem Union_h {v u : Nat} (h : Fh w B N f n ps p) (hn : n ≤ 1000) (hk : ps.length < 100000) (hv : v < n) (hu : u < n) : Calls Try.prog 23 #[.pointer (some ⟨f, 0, none⟩), .int .i64 v, .int .i64 u] w (UnP w B N f n ps p v u) := by
  obtain ⟨S, K, h1, h2⟩ := h
  have hp := h2.pt
  have hkl := h2.len
  obtain ⟨x, hx⟩ : ∃ x, p[v]? = some x := ⟨_, List.getElem?_eq_getElem (by rw [hp.lp]; exact hv)⟩
  obtain ⟨y, hy⟩ : ∃ y, p[u]? = some y := ⟨_, List.getElem?_eq_getElem (by rw [hp.lp]; exact hu)⟩
  obtain ⟨a, ha, hLa, hZa⟩ := hp.ex v x hx
  obtain ⟨b, hb, hLb, hZb⟩ := hp.ex u y hy
  unfold UnP
  rw [gd hx, gd hy]
  by_cases hxy : x = y
  · subst hxy
    have hab := hp.inj v u a b x hx hy ha hb
    subst hab
    have ej : joinP p v u = p := by unfold joinP; rw [gd hx, gd hy, Nat.min_self, Nat.max_self]; exact mrg_same x p
    refine (Union_same h1 hn hp.lP (by omega) ha hb).mono ?_
    rintro e w1 ⟨rfl, g1, g2⟩
    exact ⟨by simp, ⟨S, _, g1, by rw [ej]; exact .same h2⟩, g2⟩
  · obtain ⟨hU, hab, hc⟩ := hp.union hx hy ha hb hxy
    have hct := count_two hxy p
    rw [hp.lp] at hct
    have hcl := hp.cle
    have hne : (!(x == y)) = true := by simpa using hxy
    have key : ∀ e w1, JnP w B f n N S K a b e w1 → e = .returned (.tuple #[.bool (!(x == y)), .int .i64 0]) ∧ Fh w1 B (ext N w w1) f n (ps ++ [p]) (joinP p v u) ∧ Fr N w w1 := by
      rintro e w1 ⟨a', b', hd, rfl, g1, g2⟩
      rw [hne]
      refine ⟨rfl, ⟨_, _, g1, ?_⟩, g2⟩
      rcases hd with ⟨rfl, rfl⟩ | ⟨rfl, rfl⟩
      · exact h2.joined hx hy ha hb hxy
      · have := h2.joined hy hx hb ha (Ne.symm hxy)
        rwa [joinP_comm] at this
    by_cases hz : p.count x < p.count y
    · exact (Union_join2 h1 hn hp.lP (by omega) ha hb hab hZa hZb hLa hLb (by omega) ⟨hc, by omega⟩ hz).mono key
    · exact (Union_join1 h1 hn hp.lP (by omega) ha hb hab hZa hZb hLa hLb (by omega) ⟨hc, by omega⟩ (by omega)).mono key
theorem Undo_start (h : Fh w B N f n [] p) : Calls Try.prog 29 #[.pointer (some ⟨f, 0, none⟩)] w fun e w' => e = .returned (.int .i64 14) ∧ w = w' := by
  obtain ⟨S, K, h1, h2⟩ := h
  have hkl := h2.len
  have : K = [] := List.length_eq_zero_iff.1 (by simpa using hkl)
  subst this
  exact Undo_empty h1
theorem Undo_h {p' : List Nat} (h : Fh w B N f n (ps ++ [p]) p') (hn : n ≤ 1000) (hk : ps.length ≤ 100000) : Calls Try.prog 29 #[.pointer (some ⟨f, 0, none⟩)] w fun e w' => e = .returned (.int .i64 0) ∧ Fh w' B N f n ps p ∧ Fr N w w' := by
  obtain ⟨S, K, h1, h2⟩ := h
  generalize hq : ps ++ [p] = q at h2
  cases h2 with
  | one h => simp at hq
  | @same S K qs r hh =>
    obtain ⟨e1, e2⟩ := List.append_inj' hq rfl
    injection e2 with e2
    subst e1
    subst e2
    refine (Undo_none h1 (by rw [hh.len]; exact hk)).mono ?_
    rintro e w1 ⟨rfl, g1, g2⟩
    exact ⟨rfl, ⟨S, K, g1, hh⟩, g2⟩
  | @join S0 S' K qs r r' a b l za zb hh hp e1 e2 e3 hz ha hb eS hc =>
    obtain ⟨f1, f2⟩ := List.append_inj' hq rfl
    injection f2 with f2
    subst f1
    subst f2
    refine (Undo_some h1 (by rw [hh.len]; exact hk) hn ha hb ⟨e1, e2, e3⟩ (by omega) (by omega)).mono ?_
    rintro e w1 ⟨rfl, g1, g2⟩
    exact ⟨rfl, ⟨S0, K, by rw [← eS]; exact g1, hh⟩, g2⟩
end
end Go.Proofs.Ytihcaemheknjbaa
