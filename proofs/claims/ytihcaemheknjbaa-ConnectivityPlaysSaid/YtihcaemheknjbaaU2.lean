/- The law Plays: what lies in memory. -/
import Derived.Test.YtihcaemheknjbaaF9
namespace Go.Proofs.Ytihcaemheknjbaa
open Go.RowKit
/-- The forest, and the partitions H that are kept in a slice of slices. -/
structure PS (wb w : World) (f n : Nat) (ps : List (List Nat)) (p : List Nat) (H : List (List Nat)) (gP cP : Nat) (rows : Nat → Option Addr × Nat) (N : Nat → Prop) : Prop where
  fh : Fh w wb.heap.size N f n ps p
  op : Own w wb.heap.size 26 (some ⟨gP, 0, none⟩) H.length cP ((List.range H.length).map fun j => Value.slice (rows j).1 n (rows j).2)
  rw : ∀ j q, H[j]? = some q → Rd w (rows j).1 n (nv q) ∧ ∀ k, onBlk (rows j).1 k → k < w.heap.size ∧ ¬ N k ∧ k ≠ gP
  nP : ¬ N gP
  nl : ∀ k, N k → wb.heap.size ≤ k ∧ k < w.heap.size
  fr : Fr F0 wb w
section
variable {wb w w' : World} {f n : Nat} {ps ps' H : List (List Nat)} {p p' q : List Nat} {gP cP : Nat} {rows : Nat → Option Addr × Nat} {N : Nat → Prop}
theorem PS.fr0 (h : PS wb w f n ps p H gP cP rows N) (F : Fr F0 w w') : PS wb w' f n ps p H gP cP rows N :=
  ⟨h.fh.fr0 F, h.op.fr0 F, fun j q hq => ⟨(h.rw j q hq).1.fr F (fun _ _ h => h), fun k hk => by
    obtain ⟨h1, h2, h3⟩ := (h.rw j q hq).2 k hk
    exact ⟨Nat.lt_of_lt_of_le h1 F.size, h2, h3⟩⟩, h.nP, fun k hk => ⟨(h.nl k hk).1, Nat.lt_of_lt_of_le (h.nl k hk).2 F.size⟩, h.fr.trans0 F⟩
theorem PS.lt (h : PS wb w f n ps p H gP cP rows N) : wb.heap.size ≤ gP ∧ gP < w.heap.size := h.op.blk gP ((onBlk_some _ _ _ _).2 rfl)
/-- The forest moves on. -/
theorem PS.union (h : PS wb w f n ps p H gP cP rows N) (g : Fh w' wb.heap.size (ext N w w') f n ps' p') (F : Fr N w w') : PS wb w' f n ps' p' H gP cP rows (ext N w w') :=
  ⟨g, h.op.fr F (fun k hk => by have := (onBlk_some _ _ _ _).1 hk; subst this; exact h.nP), fun j q hq => ⟨(h.rw j q hq).1.fr F (fun k hk => ((h.rw j q hq).2 k hk).2.1), fun k hk => by
    obtain ⟨h1, h2, h3⟩ := (h.rw j q hq).2 k hk
    exact ⟨Nat.lt_of_lt_of_le h1 F.size, fun hh => hh.elim h2 (fun hh => by omega), h3⟩⟩,
    fun hh => by
      have := h.lt
      rcases hh with hh | hh
      · exact h.nP hh
      · omega,
    fun k hk => by
      have := h.fr.size
      have hs := F.size
      rcases hk with hk | hk
      · have := h.nl k hk; omega
      · omega,
    h.fr.trans F (fun k hk hN => by have := (h.nl k hN).1; omega)⟩
theorem PS.undo (h : PS wb w f n ps p H gP cP rows N) (g : Fh w' wb.heap.size N f n ps' p') (F : Fr N w w') : PS wb w' f n ps' p' H gP cP rows N :=
  ⟨g, h.op.fr F (fun k hk => by have := (onBlk_some _ _ _ _).1 hk; subst this; exact h.nP), fun j q hq => ⟨(h.rw j q hq).1.fr F (fun k hk => ((h.rw j q hq).2 k hk).2.1), fun k hk => by
    obtain ⟨h1, h2, h3⟩ := (h.rw j q hq).2 k hk
    exact ⟨Nat.lt_of_lt_of_le h1 F.size, h2, h3⟩⟩, h.nP, fun k hk => ⟨(h.nl k hk).1, Nat.lt_of_lt_of_le (h.nl k hk).2 F.size⟩,
    h.fr.trans F (fun k hk hN => by have := (h.nl k hN).1; omega)⟩
theorem PS.app (h : PS wb w f n ps p H gP cP rows N) {a' : Option Addr} {c' : Nat} (R : Rd w a' n (nv q)) (hb : ∀ k, onBlk a' k → k < w.heap.size ∧ ¬ N k ∧ k ≠ gP) {a9 : Option Addr} {c9 : Nat}
    (own' : Own w' wb.heap.size 26 a9 (H.length + 1) c9 (((List.range H.length).map fun j => Value.slice (rows j).1 n (rows j).2) ++ [.slice a' n c'])) (F : Fr (onBlk (some ⟨gP, 0, none⟩)) w w') (at' : ∀ k, onBlk a9 k → onBlk (some ⟨gP, 0, none⟩) k ∨ w.heap.size ≤ k) :
    ∃ g9 rows', a9 = some ⟨g9, 0, none⟩ ∧ PS wb w' f n ps p (H ++ [q]) g9 c9 rows' N := by
  obtain ⟨g9, hg, _, _, _, _⟩ := own'.at (by omega)
  subst hg
  have a9' : g9 = gP ∨ w.heap.size ≤ g9 := (at' g9 ((onBlk_some _ _ _ _).2 rfl)).imp (fun h => by have := (onBlk_some _ _ _ _).1 h; omega) id
  have nN : ∀ k, N k → ¬ onBlk (some ⟨gP, 0, none⟩) k := fun k hk hs => by have := (onBlk_some _ _ _ _).1 hs; subst this; exact h.nP hk
  have ng : ∀ k, k ≠ gP → ¬ onBlk (some ⟨gP, 0, none⟩) k := fun k hk hs => hk (by have := (onBlk_some _ _ _ _).1 hs; omega)
  refine ⟨g9, fun j => if j = H.length then (a', c') else rows j, rfl, h.fh.fr F nN, ?_, ?_, ?_, fun k hk => ⟨(h.nl k hk).1, Nat.lt_of_lt_of_le (h.nl k hk).2 F.size⟩, h.fr.trans F (fun k hk hs => by have := (onBlk_some _ _ _ _).1 hs; have := h.lt; omega)⟩
  · have e : ((List.range (H ++ [q]).length).map fun j => Value.slice ((fun j => if j = H.length then (a', c') else rows j) j).1 n ((fun j => if j = H.length then (a', c') else rows j) j).2) = ((List.range H.length).map fun j => Value.slice (rows j).1 n (rows j).2) ++ [.slice a' n c'] := by
      rw [List.length_append, List.length_singleton, List.range_succ, List.map_append]
      congr 1
      · refine List.map_congr_left (fun j hj => ?_)
        rw [List.mem_range] at hj
        show Value.slice (if j = H.length then (a', c') else rows j).1 n (if j = H.length then (a', c') else rows j).2 = _
        rw [if_neg (by omega)]
      · simp
    rw [e, List.length_append]; exact own'
  · intro j r hr
    by_cases c : j = H.length
    · subst c
      rw [List.getElem?_append_right (Nat.le_refl _), Nat.sub_self] at hr
      injection hr with hr
      subst hr
      rw [if_pos rfl]
      refine ⟨R.fr F (fun k hk => ng k (hb k hk).2.2), fun k hk => ?_⟩
      obtain ⟨h1, h2, h3⟩ := hb k hk
      exact ⟨Nat.lt_of_lt_of_le h1 F.size, h2, by omega⟩
    · have hj : j < H.length := by have := (List.getElem?_eq_some_iff.1 hr).1; rw [List.length_append, List.length_singleton] at this; omega
      rw [List.getElem?_append_left hj] at hr
      rw [if_neg c]
      refine ⟨(h.rw j r hr).1.fr F (fun k hk => ng k ((h.rw j r hr).2 k hk).2.2), fun k hk => ?_⟩
      obtain ⟨h1, h2, h3⟩ := (h.rw j r hr).2 k hk
      exact ⟨Nat.lt_of_lt_of_le h1 F.size, h2, by omega⟩
  · intro hN
    have := (h.nl g9 hN).2
    rcases a9' with e | e
    · subst e; exact h.nP hN
    · omega
theorem PS.pop (h : PS wb w f n ps p (H ++ [q]) gP cP rows N) : PS wb w f n ps p H gP cP rows N := by
  refine ⟨h.fh, ?_, fun j r hr => h.rw j r ?_, h.nP, h.nl, h.fr⟩
  · have h1 := h.op.take (k := H.length) (by rw [List.length_append]; omega)
    rw [List.length_append, List.length_singleton, List.range_succ, List.map_append, List.take_append_of_le_length (by simp), List.take_of_length_le (by simp)] at h1
    exact h1
  · rw [List.getElem?_append_left (List.getElem?_eq_some_iff.1 hr).1]; exact hr
/-- The last partition kept. -/
theorem PS.last (h : PS wb w f n ps p (H ++ [q]) gP cP rows N) : ∃ a c, w.cell? ⟨gP, H.length, none⟩ = some (.slice a n c) ∧ Rd w a n (nv q) ∧ ∀ k, onBlk a k → k < w.heap.size ∧ ¬ N k ∧ k ≠ gP := by
  obtain ⟨g, hg, _, _, hc, _⟩ := h.op.at (by rw [List.length_append, List.length_singleton]; omega)
  injection hg with hg
  injection hg with hg
  subst hg
  obtain ⟨r1, r2⟩ := h.rw H.length q (by rw [List.getElem?_append_right (Nat.le_refl _), Nat.sub_self]; rfl)
  refine ⟨(rows H.length).1, (rows H.length).2, hc H.length _ ?_, r1, r2⟩
  rw [List.getElem?_map, List.getElem?_eq_getElem (by simp)]
  simp
end
end Go.Proofs.Ytihcaemheknjbaa
