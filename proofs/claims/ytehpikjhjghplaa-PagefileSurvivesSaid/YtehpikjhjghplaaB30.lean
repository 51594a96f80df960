/- The plain law of commits, a crash and what is left. -/
import Derived.Test.YtehpikjhjghplaaB29
import Derived.Test.YtehpikjhjghplaaB24
import Derived.Test.YtehpikjhjghplaaB21
namespace Go.Proofs.Ytehpikjhjghplaa
open Go.RowKit
/-- A part of a record. -/
def Tr (page : Nat) (t : List UInt8) : Prop := ∃ ps ds k, PgFit page ps ds ∧ k < (recB ps ds).length ∧ t = (recB ps ds).take k
theorem wd_take {pre l : List UInt8} {k : Nat} (hk : 4 ≤ k) (hl : 4 ≤ l.length) : wd (pre ++ l.take k) pre.length = wd (pre ++ l) pre.length := by
  have e1 : l.take k = l.take 4 ++ (l.take k).drop 4 := by
    have := List.take_append_drop 4 (l.take k)
    rw [List.take_take, Nat.min_eq_left hk] at this
    exact this.symm
  have e2 : l = l.take 4 ++ l.drop 4 := (List.take_append_drop 4 l).symm
  have h4 : (l.take 4).length = 4 := by rw [List.length_take]; omega
  have b : ∀ i, i < 4 → bat (pre ++ l.take k) (pre.length + i) = bat (pre ++ l) (pre.length + i) := fun i hi => by
    rw [e1, bat_mid _ _ _ _ (by omega)]
    conv => rhs; rw [e2]
    rw [bat_mid _ _ _ _ (by omega)]
  have b0 := b 0 (by omega)
  rw [Nat.add_zero] at b0
  unfold wd
  rw [b0, b 1 (by omega), b 2 (by omega), b 3 (by omega)]
theorem trunc_no {page : Nat} (pre : List UInt8) {t : List UInt8} (h : Tr page t) : recOk (pre ++ t) pre.length page = false := by
  obtain ⟨ps, ds, k, hf, hk, rfl⟩ := h
  have hl := recB_len_eq hf
  cases h1 : recOk (pre ++ (recB ps ds).take k) pre.length page with
  | false => rfl
  | true =>
    obtain ⟨f1, f2, f3⟩ := fit_of (ok_fit h1)
    have ht : (pre ++ (recB ps ds).take k).length = pre.length + k := by rw [List.length_append, List.length_take]; omega
    unfold recSz at f3
    rw [ht, wd_take (by omega) (by omega), rec_num pre hf] at f3
    omega
/-- A disk with the records of G, and perhaps a part of one more. -/
structure Dv (page : Nat) (bs : List UInt8) (sy af : Int) (G : List UInt8) : Prop where
  full : (recs G page).2 = G.length
  sy : sy = (G.length : Nat)
  tail : ∃ t, bs = G ++ t ∧ (t = [] ∨ (af = 0 ∧ Tr page t))
theorem recs_tail {page : Nat} {G t : List UInt8} (full : (recs G page).2 = G.length) (h : t = [] ∨ Tr page t) : recs (G ++ t) page = ((recs G page).1, G.length) := by
  rcases h with rfl | h
  · rw [List.append_nil, ← full]
  · have h1 := recsAt_app (t := t) (G.length + 1) 0 (by omega) full
    rw [recsAt_no (trunc_no G h)] at h1
    simpa [recs] using h1
theorem Dv.recs {page : Nat} {bs : List UInt8} {sy af : Int} {G : List UInt8} (h : Dv page bs sy af G) : Go.Proofs.Ytehpikjhjghplaa.recs bs page = ((Go.Proofs.Ytehpikjhjghplaa.recs G page).1, G.length) := by
  obtain ⟨t, rfl, ht⟩ := h.tail
  exact recs_tail h.full (ht.imp id (·.2))
theorem Dv.valid {page : Nat} {bs : List UInt8} {sy af : Int} {G : List UInt8} (h : Dv page bs sy af G) (h1 : 8 ≤ page) (h2 : page ≤ 256) (h3 : -1 ≤ af) (h4 : af ≤ 1048576) (h5 : bs.length ≤ 1048576) : validB page bs sy af = true := by
  unfold validB preB
  rw [Int.toNat_natCast, h.recs, h.sy]
  simp only [Bool.and_eq_true, decide_eq_true_eq]
  omega
theorem Dv.start (page : Nat) (af : Int) : Dv page [] 0 af [] := ⟨by rw [recs_nil]; rfl, rfl, [], rfl, .inl rfl⟩
/-- What a commit leaves. -/
theorem Dv.commit {page : Nat} {bs : List UInt8} {sy af : Int} {G : List UInt8} (h : Dv page bs sy af G) (h1 : 8 ≤ page) (h2 : page ≤ 256) (h3 : -1 ≤ af) (h4 : af ≤ 1048576) (h5 : G.length ≤ 9000) (h5' : bs.length ≤ 20000) {zs : List Int} {ds : List (List UInt8)} (hf : PgFit page (zs.map Int.toNat) ds) (hz : zs.any inP = false) (hnd : zs.Nodup) (h6 : (recB (zs.map Int.toNat) ds).length ≤ 9000) :
    ∃ bs' sy' af', (commitS page bs sy af zs ds = (⟨page, bs', sy', af'⟩, 0) ∧ Dv page bs' sy' af' (G ++ recB (zs.map Int.toNat) ds) ∨ commitS page bs sy af zs ds = (⟨page, bs', sy', af'⟩, 27) ∧ Dv page bs' sy' af' G) ∧ -1 ≤ af' ∧ af' ≤ 1048576 ∧ bs'.length ≤ max bs.length (G.length + (recB (zs.map Int.toNat) ds).length) ∧ (af = -1 → commitS page bs sy af zs ds = (⟨page, bs', sy', af'⟩, 0) ∧ Dv page bs' sy' af' (G ++ recB (zs.map Int.toNat) ds) ∧ af' = -1) := by
  have hv := h.valid h1 h2 h3 h4 (by omega)
  have hlen := hf.len
  rw [List.length_map] at hlen
  have hnum := hf.num
  rw [List.length_map] at hnum
  have hany : ds.any (fun d => decide (¬ (d.length : Int) = page)) = false := by
    rw [List.any_eq_false]
    intro d hd
    simp [hf.row d hd]
  have hr := h.recs
  have e : commitS page bs sy af zs ds = writeS page bs sy af (recB (zs.map Int.toNat) ds) := by
    unfold commitS
    rw [if_pos hv, if_neg (by rw [hany]; simp [hlen]), if_neg (by omega), if_neg (by rw [hz]; simp), if_pos hnd, Int.toNat_natCast, hr, if_neg (by simp only; omega)]
  rw [e]
  obtain ⟨t, hbs, ht⟩ := h.tail
  generalize hB : recB (zs.map Int.toNat) ds = B at *
  have hfull := recs_app h.full hf
  rw [hB] at hfull
  have hG : (Go.Proofs.Ytehpikjhjghplaa.recs (G ++ B) page).2 = (G ++ B).length := by rw [hfull]
  unfold writeS
  rw [hr]
  dsimp only
  have htk : bs.take G.length = G := by rw [hbs, List.take_left]
  rw [htk]
  by_cases a0 : af = 0
  · rw [if_pos a0]
    exact ⟨bs, sy, 0, .inr ⟨rfl, by rw [← a0]; exact h⟩, by omega, by omega, by omega, fun e => by omega⟩
  · rw [if_neg a0]
    by_cases a1 : af < 0 ∨ (B.length : Int) ≤ af
    · rw [if_pos a1]
      have hD : ∀ af', Dv page (G ++ B) ((G.length + B.length : Nat) : Int) af' (G ++ B) := fun af' => ⟨hG, by rw [List.length_append], [], by rw [List.append_nil], .inl rfl⟩
      refine ⟨G ++ B, _, _, .inl ⟨rfl, hD _⟩, ?_, ?_, by rw [List.length_append]; omega, fun e => ⟨rfl, hD _, ?_⟩⟩
      · split <;> omega
      · split <;> omega
      · rw [if_neg (by omega)]; exact e
    · rw [if_neg a1]
      refine ⟨G ++ B.take af.toNat, _, 0, .inr ⟨rfl, ⟨h.full, rfl, _, rfl, .inr ⟨rfl, _, _, af.toNat, hf, by rw [hB]; omega, by rw [hB]⟩⟩⟩, by omega, by omega, by rw [List.length_append, List.length_take]; omega, fun e => by omega⟩
theorem tr_take {page : Nat} {t : List UInt8} (h : t = [] ∨ Tr page t) (k : Nat) : t.take k = [] ∨ Tr page (t.take k) := by
  rcases h with rfl | ⟨ps, ds, j, hf, hj, rfl⟩
  · exact .inl (by simp)
  · exact .inr ⟨ps, ds, min k j, hf, by omega, by rw [List.take_take]⟩
/-- What a crash and Open leave: just the records. -/
theorem Dv.left {page : Nat} {bs : List UInt8} {sy af : Int} {G : List UInt8} (h : Dv page bs sy af G) (h1 : 8 ≤ page) (h2 : page ≤ 256) (h3 : -1 ≤ af) (h4 : af ≤ 1048576) (h5 : bs.length ≤ 20000) {k : Nat} (hk : (k : Int) ≤ (bs.length : Int) - sy) :
    ∃ bs2, crashS page bs sy af k = (⟨page, bs2, sy, -1⟩, 0) ∧ bs2.length ≤ 20000 ∧ openS page bs2 sy (-1) = (⟨page, G, sy, -1⟩, 0) ∧ Dv page G sy (-1) G := by
  have hv := h.valid h1 h2 h3 h4 (by omega)
  obtain ⟨t, hbs, ht⟩ := h.tail
  have e2 : bs.take (G.length + k) = G ++ t.take k := by rw [hbs, List.take_append, List.take_of_length_le (by omega)]; congr 1; congr 1; omega
  have hrt := recs_tail h.full (tr_take (ht.imp id (·.2)) k)
  have hlb : (G ++ t.take k).length ≤ 20000 := by rw [← e2, List.length_take]; omega
  refine ⟨bs.take (G.length + k), ?_, by rw [e2]; exact hlb, ?_, ⟨h.full, h.sy, [], by rw [List.append_nil], .inl rfl⟩⟩
  · unfold crashS
    rw [if_pos hv, if_neg (by omega), h.sy, Int.toNat_natCast, Int.toNat_natCast]
  · have hv2 : validB page (bs.take (G.length + k)) sy (-1) = true := by
      unfold validB preB
      rw [Int.toNat_natCast, e2, hrt, h.sy]
      simp only [Bool.and_eq_true, decide_eq_true_eq]
      omega
    unfold openS
    rw [if_pos hv2, Int.toNat_natCast, e2, hrt, h.sy]
    dsimp only
    rw [List.take_left]
/-- The pages after one commit more. -/
theorem pages_app {page : Nat} {G : List UInt8} {ps : List Nat} {ds : List (List UInt8)} (full : (recs G page).2 = G.length) (hf : PgFit page ps ds) : pgsL page (recs (G ++ recB ps ds) page).1 = (ps.zip ds).foldl (pgStep page) (pgsL page (recs G page).1) ∧ (recs (G ++ recB ps ds) page).1.length = (recs G page).1.length + 1 ∧ (recs (G ++ recB ps ds) page).2 = (G ++ recB ps ds).length := by
  rw [recs_app full hf]
  refine ⟨?_, by simp, rfl⟩
  unfold pgsL
  rw [List.foldl_append]
  rfl
end Go.Proofs.Ytehpikjhjghplaa
