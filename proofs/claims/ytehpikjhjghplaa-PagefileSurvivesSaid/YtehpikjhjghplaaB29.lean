/- The plain law of a record that was written: it is read again. -/
import Derived.Test.YtehpikjhjghplaaB26
import Derived.Test.YtehpikjhjghplaaT1
namespace Go.Proofs.Ytehpikjhjghplaa
open Go.RowKit
theorem bat_mid (pre l t : List UInt8) (i : Nat) (h : i < l.length) : bat (pre ++ (l ++ t)) (pre.length + i) = bat l i := by
  unfold bat
  rw [List.getD_eq_getElem?_getD, List.getElem?_append_right (by omega), Nat.add_sub_cancel_left, List.getElem?_append_left h, ← List.getD_eq_getElem?_getD]
theorem wd_word (pre t : List UInt8) (v : Nat) (hv : v < 4294967296) : wd (pre ++ (wordB v ++ t)) pre.length = v := by
  unfold wd
  rw [show bat (pre ++ (wordB v ++ t)) pre.length = bat (wordB v) 0 from bat_mid pre (wordB v) t 0 (by rw [wordB_len]; omega), bat_mid pre (wordB v) t 1 (by rw [wordB_len]; omega), bat_mid pre (wordB v) t 2 (by rw [wordB_len]; omega), bat_mid pre (wordB v) t 3 (by rw [wordB_len]; omega)]
  have e0 : bat (wordB v) 0 = v % 256 := by show (UInt8.ofNat v).toNat = _; rw [UInt8.toNat_ofNat']
  have e1 : bat (wordB v) 1 = v / 256 % 256 := by show (UInt8.ofNat (v / 256)).toNat = _; rw [UInt8.toNat_ofNat']
  have e2 : bat (wordB v) 2 = v / 65536 % 256 := by show (UInt8.ofNat (v / 65536)).toNat = _; rw [UInt8.toNat_ofNat']
  have e3 : bat (wordB v) 3 = v / 16777216 % 256 := by show (UInt8.ofNat (v / 16777216)).toNat = _; rw [UInt8.toNat_ofNat']
  rw [e0, e1, e2, e3]
  omega
/-- Pages and their bytes that a record may have. -/
structure PgFit (page : Nat) (ps : List Nat) (ds : List (List UInt8)) : Prop where
  len : ds.length = ps.length
  num : ps.length ≤ 1000
  small : ∀ p ∈ ps, p < 1000
  nodup : ps.Nodup
  row : ∀ d ∈ ds, d.length = page
variable {page : Nat} {ps : List Nat} {ds : List (List UInt8)}
theorem bodyK_len_eq (h : PgFit page ps ds) : ∀ k, k ≤ ps.length → (bodyK ps ds k).length = 4 + k * (4 + page)
  | 0, _ => by rw [bodyK_0, wordB_len]; omega
  | k + 1, hk => by
    have h1 : ps[k]? = some ps[k] := by simp
    have hl := h.len
    have h2 : ds[k]? = some (ds[k]'(by omega)) := by simp
    have h3 := h.row _ (List.mem_of_getElem? h2)
    rw [bodyK_succ h1 h2, List.length_append, List.length_append, wordB_len, bodyK_len_eq h k (by omega), h3, Nat.add_mul]
    omega
theorem bodyB_split (ps : List Nat) (ds : List (List UInt8)) (k : Nat) : bodyB ps ds = bodyK ps ds k ++ ((ps.zip ds).drop k).flatMap pairB := by
  unfold bodyB bodyK
  rw [List.append_assoc, ← List.flatMap_append, List.take_append_drop]
theorem bodyB_at {k p : Nat} {d : List UInt8} (h1 : ps[k]? = some p) (h2 : ds[k]? = some d) : ∃ t, bodyB ps ds = bodyK ps ds k ++ (wordB p ++ (d ++ t)) := by
  have h : (ps.zip ds)[k]? = some (p, d) := by rw [List.getElem?_zip_eq_some]; exact ⟨h1, h2⟩
  have hl : k < (ps.zip ds).length := (List.getElem?_eq_some_iff.1 h).1
  refine ⟨((ps.zip ds).drop (k + 1)).flatMap pairB, ?_⟩
  rw [bodyB_split ps ds k, List.drop_eq_getElem_cons hl]
  have : (ps.zip ds)[k] = (p, d) := (List.getElem?_eq_some_iff.1 h).2
  rw [this, List.flatMap_cons]
  simp [pairB]
theorem bodyB_len (h : PgFit page ps ds) : (bodyB ps ds).length = 4 + ps.length * (4 + page) := by
  rw [← bodyK_all (Nat.le_refl _)]; exact bodyK_len_eq h _ (Nat.le_refl _)
theorem recB_len_eq (h : PgFit page ps ds) : (recB ps ds).length = 8 + ps.length * (4 + page) := by
  unfold recB; rw [List.length_append, bodyB_len h, wordB_len]; omega
theorem rec_num (pre : List UInt8) (h : PgFit page ps ds) : wd (pre ++ recB ps ds) pre.length = ps.length := by
  unfold recB bodyB
  rw [List.append_assoc]
  exact wd_word _ _ _ (by have := h.num; omega)
theorem rec_sz (pre : List UInt8) (h : PgFit page ps ds) : recSz (pre ++ recB ps ds) pre.length page = (bodyB ps ds).length := by
  unfold recSz; rw [rec_num pre h, bodyB_len h]
theorem rec_p (pre : List UInt8) (h : PgFit page ps ds) {k p : Nat} (h1 : ps[k]? = some p) : wd (pre ++ recB ps ds) (pre.length + 4 + k * (4 + page)) = p := by
  have hk := (List.getElem?_eq_some_iff.1 h1).1
  have hl := h.len
  have h2 : ds[k]? = some (ds[k]'(by omega)) := by simp
  obtain ⟨t, ht⟩ := bodyB_at h1 h2
  have e : pre ++ recB ps ds = (pre ++ bodyK ps ds k) ++ (wordB p ++ (ds[k]'(by omega) ++ t ++ wordB (fnv (bodyB ps ds)))) := by unfold recB; rw [ht]; simp
  rw [e, show pre.length + 4 + k * (4 + page) = (pre ++ bodyK ps ds k).length by rw [List.length_append, bodyK_len_eq h k (by omega)]; omega]
  exact wd_word _ _ _ (by have := h.small p (List.mem_of_getElem? h1); omega)
theorem rec_d (pre : List UInt8) (h : PgFit page ps ds) {k p : Nat} {d : List UInt8} (h1 : ps[k]? = some p) (h2 : ds[k]? = some d) : ((pre ++ recB ps ds).drop (pre.length + 8 + k * (4 + page))).take page = d := by
  have hk := (List.getElem?_eq_some_iff.1 h1).1
  obtain ⟨t, ht⟩ := bodyB_at h1 h2
  have e : pre ++ recB ps ds = (pre ++ bodyK ps ds k ++ wordB p) ++ (d ++ (t ++ wordB (fnv (bodyB ps ds)))) := by unfold recB; rw [ht]; simp
  rw [e, show pre.length + 8 + k * (4 + page) = (pre ++ bodyK ps ds k ++ wordB p).length by rw [List.length_append, List.length_append, wordB_len, bodyK_len_eq h k (by omega)]; omega, List.drop_left, ← h.row d (List.mem_of_getElem? h2), List.take_left]
theorem rec_ps (pre : List UInt8) (h : PgFit page ps ds) : recPs (pre ++ recB ps ds) pre.length page = ps := by
  unfold recPs
  rw [rec_num pre h]
  apply List.ext_getElem?
  intro k
  by_cases hk : k < ps.length
  · rw [List.getElem?_map, List.getElem?_range hk]
    have h1 : ps[k]? = some ps[k] := by simp
    rw [h1, Option.map_some, rec_p pre h h1]
  · rw [List.getElem?_eq_none (by simpa using hk), List.getElem?_eq_none (by omega)]
theorem rec_ds (pre : List UInt8) (h : PgFit page ps ds) : recDs (pre ++ recB ps ds) pre.length page = ds := by
  unfold recDs
  rw [rec_num pre h]
  have hl := h.len
  apply List.ext_getElem?
  intro k
  by_cases hk : k < ps.length
  · rw [List.getElem?_map, List.getElem?_range hk]
    have h1 : ps[k]? = some ps[k] := by simp
    have h2 : ds[k]? = some (ds[k]'(by omega)) := by simp
    rw [h2, Option.map_some, rec_d pre h h1 h2]
  · rw [List.getElem?_eq_none (by simpa using hk), List.getElem?_eq_none (by omega)]
/-- A record behind any bytes is there. -/
theorem rec_ok (pre : List UInt8) (h : PgFit page ps ds) : recOk (pre ++ recB ps ds) pre.length page = true := by
  have hb := bodyB_len h
  have hr := recB_len_eq h
  unfold recOk
  rw [rec_ps pre h, Bool.and_eq_true, Bool.and_eq_true]
  refine ⟨?_, ?_, ?_⟩
  · unfold fitB
    rw [rec_sz pre h, rec_num pre h]
    simp only [Bool.and_eq_true, decide_eq_true_eq, List.length_append]
    have := h.num
    omega
  · unfold sumB
    rw [rec_sz pre h, decide_eq_true_eq, List.drop_left]
    have e : (recB ps ds).take (bodyB ps ds).length = bodyB ps ds := by unfold recB; rw [List.take_left]
    rw [e]
    have e2 : pre ++ recB ps ds = (pre ++ bodyB ps ds) ++ (wordB (fnv (bodyB ps ds)) ++ []) := by unfold recB; simp
    rw [e2, show pre.length + (bodyB ps ds).length = (pre ++ bodyB ps ds).length by rw [List.length_append]]
    exact (wd_word _ _ _ (fnv_lt _)).symm
  · unfold pgsB
    rw [Bool.and_eq_true, List.all_eq_true]
    exact ⟨fun p hp => by simpa using h.small p hp, by simpa using h.nodup⟩
theorem rec_at (pre : List UInt8) (h : PgFit page ps ds) : recAt (pre ++ recB ps ds) pre.length page = ⟨ps, ds, (pre ++ recB ps ds).length⟩ := by
  unfold recAt
  rw [rec_ps pre h, rec_ds pre h, rec_sz pre h, List.length_append]
  unfold recB
  rw [List.length_append, wordB_len]
  simp only [Rec.mk.injEq, true_and]
  omega
theorem recOk_end (bs : List UInt8) : recOk bs bs.length page = false := by
  cases h : recOk bs bs.length page with
  | false => rfl
  | true => have := fit_of (ok_fit h); omega
theorem recsAt_rec (pre : List UInt8) (h : PgFit page ps ds) : recsAt (pre ++ recB ps ds) page pre.length = ([⟨ps, ds, (pre ++ recB ps ds).length⟩], (pre ++ recB ps ds).length) := by
  have e : pre.length + recSz (pre ++ recB ps ds) pre.length page + 4 = (pre ++ recB ps ds).length := by
    rw [rec_sz pre h, List.length_append]; unfold recB; rw [List.length_append, wordB_len]; omega
  rw [recsAt_yes (rec_ok pre h), e, recsAt_no (recOk_end _), rec_at pre h]
/-- A single record. -/
theorem recs_one (h : PgFit page ps ds) : recs (recB ps ds) page = ([⟨ps, ds, (recB ps ds).length⟩], (recB ps ds).length) := by
  have := recsAt_rec [] h
  simpa [recs] using this
/-- Records behind which nothing was left, and one more. -/
theorem recsAt_app {bs t : List UInt8} : ∀ (f x : Nat), bs.length < f + x → (recsAt bs page x).2 = bs.length → recsAt (bs ++ t) page x = ((recsAt bs page x).1 ++ (recsAt (bs ++ t) page bs.length).1, (recsAt (bs ++ t) page bs.length).2)
  | 0, x, h, h2 => by
    have hno : recOk bs x page = false := by
      cases h1 : recOk bs x page with
      | false => rfl
      | true => have := fit_of (ok_fit h1); omega
    rw [recsAt_no hno] at h2 ⊢
    have h3 : x = bs.length := h2
    rw [h3]
    simp
  | f + 1, x, h, h2 => by
    cases h1 : recOk bs x page with
    | false =>
      rw [recsAt_no h1] at h2 ⊢
      have h3 : x = bs.length := h2
      rw [h3]
      simp
    | true =>
      have hf := fit_of (ok_fit h1)
      have hA : Alike bs (bs ++ t) x (x + recSz bs x page + 4) := fun j _ hj => (List.getElem?_append_left (by omega)).symm
      have hsz : recSz (bs ++ t) x page = recSz bs x page := (hA.sz (by omega)).symm
      have hok2 := hA.ok h1 (by rw [List.length_append]; omega)
      have hwd := hA.wd (Nat.le_refl _) (show x + 4 ≤ x + recSz bs x page + 4 by omega)
      have hrec : recAt (bs ++ t) x page = recAt bs x page := by
        unfold recAt
        rw [hsz]
        have hp : recPs (bs ++ t) x page = recPs bs x page := by
          unfold recPs
          rw [← hwd]
          refine List.map_congr_left (fun i hi => (hA.wd (by omega) ?_).symm)
          have hi := List.mem_range.1 hi
          have : (i + 1) * (4 + page) ≤ wd bs x * (4 + page) := Nat.mul_le_mul_right _ (by omega)
          rw [Nat.add_mul] at this
          unfold recSz
          omega
        have hd : recDs (bs ++ t) x page = recDs bs x page := by
          unfold recDs
          rw [← hwd]
          refine List.map_congr_left (fun i hi => (hA.cut (by omega) ?_).symm)
          have hi := List.mem_range.1 hi
          have : (i + 1) * (4 + page) ≤ wd bs x * (4 + page) := Nat.mul_le_mul_right _ (by omega)
          rw [Nat.add_mul] at this
          unfold recSz
          omega
        rw [hp, hd]
      have hy := recsAt_yes h1
      rw [hy] at h2 ⊢
      have ih := recsAt_app (t := t) f (x + recSz bs x page + 4) (by omega) h2
      rw [recsAt_yes hok2, hsz, hrec, ih]
      simp
theorem recs_app {bs : List UInt8} (hb : (recs bs page).2 = bs.length) (h : PgFit page ps ds) :
    recs (bs ++ recB ps ds) page = ((recs bs page).1 ++ [⟨ps, ds, (bs ++ recB ps ds).length⟩], (bs ++ recB ps ds).length) := by
  have h1 := recsAt_app (page := page) (bs := bs) (t := recB ps ds) (bs.length + 1) 0 (by omega) hb
  rw [recsAt_rec bs h] at h1
  exact h1
theorem pgs_range (page : Nat) (P : List (List UInt8)) : ∀ k, k ≤ P.length → (((List.range P.length).zip P).take k).foldl (pgStep page) [] = P.take k
  | 0, _ => by simp
  | k + 1, hk => by
    have h1 : (List.range P.length)[k]? = some k := List.getElem?_range (by omega)
    have h2 : P[k]? = some P[k] := by simp
    rw [zip_take_foldl [] h1 h2, pgs_range page P k (by omega), List.take_add_one, h2]
    unfold pgStep
    have hl : (P.take k).length = k := by rw [List.length_take]; omega
    rw [show padP page (k + 1) (P.take k) = P.take k ++ [zrow page] by rw [padP_succ (by omega), padP_of_le (by omega)]]
    rw [List.set_append_right _ _ (by omega), hl, Nat.sub_self]
    rfl
theorem range_fit {P : List (List UInt8)} (hl : P.length ≤ 1000) (hd : ∀ d ∈ P, d.length = page) : PgFit page (List.range P.length) P :=
  ⟨by simp, by simpa using hl, fun p hp => by have := List.mem_range.1 hp; omega, List.nodup_range, hd⟩
theorem recs_nil (page : Nat) : recs [] page = ([], 0) := recsAt_no (by unfold recOk fitB; rfl)
/-- All pages in one record. -/
theorem recs_ckR {P : List (List UInt8)} (hl : P.length ≤ 1000) (hd : ∀ d ∈ P, d.length = page) : (recs (ckR P) page).2 = (ckR P).length ∧ (recs (ckR P) page).1.length = min 1 P.length ∧ pgsL page (recs (ckR P) page).1 = P := by
  unfold ckR
  split
  · rename_i h0
    have : P = [] := List.eq_nil_of_length_eq_zero h0
    subst this
    rw [recs_nil]
    exact ⟨rfl, rfl, rfl⟩
  · rename_i h0
    rw [recs_one (range_fit hl hd)]
    refine ⟨rfl, by simp; omega, ?_⟩
    unfold pgsL
    show ((List.range P.length).zip P).foldl (pgStep page) [] = P
    have := pgs_range page P P.length (Nat.le_refl _)
    rwa [List.take_length, List.take_of_length_le (by simp)] at this
/-- What Checkpoint keeps. -/
theorem ckpt_keeps {pg sy af : Int} {bs : List UInt8} (hv : validB pg bs sy af = true) (hl40 : (dpgs pg bs).length ≤ 40) (hl : bs.length ≤ 1500) :
    (ckptS pg bs sy af = (⟨pg, bs, sy, 0⟩, 27) ∨ ∃ af', ckptS pg bs sy af = (⟨pg, ckR (dpgs pg bs), ((ckR (dpgs pg bs)).length : Nat), af'⟩, 0)) ∧
    validB pg (ckptS pg bs sy af).1.bs (ckptS pg bs sy af).1.sy (ckptS pg bs sy af).1.af = true ∧ (ckptS pg bs sy af).1.bs.length ≤ 20000 ∧ dpgs pg (ckptS pg bs sy af).1.bs = dpgs pg bs := by
  obtain ⟨⟨hp1, hp2⟩, ⟨ha1, ha2⟩, hlen, hs0, hsr⟩ := valid_of hv
  obtain ⟨page, rfl⟩ := Int.eq_ofNat_of_zero_le (show 0 ≤ pg by omega)
  obtain ⟨hP1, hP2⟩ := pg_ok page bs
  obtain ⟨P, hP⟩ : ∃ P, P = dpgs page bs := ⟨_, rfl⟩
  rw [← hP] at hl40 hP1 hP2 ⊢
  have hck := recs_ckR (page := page) hP1 hP2
  have hcl : (ckR P).length ≤ 20000 := by
    unfold ckR
    split
    · simp
    · rw [recB_len_eq (range_fit hP1 hP2), List.length_range]
      have : P.length * (4 + page) ≤ 40 * 260 := Nat.mul_le_mul hl40 (by omega)
      omega
  have e : ckptS page bs sy af = if af = 0 ∨ (0 < af ∧ af < ((ckR P).length : Int)) then (⟨page, bs, sy, 0⟩, 27) else (⟨page, ckR P, ((ckR P).length : Int), if 0 < af then af - ((ckR P).length : Int) else af⟩, 0) := by
    unfold ckptS; rw [hv, if_pos rfl, ← hP]
  rw [e]
  split
  · refine ⟨.inl rfl, ?_, by show bs.length ≤ 20000; omega, hP.symm⟩
    have h1 := hv
    unfold validB preB at h1 ⊢
    rw [Bool.and_eq_true, decide_eq_true_eq] at h1
    rw [Bool.and_eq_true, decide_eq_true_eq]
    exact ⟨⟨by omega, by omega, by dsimp only; omega, by dsimp only; omega, by simpa using hlen, hs0⟩, h1.2⟩
  · rename_i hno
    refine ⟨.inr ⟨_, rfl⟩, ?_, hcl, ?_⟩
    · unfold validB preB
      rw [Bool.and_eq_true, decide_eq_true_eq, decide_eq_true_eq]
      refine ⟨⟨by omega, by omega, ?_, ?_, ?_, by dsimp only; omega⟩, ?_⟩
      · dsimp only; split <;> omega
      · dsimp only; split <;> omega
      · show (ckR P).length ≤ 1048576; omega
      · show ((ckR P).length : Int) ≤ _
        rw [Int.toNat_natCast, hck.1]
        exact Int.le_refl _
    · show pgsL (page : Int).toNat (recs (ckR P) (page : Int).toNat).1 = P
      rw [Int.toNat_natCast]
      exact hck.2.2
end Go.Proofs.Ytehpikjhjghplaa
