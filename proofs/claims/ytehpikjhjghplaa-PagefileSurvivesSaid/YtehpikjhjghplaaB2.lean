/- Records: the plain law, and how they lie in memory. -/
import Derived.Test.YtehpikjhjghplaaB1
namespace Go.Proofs.Ytehpikjhjghplaa
open Go.RowKit

theorem size_alloc (w : World) (o : Obj) : (w.alloc o).heap.size = w.heap.size + 1 := by simp
structure Rec where
  ps : List Nat
  ds : List (List UInt8)
  fin : Nat
def recPs (bs : List UInt8) (at' page : Nat) : List Nat := (List.range (wd bs at')).map fun i => wd bs (at' + 4 + i * (4 + page))
def recDs (bs : List UInt8) (at' page : Nat) : List (List UInt8) := (List.range (wd bs at')).map fun i => (bs.drop (at' + 8 + i * (4 + page))).take page
def recSz (bs : List UInt8) (at' page : Nat) : Nat := 4 + wd bs at' * (4 + page)
def recAt (bs : List UInt8) (at' page : Nat) : Rec := ⟨recPs bs at' page, recDs bs at' page, at' + recSz bs at' page + 4⟩
def fitB (bs : List UInt8) (at' page : Nat) : Bool := decide (at' + 8 ≤ bs.length) && (decide (wd bs at' ≤ 1000) && decide (at' + recSz bs at' page + 4 ≤ bs.length))
def sumB (bs : List UInt8) (at' page : Nat) : Bool := decide (fnv ((bs.drop at').take (recSz bs at' page)) = wd bs (at' + recSz bs at' page))
def pgsB (ps : List Nat) : Bool := ps.all (fun p => decide (p < 1000)) && decide ps.Nodup
/-- A record begins at an index. -/
def recOk (bs : List UInt8) (at' page : Nat) : Bool := fitB bs at' page && (sumB bs at' page && pgsB (recPs bs at' page))
def recsF (bs : List UInt8) (page : Nat) : Nat → Nat → List Rec × Nat
  | 0, x => ([], x)
  | f + 1, x => if recOk bs x page = true then (recAt bs x page :: (recsF bs page f (x + recSz bs x page + 4)).1, (recsF bs page f (x + recSz bs x page + 4)).2) else ([], x)
def recsAt (bs : List UInt8) (page x : Nat) : List Rec × Nat := recsF bs page (bs.length + 1) x
def recs (bs : List UInt8) (page : Nat) : List Rec × Nat := recsAt bs page 0
theorem fit_of {bs : List UInt8} {x page : Nat} (h : fitB bs x page = true) : x + 8 ≤ bs.length ∧ wd bs x ≤ 1000 ∧ x + recSz bs x page + 4 ≤ bs.length := by
  unfold fitB at h; simpa [Bool.and_eq_true, decide_eq_true_eq] using h
theorem ok_fit {bs : List UInt8} {x page : Nat} (h : recOk bs x page = true) : fitB bs x page = true := by
  unfold recOk at h; rw [Bool.and_eq_true] at h; exact h.1
theorem recsF_fuel (bs : List UInt8) (page : Nat) : ∀ (f x : Nat), bs.length < f + x → recsF bs page (f + 1) x = recsF bs page f x
  | 0, x, h => by
    have : ¬ recOk bs x page = true := fun h1 => by have := fit_of (ok_fit h1); omega
    simp [recsF, this]
  | f + 1, x, h => by
    by_cases h1 : recOk bs x page = true
    · have := fit_of (ok_fit h1)
      have ih := recsF_fuel bs page f (x + recSz bs x page + 4) (by omega)
      rw [recsF, if_pos h1, ih, recsF, if_pos h1]
    · rw [recsF, if_neg h1, recsF, if_neg h1]
theorem recsAt_yes {bs : List UInt8} {page x : Nat} (h : recOk bs x page = true) : recsAt bs page x = (recAt bs x page :: (recsAt bs page (x + recSz bs x page + 4)).1, (recsAt bs page (x + recSz bs x page + 4)).2) := by
  have h2 := fit_of (ok_fit h)
  unfold recsAt
  rw [recsF, if_pos h, recsF_fuel bs page bs.length (x + recSz bs x page + 4) (by omega)]
theorem recsAt_no {bs : List UInt8} {page x : Nat} (h : recOk bs x page = false) : recsAt bs page x = ([], x) := by
  unfold recsAt; rw [recsF, if_neg (by rw [h]; decide)]
theorem recsAt_le (bs : List UInt8) (page : Nat) : ∀ (f x : Nat), bs.length < f + x → x ≤ bs.length → (recsAt bs page x).2 ≤ bs.length
  | 0, x, h, hx => by omega
  | f + 1, x, h, hx => by
    cases h1 : recOk bs x page with
    | true =>
      have := fit_of (ok_fit h1)
      rw [recsAt_yes h1]
      exact recsAt_le bs page f _ (by omega) (by omega)
    | false => rw [recsAt_no h1]; exact hx
theorem recs_le (bs : List UInt8) (page : Nat) : (recs bs page).2 ≤ bs.length := recsAt_le bs page (bs.length + 1) 0 (by omega) (by omega)

/-- A slice that reads as bytes, in blocks of S. -/
def RowM (w : World) (S : Nat → Prop) (v : Value) (d : List UInt8) : Prop :=
  ∃ a c, v = .slice a d.length c ∧ d.length ≤ c ∧ Rd w a d.length (byt d) ∧ (0 < d.length → ∀ k, onBlk a k → S k)
theorem RowM.mono {w : World} {S S' : Nat → Prop} {v : Value} {d : List UInt8} (h : RowM w S v d) (hS : ∀ k, S k → S' k) : RowM w S' v d := by
  obtain ⟨a, c, h1, h2, h3, h4⟩ := h
  exact ⟨a, c, h1, h2, h3, fun h0 k hk => hS k (h4 h0 k hk)⟩
theorem Rd.frP {S : Nat → Prop} {w w' : World} {a : Option Addr} {n : Nat} {vs : List Value} (h : Rd w a n vs) (f : Fr S w w') (hS : 0 < n → ∀ k, onBlk a k → ¬ S k) : Rd w' a n vs :=
  ⟨h.len, h.max, fun hn => by
    obtain ⟨b, o, rfl, hc⟩ := h.cells hn
    exact ⟨b, o, rfl, fun i u hu => f.cell (hc i u hu) (hS hn b ((onBlk_some _ _ _ _).2 rfl))⟩⟩
theorem RowM.fr {w w' : World} {S S' : Nat → Prop} {v : Value} {d : List UInt8} (h : RowM w S v d) (f : Fr S' w w') (hS : ∀ k, S k → ¬ S' k) : RowM w' S v d := by
  obtain ⟨a, c, h1, h2, h3, h4⟩ := h
  exact ⟨a, c, h1, h2, h3.frP f (fun h0 k hk => hS k (h4 h0 k hk)), h4⟩
theorem RowM.fr0 {w w' : World} {S : Nat → Prop} {v : Value} {d : List UInt8} (h : RowM w S v d) (f : Fr F0 w w') : RowM w' S v d := h.fr f (fun _ _ => id)
/-- Rows. -/
structure RowsM (w : World) (S : Nat → Prop) (vs : List Value) (ds : List (List UInt8)) : Prop where
  len : vs.length = ds.length
  row : ∀ (i : Nat) v d, vs[i]? = some v → ds[i]? = some d → RowM w S v d
theorem RowsM.nil (w : World) (S : Nat → Prop) : RowsM w S [] [] := ⟨rfl, fun i v d h => by simp at h⟩
theorem RowsM.mono {w : World} {S S' : Nat → Prop} {vs : List Value} {ds : List (List UInt8)} (h : RowsM w S vs ds) (hS : ∀ k, S k → S' k) : RowsM w S' vs ds := ⟨h.len, fun i v d h1 h2 => (h.row i v d h1 h2).mono hS⟩
theorem RowsM.fr {w w' : World} {S S' : Nat → Prop} {vs : List Value} {ds : List (List UInt8)} (h : RowsM w S vs ds) (f : Fr S' w w') (hS : ∀ k, S k → ¬ S' k) : RowsM w' S vs ds := ⟨h.len, fun i v d h1 h2 => (h.row i v d h1 h2).fr f hS⟩
theorem RowsM.fr0 {w w' : World} {S : Nat → Prop} {vs : List Value} {ds : List (List UInt8)} (h : RowsM w S vs ds) (f : Fr F0 w w') : RowsM w' S vs ds := h.fr f (fun _ _ => id)
theorem RowsM.snoc {w : World} {S : Nat → Prop} {vs : List Value} {ds : List (List UInt8)} {v : Value} {d : List UInt8} (h : RowsM w S vs ds) (hv : RowM w S v d) : RowsM w S (vs ++ [v]) (ds ++ [d]) := by
  have hl := h.len
  refine ⟨by simp [hl], fun i u e h1 h2 => ?_⟩
  rw [List.getElem?_append] at h1 h2
  rw [hl] at h1
  split at h1
  · rename_i hi
    rw [if_pos hi] at h2
    exact h.row i u e h1 h2
  · rename_i hi
    rw [if_neg hi] at h2
    obtain ⟨j, hj⟩ : ∃ j, j = i - ds.length := ⟨_, rfl⟩
    rw [← hj] at h1 h2
    match j with
    | 0 => simp at h1 h2; subst h1; subst h2; exact hv
    | j + 1 => simp at h1
theorem RowsM.set {w : World} {S : Nat → Prop} {vs : List Value} {ds : List (List UInt8)} {v : Value} {d : List UInt8} {p : Nat} (h : RowsM w S vs ds) (hv : RowM w S v d) : RowsM w S (vs.set p v) (ds.set p d) := by
  have hl := h.len
  refine ⟨by simp [hl], fun i u e h1 h2 => ?_⟩
  rw [List.getElem?_set] at h1 h2
  split at h1
  · rename_i hi
    rw [if_pos hi] at h2
    split at h1
    · split at h2
      · injection h1 with h1; injection h2 with h2; subst h1; subst h2; exact hv
      · cases h2
    · cases h1
  · rename_i hi
    rw [if_neg hi] at h2
    exact h.row i u e h1 h2
abbrev nats (ps : List Nat) : List Int := ps.map fun (p : Nat) => (p : Int)
/-- A record: its three cells. -/
def RecM (w : World) (S : Nat → Prop) (v : Value × Value) (r : Rec) : Prop :=
  ∃ a c b cb vs, v = (.slice a r.ps.length c, .slice b r.ps.length cb) ∧ r.ds.length = r.ps.length ∧ Rd w a r.ps.length (ints (nats r.ps)) ∧ Rd w b r.ps.length vs ∧ RowsM w S vs r.ds ∧ (0 < r.ps.length → ∀ k, onBlk a k → S k) ∧ (0 < r.ps.length → ∀ k, onBlk b k → S k)
theorem RecM.mono {w : World} {S S' : Nat → Prop} {v : Value × Value} {r : Rec} (h : RecM w S v r) (hS : ∀ k, S k → S' k) : RecM w S' v r := by
  obtain ⟨a, c, b, cb, vs, h1, h2, h3, h4, h5, h6, h7⟩ := h
  exact ⟨a, c, b, cb, vs, h1, h2, h3, h4, h5.mono hS, fun h0 k hk => hS k (h6 h0 k hk), fun h0 k hk => hS k (h7 h0 k hk)⟩
theorem RecM.fr {w w' : World} {S S' : Nat → Prop} {v : Value × Value} {r : Rec} (h : RecM w S v r) (f : Fr S' w w') (hS : ∀ k, S k → ¬ S' k) : RecM w' S v r := by
  obtain ⟨a, c, b, cb, vs, h1, h2, h3, h4, h5, h6, h7⟩ := h
  exact ⟨a, c, b, cb, vs, h1, h2, h3.frP f (fun h0 k hk => hS k (h6 h0 k hk)), h4.frP f (fun h0 k hk => hS k (h7 h0 k hk)), h5.fr f hS, h6, h7⟩
def flat3 (T : List (Value × Value)) (L : List Rec) : List Value := (T.zip L).flatMap fun x => [x.1.1, x.1.2, .int .i64 x.2.fin]
theorem flat3_len : ∀ (T : List (Value × Value)) (L : List Rec), T.length = L.length → (flat3 T L).length = L.length * 3
  | [], [], _ => rfl
  | t :: T, r :: L, h => by
    have := flat3_len T L (by simpa using h)
    simp only [flat3, List.zip_cons_cons, List.flatMap_cons, List.length_append, List.length_cons, List.length_nil] at this ⊢
    omega
theorem flat3_snoc {T : List (Value × Value)} {L : List Rec} {t : Value × Value} {r : Rec} (h : T.length = L.length) : flat3 (T ++ [t]) (L ++ [r]) = flat3 T L ++ [t.1, t.2, .int .i64 r.fin] := by
  unfold flat3; rw [List.zip_append h]; simp
theorem flat3_get : ∀ (T : List (Value × Value)) (L : List Rec) (i : Nat) (t : Value × Value) (r : Rec), T[i]? = some t → L[i]? = some r →
    (flat3 T L)[i * 3]? = some t.1 ∧ (flat3 T L)[i * 3 + 1]? = some t.2 ∧ (flat3 T L)[i * 3 + 2]? = some (.int .i64 r.fin)
  | [], _, i, t, r, h, _ => by simp at h
  | _ :: _, [], i, t, r, _, h => by simp at h
  | x :: T, y :: L, i, t, r, h1, h2 => by
    have e : flat3 (x :: T) (y :: L) = [x.1, x.2, .int .i64 y.fin] ++ flat3 T L := by simp [flat3]
    rw [e]
    cases i with
    | zero => simp at h1 h2; subst h1; subst h2; exact ⟨rfl, rfl, rfl⟩
    | succ i =>
      simp at h1 h2
      obtain ⟨g1, g2, g3⟩ := flat3_get T L i t r h1 h2
      rw [List.getElem?_append_right (by simp; omega), List.getElem?_append_right (by simp; omega), List.getElem?_append_right (by simp; omega)]
      simp only [List.length_cons, List.length_nil]
      refine ⟨?_, ?_, ?_⟩
      · rw [← g1]; congr 1; omega
      · rw [← g2]; congr 1; omega
      · rw [← g3]; congr 1; omega
/-- Records one behind the other. -/
structure RecsM (w : World) (S : Nat → Prop) (T : List (Value × Value)) (L : List Rec) : Prop where
  len : T.length = L.length
  row : ∀ (i : Nat) t r, T[i]? = some t → L[i]? = some r → RecM w S t r
theorem RecsM.nil (w : World) (S : Nat → Prop) : RecsM w S [] [] := ⟨rfl, fun i v d h => by simp at h⟩
theorem RecsM.mono {w : World} {S S' : Nat → Prop} {T : List (Value × Value)} {L : List Rec} (h : RecsM w S T L) (hS : ∀ k, S k → S' k) : RecsM w S' T L := ⟨h.len, fun i v d h1 h2 => (h.row i v d h1 h2).mono hS⟩
theorem RecsM.fr {w w' : World} {S S' : Nat → Prop} {T : List (Value × Value)} {L : List Rec} (h : RecsM w S T L) (f : Fr S' w w') (hS : ∀ k, S k → ¬ S' k) : RecsM w' S T L := ⟨h.len, fun i v d h1 h2 => (h.row i v d h1 h2).fr f hS⟩
theorem RecsM.fr0 {w w' : World} {S : Nat → Prop} {T : List (Value × Value)} {L : List Rec} (h : RecsM w S T L) (f : Fr F0 w w') : RecsM w' S T L := h.fr f (fun _ _ => id)
theorem RecsM.snoc {w : World} {S : Nat → Prop} {T : List (Value × Value)} {L : List Rec} {t : Value × Value} {r : Rec} (h : RecsM w S T L) (hv : RecM w S t r) : RecsM w S (T ++ [t]) (L ++ [r]) := by
  have hl := h.len
  refine ⟨by simp [hl], fun i u e h1 h2 => ?_⟩
  rw [List.getElem?_append] at h1 h2
  rw [hl] at h1
  split at h1
  · rename_i hi
    rw [if_pos hi] at h2
    exact h.row i u e h1 h2
  · rename_i hi
    rw [if_neg hi] at h2
    obtain ⟨j, hj⟩ : ∃ j, j = i - L.length := ⟨_, rfl⟩
    rw [← hj] at h1 h2
    match j with
    | 0 => simp at h1 h2; subst h1; subst h2; exact hv
    | j + 1 => simp at h1

/-- A block, known whole. -/
abbrev Blk (w : World) (b T : Nat) (vs : List Value) : Prop := w.heap[b]? = some (.cells vs.toArray T (0, 0))
section
variable {w w' : World} {b T : Nat} {vs : List Value}
theorem Blk.lt (h : Blk w b T vs) : b < w.heap.size := lt_of_block h
theorem Blk.cell (h : Blk w b T vs) {i : Nat} {u : Value} (hu : vs[i]? = some u) : w.cell? ⟨b, i, none⟩ = some u := by
  rw [cell_of_row w b i vs.toArray T (0, 0) h]; simpa using hu
theorem Blk.free (h : Blk w b T vs) (i : Nat) : w.frozen? ⟨b, i, none⟩ = false := by simp [World.frozen?, h]
theorem Blk.set (h : Blk w b T vs) (i : Nat) (u : Value) : Blk (w.setCell ⟨b, i, none⟩ u) b T (vs.set i u) := by
  unfold Blk
  rw [heap_setCell_same h]
  simp
theorem Blk.fr {S : Nat → Prop} (h : Blk w b T vs) (f : Fr S w w') (hS : ¬ S b) : Blk w' b T vs := (f.block b h.lt hS).trans h
theorem Blk.other (h : Blk w b T vs) {p : Addr} (hp : b ≠ p.block) (u : Value) : Blk (w.setCell p u) b T vs := (Below.heap_setCell _ _ _ _ hp).trans h
theorem Blk.alloc (h : Blk w b T vs) (o : Obj) : Blk (w.alloc o) b T vs := (Below.heap_alloc _ _ _ h.lt).trans h
theorem Blk.new (w : World) (T : Nat) (vs : List Value) : Blk (w.alloc (.cells vs.toArray T)) w.heap.size T vs := by show (w.heap.push _)[w.heap.size]? = _; simp
end
theorem ER : Elem1 Try.prog 26 22 (.slice none 0 0) 24 := ⟨by kernel_rfl, by kernel_rfl, rfl⟩
end Go.Proofs.Ytehpikjhjghplaa
