/- Melding: what lies in memory. -/
import Derived.Test.YtdphademoeofkaaS13
namespace Go.Proofs.Ytdphademoeofkaa
open Go.RowKit
/-- The keys of the items that are somewhere. -/
def selO : List Int → List (Option Nat) → List Int
  | k :: ks, some _ :: I => k :: selO ks I
  | _ :: ks, none :: I => selO ks I
  | _, _ => []
def somes (I : List (Option Nat)) : List (Option Nat) := I.filter Option.isSome
theorem somes_len (I : List (Option Nat)) : (somes I).length = cnt I := rfl
theorem selO_len : ∀ {ks : List Int} {I : List (Option Nat)}, I.length = ks.length → (selO ks I).length = cnt I
  | [], [], _ => rfl
  | k :: ks, some b :: I, h => by
    have := selO_len (ks := ks) (I := I) (by simpa using h)
    simp only [selO, List.length_cons, this]
    simp [cnt]
  | k :: ks, none :: I, h => by
    have := selO_len (ks := ks) (I := I) (by simpa using h)
    simp only [selO, this]
    simp [cnt]
theorem selO_some {ks : List Int} {I : List (Option Nat)} (h : I.length = ks.length) (k : Int) (b : Nat) : selO (ks ++ [k]) (I ++ [some b]) = selO ks I ++ [k] := by
  induction ks generalizing I with
  | nil =>
    have : I = [] := List.length_eq_zero_iff.1 h
    subst this; rfl
  | cons x ks ih =>
    cases I with
    | nil => simp at h
    | cons o I =>
      have := ih (I := I) (by simpa using h)
      cases o <;> simp [selO, this]
theorem selO_none {ks : List Int} {I : List (Option Nat)} (h : I.length = ks.length) (k : Int) : selO (ks ++ [k]) (I ++ [none]) = selO ks I := by
  induction ks generalizing I with
  | nil =>
    have : I = [] := List.length_eq_zero_iff.1 h
    subst this; rfl
  | cons x ks ih =>
    cases I with
    | nil => simp at h
    | cons o I =>
      have := ih (I := I) (by simpa using h)
      cases o <;> simp [selO, this]
theorem somes_some (I : List (Option Nat)) (b : Nat) : somes (I ++ [some b]) = somes I ++ [some b] := by simp [somes]
theorem somes_none (I : List (Option Nat)) : somes (I ++ [none]) = somes I := by simp [somes]
section
variable {w w' : World} {hb rate : Nat} {n : Int} {ts : List Tr} {own : List Int} {I : List (Option Nat)} {T : Nat → Prop} {at_ ao ai : Option Addr} {ct co ci : Nat} {Nt : Nat → Nat → Prop}
/-- One item more, somewhere or not. -/
theorem HS.moreO {F : Nat → Prop} {ao' ai' : Option Addr} {co' ci' : Nat} {bx : Option Nat} {key n' : Int} (h : HS w hb rate n ts own I T at_ ct ao co ai ci Nt) (Oo : Own w' 0 3 ao' (own.length + 1) co' (ints own ++ [.int .i64 key])) (Oi : Own w' 0 60 ai' (I.length + 1) ci' (ptrs I ++ [.pointer (bx.map fun b => ⟨b, 0, none⟩)]))
    (B : Blk w' hb 59 [.int .i64 rate, .slice at_ ts.length ct, .slice ao' (own.length + 1) co', .slice ai' (I.length + 1) ci', .int .i64 n']) (f : Fr F w w') (hF : ∀ q, T q → F q → q = hb ∨ onBlk ao q ∨ onBlk ai q)
    (hao : ∀ q, onBlk ao' q → onBlk ao q ∨ w.heap.size ≤ q) (hai : ∀ q, onBlk ai' q → onBlk ai q ∨ w.heap.size ≤ q) (hoi : ∀ q, onBlk ao' q → ¬ onBlk ai' q) :
    HS w' hb rate n' ts (own ++ [key]) (I ++ [bx]) (fun q => T q ∨ onBlk ao' q ∨ onBlk ai' q) at_ ct ao' co' ai' ci' Nt := by
  have hs := f.size
  have na : ∀ q, T q → ¬ onBlk ao q → ¬ onBlk ao' q := fun q hq g e => (hao q e).elim g (fun e => by have := h.lt q hq; omega)
  have ni : ∀ q, T q → ¬ onBlk ai q → ¬ onBlk ai' q := fun q hq g e => (hai q e).elim g (fun e => by have := h.lt q hq; omega)
  have nF : ∀ q, T q → q ≠ hb → ¬ onBlk ao q → ¬ onBlk ai q → ¬ F q := fun q hq g1 g2 g3 e => (hF q hq e).elim g1 (fun e => e.elim g2 g3)
  refine ⟨by simpa [heC] using B, h.ot.fr f (fun q hq => ?_), by simpa [ints] using Oo, by simpa [ptrs] using Oi, by simp [h.len], fun i t ht => (h.tm i t ht).fr f (fun q hq => ?_), h.sep, fun i q hq => ?_, .inl h.hT, fun q hq => ?_, fun q hq => ?_, fun q hq => ?_, fun q hq => ?_⟩
  · have := h.aT q hq
    exact nF q this.1 this.2.1 this.2.2.1 this.2.2.2
  · have := h.tT i q hq
    exact nF q this.1 this.2.1 this.2.2.2.1 this.2.2.2.2
  · have := h.tT i q hq
    exact ⟨.inl this.1, this.2.1, this.2.2.1, na q this.1 this.2.2.2.1, ni q this.1 this.2.2.2.2⟩
  · have := h.aT q hq
    exact ⟨.inl this.1, this.2.1, na q this.1 this.2.2.1, ni q this.1 this.2.2.2⟩
  · refine ⟨.inr (.inl hq), ?_, hoi q hq⟩
    rcases hao q hq with e | e
    · exact (h.oT q e).2.1
    · intro g; have := h.lt hb h.hT; omega
  · refine ⟨.inr (.inr hq), ?_⟩
    rcases hai q hq with e | e
    · exact (h.iT q e).2
    · intro g; have := h.lt hb h.hT; omega
  · rcases hq with hq | hq | hq
    · have := h.lt q hq; omega
    · exact (Oo.blk q hq).2
    · exact (Oi.blk q hq).2
end
/-- The box of names, beside a heap. -/
structure Out (w : World) (B bo : Nat) (a : Option Addr) (n c : Nat) (xs : List Int) (T : Nat → Prop) : Prop where
  o : One w bo 22 (.slice a n c)
  own : Own w B 3 a n c (ints xs)
  bT : ¬ T bo
  aT : ∀ q, onBlk a q → q ≠ bo ∧ ¬ T q
theorem Out.fr {w w' : World} {B bo : Nat} {a : Option Addr} {n c : Nat} {xs : List Int} {T T' F : Nat → Prop} (h : Out w B bo a n c xs T) (f : Fr F w w') (hF : ∀ q, q < w.heap.size → F q → T q) (hT : ∀ q, T' q → T q ∨ w.heap.size ≤ q) : Out w' B bo a n c xs T' :=
  have hlt := h.o.lt
  ⟨h.o.fr f (fun e => h.bT (hF _ hlt e)), h.own.fr f (fun q hq e => (h.aT q hq).2 (hF q (h.own.blk q hq).2 e)), fun e => (hT _ e).elim h.bT (fun g => by omega), fun q hq => ⟨(h.aT q hq).1, fun e => (hT q e).elim (h.aT q hq).2 (fun g => by have := (h.own.blk q hq).2; omega)⟩⟩
/-- Under way: some items have names. -/
def ML (w0 wr : World) (ha rate bo : Nat) (n : Int) (ts : List Tr) (ownA : List Int) (IA : List (Option Nat)) (TA : Nat → Prop) (at_ : Option Addr) (ct : Nat) (Nt : Nat → Nat → Prop) (m : Nat) (ownB : List Int) (IB : List (Option Nat)) : Prop :=
  ∃ ab cb ao co ai ci T, HS wr ha rate n ts (ownA ++ selO ownB IB) (IA ++ somes IB) T at_ ct ao co ai ci Nt ∧ Out wr w0.heap.size bo ab IB.length cb (names m IB) T ∧ (∀ q, T q → TA q ∨ w0.heap.size ≤ q) ∧ Fr TA w0 wr
/-- A name more in the box. -/
theorem Out.app {w w6 : World} {B bo : Nat} {a a6 : Option Addr} {n c c6 : Nat} {xs : List Int} {T : Nat → Prop} {v : Int} (h : Out w B bo a n c xs T) (hT : ∀ q, T q → q < w.heap.size) (O : Own w6 B 3 a6 (n + 1) c6 (ints xs ++ ints [v])) (f : Fr (onBlk a) w w6) (at_ : ∀ q, onBlk a6 q → onBlk a q ∨ w.heap.size ≤ q) :
    Out (w6.setCell ⟨bo, 0, none⟩ (.slice a6 (n + 1) c6)) B bo a6 (n + 1) c6 (xs ++ [v]) T ∧ Fr (fun q => q = bo ∨ onBlk a q) w (w6.setCell ⟨bo, 0, none⟩ (.slice a6 (n + 1) c6)) := by
  have hlt := h.o.lt
  have hba : ¬ onBlk a bo := fun e => (h.aT bo e).1 rfl
  have hb6 : ¬ onBlk a6 bo := fun e => (at_ bo e).elim hba (fun g => by omega)
  refine ⟨⟨(h.o.fr f hba).set _, ?_, h.bT, fun q hq => ⟨fun e => hb6 (e ▸ hq), fun e => (at_ q hq).elim (fun g => (h.aT q g).2 e) (fun g => by have := hT q e; omega)⟩⟩, (f.mono (fun q _ e => .inr e)).setCell (p := ⟨bo, 0, none⟩) (fun _ => .inl rfl) _⟩
  have := O.other (p := ⟨bo, 0, none⟩) hb6 (.slice a6 (n + 1) c6)
  simpa [ints] using this
section
variable {w w8 w10 : World} {hb rate : Nat} {n : Int} {ts : List Tr} {own : List Int} {I : List (Option Nat)} {T : Nat → Prop} {at_ ao ai : Option Addr} {ct co ci : Nat} {Nt : Nat → Nat → Prop}
/-- One item more, by two appends. -/
theorem HS.app2 {a8 a10 : Option Addr} {c8 c10 : Nat} {k : Int} {bx : Option Nat} (h : HS w hb rate n ts own I T at_ ct ao co ai ci Nt) (O8 : Own w8 0 3 a8 (own.length + 1) c8 (ints own ++ ints [k])) (f8 : Fr (onBlk ao) w w8) (A8 : ∀ q, onBlk a8 q → onBlk ao q ∨ w.heap.size ≤ q)
    (O10 : Own w10 0 60 a10 (own.length + 1) c10 (ptrs I ++ [.pointer (bx.map fun b => ⟨b, 0, none⟩)])) (f10 : Fr (onBlk ai) (w8.setCell ⟨hb, 2, none⟩ (.slice a8 (own.length + 1) c8)) w10) (A10 : ∀ q, onBlk a10 q → onBlk ai q ∨ w8.heap.size ≤ q) :
    HS (w10.setCell ⟨hb, 3, none⟩ (.slice a10 (own.length + 1) c10)) hb rate n ts (own ++ [k]) (I ++ [bx]) (fun q => T q ∨ onBlk a8 q ∨ onBlk a10 q) at_ ct a8 c8 a10 c10 Nt ∧ Fr (fun q => q = hb ∨ onBlk ao q ∨ onBlk ai q) w (w10.setCell ⟨hb, 3, none⟩ (.slice a10 (own.length + 1) c10)) ∧ ∀ q, (T q ∨ onBlk a8 q ∨ onBlk a10 q) → T q ∨ w.heap.size ≤ q := by
  have hs8 := f8.size
  have hao : ¬ onBlk ao hb := fun e => (h.oT hb e).2.1 rfl
  have hai : ¬ onBlk ai hb := fun e => (h.iT hb e).2 rfl
  have hlt := h.lt hb h.hT
  have haoT : ∀ q, onBlk ao q → q < w.heap.size := fun q hq => h.lt q (h.oT q hq).1
  have haiT : ∀ q, onBlk ai q → q < w.heap.size := fun q hq => h.lt q (h.iT q hq).1
  have h8 : ∀ q, onBlk a8 q → q ≠ hb ∧ ¬ onBlk ai q ∧ q < w8.heap.size := fun q hq => by
    have h9 := (O8.blk q hq).2
    rcases A8 q hq with e | e
    · exact ⟨(h.oT q e).2.1, (h.oT q e).2.2, h9⟩
    · exact ⟨fun g => by omega, fun g => by have := haiT q g; omega, h9⟩
  have h10 : ∀ q, onBlk a10 q → (onBlk ai q ∨ w.heap.size ≤ q) ∧ q ≠ hb ∧ ¬ onBlk a8 q := fun q hq => by
    rcases A10 q hq with e | e
    · exact ⟨.inl e, fun g => hai (g ▸ e), fun g => (h8 q g).2.1 e⟩
    · exact ⟨.inr (by omega), fun g => by omega, fun g => by have := (h8 q g).2.2; omega⟩
  have FT : Fr (fun q => q = hb ∨ onBlk ao q ∨ onBlk ai q) w (w10.setCell ⟨hb, 3, none⟩ (.slice a10 (own.length + 1) c10)) := ((((f8.mono (fun q _ e => .inr (.inl e))).setCell (p := ⟨hb, 2, none⟩) (fun _ => .inl rfl) (.slice a8 (own.length + 1) c8))).trans f10 (fun q _ e => .inr (.inr e))).setCell (p := ⟨hb, 3, none⟩) (fun _ => .inl rfl) _
  have B9 : Blk (w10.setCell ⟨hb, 3, none⟩ (.slice a10 (own.length + 1) c10)) hb 59 [.int .i64 rate, .slice at_ ts.length ct, .slice a8 (own.length + 1) c8, .slice a10 (own.length + 1) c10, .int .i64 n] := by
    have := (((h.blk.fr f8 hao).set 2 (.slice a8 (own.length + 1) c8)).fr f10 hai).set 3 (.slice a10 (own.length + 1) c10)
    simpa [heC] using this
  refine ⟨h.moreO (key := k) (n' := n) (bx := bx) ?_ ?_ ?_ FT (fun q _ e => e) A8 (fun q hq => (h10 q hq).1) (fun q hq e => (h10 q e).2.2 hq), FT, ?_⟩
  · have := ((O8.other (p := ⟨hb, 2, none⟩) (fun e => (h8 hb e).1 rfl) (.slice a8 (own.length + 1) c8)).fr f10 (fun q hq e => (h8 q hq).2.1 e)).other (p := ⟨hb, 3, none⟩) (fun e => (h8 hb e).1 rfl) (.slice a10 (own.length + 1) c10)
    simpa [ints] using this
  · rw [h.len]
    exact O10.other (p := ⟨hb, 3, none⟩) (fun e => (h10 hb e).2.1 rfl) _
  · rw [h.len]; exact B9
  · rintro q (e | e | e)
    · exact .inl e
    · exact (A8 q e).elim (fun g => .inl (h.oT q g).1) .inr
    · exact (h10 q e).1.elim (fun g => .inl (h.iT q g).1) .inr
end
/-- .. and some items more that are nowhere. -/
def M2 (w0 wr : World) (ha rate bo : Nat) (n : Int) (ts : List Tr) (ownA : List Int) (IA : List (Option Nat)) (TA : Nat → Prop) (at_ : Option Addr) (ct : Nat) (Nt : Nat → Nat → Prop) (m : Nat) (ownB : List Int) (IB : List (Option Nat)) (r : Nat) : Prop :=
  ∃ ab cb ao co ai ci T, HS wr ha rate n ts (ownA ++ selO ownB IB ++ List.replicate r 0) (IA ++ somes IB ++ List.replicate r none) T at_ ct ao co ai ci Nt ∧ Out wr w0.heap.size bo ab IB.length cb (names m IB) T ∧ (∀ q, T q → TA q ∨ w0.heap.size ≤ q) ∧ Fr TA w0 wr
/-- How many items the heap has. -/
def lenAt (w : World) (ha : Nat) : Nat := match w.cell? ⟨ha, 2, none⟩ with
  | some (.slice _ n _) => n
  | _ => 0
theorem lenAt_eq {w : World} {ha : Nat} {a : Option Addr} {n c : Nat} (h : w.cell? ⟨ha, 2, none⟩ = some (.slice a n c)) : lenAt w ha = n := by
  unfold lenAt
  rw [h]
theorem HS.setN {w : World} {hb rate : Nat} {n : Int} {ts : List Tr} {own : List Int} {I : List (Option Nat)} {T : Nat → Prop} {at_ ao ai : Option Addr} {ct co ci : Nat} {Nt : Nat → Nat → Prop} (h : HS w hb rate n ts own I T at_ ct ao co ai ci Nt) (n' : Int) : HS (w.setCell ⟨hb, 4, none⟩ (.int .i64 n')) hb rate n' ts own I T at_ ct ao co ai ci Nt := by
  have f : Fr (onB hb) w (w.setCell ⟨hb, 4, none⟩ (.int .i64 n')) := (Fr.refl (onB hb) w).setB 4 _
  refine { h with blk := ?_, ot := h.ot.fr f (fun q hq (e : q = hb) => (h.aT q hq).2.1 e), oo := h.oo.fr f (fun q hq (e : q = hb) => (h.oT q hq).2.1 e), oi := h.oi.fr f (fun q hq (e : q = hb) => (h.iT q hq).2 e), tm := fun i t ht => (h.tm i t ht).fr f (fun q hq (e : q = hb) => (h.tT i q hq).2.1 e), lt := fun q hq => by have := h.lt q hq; simpa using this }
  have := h.blk.set 4 (.int .i64 n')
  simpa [heC] using this
/-- What adding some trees does. -/
inductive Ads (rate : Nat) : List Tr → List Tr → List (Option Nat) → List Tr → List (Option Nat) → Prop
  | done {ts I} : Ads rate ts [] I ts I
  | skip {ts xs I ts' I'} (h : Ads rate ts xs I ts' I') : Ads rate ts (.nil :: xs) I ts' I'
  | add {ts x xs I ts1 I1 ts' I'} (h : Ad rate ts x I ts1 I1) (h2 : Ads rate ts1 xs I1 ts' I') : Ads rate ts (x :: xs) I ts' I'
theorem Ads.perm {rate : Nat} {ts xs : List Tr} {I : List (Option Nat)} {ts' : List Tr} {I' : List (Option Nat)} (h : Ads rate ts xs I ts' I') : (flat ts').Perm (flat xs ++ flat ts) := by
  induction h with
  | done => exact List.Perm.refl _
  | skip _ ih => exact ih
  | @add ts x xs I ts1 I1 ts' I' h _ ih =>
    refine ih.trans ((h.perm.append_left (flat xs)).trans ?_)
    simp only [flat, List.flatMap_cons]
    rw [← List.append_assoc]
    exact List.perm_append_comm.append_right _
theorem Ads.sm {rate : Nat} {ts xs : List Tr} {I : List (Option Nat)} {ts' : List Tr} {I' : List (Option Nat)} (h : Ads rate ts xs I ts' I') {i : Int} (hi : Sm I i) : Sm I' i := by
  induction h with
  | done => exact hi
  | skip _ ih => exact ih hi
  | add h _ ih => exact ih (h.sm hi)
/-- Under way: some trees were added. -/
def M3 (w1 : World) (ha rate : Nat) (n : Int) (own : List Int) (f : Int → Int) (T1 : Nat → Prop) (tsA : List Tr) (I1 : List (Option Nat)) (tsB : List Tr) (NtB : Nat → Nat → Prop) (wr : World) (j : Nat) : Prop :=
  ∃ ts I T at_ ct ao co ai ci Nt, HS wr ha rate n ts own I T at_ ct ao co ai ci Nt ∧ Gd own.length ts ((tsB.map (Rn f)).drop j) ∧ (∀ i t, j ≤ i → tsB[i]? = some t → TM wr t (NtB i)) ∧ (∀ i q, j ≤ i → NtB i q → ¬ T q) ∧ (∀ q, T q → T1 q ∨ (∃ i, NtB i q) ∨ w1.heap.size ≤ q) ∧ Fr (fun q => T1 q ∨ ∃ i, NtB i q) w1 wr ∧ ∀ ts' I', Ads rate ts ((tsB.map (Rn f)).drop j) I ts' I' → Ads rate tsA (tsB.map (Rn f)) I1 ts' I'
section
variable {w1 wr w2 w3 : World} {ha rate : Nat} {n : Int} {own : List Int} {f : Int → Int} {T1 : Nat → Prop} {tsA : List Tr} {I1 : List (Option Nat)} {tsB : List Tr} {NtB : Nat → Nat → Prop} {j : Nat}
theorem drop_get {α : Type} {l : List α} {j : Nat} {x : α} (h : l[j]? = some x) : l.drop j = x :: l.drop (j + 1) := by
  obtain ⟨hj, e⟩ := List.getElem?_eq_some_iff.1 h
  rw [List.drop_eq_getElem_cons hj, e]
theorem M3.skip (h : M3 w1 ha rate n own f T1 tsA I1 tsB NtB wr j) (ht : tsB[j]? = some .nil) : M3 w1 ha rate n own f T1 tsA I1 tsB NtB wr (j + 1) := by
  obtain ⟨ts, I, T, at_, ct, ao, co, ai, ci, Nt, H, hG, hT, hN, hTT, F, hA⟩ := h
  have e : (tsB.map (Rn f)).drop j = .nil :: (tsB.map (Rn f)).drop (j + 1) := drop_get (by rw [List.getElem?_map, ht]; rfl)
  rw [e] at hG hA
  exact ⟨ts, I, T, at_, ct, ao, co, ai, ci, Nt, H, hG.skip, fun i t hi => hT i t (by omega), fun i q hi => hN i q (by omega), hTT, F, fun ts' I' h => hA ts' I' (.skip h)⟩
theorem M3.step (h : M3 w1 ha rate n own f T1 tsA I1 tsB NtB wr j) {t : Tr} (ht : tsB[j]? = some t) (hn : t ≠ .nil) (sepB : ∀ i i' q, NtB i q → NtB i' q → i = i') (ltB : ∀ i q, NtB i q → q < w1.heap.size) (F2 : Fr (NtB j) wr w2) (T2 : TM w2 (Rn f t) (NtB j)) (hr : rate ≤ 20) :
    ∃ Q : Ending → World → Prop, Calls Try.prog 29 #[.pointer (some ⟨ha, 0, none⟩), .pointer t.ptr] w2 Q ∧ ∀ e w3, Q e w3 → e = .returned (.tuple #[]) ∧ M3 w1 ha rate n own f T1 tsA I1 tsB NtB w3 (j + 1) := by
  obtain ⟨ts, I, T, at_, ct, ao, co, ai, ci, Nt, H, hG, hT, hN, hTT, F, hA⟩ := h
  have e : (tsB.map (Rn f)).drop j = Rn f t :: (tsB.map (Rn f)).drop (j + 1) := drop_get (by rw [List.getElem?_map, ht]; rfl)
  rw [e] at hG hA
  have hn' : Rn f t ≠ .nil := by cases t with
    | nil => exact absurd rfl hn
    | nd => simp [Rn]
  have H2 := H.fr F2 (fun q hq e => hN j q (by omega) e hq)
  refine ⟨_, by rw [← Rn.ptr f t]; exact add_any H2 T2 hn' (fun q hq => hN j q (by omega) hq) hG.only hr, ?_⟩
  rintro e w3 ⟨ts', I', T', at', ct', ao', co', ai', ci', Nt', rfl, hAd, hHS, hGd, F3, hT3⟩
  have hs1 := F.size
  have hs2 := F2.size
  refine ⟨rfl, ts', I', T', at', ct', ao', co', ai', ci', Nt', hHS, hG.next hn' hAd hGd, fun i t' hi ht' => ((hT i t' (by omega) ht').fr F2 (fun q hq e => ?_)).fr F3 (fun q hq e => ?_), fun i q hi hq e => ?_, fun q hq => ?_, (F.trans F2 (fun q _ e => .inr ⟨j, e⟩)).trans F3 (fun q hq e => ?_), fun ts'' I'' h => hA ts'' I'' (.add hAd h)⟩
  · have := sepB i j q hq e; omega
  · rcases e with e | e
    · exact hN i q (by omega) hq e
    · have := sepB i j q hq e; omega
  · have hlq := ltB i q hq
    rcases hT3 q e with (e | e) | e
    · exact hN i q (by omega) hq e
    · have := sepB i j q hq e; omega
    · omega
  · rcases hT3 q hq with (e | e) | e
    · exact hTT q e
    · exact .inr (.inl ⟨j, e⟩)
    · exact .inr (.inr (by omega))
  · rcases e with e | e
    · rcases hTT q e with e | e | e
      · exact .inl e
      · exact .inr e
      · omega
    · exact .inr ⟨j, e⟩
end
theorem somes_get {I : List (Option Nat)} {i b : Nat} (h : I[i]? = some (some b)) : (somes I)[cnt (I.take i)]? = some (some b) := by
  induction I generalizing i with
  | nil => simp at h
  | cons x I ih =>
    cases i with
    | zero =>
      simp at h
      subst h
      simp [somes, cnt]
    | succ i =>
      simp at h
      have := ih h
      cases x with
      | none => simpa [somes, cnt] using this
      | some c => simpa [somes, cnt] using this
theorem Sm.left {I J : List (Option Nat)} {i : Int} (h : Sm I i) : Sm (I ++ J) i := by
  obtain ⟨b, h⟩ := h
  exact ⟨b, by rw [List.getElem?_append_left (List.getElem?_eq_some_iff.1 h).1]; exact h⟩
theorem Sm.new {IA IB J : List (Option Nat)} {i : Int} {m : Nat} (h : Sm IB i) (hm : IA.length = m) : Sm (IA ++ somes IB ++ J) (nm (names m IB) i) := by
  rw [nm_some h]
  obtain ⟨b, h⟩ := h
  refine Sm.left ⟨b, ?_⟩
  rw [Int.toNat_natCast, List.getElem?_append_right (by omega), hm, Nat.add_sub_cancel_left]
  exact somes_get h
/-- What a meld leaves. -/
def MdP (w : World) (ha hb rate : Nat) (tsA : List Tr) (ownA : List Int) (IA : List (Option Nat)) (TA : Nat → Prop) (tsB : List Tr) (ownB : List Int) (IB : List (Option Nat)) (TB : Nat → Prop) (e : Ending) (w' : World) : Prop :=
  ∃ ab cb tsF IF TF, e = .returned (.tuple #[.slice ab ownB.length cb, .int .i64 0]) ∧ Hp w' ha rate tsF (ownA ++ selO ownB IB ++ List.replicate (ownB.length - cnt IB) 0) IF TF ∧ Ads rate tsA (tsB.map (Rn (nm (names ownA.length IB)))) (IA ++ somes IB ++ List.replicate (ownB.length - cnt IB) none) tsF IF ∧ Hp w' hb rate [] [] [] (fun q => q = hb) ∧ Own w' 0 3 ab ownB.length cb (ints (names ownA.length IB)) ∧ (∀ q, onBlk ab q → w.heap.size ≤ q ∧ ¬ TF q) ∧ Fr (fun q => TA q ∨ TB q) w w' ∧ ∀ q, TF q → (TA q ∨ TB q ∨ w.heap.size ≤ q) ∧ q ≠ hb
/-- The other heap, emptied. -/
theorem Hp.empty {w : World} {hb rate : Nat} (hr : rate ≤ 20) (B : Blk w hb 59 [.int .i64 rate, .slice none 0 0, .slice none 0 0, .slice none 0 0, .int .i64 0]) : Hp w hb rate [] [] [] (fun q => q = hb) :=
  ⟨none, 0, none, 0, none, 0, fun _ _ => False, ⟨B, Own.nil _ _ _, Own.nil _ _ _, Own.nil _ _ _, rfl, fun i t h => by simp at h, fun _ _ _ h => h.elim, fun _ _ h => h.elim, rfl, fun q h => absurd h (onBlk_none _), fun q h => absurd h (onBlk_none _), fun q h => absurd h (onBlk_none _), fun q (e : q = hb) => e ▸ B.lt⟩, ⟨fun i t h => by simp at h, by simp, by simp [flat], by simp [flat], by simp [wts], by simp, by simp⟩, hr, by simp [flat]⟩
/-- All ways through a region end alike. -/
theorem cut3 {α β γ : Type} {P : Prop} (F G : α → β → γ → Prop) (h1 : Hid (∀ a b c, F a b c → G a b c) → P) (h2 : ∀ a b c, F a b c → G a b c) : P := h1 (Lib.hid h2)
end Go.Proofs.Ytdphademoeofkaa
