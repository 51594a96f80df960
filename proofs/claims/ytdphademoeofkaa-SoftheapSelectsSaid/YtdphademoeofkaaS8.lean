/- New, Len, Inserted, Insert. -/
import Derived.Test.YtdphademoeofkaaS7
namespace Go.Proofs.Ytdphademoeofkaa
open Go.RowKit
attribute [local go_sem ↓] Go.wp_at_zero Go.wp_at_succ
theorem Ad.perm {rate : Nat} {ts : List Tr} {x : Tr} {I : List (Option Nat)} {ts' : List Tr} {I' : List (Option Nat)} (h : Ad rate ts x I ts' I') : (flat ts').Perm (x.ids ++ flat ts) := by
  induction h with
  | @put ts x I h =>
    have := flat_set h x
    rw [flat_pad] at this
    simpa [Tr.ids] using this
  | @comb ts x I y z I1 ts' I' n bz h hy hR h2 ih =>
    have h3 := flat_set h .nil
    rw [flat_pad] at h3
    simp only [Tr.ids, List.nil_append] at h3
    have h4 := hR.perm
    simp only [Tr.ids, List.nil_append] at h4
    refine ih.trans ((h4.append_right _).trans ?_)
    refine (List.perm_append_comm.append_right _).trans ?_
    rw [List.append_assoc]
    exact h3.append_left _
section
variable {w w' : World} {hb rate : Nat} {n : Int} {ts : List Tr} {own : List Int} {I : List (Option Nat)} {T : Nat → Prop} {at_ ao ai : Option Addr} {ct co ci : Nat} {Nt : Nat → Nat → Prop}
/-- One item more. -/
theorem HS.more {F : Nat → Prop} {ao' ai' : Option Addr} {co' ci' bx : Nat} {key n' : Int} (h : HS w hb rate n ts own I T at_ ct ao co ai ci Nt) (Oo : Own w' 0 3 ao' (own.length + 1) co' (ints own ++ [.int .i64 key])) (Oi : Own w' 0 60 ai' (I.length + 1) ci' (ptrs I ++ [.pointer (some ⟨bx, 0, none⟩)]))
    (B : Blk w' hb 59 [.int .i64 rate, .slice at_ ts.length ct, .slice ao' (own.length + 1) co', .slice ai' (I.length + 1) ci', .int .i64 n']) (f : Fr F w w') (hF : ∀ q, T q → F q → q = hb ∨ onBlk ao q ∨ onBlk ai q)
    (hao : ∀ q, onBlk ao' q → onBlk ao q ∨ w.heap.size ≤ q) (hai : ∀ q, onBlk ai' q → onBlk ai q ∨ w.heap.size ≤ q) (hoi : ∀ q, onBlk ao' q → ¬ onBlk ai' q) :
    HS w' hb rate n' ts (own ++ [key]) (I ++ [some bx]) (fun q => T q ∨ onBlk ao' q ∨ onBlk ai' q) at_ ct ao' co' ai' ci' Nt := by
  have hs := f.size
  have na : ∀ q, T q → ¬ onBlk ao q → ¬ onBlk ao' q := fun q hq g e => (hao q e).elim g (fun e => by have := h.lt q hq; omega)
  have ni : ∀ q, T q → ¬ onBlk ai q → ¬ onBlk ai' q := fun q hq g e => (hai q e).elim g (fun e => by have := h.lt q hq; omega)
  have nF : ∀ q, T q → q ≠ hb → ¬ onBlk ao q → ¬ onBlk ai q → ¬ F q := fun q hq g1 g2 g3 e => (hF q hq e).elim g1 (fun e => e.elim g2 g3)
  refine ⟨by simpa [heC] using B, h.ot.fr f (fun q hq => ?_), by simpa [ints] using Oo, by simpa [ptrs] using Oi, by simp [h.len], fun i t ht => (h.tm i t ht).fr f (fun q hq => ?_), h.sep, fun i q hq => ?_, .inl h.hT, fun q hq => ?_, fun q hq => ?_, fun q hq => ?_, fun q hq => ?_⟩
  · have := h.aT q hq
    exact nF q this.1 this.2.1 this.2.2.1 this.2.2.2
  · have := h.tT i q hq
    exact nF q this.1 this.2.1 this.2.2.2.1 this.2.2.2.2
  · have := h.tT i q hq
    exact ⟨.inl this.1, this.2.1, this.2.2.1, na q this.1 this.2.2.2.1, ni q this.1 this.2.2.2.2⟩
  · have := h.aT q hq
    exact ⟨.inl this.1, this.2.1, na q this.1 this.2.2.1, ni q this.1 this.2.2.2⟩
  · refine ⟨.inr (.inl hq), ?_, hoi q hq⟩
    rcases hao q hq with e | e
    · exact (h.oT q e).2.1
    · intro g; have := h.lt hb h.hT; omega
  · refine ⟨.inr (.inr hq), ?_⟩
    rcases hai q hq with e | e
    · exact (h.iT q e).2
    · intro g; have := h.lt hb h.hT; omega
  · rcases hq with hq | hq | hq
    · have := h.lt q hq; omega
    · exact (Oo.blk q hq).2
    · exact (Oi.blk q hq).2
end
/-- The item is somewhere. -/
def Sm (I : List (Option Nat)) (i : Int) : Prop := ∃ b, I[i.toNat]? = some (some b)
theorem Sm.set {I : List (Option Nat)} {i : Int} (h : Sm I i) (j b : Nat) : Sm (I.set j (some b)) i := by
  obtain ⟨c, h⟩ := h
  by_cases e : j = i.toNat
  · refine ⟨b, ?_⟩
    rw [← e] at h ⊢
    exact List.getElem?_set_self (List.getElem?_eq_some_iff.1 h).1
  · exact ⟨c, by rw [List.getElem?_set_ne e]; exact h⟩
theorem Sm.setMany {i : Int} {b : Nat} : ∀ {l : List Int} {I : List (Option Nat)}, Sm I i → Sm (setMany I l b) i
  | [], _, h => h
  | j :: l, _, h => Sm.setMany (l := l) (h.set j.toNat b)
theorem Rf.sm {n : Nat} {x x' : Tr} {I I' : List (Option Nat)} (h : Rf n x I x' I') {i : Int} (hi : Sm I i) : Sm I' i := by
  induction h with
  | stop => exact hi
  | leaf _ _ _ _ ih => exact ih hi.setMany
  | deep _ _ _ _ _ _ ihy ih => exact ih (ihy hi.setMany)
theorem Ad.sm {rate : Nat} {ts : List Tr} {x : Tr} {I : List (Option Nat)} {ts' : List Tr} {I' : List (Option Nat)} (h : Ad rate ts x I ts' I') {i : Int} (hi : Sm I i) : Sm I' i := by
  induction h with
  | put => exact hi
  | comb _ _ hR _ ih => exact ih (hR.sm hi)
/-- A heap as one knows it from outside. -/
def Hp (w : World) (hb rate : Nat) (ts : List Tr) (own : List Int) (I : List (Option Nat)) (T : Nat → Prop) : Prop :=
  ∃ at_ ct ao co ai ci Nt, HS w hb rate ((flat ts).length : Nat) ts own I T at_ ct ao co ai ci Nt ∧ Gd own.length ts [] ∧ rate ≤ 20 ∧ ∀ i ∈ flat ts, Sm I i
theorem Hp.fr {w w' : World} {hb rate : Nat} {ts : List Tr} {own : List Int} {I : List (Option Nat)} {T F : Nat → Prop} (h : Hp w hb rate ts own I T) (f : Fr F w w') (hF : ∀ q, T q → ¬ F q) : Hp w' hb rate ts own I T := by
  obtain ⟨at_, ct, ao, co, ai, ci, Nt, h1, h2, h3⟩ := h
  exact ⟨at_, ct, ao, co, ai, ci, Nt, h1.fr f hF, h2, h3⟩
theorem Hp.lt {w : World} {hb rate : Nat} {ts : List Tr} {own : List Int} {I : List (Option Nat)} {T : Nat → Prop} (h : Hp w hb rate ts own I T) : ∀ q, T q → q < w.heap.size := by
  obtain ⟨_, _, _, _, _, _, _, h1, _⟩ := h
  exact h1.lt
theorem New_bad (w : World) {k : Int} (h : k < 0 ∨ 20 < k) : Calls Try.prog 8 #[.int .i64 k] w fun e w' => e = .returned (.tuple #[.pointer none, .int .i64 2]) ∧ w = w' := by
  by_cases h1 : k < 0
  · clear h
    go_enter Try.func8, Try.ntmps8
    go_wp2_with fail
    go_ret2
    exact ⟨rfl, rfl⟩
  · have h2 : 20 < k := h.elim (fun e => absurd e h1) id
    clear h
    go_enter Try.func8, Try.ntmps8
    go_wp2_with fail
    go_ret2
    exact ⟨rfl, rfl⟩
theorem New_ok (w : World) {k : Nat} (h2 : k ≤ 20) : Calls Try.prog 8 #[.int .i64 k] w fun e w' => ∃ hb, e = .returned (.tuple #[.pointer (some ⟨hb, 0, none⟩), .int .i64 0]) ∧ Hp w' hb k [] [] [] (fun q => q = hb) ∧ Fr F0 w w' ∧ w.heap.size ≤ hb := by
  have g1 : ¬ (k : Int) < 0 := by omega
  have g2 : ¬ (20 : Int) < k := by omega
  go_enter Try.func8, Try.ntmps8
  go_wp2_with fail
  go_ret2
  refine ⟨w.heap.size, rfl, ⟨none, 0, none, 0, none, 0, fun _ _ => False, ⟨Blk.new w 59 _, Own.nil _ _ _, Own.nil _ _ _, Own.nil _ _ _, rfl, fun i t h => by simp at h, fun _ _ _ h => h.elim, fun _ _ h => h.elim, rfl, fun q h => absurd h (onBlk_none _), fun q h => absurd h (onBlk_none _), fun q h => absurd h (onBlk_none _), fun q (e : q = w.heap.size) => by rw [size_alloc]; omega⟩, ⟨fun i t h => by simp at h, by simp, by simp [flat], by simp [flat], by simp [wts], by simp, by simp⟩, h2, by simp [flat]⟩, (Fr.refl _ _).alloc _, Nat.le_refl _⟩
theorem Len_any {w : World} {hb rate : Nat} {ts : List Tr} {own : List Int} {I : List (Option Nat)} {T : Nat → Prop} (h : Hp w hb rate ts own I T) : Calls Try.prog 11 #[.pointer (some ⟨hb, 0, none⟩)] w fun e w' => e = .returned (.int .i64 ((flat ts).length : Nat)) ∧ w = w' := by
  obtain ⟨at_, ct, ao, co, ai, ci, Nt, h1, h2, h3⟩ := h
  have y4 : w.cell? ⟨hb, 4, none⟩ = some (.int .i64 ((flat ts).length : Nat)) := h1.blk.cell (i := 4) rfl
  clear h1 h2 h3
  go_enter Try.func11, Try.ntmps11
  go_wp2_with fail
  go_ret
  exact ⟨rfl, rfl⟩
theorem Inserted_any {w : World} {hb rate : Nat} {ts : List Tr} {own : List Int} {I : List (Option Nat)} {T : Nat → Prop} (h : Hp w hb rate ts own I T) : Calls Try.prog 15 #[.pointer (some ⟨hb, 0, none⟩)] w fun e w' => e = .returned (.int .i64 (own.length : Nat)) ∧ w = w' := by
  obtain ⟨at_, ct, ao, co, ai, ci, Nt, h1, h2, h3⟩ := h
  have y2 : w.cell? ⟨hb, 2, none⟩ = some (.slice ao own.length co) := h1.blk.cell (i := 2) rfl
  clear h1 h2 h3
  go_enter Try.func15, Try.ntmps15
  go_wp2_with fail
  go_ret
  exact ⟨rfl, rfl⟩
theorem Insert_bad {w : World} {hb : Nat} {k : Int} (h : k < -1048576 ∨ 1048576 < k) : Calls Try.prog 9 #[.pointer (some ⟨hb, 0, none⟩), .int .i64 k] w fun e w' => e = .returned (.tuple #[.int .i64 0, .int .i64 2]) ∧ w = w' := by
  by_cases h1 : k < -1048576
  · clear h
    go_enter Try.func9, Try.ntmps9
    go_wp2_with fail
    go_ret2
    exact ⟨rfl, rfl⟩
  · have h2 : 1048576 < k := h.elim (fun e => absurd e h1) id
    clear h
    go_enter Try.func9, Try.ntmps9
    go_wp2_with fail
    go_ret2
    exact ⟨rfl, rfl⟩
/-- What an insertion leaves. -/
def InsP (w : World) (hb rate : Nat) (ts : List Tr) (own : List Int) (I : List (Option Nat)) (T : Nat → Prop) (k : Int) (e : Ending) (w' : World) : Prop :=
  ∃ bx ts' I' T', e = .returned (.tuple #[.int .i64 (own.length : Nat), .int .i64 0]) ∧ Hp w' hb rate ts' (own ++ [k]) I' T' ∧ Ad rate ts (.nd bx .nil .nil [(own.length : Int)] k 0 1) (I ++ [some bx]) ts' I' ∧ Fr T w w' ∧ ∀ q, T' q → T q ∨ w.heap.size ≤ q
set_option maxHeartbeats 4000000 in
theorem Insert_ok {w : World} {hb rate : Nat} {ts : List Tr} {own : List Int} {I : List (Option Nat)} {T : Nat → Prop} (h : Hp w hb rate ts own I T) {k : Int} (h1 : -1048576 ≤ k) (h2 : k ≤ 1048576) (hl : own.length < 2000) :
    Calls Try.prog 9 #[.pointer (some ⟨hb, 0, none⟩), .int .i64 k] w (InsP w hb rate ts own I T k) := by
  obtain ⟨at_, ct, ao, co, ai, ci, Nt, hS, hG, hr, hsm⟩ := h
  have HSm := Lib.hid hsm
  clear hsm
  have HS0 := Lib.hid hS
  have HG := Lib.hid hG
  obtain ⟨m, hm⟩ : ∃ m, m = own.length := ⟨_, rfl⟩
  have Hm := Lib.hid hm
  have hIl : Hid (I.length = m) := Lib.hid (by rw [hS.len, hm])
  rw [← hm] at hl
  have y2 : w.cell? ⟨hb, 2, none⟩ = some (.slice ao m co) := by rw [hm]; exact hS.blk.cell (i := 2) rfl
  have hblt := hS.lt hb hS.hT
  have d1 : decide ((2000 : Int) ≤ (m : Int)) = false := decide_eq_false (by omega)
  have d2 : decide (k < -1048576) = false := decide_eq_false (by omega)
  have d3 : decide (1048576 < k) = false := decide_eq_false (by omega)
  have HL := Lib.hid (And.intro hl (And.intro h1 h2))
  obtain ⟨w2, hw2⟩ : ∃ w2, w2 = ((w.alloc (.cells #[.int .i64 m] 3)).alloc (.cells #[.pointer none, .pointer none, .slice (some ⟨w.heap.size, 0, none⟩) 1 1, .int .i64 k, .int .i64 0, .int .i64 1] 62)) := ⟨_, rfl⟩
  have hs2 : w2.heap.size = w.heap.size + 1 + 1 := by rw [hw2, size_alloc, size_alloc]
  have F2 : Hid (Fr F0 w w2) := Lib.hid (by rw [hw2]; exact ((Fr.refl _ _).alloc _).alloc _)
  have H2 : Hid (HS w2 hb rate ((flat ts).length : Nat) ts own I T at_ ct ao co ai ci Nt) := Lib.hid (HS0.out.fr F2.out (fun _ _ => id))
  have OX : Hid (Own w2 0 3 (some ⟨w.heap.size, 0, none⟩) 1 1 (ints [(m : Int)])) := Lib.hid (by
    have h := Own.lit (w := w) (B := w.heap.size) (T := 3) (ints [(m : Int)]) 1 rfl (by omega) (by omega)
    rw [hw2]
    exact (h.mono (by omega)).fr0 ((Fr.refl _ _).alloc _))
  have BX : Hid (Blk w2 (w.heap.size + 1) 62 (ndS none none (some ⟨w.heap.size, 0, none⟩) 1 1 k 0 1)) := Lib.hid (by
    have h := Blk.new (w.alloc (.cells #[.int .i64 m] 3)) 62 (ndS none none (some ⟨w.heap.size, 0, none⟩) 1 1 k 0 1)
    rw [size_alloc] at h
    rw [hw2]
    exact h)
  have hO2 : Hid (Own ((w.alloc (.cells #[.int .i64 m] 3)).alloc (.cells #[.pointer none, .pointer none, .slice (some ⟨w.heap.size, 0, none⟩) 1 1, .int .i64 k, .int .i64 0, .int .i64 1] 62)) 0 3 ao m co (ints own)) := Lib.hid (by rw [← hw2, Hm.out]; exact H2.out.oo)
  have hI2 : Hid (Own ((w.alloc (.cells #[.int .i64 m] 3)).alloc (.cells #[.pointer none, .pointer none, .slice (some ⟨w.heap.size, 0, none⟩) 1 1, .int .i64 k, .int .i64 0, .int .i64 1] 62)) 0 60 ai m ci (ptrs I)) := Lib.hid (by rw [← hw2]; have := H2.out.oi; rwa [hIl.out] at this)
  have hB2 : Hid (Blk ((w.alloc (.cells #[.int .i64 m] 3)).alloc (.cells #[.pointer none, .pointer none, .slice (some ⟨w.heap.size, 0, none⟩) 1 1, .int .i64 k, .int .i64 0, .int .i64 1] 62)) hb 59 [.int .i64 rate, .slice at_ ts.length ct, .slice ao m co, .slice ai m ci, .int .i64 ((flat ts).length : Nat)]) := Lib.hid (by rw [← hw2]; have := H2.out.blk; unfold heC at this; rwa [hIl.out, ← Hm.out] at this)
  have hao : Hid (¬ onBlk ao hb) := Lib.hid (fun e => (HS0.out.oT hb e).2.1 rfl)
  have hai : Hid (¬ onBlk ai hb) := Lib.hid (fun e => (HS0.out.iT hb e).2 rfl)
  have hoi : Hid (∀ q, onBlk ai q → ¬ onBlk ao q) := Lib.hid (fun q hq e => (HS0.out.oT q e).2.2 hq)
  have hm9 : m ≤ 2000 := by omega
  have hfl : Hid ((flat ts).length ≤ 2000) := Lib.hid (by have := nodup_bound own.length (flat ts) (by have := hG.nd; simpa [flat] using this) (fun i hi => hG.bd i (by simp [hi])); have := hG.m2; omega)
  obtain ⟨fl, hflx⟩ : ∃ fl, fl = (flat ts).length := ⟨_, rfl⟩
  have Hfl := Lib.hid hflx
  rw [← hflx] at hB2
  have hfl9 : fl ≤ 2000 := by rw [hflx]; exact hfl.out
  have HW2 := Lib.hid (And.intro hw2 hs2)
  clear hS hG hm hl h1 h2 hw2 hflx
  go_enter Try.func9, Try.ntmps9
  go_wp2_with (first
    | (at_builtin; refine wpAppAt E3 hO2.out (by omega) (by omega) (by omega) (u := .int .i64 k) rfl rfl (by rw [size_alloc, size_alloc]; rfl) ?_; intro a3 c3 w3 own3 fr3 at3; have B3 := Lib.hid (hB2.out.fr fr3 hao.out); have y2a := B3.out.cell (i := 2) rfl; have z2a := B3.out.free 2; have y3a := B3.out.cell (i := 3) rfl; have hI4 : Hid (Own (w3.setCell ⟨hb, 2, none⟩ (.slice a3 (m + 1) c3)) 0 60 ai m ci (ptrs I)) := Lib.hid ((hI2.out.fr fr3 (fun q hq e => hoi.out q hq e)).other (p := ⟨hb, 2, none⟩) hai.out _); have O3 := Lib.hid own3; have F3 := Lib.hid fr3; have A3 := Lib.hid at3; clear own3 fr3 at3 hO2 y2)
    | (at_builtin; refine wpAppAt EP hI4.out (by omega) (by omega) (by omega) (u := .pointer (some ⟨w.heap.size + 1, 0, none⟩)) rfl rfl (by first | rfl | (simp; done) | (simp; rfl)) ?_; intro a5 c5 w5 own5 fr5 at5; have B5 := Lib.hid ((B3.out.set 2 (.slice a3 (m + 1) c3)).fr fr5 hai.out); have y3b := B5.out.cell (i := 3) rfl; have z3b := B5.out.free 3; have y4b := B5.out.cell (i := 4) rfl; have z4b := B5.out.free 4; have O5 := Lib.hid own5; have F5 := Lib.hid fr5; have A5 := Lib.hid at5; clear own5 fr5 at5))
  obtain ⟨hA, hAs⟩ := HW2.out
  have F3' : Fr (onBlk ao) w2 w3 := by rw [hA]; exact F3.out
  have A3' : ∀ q, onBlk a3 q → onBlk ao q ∨ w2.heap.size ≤ q := by rw [hA]; exact A3.out
  have hI2' : Own w2 0 60 ai m ci (ptrs I) := by rw [hA]; exact hI2.out
  have hs3 := F3'.size
  have hs5 := F5.out.size
  have hs34 : (w3.setCell ⟨hb, 2, none⟩ (.slice a3 (m + 1) c3)).heap.size = w3.heap.size := by simp
  have hTlt := HS0.out.lt
  have haoT : ∀ q, onBlk ao q → q < w.heap.size := fun q hq => hTlt q (HS0.out.oT q hq).1
  have haiT : ∀ q, onBlk ai q → q < w.heap.size := fun q hq => hTlt q (HS0.out.iT q hq).1
  have ha3 : Hid (∀ q, onBlk a3 q → (onBlk ao q ∨ w2.heap.size ≤ q) ∧ q ≠ hb ∧ ¬ onBlk ai q ∧ q < w3.heap.size) := Lib.hid (fun q hq => by
    have h9 := (O3.out.blk q hq).2
    rcases A3' q hq with e | e
    · exact ⟨.inl e, (HS0.out.oT q e).2.1, (HS0.out.oT q e).2.2, h9⟩
    · exact ⟨.inr e, fun g => by omega, fun g => by have := haiT q g; omega, h9⟩)
  have ha5 : Hid (∀ q, onBlk a5 q → (onBlk ai q ∨ w2.heap.size ≤ q) ∧ q ≠ hb ∧ ¬ onBlk a3 q) := Lib.hid (fun q hq => by
    rcases A5.out q hq with e | e
    · exact ⟨.inl e, fun g => hai.out (g ▸ e), fun g => (ha3.out q g).2.2.1 e⟩
    · exact ⟨.inr (by omega), fun g => by omega, fun g => by have := (ha3.out q g).2.2.2; omega⟩)
  have FT : Hid (Fr (fun q => q = hb ∨ onBlk ao q ∨ onBlk ai q) w2 ((w5.setCell ⟨hb, 3, none⟩ (.slice a5 (m + 1) c5)).setCell ⟨hb, 4, none⟩ (.int .i64 ((fl : Int) + 1)))) := Lib.hid ((((((F3'.mono (fun q _ e => .inr (.inl e))).setCell (p := ⟨hb, 2, none⟩) (fun _ => .inl rfl) (.slice a3 (m + 1) c3))).trans F5.out (fun q _ e => .inr (.inr e))).setCell (p := ⟨hb, 3, none⟩) (fun _ => .inl rfl) _).setCell (p := ⟨hb, 4, none⟩) (fun _ => .inl rfl) _)
  have B9 : Hid (Blk ((w5.setCell ⟨hb, 3, none⟩ (.slice a5 (m + 1) c5)).setCell ⟨hb, 4, none⟩ (.int .i64 ((fl : Int) + 1))) hb 59 [.int .i64 rate, .slice at_ ts.length ct, .slice a3 (m + 1) c3, .slice a5 (m + 1) c5, .int .i64 ((fl : Int) + 1)]) := Lib.hid ((B5.out.set 3 (.slice a5 (m + 1) c5)).set 4 (.int .i64 ((fl : Int) + 1)))
  have OO9 : Hid (Own ((w5.setCell ⟨hb, 3, none⟩ (.slice a5 (m + 1) c5)).setCell ⟨hb, 4, none⟩ (.int .i64 ((fl : Int) + 1))) 0 3 a3 (m + 1) c3 (ints own ++ [.int .i64 k])) := Lib.hid ((((O3.out.other (p := ⟨hb, 2, none⟩) (fun e => (ha3.out hb e).2.1 rfl) _).fr F5.out (fun q hq e => (ha3.out q hq).2.2.1 e)).other (p := ⟨hb, 3, none⟩) (fun e => (ha3.out hb e).2.1 rfl) _).other (p := ⟨hb, 4, none⟩) (fun e => (ha3.out hb e).2.1 rfl) _)
  have OI9 : Hid (Own ((w5.setCell ⟨hb, 3, none⟩ (.slice a5 (m + 1) c5)).setCell ⟨hb, 4, none⟩ (.int .i64 ((fl : Int) + 1))) 0 60 a5 (m + 1) c5 (ptrs I ++ [.pointer (some ⟨w.heap.size + 1, 0, none⟩)])) := Lib.hid ((O5.out.other (p := ⟨hb, 3, none⟩) (fun e => (ha5.out hb e).2.1 rfl) _).other (p := ⟨hb, 4, none⟩) (fun e => (ha5.out hb e).2.1 rfl) _)
  generalize (w5.setCell ⟨hb, 3, none⟩ (.slice a5 (m + 1) c5)).setCell ⟨hb, 4, none⟩ (.int .i64 ((fl : Int) + 1)) = w9 at *
  have H9 := H2.out.more (key := k) (n' := (fl : Int) + 1) (bx := w.heap.size + 1) (ao' := a3) (co' := c3) (ai' := a5) (ci' := c5) (w' := w9) (by rw [← Hm.out]; exact OO9.out) (by rw [hIl.out]; exact OI9.out) (by rw [hIl.out, ← Hm.out]; exact B9.out) FT.out (fun q _ e => e) (fun q hq => (ha3.out q hq).1) (fun q hq => (ha5.out q hq).1) (fun q hq e => (ha5.out q e).2.2 hq)
  have hTX : TM w9 (.nd (w.heap.size + 1) .nil .nil [(m : Int)] k 0 1) (fun q => q = w.heap.size ∨ q = w.heap.size + 1) := by
    have h0 : TM w2 (.nd (w.heap.size + 1) .nil .nil [(m : Int)] k 0 1) (fun q => q = w.heap.size ∨ q = w.heap.size + 1) := ⟨some ⟨w.heap.size, 0, none⟩, 1, 1, fun _ => False, fun _ => False, ⟨BX.out, OX.out, TM.none, TM.none, .inr rfl, fun q hq => by
      have e := (onBlk_some _ _ _ _).1 hq
      exact ⟨.inl e, by omega, id, id⟩, fun _ h => h.elim, fun _ h => h.elim, fun q hq => by omega⟩⟩
    refine h0.fr FT.out (fun q hq e => ?_)
    rcases e with e | e | e
    · omega
    · have := haoT q e; omega
    · have := haiT q e; omega
  have hG9 : Gd (own ++ [k]).length ts [.nd (w.heap.size + 1) .nil .nil [(m : Int)] k 0 1] := by
    have hg := HG.out
    refine ⟨hg.tr, fun x hx => ?_, ?_, fun i hi => ?_, ?_, ?_, hg.tl⟩
    · rw [List.mem_singleton.1 hx]
      exact ⟨rfl, by show 1 ≤ 2 ^ 0; decide, by simp [Tr.Ok]⟩
    · have h1 := hg.nd
      simp only [flat, List.flatMap_nil, List.nil_append] at h1
      simp only [flat, List.flatMap_cons, List.flatMap_nil, List.append_nil, Tr.ids]
      refine List.nodup_cons.2 ⟨fun e => ?_, h1⟩
      have := hg.bd m (by simp only [flat, List.flatMap_nil, List.nil_append]; exact e)
      rw [← Hm.out] at this
      omega
    · simp only [flat, List.flatMap_cons, List.flatMap_nil, List.append_nil, Tr.ids, List.cons_append, List.nil_append, List.mem_cons] at hi
      simp only [List.length_append, List.length_singleton]
      rcases hi with rfl | hi
      · have := Hm.out; omega
      · have := hg.bd i (by simp only [flat, List.flatMap_nil, List.nil_append]; exact hi)
        omega
    · have := hg.wt
      simp only [wts, List.map_cons, List.map_nil, List.sum_cons, List.sum_nil, Tr.wt, List.length_append, List.length_singleton] at this ⊢
      omega
    · have := HL.out.1
      have := Hm.out
      simp only [List.length_append, List.length_singleton]
      omega
  have HC := Lib.hid (add_any H9 hTX (by simp) (fun q hq e => by
    rcases e with e | e | e
    · have := hTlt q e; omega
    · rcases (ha3.out q e).1 with g | g
      · have := haoT q g; omega
      · omega
    · rcases (ha5.out q e).1 with g | g
      · have := haiT q g; omega
      · omega) hG9 hr)
  have hs9 := FT.out.size
  clear H9 hTX hG9
  refine (HC.out).mono ?_
  rintro e w10 ⟨ts', I', T', at', ct', ao', co', ai', ci', Nt', rfl, hAd, hHS, hGd, F10, hT10⟩
  have HP := Lib.hid (And.intro hAd (And.intro hHS (And.intro hGd (And.intro F10 hT10))))
  clear hAd hHS hGd F10 hT10
  go_wp2_with fail
  go_ret2
  obtain ⟨hAd, hHS, hGd, F10, hT10⟩ := HP.out
  have hTm : ∀ q, ((T q ∨ onBlk a3 q ∨ onBlk a5 q) ∨ q = w.heap.size ∨ q = w.heap.size + 1) → T q ∨ w.heap.size ≤ q := by
    rintro q ((e | e | e) | e)
    · exact .inl e
    · rcases (ha3.out q e).1 with g | g
      · exact .inl (HS0.out.oT q g).1
      · exact .inr (by omega)
    · rcases (ha5.out q e).1 with g | g
      · exact .inl (HS0.out.iT q g).1
      · exact .inr (by omega)
    · exact .inr (by omega)
  refine ⟨_, ts', I', T', by rw [← Hm.out]; rfl, ⟨at', ct', ao', co', ai', ci', Nt', ?_, hGd, hr, fun i hi => ?_⟩, by rw [← Hm.out]; exact hAd, ((F2.out.mono (S' := T) (fun _ _ h => h.elim)).trans FT.out (fun q hq e => ?_)).trans F10 (fun q hq e => (hTm q e).elim id (fun g => by omega)), fun q hq => (hT10 q hq).elim (hTm q) (fun g => .inr (by omega))⟩
  · have hp := hAd.perm.length_eq
    simp only [Tr.ids, List.length_append, List.length_cons, List.length_nil] at hp
    have e : (((flat ts').length : Nat) : Int) = (fl : Int) + 1 := by rw [Hfl.out]; omega
    rw [e]
    exact hHS
  · refine hAd.sm ?_
    rcases List.mem_append.1 (hAd.perm.mem_iff.1 hi) with hi | hi
    · refine ⟨w.heap.size + 1, ?_⟩
      have e : i = (m : Int) := by simpa [Tr.ids] using hi
      rw [e, Int.toNat_natCast, ← hIl.out]
      simp
    · obtain ⟨c, hc⟩ := HSm.out i hi
      refine ⟨c, ?_⟩
      rw [List.getElem?_append_left (List.getElem?_eq_some_iff.1 hc).1]
      exact hc
  · rcases e with e | e | e
    · exact e ▸ HS0.out.hT
    · exact (HS0.out.oT q e).1
    · exact (HS0.out.iT q e).1
end Go.Proofs.Ytdphademoeofkaa
