/- Buffer trees: a tree that goes on after a script. -/
import Derived.Test.YtkmnnfflibamnaaL10
import Derived.Test.YtkmnnfflibamnaaL6
import Derived.Test.YtkmnnfflibamnaaL7
namespace Go.Proofs.Ytkmnnfflibamnaa
open Go.RowKit
/-- A tree in memory that says what U says; the blocks X it leaves alone. -/
def HSt (X : Nat → Prop) (w : World) (t B M : Nat) (U : List En) (b c : Nat) : Prop :=
  ∃ (col : Nat → Nat) (T : TV) (a : Nat), TS w col t B M T ∧ PI T.tt a b c ∧ a + T.buf.length ≤ 120 ∧ Sd T.buf ∧ Says U T.tt.lv T.buf ∧ ∀ k, X k → k < w.heap.size ∧ col k = 0
/-- What a search says of a value. -/
def eV (o : Option Int) : Int × Int := match o with
  | some v => (v, 0)
  | none => (0, 12)
section
variable {X : Nat → Prop} {w w' : World} {t B M b c : Nat} {U : List En}
theorem HSt.more (h : HSt X w t B M U b c) (F : Fr F0 w w') : HSt (fun k => X k ∨ (w.heap.size ≤ k ∧ k < w'.heap.size)) w' t B M U b c := by
  obtain ⟨col, T, a, h1, h2, h3, h4, h5, h6⟩ := h
  refine ⟨col, T, a, h1.fr0 F, h2, h3, h4, h5, fun k hk => ?_⟩
  rcases hk with e | e
  · exact ⟨Nat.lt_of_lt_of_le (h6 k e).1 F.size, (h6 k e).2⟩
  · exact ⟨e.2, h1.up k e.1⟩
theorem HSt.mono {X' : Nat → Prop} {b' c' : Nat} (h : HSt X w t B M U b c) (hX : ∀ k, X' k → X k) (hb : b ≤ b') (hc : c ≤ c') : HSt X' w t B M U b' c' := by
  obtain ⟨col, T, a, h1, h2, h3, h4, h5, h6⟩ := h
  exact ⟨col, T, a, h1, h2.mono (Nat.le_refl _) hb hc, h3, h4, h5, fun k hk => h6 k (hX k hk)⟩
theorem HSt.fr0 (h : HSt X w t B M U b c) (F : Fr F0 w w') : HSt X w' t B M U b c := (h.more F).mono (fun _ hk => .inl hk) (Nat.le_refl _) (Nat.le_refl _)
theorem Fr.outX {w0 : World} (h : Fr F0 w0 w) (F : Fr (fun k => ¬ X k) w w') (hX : ∀ k, k < w0.heap.size → X k) : Fr F0 w0 w' := h.trans F (fun k hk hn => hn (hX k hk))
/-- What the list of a tree is. -/
def LOf (L U : List En) : Prop := Sd L ∧ (∀ e ∈ L, e.2.2 = false) ∧ ∀ k, vl (lk L k) = vl (lk U.reverse k)
theorem LOf.of {lv : Lv} {buf : List En} (h : Says U lv buf) : LOf (listT lv buf) U := ⟨listT_sd _ _, fun _ he => listT_live he, fun k => (listT_lk k).trans (h k)⟩
theorem LOf.eq {L L' : List En} (h : LOf L U) (h' : LOf L' U) : L = L' := live_ext h.1 h'.1 h.2.1 h'.2.1 (fun k => (h.2.2 k).trans (h'.2.2 k).symm)
theorem listT_le {t : TT} {buf : List En} {a b c : Nat} (h : PI t a b c) : (listT t.lv buf).length ≤ a + buf.length := by
  have h1 := jn_len (runsT t.lv ++ [buf])
  have h2 : (listT t.lv buf).length ≤ (jn (runsT t.lv ++ [buf])).length := drp_len _
  rw [len1_app, runsT_tot] at h1
  have h4 := h.tot
  have h6 : len1 [buf] = buf.length := by unfold len1; simp
  omega
theorem HSt.len (h : HSt X w t B M U b c) {L : List En} (hL : LOf L U) : L.length ≤ 120 := by
  obtain ⟨col, T, a, h1, h2, h3, h4, h5, h6⟩ := h
  rw [hL.eq (LOf.of h5)]
  exact Nat.le_trans (listT_le h2) h3
theorem HSt.list (h : HSt X w t B M U b c) (hb : b ≤ 1900) {L : List En} (hL : LOf L U) {k : Nat} (hk : L.length = k) :
    Calls Try.prog 27 #[.pointer (some ⟨t, 0, none⟩)] w fun e w' => ∃ a c, e = .returned (.slice a k c) ∧ RdZ w' 2 a k (prs L) ∧ (∀ q, onBlk a q → w.heap.size ≤ q ∧ q < w'.heap.size) ∧ Fr F0 w w' := by
  subst hk
  obtain ⟨col, T, a, h1, h2, h3, h4, h5, h6⟩ := h
  refine (List_any h1 h2 (by omega) hb h4).mono ?_
  rintro e w' ⟨a, n, c, rfl, q1, q2, q3⟩
  have e1 : listT (lvT T.lv) T.buf = L := (LOf.of h5).eq hL
  rw [e1] at q1 q2
  subst q1
  exact ⟨a, c, rfl, q2.rd, q2.blk, q3⟩
theorem HSt.get (h : HSt X w t B M U b c) (hb : b ≤ 1900) (hc : c ≤ 900000000) (k : Int) (hk : inK k = true) :
    Calls Try.prog 29 #[.pointer (some ⟨t, 0, none⟩), .int .i64 k] w fun e w' => e = .returned (.tuple #[.int .i64 (eV (vl (lk U.reverse k))).1, .int .i64 (eV (vl (lk U.reverse k))).2]) ∧ HSt X w' t B M U b (c + b) ∧ Fr (fun k => ¬ X k) w w' := by
  obtain ⟨col, T, a, h1, h2, h3, h4, h5, h6⟩ := h
  refine (Get_any k h1 h2 (by omega) hb hc h4 hk).mono ?_
  rintro e w' ⟨m, v, z, rfl, q1, q2, q3⟩
  have e0 := congrArg Prod.fst q1
  have e1 := congrArg Prod.snd q1
  obtain ⟨g1, g2⟩ := getT_says T.tt T.buf k
  rw [g2, vl_eVal, h5 k] at e1
  have e2 : (v, z) = eV (vl (lk U.reverse k)) := e1
  rw [← e2]
  have p1 := h2.get T.buf k
  rw [← e0] at p1
  exact ⟨rfl, ⟨col, { T with mv := m }, a, q2, p1, h3, h4, h5, fun q hq => ⟨Nat.lt_of_lt_of_le (h6 q hq).1 q3.fr.size, q3.col q (h6 q hq).1 (h6 q hq).2⟩⟩, q3.fr.mono (fun q _ hn hX => hn (h6 q hX).2)⟩
theorem HSt.flush (h : HSt X w t B M U b c) (hb : b ≤ 1900) (hc : c ≤ 900000000) (hB : 1 ≤ B ∧ B ≤ 64) (hM : 2 * B ≤ M ∧ M ≤ 1000) :
    Calls Try.prog 30 #[.pointer (some ⟨t, 0, none⟩)] w fun e w' => e = .returned (.int .i64 0) ∧ HSt X w' t B M U (b + 2) (c + 2000) ∧ Fr (fun k => ¬ X k) w w' ∧ Calls Try.prog 31 #[.pointer (some ⟨t, 0, none⟩)] w' fun e w'' => e = .returned (.int .i64 0) ∧ w' = w'' := by
  obtain ⟨col, T, a, h1, h2, h3, h4, h5, h6⟩ := h
  have hF2 : 2 ≤ fanN B M := Nat.le_max_left _ _
  refine (Flush_any h1 h2 (by omega) hb hc h4 hB hM).mono ?_
  rintro e w' ⟨rfl, col', T', k9, u1, u2, u5, u6, u3⟩
  have hp : PI (fspT B (fanN B M) T.tt T.buf) (a + T.buf.length) (b + 2) (c + 1200) := by
    unfold fspT
    split
    · exact h2.mono (by omega) (by omega) (by omega)
    · exact h2.spill hF2 hB.1 h4 (by omega) (by omega)
  have hs := (h5.fsp (B := B) (F := fanN B M) hF2).flush (B := B) k9
  have hb := Buffered_any u1
  rw [u2] at hb
  refine ⟨rfl, ⟨col', T', a + T.buf.length, u1, by rw [u6]; exact (hp.flush hB.1 (by omega) u5).mono (Nat.le_refl _) (Nat.le_refl _) (by omega), by rw [u2]; show _ + 0 ≤ _; omega, by rw [u2]; exact List.Pairwise.nil, by rw [u6, u2]; exact hs, fun q hq => ⟨Nat.lt_of_lt_of_le (h6 q hq).1 u3.fr.size, u3.col q (h6 q hq).1 (h6 q hq).2⟩⟩, u3.fr.mono (fun q _ hn hX => hn (h6 q hX).2), hb⟩
end
end Go.Proofs.Ytkmnnfflibamnaa
