/- Common texts of this seat, one behind another. -/
import Derived.Test.YtkmnnfflibamnaaG13
import Derived.Test.YtkmnnfflibamnaaHs
/- Buffer trees: the tree in memory. -/
namespace Go.Proofs.Ytkmnnfflibamnaa
open Go.RowKit
theorem E104 : Elem1 Try.prog 75 104 (.slice none 0 0) 24 := ⟨by kernel_rfl, by kernel_rfl, rfl⟩
theorem E74 : Elem1 Try.prog 104 74 (.slice none 0 0) 24 := ⟨by kernel_rfl, by kernel_rfl, rfl⟩
/-- A level in memory. -/
structure LV where
  rv : List RV
  a : Option Addr
  c : Nat
def LV.v (L : LV) : Value := .slice L.a L.rv.length L.c
def lv0 : LV := ⟨[], none, 0⟩
abbrev lvs (lv : List LV) : List Value := lv.map LV.v
def lvT (lv : List LV) : Lv := lv.map (fun L => ls L.rv)
/-- What a tree's block tells. -/
structure TV where
  buf : List En
  ba : Option Addr
  bc : Nat
  lv : List LV
  la : Option Addr
  lc : Nat
  mv : Nat
def TV.tt (T : TV) : TT := ⟨lvT T.lv, T.mv⟩
def tcells (B M : Nat) (T : TV) : List Value := [.int .i64 (B : Int), .int .i64 (M : Int), .slice T.ba T.buf.length T.bc, .slice T.la T.lv.length T.lc, .int .i64 (T.mv : Int)]
/-- A run that is read only. -/
def RunOK (w : World) (col : Nat → Nat) (r : RV) : Prop := RdZ w 3 r.a r.l.length (ents r.l) ∧ r.l.length ≤ r.c ∧ ∀ k, onBlk r.a k → k < w.heap.size ∧ col k = 0
/-- Level i. -/
def LvOK (w : World) (col : Nat → Nat) (i : Nat) (L : LV) : Prop := Own w 0 74 L.a L.rv.length L.c (rvs L.rv) ∧ (∀ k, onBlk L.a k → col k = 4 + i) ∧ ∀ r ∈ L.rv, RunOK w col r
/-- A tree in memory: 1 its block, 2 the buffer, 3 the levels, 4 + i the runs of level i, 0 what nobody writes. -/
structure TS (w : World) (col : Nat → Nat) (t B M : Nat) (T : TV) : Prop where
  blk : Blk w t 77 (tcells B M T)
  ct : col t = 1
  bown : OwnZ w 0 80 3 T.ba T.buf.length T.bc (ents T.buf)
  cb : ∀ k, onBlk T.ba k → col k = 2
  lown : Own w 0 104 T.la T.lv.length T.lc (lvs T.lv)
  cl : ∀ k, onBlk T.la k → col k = 3
  lev : ∀ i L, T.lv[i]? = some L → LvOK w col i L
  up : ∀ k, w.heap.size ≤ k → col k = 0
theorem RunOK.fr {S : Nat → Prop} {w w' : World} {col col' : Nat → Nat} {r : RV} (h : RunOK w col r) (F : Fr S w w') (hS : ∀ k, k < w.heap.size → S k → col k ≠ 0) (hc : ∀ k, k < w.heap.size → col k = 0 → col' k = 0) : RunOK w' col' r :=
  ⟨h.1.fr F (fun k hk hs => hS k (h.2.2 k hk).1 hs (h.2.2 k hk).2), h.2.1, fun k hk => ⟨Nat.lt_of_lt_of_le (h.2.2 k hk).1 F.size, hc k (h.2.2 k hk).1 (h.2.2 k hk).2⟩⟩
theorem LvOK.fr {S : Nat → Prop} {w w' : World} {col col' : Nat → Nat} {i : Nat} {L : LV} (h : LvOK w col i L) (F : Fr S w w') (hS : ∀ k, k < w.heap.size → S k → col k ≠ 0 ∧ col k ≠ 4 + i) (hc : ∀ k, k < w.heap.size → col k = 0 ∨ col k = 4 + i → col' k = col k) : LvOK w' col' i L :=
  ⟨h.1.fr F (fun k hk hs => (hS k (h.1.blk k hk).2 hs).2 (h.2.1 k hk)), fun k hk => by rw [hc k (h.1.blk k hk).2 (.inr (h.2.1 k hk))]; exact h.2.1 k hk, fun r hr => (h.2.2 r hr).fr F (fun k hk hs => (hS k hk hs).1) (fun k hk h0 => by rw [hc k hk (.inl h0)]; exact h0)⟩
/-- All but the blocks of the colours Q are as they were. -/
structure Kq (w w' : World) (col col' : Nat → Nat) (Q : Nat → Prop) : Prop where
  fr : Fr (fun k => Q (col k)) w w'
  col : ∀ k, k < w.heap.size → col' k = col k
theorem Kq.refl (w : World) (col : Nat → Nat) (Q : Nat → Prop) : Kq w w col col Q := ⟨Fr.refl _ _, fun _ _ => rfl⟩
theorem Kq.trans {w w1 w2 : World} {col c1 c2 : Nat → Nat} {Q : Nat → Prop} (h : Kq w w1 col c1 Q) (k : Kq w1 w2 c1 c2 Q) : Kq w w2 col c2 Q :=
  ⟨h.fr.trans k.fr (fun x hx e => by rw [h.col x hx] at e; exact e), fun x hx => (k.col x (Nat.lt_of_lt_of_le hx h.fr.size)).trans (h.col x hx)⟩
theorem Kq.mono {w w1 : World} {col c1 : Nat → Nat} {Q Q' : Nat → Prop} (h : Kq w w1 col c1 Q) (hq : ∀ x, Q x → Q' x) : Kq w w1 col c1 Q' := ⟨h.fr.mono (fun _ _ h => hq _ h), h.col⟩
theorem Kq.fr0 {w w1 w2 : World} {col col' : Nat → Nat} {Q : Nat → Prop} (h : Kq w w1 col col' Q) (F : Fr F0 w1 w2) : Kq w w2 col col' Q := ⟨h.fr.trans0 F, h.col⟩
/-- A block at hand, or a new one, is coloured. -/
noncomputable def rcol (col : Nat → Nat) (a : Option Addr) (q : Nat) : Nat → Nat := fun k => @ite Nat (onBlk a k) (Classical.propDecidable _) q (col k)
theorem rcol_on {col : Nat → Nat} {a : Option Addr} {q k : Nat} (h : onBlk a k) : rcol col a q k = q := @if_pos _ (Classical.propDecidable _) h _ _ _
theorem rcol_off {col : Nat → Nat} {a : Option Addr} {q k : Nat} (h : ¬ onBlk a k) : rcol col a q k = col k := @if_neg _ (Classical.propDecidable _) h _ _ _
theorem Kq.recol {w w' : World} {col : Nat → Nat} {a a' : Option Addr} {q : Nat} (F : Fr (onBlk a) w w') (at' : ∀ k, onBlk a' k → onBlk a k ∨ w.heap.size ≤ k) (ha : ∀ k, onBlk a k → col k = q) : Kq w w' col (rcol col a' q) (fun c => c = q) :=
  ⟨F.mono (fun k _ h => ha k h), fun k hk => by
    by_cases c : onBlk a' k
    · rw [rcol_on c]
      rcases at' k c with h | h
      · exact (ha k h).symm
      · omega
    · exact rcol_off c⟩
theorem up_rcol {w' : World} {col : Nat → Nat} {a' : Option Addr} {q s : Nat} (hs : s ≤ w'.heap.size) (hl : ∀ k, onBlk a' k → k < w'.heap.size) (hu : ∀ k, s ≤ k → col k = 0) : ∀ k, w'.heap.size ≤ k → rcol col a' q k = 0 := fun k hk => by
  rw [rcol_off (fun h => by have := hl k h; omega)]; exact hu k (by omega)
/-- What an operation may do. -/
structure Ch (w w' : World) (col col' : Nat → Nat) : Prop where
  fr : Fr (fun k => col k ≠ 0) w w'
  col : ∀ k, k < w.heap.size → col k = 0 → col' k = 0
theorem Ch.refl (w : World) (col : Nat → Nat) : Ch w w col col := ⟨Fr.refl _ _, fun _ _ h => h⟩
theorem Ch.trans {w w1 w2 : World} {col c1 c2 : Nat → Nat} (h : Ch w w1 col c1) (k : Ch w1 w2 c1 c2) : Ch w w2 col c2 :=
  ⟨h.fr.trans k.fr (fun x hx e e0 => e (h.col x hx e0)), fun x hx e => k.col x (Nat.lt_of_lt_of_le hx h.fr.size) (h.col x hx e)⟩
theorem Kq.ch {w w1 : World} {col c1 : Nat → Nat} {Q : Nat → Prop} (h : Kq w w1 col c1 Q) (hq : ¬ Q 0) : Ch w w1 col c1 := ⟨h.fr.mono (fun k _ e e0 => hq (e0 ▸ e)), fun k hk e => (h.col k hk).trans e⟩
theorem Ch.fr0 {w w1 w2 : World} {col c1 : Nat → Nat} (h : Ch w w1 col c1) (F : Fr F0 w1 w2) : Ch w w2 col c1 := ⟨h.fr.trans0 F, h.col⟩
section
variable {w w' : World} {col col' : Nat → Nat} {t B M : Nat} {Q : Nat → Prop} {T : TV}
theorem TS.lt (h : TS w col t B M T) : t < w.heap.size := h.blk.lt
theorem TS.kblk (h : TS w col t B M T) (K : Kq w w' col col' Q) (hq : ¬ Q 1) : Blk w' t 77 (tcells B M T) ∧ col' t = 1 :=
  ⟨h.blk.fr K.fr (fun e => hq (h.ct ▸ e)), (K.col t h.lt).trans h.ct⟩
theorem TS.kbuf (h : TS w col t B M T) (K : Kq w w' col col' Q) (hq : ¬ Q 2) : OwnZ w' 0 80 3 T.ba T.buf.length T.bc (ents T.buf) ∧ ∀ k, onBlk T.ba k → col' k = 2 :=
  ⟨h.bown.fr K.fr (fun k hk e => hq (h.cb k hk ▸ e)), fun k hk => (K.col k (h.bown.blk k hk).2).trans (h.cb k hk)⟩
theorem TS.klev (h : TS w col t B M T) (K : Kq w w' col col' Q) (hq : ¬ Q 3) : Own w' 0 104 T.la T.lv.length T.lc (lvs T.lv) ∧ ∀ k, onBlk T.la k → col' k = 3 :=
  ⟨h.lown.fr K.fr (fun k hk e => hq (h.cl k hk ▸ e)), fun k hk => (K.col k (h.lown.blk k hk).2).trans (h.cl k hk)⟩
theorem TS.keach (h : TS w col t B M T) (K : Kq w w' col col' Q) (hq : ¬ Q 0) {i : Nat} (hi : ¬ Q (4 + i)) {L : LV} (hL : T.lv[i]? = some L) : LvOK w' col' i L :=
  (h.lev i L hL).fr K.fr (fun k _ e => ⟨fun e2 => hq (e2 ▸ e), fun e2 => hi (e2 ▸ e)⟩) (fun k hk _ => K.col k hk)
theorem TS.fr0 (h : TS w col t B M T) (F : Fr F0 w w') : TS w' col t B M T := by
  have K : Kq w w' col col (fun _ => False) := ⟨F.mono (fun _ _ h => h.elim), fun _ _ => rfl⟩
  exact ⟨(h.kblk K id).1, h.ct, (h.kbuf K id).1, h.cb, (h.klev K id).1, h.cl, fun i L hL => (h.lev i L hL).fr F (fun _ _ h => h.elim) (fun _ _ _ => rfl), fun k hk => h.up k (Nat.le_trans F.size hk)⟩
theorem TS.kset (h : TS w col t B M T) (i : Nat) (u : Value) : Kq w (w.setCell ⟨t, i, none⟩ u) col col (fun c => c = 1) := ⟨Fr.setCell (Fr.refl _ _) (fun _ => h.ct) u, fun _ _ => rfl⟩
/-- The counter is written. -/
theorem TS.mvd (h : TS w col t B M T) (n : Nat) : TS (w.setCell ⟨t, 4, none⟩ (.int .i64 (n : Int))) col t B M { T with mv := n } := by
  have K := h.kset 4 (.int .i64 (n : Int))
  exact ⟨h.blk.set 4 _, h.ct, (h.kbuf K (by omega)).1, h.cb, (h.klev K (by omega)).1, h.cl, fun i L hL => h.keach K (by omega) (by omega) hL, fun k hk => h.up k (by simpa using hk)⟩
end
end Go.Proofs.Ytkmnnfflibamnaa
/- Buffer trees: moving, counting. -/
namespace Go.Proofs.Ytkmnnfflibamnaa
open Go.RowKit
attribute [local go_sem ↓] Go.wp_at_zero Go.wp_at_succ
theorem cnts_take (B : Nat) (rv : List RV) (i : Nat) {r : RV} (h : rv[i]? = some r) : cnts B (ls (rv.take (i + 1))) = cnts B (ls (rv.take i)) + cnt B r.l.length := by
  unfold ls
  rw [List.take_add_one, h, List.map_append, cnts_app]; rfl
/-- A run's value, out of a slice of runs. -/
theorem Rd.run {w : World} {a : Option Addr} {n : Nat} {rv : List RV} (h : Rd w a n (rvs rv)) {i : Nat} {r : RV} (hr : rv[i]? = some r) : ∃ b o, a = some ⟨b, o, none⟩ ∧ w.cell? ⟨b, o + i, none⟩ = some (.slice r.a r.l.length r.c) := by
  have hl := h.len
  rw [List.length_map] at hl
  have hi := (List.getElem?_eq_some_iff.1 hr).1
  obtain ⟨b, o, ha, hc⟩ := h.cells (by omega)
  exact ⟨b, o, ha, hc i _ (by rw [List.getElem?_map, hr]; rfl)⟩
theorem Kq.set1 {w w1 : World} {col col' : Nat → Nat} {t i : Nat} (h : Kq w w1 col col' (fun c => c = 1)) (ht : col t = 1) (u : Value) : Kq w (w1.setCell ⟨t, i, none⟩ u) col col' (fun c => c = 1) := ⟨h.fr.setCell (fun _ => ht) u, h.col⟩
set_option maxRecDepth 100000 in
set_option maxHeartbeats 4000000 in
theorem move_any {w : World} {col : Nat → Nat} {t B M n c : Nat} {T : TV} {a : Option Addr} {rv : List RV} (h : TS w col t B M T) (hr : Rd w a n (rvs rv)) (ha : ∀ k, onBlk a k → col k ≠ 1) (hB : 1 ≤ B ∧ B ≤ 64) (hn : n ≤ 1000) (hl : ∀ r ∈ rv, r.l.length ≤ 100000) (hm : T.mv ≤ 1000000000000) :
    Calls Try.prog 62 #[.pointer (some ⟨t, 0, none⟩), .slice a n c] w fun e w' => e = .returned (.tuple #[]) ∧ TS w' col t B M { T with mv := T.mv + cnts B (ls rv) } ∧ Kq w w' col col (fun c => c = 1) := by
  have hln : rv.length = n := by have := hr.len; simpa using this
  have HT := Lib.hid h
  have HR := Lib.hid hr
  have HA := Lib.hid ha
  have HL := Lib.hid hl
  have Hn := Lib.hid hln
  have HB := Lib.hid (fun (b : Nat) (k : Nat) (hk : k ≤ 100000) W => blocks_any b (M : Int) k W)
  clear h hr ha hl hln
  go_enter Try.func62, Try.ntmps62
  go_wp2_with fail
  go_loopw [8] (fun s8 wr => ∃ i m : Nat, i ≤ n ∧ s8 = .int .i64 (i : Int) ∧ m ≤ 1000000000000 + i * 101000 ∧ Hid (m = T.mv + cnts B (ls (rv.take i)) ∧ TS wr col t B M { T with mv := m } ∧ Kq w wr col col (fun c => c = 1))) (fun s8 _ => n - (intOf s8).toNat)
  case atStart => exact ⟨0, T.mv, Nat.zero_le _, rfl, by omega, Lib.hid ⟨rfl, HT.out, Kq.refl _ _ _⟩⟩
  case round =>
    obtain ⟨i, m, hi, rfl, hmi, H⟩ := hrel
    by_cases hlt : i < n
    · have hlt' : (i : Int) < (n : Int) := by omega
      obtain ⟨r, hr⟩ : ∃ r, rv[i]? = some r := ⟨_, List.getElem?_eq_getElem (by have := Hn.out; omega)⟩
      obtain ⟨b, o, rfl, d0⟩ := (HR.out.fr H.out.2.2.fr (fun k hk => HA.out k hk)).run hr
      have hk := HL.out r (List.mem_of_getElem? hr)
      have hct := cnts_take B rv i hr
      obtain ⟨k, hkd⟩ : ∃ k, k = r.l.length := ⟨_, rfl⟩
      rw [← hkd] at d0 hk hct
      have HC : Hid (∀ W, Calls Try.prog 38 #[.agg #[.int .i64 (B : Int), .int .i64 (M : Int)], .int .i64 (k : Int)] W fun e w' => e = .returned (.int .i64 (cnt B k : Int)) ∧ Fr F0 W w') := Lib.hid (fun W => blocks_any B (M : Int) k W hB (by omega))
      have hq : cnt B k ≤ 100063 := Nat.le_trans (Nat.div_le_self _ _) (by omega)
      obtain ⟨q, hqd⟩ : ∃ q, q = cnt B k := ⟨_, rfl⟩
      rw [← hqd] at HC hq hct
      have Hct := Lib.hid hct
      have y0 := H.out.2.1.blk.cell (i := 0) rfl
      have y1 := H.out.2.1.blk.cell (i := 1) rfl
      have y4 := H.out.2.1.blk.cell (i := 4) rfl
      have HX := Lib.hid (And.intro y0 (And.intro y1 y4))
      clear hct hqd hkd hr
      go_wp2_with fail
      refine wp_region_last 14 (fun w' : World => w'.cell? ⟨t, 0, none⟩ = some (.int .i64 (B : Int)) ∧ w'.cell? ⟨t, 1, none⟩ = some (.int .i64 (M : Int)) ∧ w'.cell? ⟨t, 4, none⟩ = some (.int .i64 (m : Int))) (by kernel_rfl) ?_
      have hHeld : (fun w' : World => w'.cell? ⟨t, 0, none⟩ = some (.int .i64 (B : Int)) ∧ w'.cell? ⟨t, 1, none⟩ = some (.int .i64 (M : Int)) ∧ w'.cell? ⟨t, 4, none⟩ = some (.int .i64 (m : Int))) _ := HX.out
      refine anyP_takeF 0 (v := ?_) rfl (by kernel_rfl) (fun _ _ _ h => h) (Or.inl ⟨by rfl, ?_⟩) (.inr hHeld) ?_
      rotate_left 1
      · (intro w0 hSw; (try dsimp only at hSw); go_simp; (try (with_reducible rfl)))
      (try simp only [Act.put, List.setIfInBounds_toArray])
      refine anyP_takeF 1 (v := ?_) rfl (by kernel_rfl) (fun _ _ _ h => h) (Or.inl ⟨by rfl, ?_⟩) (.inr hHeld) ?_
      rotate_left 1
      · (intro w0 hSw; (try dsimp only at hSw); go_simp; (try (with_reducible rfl)))
      (try simp only [Act.put])
      refine anyP_takeF 2 (v := ?_) rfl (by kernel_rfl) (fun _ _ _ h => h) (Or.inl ⟨by rfl, ?_⟩) (.inr hHeld) ?_
      rotate_left 1
      · (intro w0 hSw; (try dsimp only at hSw); go_simp; (try (with_reducible rfl)))
      (try simp only [Act.put])
      refine anyP_take 3 (v := ?_) rfl rfl (by kernel_rfl) (fun _ _ _ h => h) (Or.inl ⟨by rfl, ?_⟩) hHeld ?_
      rotate_left 1
      · (intro w0 hSw; (try dsimp only at hSw); go_simp; (try (with_reducible rfl)))
      (try simp only [Act.put])
      refine anyP_takeF 4 (v := ?_) rfl (by kernel_rfl) (fun _ _ _ h => h) (Or.inl ⟨by rfl, ?_⟩) (.inr hHeld) ?_
      rotate_left 1
      · (intro w0 hSw; (try dsimp only at hSw); go_simp; (try (with_reducible rfl)))
      (try simp only [Act.put])
      refine anyP_takeF 5 (v := ?_) rfl (by kernel_rfl) (fun _ _ _ h => h) (Or.inl ⟨by rfl, ?_⟩) (.inr hHeld) ?_
      rotate_left 1
      · (intro w0 hSw; (try dsimp only at hSw); go_simp; (try (with_reducible rfl)))
      (try simp only [Act.put])
      refine anyP_takeF 6 (v := ?_) rfl (by kernel_rfl) (fun _ _ _ h => h) (Or.inl ⟨by rfl, ?_⟩) (.inr hHeld) ?_
      rotate_left 1
      · (intro w0 hSw; (try dsimp only at hSw); go_simp; (try (with_reducible rfl)))
      (try simp only [Act.put])
      refine anyP_take 7 (v := ?_) rfl rfl (by kernel_rfl) (fun _ _ _ h => h) (Or.inl ⟨by rfl, ?_⟩) hHeld ?_
      rotate_left 1
      · (intro w0 hSw; (try dsimp only at hSw); go_simp; (try (with_reducible rfl)))
      (try simp only [Act.put])
      refine anyP_takeF 8 (v := ?_) rfl (by kernel_rfl) (fun _ _ _ h => h) (Or.inl ⟨by rfl, ?_⟩) (.inr hHeld) ?_
      rotate_left 1
      · (intro w0 hSw; (try dsimp only at hSw); go_simp; (try (with_reducible rfl)))
      (try simp only [Act.put])
      refine anyP_takeF 9 (v := ?_) rfl (by kernel_rfl) (fun _ _ _ h => h) (Or.inl ⟨by rfl, ?_⟩) (.inr hHeld) ?_
      rotate_left 1
      · (intro w0 hSw; (try dsimp only at hSw); go_simp; (try (with_reducible rfl)))
      (try simp only [Act.put])
      refine anyP_one 10 (by kernel_rfl) rfl (fun K hK => ?_)
      replace hK := Lib.hid hK
      go_simp
      refine (HC.out _).mono ?_
      rintro e w2 ⟨rfl, F2⟩
      have Z2 := Lib.hid (And.intro F2 (And.intro (H.out.2.1.fr0 ((Fr.refl F0 wr).drew.trans0 F2)) (And.intro ((H.out.2.2.fr0 ((Fr.refl F0 wr).drew.trans0 F2))) (And.intro (F2.cell y0 id) (And.intro (F2.cell y1 id) (F2.cell y4 id))))))
      clear F2
      have z4 := Z2.out.2.2.2.2.2
      have f4 := Z2.out.2.1.blk.free 4
      replace hHeld := Z2.out.2.2.2
      refine hK.out _ _ (.inr hHeld) ?_
      clear hK K
      (try simp only [Act.put, List.setIfInBounds_toArray, List.set_cons_zero, List.set_cons_succ])
      refine anyP_takeF 11 (v := ?_) rfl (by kernel_rfl) (fun _ _ _ h => h) (Or.inl ⟨by rfl, ?_⟩) (.inr hHeld) ?_
      rotate_left 1
      · (intro w0 hSw; (try dsimp only at hSw); go_simp; (try (with_reducible rfl)))
      (try simp only [Act.put, List.setIfInBounds_toArray])
      refine anyP_takeF 12 (v := ?_) rfl (by kernel_rfl) (fun _ _ _ h => h) (Or.inl ⟨by rfl, ?_⟩) (.inr hHeld) ?_
      rotate_left 1
      · (intro w0 hSw; (try dsimp only at hSw); go_simp; (try (with_reducible rfl)))
      (try simp only [Act.put])
      refine anyP_takeF 13 (v := ?_) rfl (by kernel_rfl) (fun _ _ _ h => h) (Or.inl ⟨by rfl, ?_⟩) (.inr hHeld) ?_
      rotate_left 1
      · (intro w0 hSw; (try dsimp only at hSw); go_simp; (try (with_reducible rfl)))
      (try simp only [Act.put])
      refine anyP_one 14 (by kernel_rfl) rfl (fun K hK => ?_)
      replace hK := Lib.hid hK
      go_simp
      refine hK.out _ _ (.inl (by kernel_rfl)) ?_
      clear hK K
      (try simp only [Act.put, List.setIfInBounds_toArray, List.set_cons_zero, List.set_cons_succ])
      refine anyP_done (by kernel_rfl) ?_ _
      refine NoPanic.normal ?_
      go_wp2_with fail
      go_roundw
      case rel => exact ⟨i + 1, m + q, by omega, by go_num, by omega, Lib.hid ⟨by rw [Hct.out]; have := H.out.1; omega, Z2.out.2.1.mvd (m + q), Z2.out.2.2.1.set1 Z2.out.2.1.ct _⟩⟩
      case measure => simp [intOf]; omega
    · obtain rfl : n = i := by omega
      go_wp2_with fail
      go_end0
      refine ⟨rfl, ?_, H.out.2.2⟩
      have e := H.out.1
      rw [List.take_of_length_le (by rw [Hn.out]; exact Nat.le_refl _)] at e
      rw [← e]
      exact H.out.2.1
end Go.Proofs.Ytkmnnfflibamnaa
/- Buffer trees: the number of entries. -/
namespace Go.Proofs.Ytkmnnfflibamnaa
open Go.RowKit
attribute [local go_sem ↓] Go.wp_at_zero Go.wp_at_succ
def totL (rv : List RV) : Nat := (rv.map fun r => r.l.length).sum
def totV (lv : List LV) : Nat := (lv.map fun L => totL L.rv).sum
theorem totL_app (a b : List RV) : totL (a ++ b) = totL a + totL b := by unfold totL; rw [List.map_append, List.sum_append]
theorem totV_app (a b : List LV) : totV (a ++ b) = totV a + totV b := by unfold totV; rw [List.map_append, List.sum_append]
theorem totL_take {rv : List RV} {i : Nat} {r : RV} (h : rv[i]? = some r) : totL (rv.take (i + 1)) = totL (rv.take i) + r.l.length := by
  rw [List.take_add_one, h, totL_app]; rfl
theorem totV_take {lv : List LV} {i : Nat} {L : LV} (h : lv[i]? = some L) : totV (lv.take (i + 1)) = totV (lv.take i) + totL L.rv := by
  rw [List.take_add_one, h, totV_app]; rfl
theorem totL_le (rv : List RV) (i : Nat) : totL (rv.take i) ≤ totL rv := by
  have := totL_app (rv.take i) (rv.drop i); rw [List.take_append_drop] at this; omega
theorem totV_le (lv : List LV) (i : Nat) : totV (lv.take i) ≤ totV lv := by
  have := totV_app (lv.take i) (lv.drop i); rw [List.take_append_drop] at this; omega
/-- A level's value, out of the levels. -/
theorem TS.at {w : World} {col : Nat → Nat} {t B M : Nat} {T : TV} (h : TS w col t B M T) {i : Nat} {L : LV} (hL : T.lv[i]? = some L) : ∃ g, T.la = some ⟨g, 0, none⟩ ∧ w.cell? ⟨g, i, none⟩ = some (.slice L.a L.rv.length L.c) ∧ w.frozen? ⟨g, i, none⟩ = false ∧ col g = 3 := by
  have hi := (List.getElem?_eq_some_iff.1 hL).1
  obtain ⟨g, hg, _, hl, hc, hf⟩ := h.lown.at (by omega)
  exact ⟨g, hg, hc i _ (by rw [List.getElem?_map, hL]; rfl), hf i, h.cl g (by rw [hg]; exact (onBlk_some _ _ _ _).2 rfl)⟩
theorem LvOK.at {w : World} {col : Nat → Nat} {i : Nat} {L : LV} (h : LvOK w col i L) {j : Nat} {r : RV} (hr : L.rv[j]? = some r) : ∃ g, L.a = some ⟨g, 0, none⟩ ∧ w.cell? ⟨g, j, none⟩ = some (.slice r.a r.l.length r.c) := by
  have hi := (List.getElem?_eq_some_iff.1 hr).1
  obtain ⟨g, hg, _, hl, hc, hf⟩ := h.1.at (by omega)
  exact ⟨g, hg, hc j _ (by rw [List.getElem?_map, hr]; rfl)⟩
set_option maxRecDepth 100000 in
set_option maxHeartbeats 4000000 in
theorem stored_any {w : World} {col : Nat → Nat} {t B M : Nat} {T : TV} (h : TS w col t B M T) (hb : T.buf.length ≤ 100000) (hl : T.lv.length ≤ 100000) (ht : totV T.lv ≤ 1000000) (hr : ∀ L ∈ T.lv, L.rv.length ≤ 100000) :
    Calls Try.prog 64 #[.pointer (some ⟨t, 0, none⟩)] w fun e w' => e = .returned (.int .i64 ((T.buf.length + totV T.lv : Nat) : Int)) ∧ w = w' := by
  have HT := Lib.hid h
  have Hr := Lib.hid hr
  have Ht := Lib.hid ht
  have y2 := h.blk.cell (i := 2) rfl
  have y3 := h.blk.cell (i := 3) rfl
  clear h hr ht
  obtain ⟨nb, hnb⟩ : ∃ nb, nb = T.buf.length := ⟨_, rfl⟩
  obtain ⟨n, hn⟩ : ∃ n, n = T.lv.length := ⟨_, rfl⟩
  rw [← hnb] at y2 hb ⊢
  rw [← hn] at y3 hl
  have Hn := Lib.hid hn
  clear hnb hn
  go_enter Try.func64, Try.ntmps64
  go_wp2_with fail
  go_loop [3, 18] (fun s3 s18 => ∃ i m : Nat, i ≤ n ∧ s18 = .int .i64 (i : Int) ∧ s3 = .int .i64 (m : Int) ∧ m ≤ 1100000 ∧ Hid (m = nb + totV (T.lv.take i))) (fun _ s18 => n - (intOf s18).toNat)
  case atStart => exact ⟨0, nb, Nat.zero_le _, rfl, rfl, by omega, Lib.hid rfl⟩
  case round =>
    obtain ⟨i, m, hi, rfl, rfl, hm9, H⟩ := hrel
    by_cases hlt : i < n
    · have hlt' : (i : Int) < (n : Int) := by omega
      obtain ⟨L, hL⟩ : ∃ L, T.lv[i]? = some L := ⟨_, List.getElem?_eq_getElem (by have := Hn.out; omega)⟩
      obtain ⟨g, hg, d0, _, _⟩ := HT.out.at hL
      have hok := HT.out.lev i L hL
      have hLr := Hr.out L (List.mem_of_getElem? hL)
      have hs := totV_take hL
      have hs2 : nb + totV (T.lv.take (i + 1)) ≤ 1100000 := by have := totV_le T.lv (i + 1); have := Ht.out; omega
      obtain ⟨q, hq⟩ : ∃ q, q = L.rv.length := ⟨_, rfl⟩
      rw [← hq] at d0 hLr
      have Hq := Lib.hid hq
      have Hok := Lib.hid hok
      have Hs := Lib.hid (And.intro hs hs2)
      clear hs hs2 hq hok hL
      rw [hg] at y3 ⊢
      go_wp2_with fail
      go_loop [3, 24] (fun s3 s24 => ∃ j p : Nat, j ≤ q ∧ s24 = .int .i64 (j : Int) ∧ s3 = .int .i64 (p : Int) ∧ p ≤ 1100000 ∧ Hid (p = m + totL (L.rv.take j))) (fun _ s24 => q - (intOf s24).toNat)
      case atStart => exact ⟨0, m, Nat.zero_le _, rfl, rfl, hm9, Lib.hid rfl⟩
      case round =>
        obtain ⟨j, p, hj, rfl, rfl, hp9, H2⟩ := hrel
        by_cases hlj : j < q
        · have hlj' : (j : Int) < (q : Int) := by omega
          obtain ⟨r, hr⟩ : ∃ r, L.rv[j]? = some r := ⟨_, List.getElem?_eq_getElem (by have := Hq.out; omega)⟩
          obtain ⟨g2, hg2, e0⟩ := Hok.out.at hr
          have hs := totL_take hr
          have hs3 : m + totL (L.rv.take (j + 1)) ≤ 1100000 := by have := totL_le L.rv (j + 1); have := Hs.out; have := H.out; omega
          obtain ⟨k, hk⟩ : ∃ k, k = r.l.length := ⟨_, rfl⟩
          rw [← hk] at e0 hs
          have hpk : p + k ≤ 1100000 := by have := H2.out; omega
          have Hs3 := Lib.hid hs
          rw [hg2] at d0 ⊢
          clear hs hs3 hr hk
          go_wp2_with fail
          go_round
          case rel => exact ⟨j + 1, p + k, by omega, by go_num, by go_num, hpk, Lib.hid (by rw [Hs3.out]; have := H2.out; omega)⟩
          case measure => simp [intOf]; omega
        · obtain rfl : q = j := by omega
          have H9 := Lib.hid (show p = nb + totV (T.lv.take (i + 1)) by
            have := H2.out
            rw [List.take_of_length_le (by rw [Hq.out]; exact Nat.le_refl _)] at this
            rw [Hs.out.1]; have := H.out; omega)
          go_wp2_with fail
          go_round
          case rel => exact ⟨i + 1, p, by omega, by go_num, rfl, hp9, H9⟩
          case measure => simp [intOf]; omega
    · obtain rfl : n = i := by omega
      go_wp2_with fail
      go_ret
      have H9 := H.out
      rw [List.take_of_length_le (by rw [Hn.out]; exact Nat.le_refl _)] at H9
      exact ⟨by rw [H9]; rfl, rfl⟩
end Go.Proofs.Ytkmnnfflibamnaa
