/- Buffer trees: a step of both (plain law). -/
import Derived.Test.YtkmnnfflibamnaaR34
import Derived.Test.YtkmnnfflibamnaaR6
import Derived.Test.YtkmnnfflibamnaaH9a
namespace Go.Proofs.Ytkmnnfflibamnaa
theorem PR.upd {B F M : Nat} (hF : 2 ≤ F) (hB : 1 ≤ B) {t : RT} {buf : List En} {a b c : Nat} (e : En) (h : PR t a b c) (ha : a + buf.length ≤ 399) :
    ∃ a', PR (updR B F M t buf e).1 a' (b + 2) (c + 1200) ∧ a' + (updR B F M t buf e).2.length ≤ a + buf.length + 1 := by
  have hl := ins_len (l := buf) e
  unfold updR
  split
  · exact ⟨a + (ins buf e).length, h.spill hF hB (by omega), by show _ + 0 ≤ _; omega⟩
  · exact ⟨a, h.mono (Nat.le_refl _) (by omega) (by omega), by show _ + (ins buf e).length ≤ _; omega⟩
theorem Cr.upd {B F M : Nat} (hF : 2 ≤ F) {t : TT} {r : RT} (h : Cr t r) {buf : List En} (hb : Sd buf) (e : En) : Cr (updT B F M t buf e).1 (updR B F M r buf e).1 ∧ (updT B F M t buf e).2 = (updR B F M r buf e).2 := by
  unfold updT updR
  split
  · exact ⟨h.splR hF (hb.ins e), rfl⟩
  · exact ⟨h, rfl⟩
theorem Cr.newTR {t : TT} {r : RT} (h : Cr t r) : newT t.lv = newR r.rs := by
  have key : ∀ n, (∀ i, n ≤ i → t.lv.getD i [] = []) → n ≤ t.lv.length → Ytkmnnfflibamnaa.newT t.lv = newRL r.rs n := fun n hn hl => by
    have e1 : ∀ m, m ≤ t.lv.length → Ytkmnnfflibamnaa.newT (t.lv.take m) = newRL r.rs m := fun m => by
      induction m with
      | zero => intro _; rfl
      | succ m ih =>
        intro hm
        rw [newRL_succ, newT_take (List.getElem?_eq_getElem (by omega)), ih (by omega)]
        have := h.lv m
        rw [List.getD_eq_getElem?_getD, List.getElem?_eq_getElem (by omega)] at this
        rw [← this]; rfl
    have e2 : Ytkmnnfflibamnaa.newT (t.lv.drop n) = [] := by
      unfold Ytkmnnfflibamnaa.newT
      rw [List.flatMap_eq_nil_iff]
      intro x hx
      obtain ⟨i, hi⟩ := List.getElem?_of_mem hx
      rw [List.getElem?_drop] at hi
      have := hn (n + i) (by omega)
      rw [List.getD_eq_getElem?_getD, hi] at this
      have hx0 : x = [] := this
      rw [hx0]; rfl
    have e3 : Ytkmnnfflibamnaa.newT t.lv = Ytkmnnfflibamnaa.newT (t.lv.take n) ++ Ytkmnnfflibamnaa.newT (t.lv.drop n) := by
      unfold Ytkmnnfflibamnaa.newT; rw [← List.flatMap_append, List.take_append_drop]
    rw [e3, e1 n hl, e2, List.append_nil]
  have hh : (high r.rs + 1).toNat ≤ t.lv.length := by
    rcases (high_spec r.rs).2.1 with c | ⟨x, hx, c⟩
    · omega
    · have h1 := lvl_pos.2 ⟨x, hx, rfl⟩
      rw [← h.lv] at h1
      rcases Nat.lt_or_ge x.1 t.lv.length with c2 | c2
      · omega
      · rw [List.getD_eq_getElem?_getD, List.getElem?_eq_none c2] at h1
        exact absurd h1 (by show ¬ 0 < 0; omega)
  refine key _ (fun i hi => ?_) hh
  rw [h.lv i]
  rcases Nat.eq_zero_or_pos (lvl r.rs i).length with c | c
  · exact List.length_eq_zero_iff.1 c
  · have := high_lvl c; omega
theorem Cr.get {t : TT} {r : RT} (h : Cr t r) (buf : List En) (k : Int) : Cr (getT t buf k).1 (getR r buf k).1 ∧ (getT t buf k).2 = (getR r buf k).2 := by
  unfold getT getR
  cases lk buf k with
  | some e => exact ⟨h, rfl⟩
  | none =>
    rw [h.newTR]
    exact ⟨⟨by show _ + _ = _ + _; rw [h.mv], h.lv, h.sd⟩, rfl⟩
theorem Cr.isH {t : TT} {r : RT} (h : Cr t r) {k : Nat} (hk : IsH t.lv k) : (k : Int) = high r.rs + 1 := h.height k hk.2.1 hk.2.2
theorem Cr.nil : Cr ⟨[], 0⟩ ⟨[], 0⟩ := ⟨rfl, fun i => by rw [List.getD_nil]; rfl, fun i l hl => by rw [List.getD_nil] at hl; cases hl⟩
theorem PR.nil : PR ⟨[], 0⟩ 0 0 0 := ⟨Nat.le_refl _, by decide, Nat.le_refl _⟩
theorem Cr.fsp {B F : Nat} (hF : 2 ≤ F) {t : TT} {r : RT} (h : Cr t r) {buf : List En} (hb : Sd buf) : Cr (fspT B F t buf) (fspR B F r buf) := by
  unfold fspT fspR
  split
  · exact h
  · exact h.splR hF hb
end Go.Proofs.Ytkmnnfflibamnaa
