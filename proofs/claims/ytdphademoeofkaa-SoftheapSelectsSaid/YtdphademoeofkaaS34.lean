/- Halves, from the empty heap to the half that is removed. -/
import Derived.Test.YtdphademoeofkaaS33
import Derived.Test.YtdphademoeofkaaS24
import Derived.Test.YtdphademoeofkaaS12
import Derived.Test.YtdphademoeofkaaSlContains1
import Derived.Lib.MinMax
namespace Go.Proofs.Ytdphademoeofkaa
open Go.RowKit
attribute [local go_sem ↓] Go.wp_at_zero Go.wp_at_succ
def notKey (k : Int) : Bool := !decide (-1048576 ≤ k ∧ k ≤ 1048576)
theorem notKey23 (k : Int) (w : World) : Calls Try.prog 23 #[.int .i64 k] w fun e w' => e = .returned (.bool (notKey k)) ∧ w = w' := by
  have H := Lib.hid (key_any w k)
  unfold notKey
  generalize decide (-1048576 ≤ k ∧ k ≤ 1048576) = b at *
  go_enter Try.func23, Try.ntmps23
  go_wp2_with fail
  refine H.out.mono ?_
  rintro e w' ⟨rfl, rfl⟩
  go_wp2_with fail
  go_ret
  exact ⟨rfl, rfl⟩
theorem notKey28 (k : Int) (w : World) : Calls Try.prog 28 #[.int .i64 k] w fun e w' => e = .returned (.bool (notKey k)) ∧ w = w' := by
  have H := Lib.hid (key_any w k)
  unfold notKey
  generalize decide (-1048576 ≤ k ∧ k ≤ 1048576) = b at *
  go_enter Try.func28, Try.ntmps28
  go_wp2_with fail
  refine H.out.mono ?_
  rintro e w' ⟨rfl, rfl⟩
  go_wp2_with fail
  go_ret
  exact ⟨rfl, rfl⟩
theorem all_keys {xs : List Int} (h : xs.any notKey = false) : ∀ x ∈ xs, -1048576 ≤ x ∧ x ≤ 1048576 := by
  intro x hx
  rw [List.any_eq_false] at h
  have h1 := h x hx
  unfold notKey at h1
  simpa using h1
/-- A heap that is filled with a list. -/
def Fil (w0 : World) (rate hb : Nat) (xs : List Int) (wr : World) : Prop :=
  ∃ ts own I T, Hp wr hb rate ts own I T ∧ SX rate xs ts [] I ∧ I.length = xs.length ∧ own.length = xs.length ∧ (flat ts).Perm ((List.range xs.length).map fun (i : Nat) => (i : Int)) ∧ (∀ q, T q → w0.heap.size ≤ q) ∧ Fr F0 w0 wr
theorem Fil.new {w0 w1 : World} {rate hb : Nat} (h : Hp w1 hb rate [] [] [] (fun q => q = hb)) (F : Fr F0 w0 w1) (hb0 : w0.heap.size ≤ hb) : Fil w0 rate hb [] w1 :=
  ⟨[], [], [], _, h, (KN.nil rate).sx, rfl, rfl, by simp [flat], fun q (e : q = hb) => by omega, F⟩
theorem Fil.insert {w0 wr : World} {rate hb : Nat} {xs : List Int} (h : Fil w0 rate hb xs wr) {k : Int} (k1 : -1048576 ≤ k) (k2 : k ≤ 1048576) (hl : xs.length < 2000) :
    Calls Try.prog 9 #[.pointer (some ⟨hb, 0, none⟩), .int .i64 k] wr fun e w' => e = .returned (.tuple #[.int .i64 (xs.length : Nat), .int .i64 0]) ∧ Fil w0 rate hb (xs ++ [k]) w' := by
  obtain ⟨ts, own, I, T, h1, h2, h3, h4, h5, h6, h7⟩ := h
  refine (Insert_ok h1 k1 k2 (by omega)).mono ?_
  rintro e w' ⟨bx, ts', I', T', rfl, hH, hA, hF, hT⟩
  have hs := h7.size
  have hp := hA.perm
  rw [h4] at hA hp
  obtain ⟨a1, a2, _⟩ := SX.ad hA [] (h2.ins h3 bx k)
  refine ⟨by rw [h4], ts', _, I', T', hH, a1, by rw [a2, List.length_append, List.length_append, h3]; rfl, by rw [List.length_append, List.length_append, h4], ?_, fun q hq => ?_, h7.trans hF (fun q hq e => by have := h6 q e; omega)⟩
  · refine hp.trans ?_
    rw [List.length_append, List.length_singleton, List.range_succ, List.map_append]
    simp only [Tr.ids, List.append_nil]
    exact (List.perm_append_comm (l₁ := [(xs.length : Int)])).trans (h5.append_right _)
  · rcases hT q hq with e | e
    · exact h6 q e
    · omega
/-- Some items were removed from such a heap; its blocks are not among P. -/
def Rem (w0 : World) (rate hb : Nat) (xs out : List Int) (most : Int) (P : Nat → Prop) (wr : World) : Prop :=
  ∃ ts own I T, Hp wr hb rate ts own I T ∧ Hv rate xs ts I out most ∧ own.length = xs.length ∧ (2 ^ rate > xs.length → Srt xs out (flat ts)) ∧ (∀ q, T q → w0.heap.size ≤ q ∧ ¬ P q) ∧ Fr F0 w0 wr
theorem Fil.rem {w0 wr : World} {rate hb : Nat} {xs : List Int} (h : Fil w0 rate hb xs wr) (hx : ∀ x ∈ xs, -1048576 ≤ x ∧ x ≤ 1048576) : Rem w0 rate hb xs [] (-1048576) (fun _ => False) wr := by
  obtain ⟨ts, own, I, T, h1, h2, h3, h4, h5, h6, h7⟩ := h
  exact ⟨ts, own, I, T, h1, Hv.start h2 h3 h5 (fun x hx' => (hx x hx').1), h4, fun _ => ⟨List.Pairwise.nil, by simp⟩, fun q hq => ⟨h6 q hq, id⟩, h7⟩
/-- What was made, or lay among P, was written. -/
theorem Rem.up {w0 wr w' : World} {rate hb : Nat} {xs out : List Int} {most : Int} {P P' : Nat → Prop} (h : Rem w0 rate hb xs out most P wr) (F : Fr P wr w') (hP : ∀ q, P q → w0.heap.size ≤ q) (hP' : ∀ q, P' q → P q ∨ wr.heap.size ≤ q) : Rem w0 rate hb xs out most P' w' := by
  obtain ⟨ts, own, I, T, h1, h2, h3, h4, h5, h6⟩ := h
  refine ⟨ts, own, I, T, h1.fr F (fun q hq e => (h5 q hq).2 e), h2, h3, h4, fun q hq => ⟨(h5 q hq).1, fun e => ?_⟩, h6.trans F (fun q hq e => by have := hP q e; omega)⟩
  rcases hP' q e with e | e
  · exact (h5 q hq).2 e
  · have := h1.lt q hq; omega
theorem Rem.delete {w0 wr : World} {rate hb : Nat} {xs out : List Int} {most : Int} {P : Nat → Prop} (h : Rem w0 rate hb xs out most P wr) (ho : out.length < xs.length) (hP : ∀ q, P q → q < wr.heap.size) :
    Calls Try.prog 13 #[.pointer (some ⟨hb, 0, none⟩)] wr fun e w' => ∃ (id : Nat) (key : Int), e = .returned (.tuple #[.int .i64 id, .int .i64 key, .int .i64 0]) ∧ id < xs.length ∧ Rem w0 rate hb xs (out ++ [xs.getD id 0]) (max most (xs.getD id 0)) P w' ∧ Fr (fun q => ¬ P q) wr w' := by
  obtain ⟨ts, own, I, T, h1, h2, h3, h4, h5, h6⟩ := h
  have hc := h2.count
  have h0 : flat ts ≠ [] := fun e => by rw [e] at hc; simp at hc; omega
  have hs := h6.size
  refine (DeleteMin_any h1 h0).mono ?_
  rintro e w' ⟨id, key, ts', I', T', rfl, hD, hH, hF, hT⟩
  obtain ⟨b1, b2, b3, b4, b5⟩ := h2.dm hD
  obtain ⟨i, rfl⟩ : ∃ i : Nat, id = i := ⟨id.toNat, by omega⟩
  rw [Int.toNat_natCast] at b1 b5
  refine ⟨i, key, rfl, by omega, ⟨ts', own, I', T', hH, b1, h3, fun hr => ?_, fun q hq => ?_, h6.trans hF (fun q hq e => by have := (h5 q e).1; omega)⟩, hF.mono (fun q _ e => (h5 q e).2)⟩
  · have := (h4 hr).next b4 (by rw [Int.toNat_natCast]; exact b5 hr (by have := h1.ilen.2.2.1; omega))
    rwa [Int.toNat_natCast] at this
  · rcases hT q hq with e | e
    · exact h5 q e
    · exact ⟨by omega, fun e2 => by have := hP q e2; omega⟩
end Go.Proofs.Ytdphademoeofkaa
