/- An index that has grown by branches. -/
import Derived.Test.YtpmaoaogkjehcaaX7
namespace Go.Proofs.Ytpmaoaogkjehcaa
open Go.RowKit

def growP (l : List Int) : List Int := l.foldl branP [-1]
theorem growP_snoc (l : List Int) (p : Int) : growP (l ++ [p]) = branP (growP l) p := by simp [growP]
theorem growP_valid (l : List Int) : validB (growP l) = true := by
  have : ∀ (l : List Int) (P : List Int), validB P = true → validB (l.foldl branP P) = true := by
    intro l
    induction l with
    | nil => intro P h; exact h
    | cons x l ih => intro P h; exact ih _ (branP_valid h x)
  exact this l [-1] (by decide +kernel)
theorem branP_len (P : List Int) (p : Int) : (branP P p).length ≤ P.length + 1 ∧ P.length ≤ (branP P p).length := by
  unfold branP; split <;> simp

structure GI (w wr : World) (b3 b6 x : Nat) (sa : Option Addr) (c : Nat) (va : Option Addr) (n c' : Nat) (P : List Int) : Prop where
  ix : IX wr w.heap.size x sa c P
  v : One wr b6 24 (.slice va n c')
  r : One wr b3 24 (.slice none 0 0)
  rd : Rd wr va n (ints P)
  cap : n ≤ c'
  ap : ∀ k, onBlk va k → w.heap.size ≤ k ∧ k ≠ x ∧ ¬ onBlk sa k ∧ k ≠ b6 ∧ k ≠ b3
  s6 : ¬ onBlk sa b6
  s3 : ¬ onBlk sa b3
  x6 : x ≠ b6
  x3 : x ≠ b3
  fr : Fr F0 w wr
  pos : 1 ≤ P.length
/-- One round: Branch, the reference's Branch, a variable laid, v stored. -/
theorem GI.step {w wr w1 w2 : World} {b3 b6 x : Nat} {sa sa' : Option Addr} {c c1 : Nat} {va va' : Option Addr} {n n' c' c2 : Nat} {P P' : List Int} (h : GI w wr b3 b6 x sa c va n c' P) (h3 : b3 ≠ b6) (hb6 : w.heap.size ≤ b6) (hP : 1 ≤ P'.length)
    (i1 : IX w1 w.heap.size x sa' c1 P') (f1 : Fr (onIx x sa) wr w1) (at1 : ∀ k, onBlk sa' k → onBlk sa k ∨ wr.heap.size ≤ k)
    (r2 : Rd w2 va' n' (ints P')) (hc2 : n' ≤ c2) (f2 : Fr F0 w1 w2) (at2 : ∀ k, onBlk va' k → onBlk va k ∨ w1.heap.size ≤ k) :
    GI w ((w2.alloc (.cells #[.slice va' n' c2] 24)).setCell ⟨b6, 0, none⟩ (.slice va' n' c2)) b3 b6 x sa' c1 va' n' c2 P' := by
  have hn' : P'.length = n' := by simpa using r2.len
  have f12 := f1.trans0 f2
  have fA : Fr F0 w2 (w2.alloc (.cells #[.slice va' n' c2] 24)) := (Fr.refl _ _).alloc _
  have f13 := f12.trans0 fA
  have fs : Fr (onB b6) (w2.alloc (.cells #[.slice va' n' c2] 24)) ((w2.alloc (.cells #[.slice va' n' c2] 24)).setCell ⟨b6, 0, none⟩ (.slice va' n' c2)) := (Fr.refl _ _).setB 0 _
  have l6 := h.v.lt
  have l3 := h.r.lt
  have lx := h.ix.one.lt
  have n6 : ¬ onIx x sa b6 := by rintro (h1 | h1); exact h.x6 h1.symm; exact h.s6 h1
  have n3 : ¬ onIx x sa b3 := by rintro (h1 | h1); exact h.x3 h1.symm; exact h.s3 h1
  have t6 : ¬ onBlk sa' b6 := fun h1 => (at1 _ h1).elim h.s6 (fun h2 => by omega)
  have t3 : ¬ onBlk sa' b3 := fun h1 => (at1 _ h1).elim h.s3 (fun h2 => by omega)
  have sb : ∀ k, onBlk sa' k → w.heap.size ≤ k ∧ k < w1.heap.size := i1.own.blk
  have hap : ∀ k, onBlk va' k → w.heap.size ≤ k ∧ k ≠ x ∧ ¬ onBlk sa' k ∧ k ≠ b6 ∧ k ≠ b3 := by
    intro k hk
    rcases at2 k hk with h1 | h1
    · obtain ⟨g1, g2, g3, g4, g5⟩ := h.ap k h1
      have gl := h.rd.lt (by have h9 := h.rd.len; have := h.pos; simp at h9; omega) k h1
      exact ⟨g1, g2, fun h2 => (at1 _ h2).elim g3 (fun h3 => by omega), g4, g5⟩
    · have := f1.size
      have := h.fr.size
      exact ⟨by omega, by omega, fun h2 => by have := (sb k h2).2; omega, by omega, by omega⟩
  refine ⟨?_, ?_, ?_, ?_, hc2, hap, t6, t3, h.x6, h.x3, ?_, hP⟩
  · exact ((i1.fr0 f2).fr0 fA).fr fs h.x6 (fun k hk hs => by have : k = b6 := hs; subst this; exact t6 hk)
  · exact (h.v.fr f13 n6).set _
  · exact (h.r.fr f13 n3).fr fs h3
  · exact (r2.fr0 fA).fr fs (fun k hk hs => (hap k hk).2.2.2.1 hs)
  · refine ((h.fr.trans f13 ?_).trans fs ?_)
    · rintro k hk (h1 | h1)
      · have := h.ix.from'; omega
      · have := (h.ix.own.blk k h1).1; omega
    · intro k hk hs
      have : k = b6 := hs
      omega


def GrPost (l : List Int) (w : World) (e : Ending) (w' : World) : Prop :=
  ∃ (x : Nat) (sa : Option Addr) (c : Nat) (va : Option Addr) (n c' : Nat), e = .returned (.tuple #[.pointer (some ⟨x, 0, none⟩), VA va n c', .bool true]) ∧ IX w' w.heap.size x sa c (growP l) ∧ Rd w' va n (ints (growP l)) ∧ n ≤ c' ∧
    (∀ k, onBlk va k → w.heap.size ≤ k ∧ k ≠ x ∧ ¬ onBlk sa k) ∧ Fr F0 w w'

set_option maxHeartbeats 1000000 in
theorem grown_any (la : Option Addr) (ln lc : Nat) (l : List Int) (w : World) (hr : Rd w la ln (ints l)) (hln : ln ≤ 60) :
    Calls Try.prog 21 #[.slice la ln lc] w (GrPost l w) := by
  have hll : l.length = ln := by simpa using hr.len
  have k3 : One (w.alloc (.cells #[.slice none 0 0] 24)) w.heap.size 24 (.slice none 0 0) := One.new _ _
  have hF : Fr F0 w (w.alloc (.cells #[.slice none 0 0] 24)) := (Fr.refl _ _).alloc _
  have Hll := Lib.hid hll
  clear hll
  go_enter Try.func21, Try.ntmps21
  go_wp2_with fail
  refine (New_any _).mono ?_; rintro e w1 ⟨x, sa, c, rfl, HX, F1⟩
  replace k3 := k3.fr F1 id
  replace hF := hF.trans0 F1
  go_wp2_with fail
  have hxl := HX.one.lt
  have hxf := HX.from'
  have hsB := Lib.hid HX.own.blk
  have hsz1 := hF.size
  simp only [World.size_alloc] at hxf
  obtain ⟨b3, hb3⟩ : ∃ b3, b3 = w.heap.size := ⟨_, rfl⟩
  obtain ⟨b6, hb6⟩ : ∃ b6, b6 = w1.heap.size + 1 := ⟨_, rfl⟩
  have h36 : b3 ≠ b6 := by omega
  have hb3w : Hid (w.heap.size ≤ b3) := Lib.hid (by omega)
  have h6w : Hid (w.heap.size ≤ b6) := Lib.hid (by omega)
  have hG0 : GI w ((w1.alloc (.cells #[.int .i64 (-1)] 3)).alloc (.cells #[.slice (some ⟨w1.heap.size, 0, none⟩) 1 1] 24)) b3 b6 x sa c (some ⟨w1.heap.size, 0, none⟩) 1 1 (growP (l.take 0)) := by
    have hO : Own (w1.alloc (.cells #[.int .i64 (-1)] 3)) w1.heap.size 3 (some ⟨w1.heap.size, 0, none⟩) 1 1 (ints [-1]) := by
      simpa using Own.lit (w := w1) (B := w1.heap.size) (T := 3) (ints [-1]) 1 rfl (by simp) (by omega)
    have fA : Fr F0 w1 ((w1.alloc (.cells #[.int .i64 (-1)] 3)).alloc (.cells #[.slice (some ⟨w1.heap.size, 0, none⟩) 1 1] 24)) := ((Fr.refl _ _).alloc _).alloc _
    refine ⟨(HX.fr0 fA).mono (by simp), ?_, ?_, hO.rd.fr0 ((Fr.refl _ _).alloc _), by omega, ?_, ?_, ?_, by omega, by omega, hF.trans0 fA, by simp [growP]⟩
    · have h := One.new (w := w1.alloc (.cells #[.int .i64 (-1)] 3)) 24 (.slice (some ⟨w1.heap.size, 0, none⟩) 1 1)
      rw [hb6]; simpa using h
    · rw [hb3]; exact k3.fr fA id
    · intro k hk
      have := (onBlk_some _ _ _ _).1 hk
      refine ⟨by omega, by omega, fun h => by have := (hsB.out k h).2; omega, by omega, by omega⟩
    · intro h; have := (hsB.out _ h).2; omega
    · intro h; have := (hsB.out _ h).1; simp at this; omega
  rw [← hb3]
  simp only [← hb6]
  clear hb3 hb6 HX k3 hF F1 hsB hxl hxf hsz1
  generalize hW : (w1.alloc (.cells #[.int .i64 (-1)] 3)).alloc (.cells #[.slice (some ⟨w1.heap.size, 0, none⟩) 1 1] 24) = W at *
  clear hW
  go_loopw [22] (fun i wr => ∃ (k : Nat) (sa : Option Addr) (c : Nat) (va : Option Addr) (n c' : Nat), k ≤ ln ∧ i = .int .i64 k ∧ GI w wr b3 b6 x sa c va n c' (growP (l.take k))) (fun i _ => ln - (intOf i).toNat)
  case atStart => exact ⟨0, sa, c, _, 1, 1, by omega, rfl, hG0⟩
  case round =>
    obtain ⟨k, sa, c, va, n, c', hk, rfl, hG⟩ := hrel
    by_cases hlt : k < ln
    · obtain ⟨g, o, p, hab, hp, hcell⟩ := (hr.fr0 hG.fr).ix hlt
      have ht : Hid (growP (l.take (k + 1)) = branP (growP (l.take k)) p) := Lib.hid (by rw [List.take_add_one, hp]; exact growP_snoc _ _)
      have hv := Lib.hid (growP_valid (l.take k))
      have hv2 := Lib.hid (growP_valid (l.take (k + 1)))
      obtain ⟨P, hP⟩ : ∃ P, P = growP (l.take k) := ⟨_, rfl⟩
      rw [← hP] at ht hG hv
      have hne : ((branE P p).1 != (branE P p).1) = false := by simp
      have hne2 : ((branE P p).2 != (branE P p).2) = false := by simp
      subst hab
      clear hp hP
      go_wp2_with fail
      refine (Branch_any _ _ x sa c P hG.ix hG.fr.size hv.out p).mono ?_; rintro e w3 ⟨sa1, c1, rfl, i1, f1, at1⟩
      have v6 : One w3 b6 24 (.slice va n c') := hG.v.fr f1 (by rintro (h1 | h1); exact hG.x6 h1.symm; exact hG.s6 h1)
      have c6 := v6.cell
      have rv := hG.rd.fr f1 (fun j hj hs => by rcases hs with h1 | h1; exact (hG.ap j hj).2.1 h1; exact (hG.ap j hj).2.2.1 h1)
      replace at1 := Lib.hid at1
      replace hG := Lib.hid hG
      go_wp2_with fail
      refine (refBranch_any va n c' P _ rv hG.out.cap (valid_len hv.out).2.1 p).mono ?_; rintro e w4 ⟨va', n', c2, rfl, r2, hc2, f2, at2⟩
      have v7 := (v6.fr f2 id).alloc (.cells #[.slice va' n' c2] 24)
      have c7 := v7.cell
      have f7 := v7.free
      have hG2 := Lib.hid (hG.out.step h36 h6w.out (by rw [← ht.out]; exact (valid_len hv2.out).1) i1 f1 at1.out r2 hc2 f2 at2)
      clear v6 v7 c6 rv r2 f2 i1 f1
      replace at2 := Lib.hid at2
      go_wp2_with fail
      go_roundw
      case rel => exact ⟨k + 1, sa1, c1, va', n', c2, by omega, by go_num, by rw [ht.out]; exact hG2.out⟩
      case measure => simp [intOf]; omega
    · obtain rfl : k = ln := by omega
      have et : l.take k = l := List.take_of_length_le (by have := Hll.out; omega)
      rw [et] at hG
      have c6 := hG.v.cell
      have c3 := hG.r.cell
      have f3 := hG.r.free
      have n3 : ∀ j, onBlk va j → ¬ onB b3 j := fun j hj hs => (hG.ap j hj).2.2.2.2 hs
      have fS : Fr (onB b3) wr (wr.setCell ⟨b3, 0, none⟩ (.slice va n c')).drew := ((Fr.refl _ _).setB 0 _).drew
      have gI : Hid (∀ w', Fr (onB b3) wr w' → IX w' w.heap.size x sa c (growP l) ∧ Rd w' va n (ints (growP l)) ∧ Fr F0 w w') := Lib.hid (fun w' f =>
        ⟨hG.ix.fr f hG.x3 (fun j hj hs => by have h1 : j = b3 := hs; subst h1; exact hG.s3 hj), hG.rd.fr f n3, hG.fr.trans f (fun j hj hs => by have h1 : j = b3 := hs; have := hb3w.out; omega)⟩)
      have gA : Hid (∀ j, onBlk va j → w.heap.size ≤ j ∧ j ≠ x ∧ ¬ onBlk sa j) := Lib.hid (fun j hj => ⟨(hG.ap j hj).1, (hG.ap j hj).2.1, (hG.ap j hj).2.2.1⟩)
      have gc := Lib.hid hG.cap
      have c36 := World.cell?_setCell_same wr _ (.slice va n c') c3
      have hfS := Lib.hid fS
      clear hG et n3 fS
      go_wp2_with fail
      go_region
      go_wp2_with fail
      refine bodyPost_ret (v := .tuple #[.pointer (some ⟨x, 0, none⟩), VA va n c', .bool true]) (by simp [results, Try.results21, go_sem, c36]) rfl ?_
      obtain ⟨g1, g2, g3⟩ := gI.out _ hfS.out
      exact ⟨x, sa, c, va, n, c', rfl, g1, g2, gc.out, gA.out, g3⟩

end Go.Proofs.Ytpmaoaogkjehcaa
