/- The closures of treelayout's layout. -/
import Derived.Test.YtdllpiekkbojgaaSpec
namespace Go.Proofs.Ytdllpiekkbojgaa
open Go.RowKit

theorem E3 : Elem1 Try.prog 23 3 (.int .i64 0) 8 := ⟨rfl, by kernel_rfl, rfl⟩

/-- The blocks of layout's variables: kind, n, the array, out, next, put, walk, split. -/
structure Lay (w : World) (B n : Nat) (kind : Int) (s : St) : Prop where
  bk : One w B 3 (.int .i64 kind)
  bn : One w (B + 1) 3 (.int .i64 n)
  own : Own w B 3 (some ⟨B + 2, 0, none⟩) n n (ints s.l)
  bo : One w (B + 3) 23 (.slice (some ⟨B + 2, 0, none⟩) n n)
  bx : One w (B + 4) 3 (.int .i64 s.at_)
  bp : One w (B + 5) 62 (.func (.func 48) #[] #[.pointer (some ⟨B + 4, 0, none⟩), .pointer (some ⟨B + 3, 0, none⟩)])
  bw : One w (B + 6) 62 (.func (.func 49) #[] #[.pointer (some ⟨B + 1, 0, none⟩), .pointer (some ⟨B, 0, none⟩), .pointer (some ⟨B + 5, 0, none⟩), .pointer (some ⟨B + 6, 0, none⟩)])
  bs : One w (B + 7) 63 (.func (.func 50) #[] #[.pointer (some ⟨B + 5, 0, none⟩), .pointer (some ⟨B + 7, 0, none⟩)])

def LayS (B : Nat) : Nat → Prop := fun k => k = B + 2 ∨ k = B + 4

theorem Lay.put {w : World} {B n v : Nat} {kind : Int} {s : St} (h : Lay w B n kind s) :
    Lay ((w.setCell ⟨B + 2, v, none⟩ (.int .i64 s.at_)).setCell ⟨B + 4, 0, none⟩ (.int .i64 (wrap64 (s.at_ + 1)))) B n kind (putS v s) :=
  ⟨(h.bk.other (by simp) _).other (by simp) _, (h.bn.other (by simp) _).other (by simp) _,
   by
     have := (h.own.set (i := v) (.int .i64 s.at_)).other (p := ⟨B + 4, 0, none⟩) (by rw [onBlk_some]; simp) (.int .i64 (wrap64 (s.at_ + 1)))
     simpa [putS, List.map_set] using this,
   (h.bo.other (by simp) _).other (by simp) _, (h.bx.other (by simp) _).set _,
   (h.bp.other (by simp) _).other (by simp) _, (h.bw.other (by simp) _).other (by simp) _, (h.bs.other (by simp) _).other (by simp) _⟩
theorem Lay.put' {w : World} {B n v : Nat} {kind : Int} {s : St} (h : Lay w B n kind s) :
    Lay ((w.setCell ⟨B + 4, 0, none⟩ (.int .i64 (wrap64 (s.at_ + 1)))).setCell ⟨B + 2, v, none⟩ (.int .i64 s.at_)) B n kind (putS v s) :=
  ⟨(h.bk.other (by simp) _).other (by simp) _, (h.bn.other (by simp) _).other (by simp) _,
   by
     have := (h.own.other (p := ⟨B + 4, 0, none⟩) (by rw [onBlk_some]; simp) (.int .i64 (wrap64 (s.at_ + 1)))).set (i := v) (.int .i64 s.at_)
     simpa [putS, List.map_set] using this,
   (h.bo.other (by simp) _).other (by simp) _, (h.bx.set _).other (by simp) _,
   (h.bp.other (by simp) _).other (by simp) _, (h.bw.other (by simp) _).other (by simp) _, (h.bs.other (by simp) _).other (by simp) _⟩
theorem Lay.drew {w : World} {B n : Nat} {kind : Int} {s : St} (h : Lay w B n kind s) : Lay w.drew B n kind s := ⟨h.bk, h.bn, h.own, h.bo, h.bx, h.bp, h.bw, h.bs⟩

def LayPost (w : World) (B n : Nat) (kind : Int) (s : St) (e : Ending) (w' : World) : Prop := e = .returned (.tuple #[]) ∧ Lay w' B n kind s ∧ Fr (LayS B) w w'

set_option maxHeartbeats 400000 in
theorem put_any (w : World) (B n v : Nat) (kind : Int) (s : St) (h : Lay w B n kind s) (hv : v < n) :
    Calls Try.prog 48 #[.int .i64 v, .pointer (some ⟨B + 4, 0, none⟩), .pointer (some ⟨B + 3, 0, none⟩)] w (LayPost w B n kind (putS v s)) := by
  have h1 := h.bx.cell
  have h2 := h.bx.free
  have h3 := h.bo.cell
  have hl : s.l.length = n := by simpa using h.own.len
  obtain ⟨g, hg, _, _, hc, hf⟩ := h.own.at (by omega)
  injection hg with hg
  injection hg with hg
  subst hg
  obtain ⟨y, hy⟩ : ∃ y, s.l[v]? = some y := ⟨s.l[v], by simp⟩
  have h4 := hc v (.int .i64 y) (by simp [hy])
  have h5 := hf v
  clear hc hf hy
  have H := Lib.hid h
  have Hl := Lib.hid hl
  clear h hl
  go_enter Try.func48, Try.ntmps48
  go_wp2
  go_region
  all_goals go_end0
  all_goals refine ⟨rfl, ?_, ?_⟩
  · exact (H.out.put (v := v)).drew
  · exact ((((Fr.refl _ _).setCell (fun _ => .inl rfl) _).setCell (fun _ => .inr rfl) _)).drew

set_option maxHeartbeats 800000 in
theorem walk_any (B n : Nat) (kind : Int) (hn : n ≤ 1000000) : ∀ (f v : Nat) (vi : Int) (s : St) (w : World), vi = v → n ≤ v + f → v ≤ 4000000 → Lay w B n kind s →
    Calls Try.prog 49 #[.int .i64 vi, .pointer (some ⟨B + 1, 0, none⟩), .pointer (some ⟨B, 0, none⟩), .pointer (some ⟨B + 5, 0, none⟩), .pointer (some ⟨B + 6, 0, none⟩)] w (LayPost w B n kind (walkS kind n f v s)) := by
  intro f
  induction f with
  | zero =>
    intro v vi s w hvi hf hv h
    subst hvi
    have h1 := h.bn.cell
    have hh : n ≤ v := by omega
    have H := Lib.hid h
    clear h
    go_enter Try.func49, Try.ntmps49
    go_wp2_with fail
    go_end0
    exact ⟨rfl, H.out, Fr.refl _ _⟩
  | succ f ih =>
    intro v vi s w hvi hf hv h
    subst hvi
    have h1 := h.bn.cell
    by_cases hh : n ≤ v
    · have H := Lib.hid h
      clear h ih
      go_enter Try.func49, Try.ntmps49
      go_wp2_with fail
      go_end0
      refine ⟨rfl, ?_, Fr.refl _ _⟩
      unfold walkS
      rw [if_pos hh]
      exact H.out
    · have h2 := h.bk.cell
      have h3 := h.bp.cell
      have h4 := h.bw.cell
      have H := Lib.hid h
      have IH := Lib.hid ih
      clear h ih
      -- the part behind the first put
      have part : ∀ (s1 : St) (w1 : World), Lay w1 B n kind s1 → Fr (LayS B) w w1 → whenS (kind = 3) (putS v) s = s1 → walkS kind n (f + 1) v s = walkS kind n f (2 * v + 2) (whenS (kind = 2) (putS v) (walkS kind n f (2 * v + 1) s1)) := by
        intro s1 w1 _ _ e
        rw [walkS, if_neg hh, e]
      have Hp := Lib.hid part
      clear part
      go_enter Try.func49, Try.ntmps49
      by_cases k3 : kind = 3
      · subst k3
        go_wp2_with fail
        refine (put_any w B n v 3 s H.out (by omega)).mono ?_; rintro e w1 ⟨rfl, L1, F1⟩
        have a1 := L1.bk.cell
        have a2 := L1.bw.cell
        have L1 := Lib.hid L1
        have F1 := Lib.hid F1
        go_wp2_with fail
        refine (IH.out (2 * v + 1) _ _ w1 (by omega) (by omega) (by omega) L1.out).mono ?_; rintro e w2 ⟨rfl, L2, F2⟩
        have b1 := L2.bk.cell
        have b2 := L2.bw.cell
        have L2 := Lib.hid L2
        have F2 := Lib.hid F2
        go_wp2_with fail
        refine (IH.out (2 * v + 2) _ _ w2 (by omega) (by omega) (by omega) L2.out).mono ?_; rintro e w3 ⟨rfl, L3, F3⟩
        have L3 := Lib.hid L3
        have F3 := Lib.hid F3
        go_wp2_with fail
        go_end0
        refine ⟨rfl, ?_, (F1.out.trans F2.out (fun _ _ h => h)).trans F3.out (fun _ _ h => h)⟩
        rw [Hp.out (putS v s) w1 L1.out F1.out rfl]
        exact L3.out
      · have k3' : (kind == 3) = false := by simpa using k3
        go_wp2_with fail
        refine (IH.out (2 * v + 1) _ _ w (by omega) (by omega) (by omega) H.out).mono ?_; rintro e w2 ⟨rfl, L2, F2⟩
        have b1 := L2.bk.cell
        have b2 := L2.bw.cell
        have b3 := L2.bp.cell
        have L2 := Lib.hid L2
        have F2 := Lib.hid F2
        by_cases k2 : kind = 2
        · subst k2
          go_wp2_with fail
          refine (put_any w2 B n v 2 _ L2.out (by omega)).mono ?_; rintro e w3 ⟨rfl, L3, F3⟩
          have c2 := L3.bw.cell
          have L3 := Lib.hid L3
          have F3 := Lib.hid F3
          go_wp2_with fail
          refine (IH.out (2 * v + 2) _ _ w3 (by omega) (by omega) (by omega) L3.out).mono ?_; rintro e w4 ⟨rfl, L4, F4⟩
          have L4 := Lib.hid L4
          have F4 := Lib.hid F4
          go_wp2_with fail
          go_end0
          refine ⟨rfl, ?_, (F2.out.trans F3.out (fun _ _ h => h)).trans F4.out (fun _ _ h => h)⟩
          rw [Hp.out s w H.out (Fr.refl _ _) rfl]
          exact L4.out
        · have k2' : (kind == 2) = false := by simpa using k2
          go_wp2_with fail
          refine (IH.out (2 * v + 2) _ _ w2 (by omega) (by omega) (by omega) L2.out).mono ?_; rintro e w4 ⟨rfl, L4, F4⟩
          have L4 := Lib.hid L4
          have F4 := Lib.hid F4
          go_wp2_with fail
          go_end0
          refine ⟨rfl, ?_, F2.out.trans F4.out (fun _ _ h => h)⟩
          rw [Hp.out s w H.out (Fr.refl _ _) (by unfold whenS; rw [if_neg k3])]
          unfold whenS
          rw [if_neg k2]
          exact L4.out

end Go.Proofs.Ytdllpiekkbojgaa
