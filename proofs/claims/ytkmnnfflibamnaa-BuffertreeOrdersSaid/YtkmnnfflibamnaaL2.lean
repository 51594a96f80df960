/- Buffer trees: the chapter's examples. -/
import Derived.Test.YtkmnnfflibamnaaH9a
import Derived.Test.YtkmnnfflibamnaaG31
import Derived.Test.YtkmnnfflibamnaaL1
import Derived.Test.YtkmnnfflibamnaaSls
namespace Go.Proofs.Ytkmnnfflibamnaa
open Go.RowKit
attribute [local go_sem ↓] Go.wp_at_zero Go.wp_at_succ
theorem sorted_unique : ∀ {l m : List Int}, l.Pairwise (· ≤ ·) → m.Pairwise (· ≤ ·) → l.Perm m → l = m
  | [], m, _, _, h => (List.nil_perm.1 h).symm
  | a :: l, [], _, _, h => absurd h.length_eq (by simp)
  | a :: l, b :: m, hl, hm, h => by
    obtain ⟨h1, h2⟩ := List.pairwise_cons.1 hl
    obtain ⟨h3, h4⟩ := List.pairwise_cons.1 hm
    have e : a = b := by
      have p1 := h.mem_iff.1 (List.mem_cons.2 (.inl rfl))
      have p2 := h.mem_iff.2 (List.mem_cons.2 (.inl (rfl : b = b)))
      rcases List.mem_cons.1 p1 with e | e
      · exact e
      · rcases List.mem_cons.1 p2 with e2 | e2
        · exact e2.symm
        · have := h1 b e2; have := h3 a e; omega
    subst e
    rw [sorted_unique h2 h4 ((List.perm_cons a).1 h)]
def aw : List Int := [4, 3, 2, 1, 8, 7, 6, 5]
def stA (i : Nat) : TT × List En := (aw.take i).foldl (fun s k => updT 2 2 4 s.1 s.2 (k, k, false)) (⟨[], 0⟩, [])
theorem stA_succ {i : Nat} {x : Int} (h : aw[i]? = some x) : stA (i + 1) = updT 2 2 4 (stA i).1 (stA i).2 (x, x, false) := by
  unfold stA
  rw [List.take_add_one, h, List.foldl_append]; rfl
theorem stA_mv : (stA 8).1.mv = 12 := by decide
theorem stA_lv : ((stA 8).1.lv.map List.length) = [0, 1] := by decide
theorem aw_in : ∀ x ∈ aw, inK x = true := by decide
theorem srt12 : srtN 2 (fanN 2 4) 4 5 = 12 := by decide
/-- The colours of a new tree. -/
def colN (t : Nat) (k : Nat) : Nat := if k = t then 1 else 0
def tvN : TV := ⟨[], none, 0, [], none, 0, 0⟩
theorem TS.new {w : World} {t B M : Nat} (h : Blk w t 77 [.int .i64 (B : Int), .int .i64 (M : Int), .slice none 0 0, .slice none 0 0, .int .i64 0]) : TS w (colN t) t B M tvN :=
  ⟨h, by unfold colN; rw [if_pos rfl], OwnZ.nil _ _ _ _, fun k hk => absurd hk (onBlk_none k), Own.nil _ _ _, fun k hk => absurd hk (onBlk_none k), fun i L hL => (by cases hL), fun k hk => by unfold colN; rw [if_neg (fun e => by have := h.lt; omega)]⟩
/-- How far updates of the program's tree have come. -/
def UP (n : Nat) (t : TT) (buf : List En) : Prop := ∃ a, PI t a (2 * n) (1200 * n) ∧ a + buf.length ≤ n ∧ Sd buf
theorem UP.nil : UP 0 ⟨[], 0⟩ [] := ⟨0, PI.nil, Nat.le_refl _, List.Pairwise.nil⟩
theorem UP.upd {n B F M : Nat} (hF : 2 ≤ F) (hB : 1 ≤ B) {t : TT} {buf : List En} (h : UP n t buf) (hn : n ≤ 399) (e : En) : UP (n + 1) (updT B F M t buf e).1 (updT B F M t buf e).2 := by
  obtain ⟨a, h1, h2, h3⟩ := h
  obtain ⟨a', p1, p2, p3⟩ := h1.upd (M := M) hF hB e h3 (by omega)
  exact ⟨a', p1.mono (Nat.le_refl _) (by omega) (by omega), by omega, p3⟩
theorem isH2 {lv : Lv} {k : Nat} (h : IsH lv k) (hl : lv.map List.length = [0, 1]) : k = 2 := by
  rcases lv with _ | ⟨a, _ | ⟨b, _ | ⟨c, d⟩⟩⟩
  · cases hl
  · simp at hl
  · have hb : b.length = 1 := by simp at hl; exact hl.2
    obtain ⟨h1, h2, h3⟩ := h
    have h1 : k ≤ 2 := h1
    have hk : 1 < k := by
      rcases Nat.lt_or_ge 1 k with c | c
      · exact c
      · have h4 : b.length = 0 := h2 1 c
        omega
    omega
  · simp at hl
set_option maxRecDepth 100000 in
set_option maxHeartbeats 8000000 in
theorem awake_any (w : World) : Calls Try.prog 10 #[] w fun e w' => e = .returned (.bool true) ∧ Fr F0 w w' := by
  have HN : Hid (Calls Try.prog 12 #[.int .i64 2, .int .i64 4] w fun e w' => ∃ t, e = .returned (.tuple #[.pointer (some ⟨t, 0, none⟩), .int .i64 0]) ∧ Blk w' t 77 [.int .i64 ((2 : Nat) : Int), .int .i64 ((4 : Nat) : Int), .slice none 0 0, .slice none 0 0, .int .i64 0] ∧ w.heap.size ≤ t ∧ Fr F0 w w') := Lib.hid (by
    have h := New_any 2 4 w
    unfold NewR at h
    exact h.mono (fun e w' h => by rw [if_pos (by decide)] at h; exact h))
  go_enter Try.func10, Try.ntmps10
  go_upto_region 4 with (go_at_call 12; refine HN.out.mono ?_; rintro e w1 ⟨t, rfl, h1, h2, h3⟩; have X1 := Lib.hid (And.intro (TS.new h1) (And.intro h2 h3)); clear h1 h2 h3)
  clear HN
  go_upto_region 5 with fail
  have hgne : w1.heap.size ≠ t := by have := X1.out.1.lt; omega
  have X2 : Hid (TS (w1.alloc (.cells #[.int .i64 4, .int .i64 3, .int .i64 2, .int .i64 1, .int .i64 8, .int .i64 7, .int .i64 6, .int .i64 5] 3)) (colN t) t 2 4 tvN ∧ Rd (w1.alloc (.cells #[.int .i64 4, .int .i64 3, .int .i64 2, .int .i64 1, .int .i64 8, .int .i64 7, .int .i64 6, .int .i64 5] 3)) (some ⟨w1.heap.size, 0, none⟩) 8 (ints aw) ∧ Fr F0 w (w1.alloc (.cells #[.int .i64 4, .int .i64 3, .int .i64 2, .int .i64 1, .int .i64 8, .int .i64 7, .int .i64 6, .int .i64 5] 3)) ∧ w.heap.size ≤ t ∧ colN t w1.heap.size = 0) := Lib.hid ⟨X1.out.1.fr0 ((Fr.refl F0 _).alloc _), (Own.lit (w := w1) (B := 0) (T := 3) (ints aw) 8 rfl (Nat.zero_le _) (by omega)).rd, X1.out.2.2.alloc _, X1.out.2.1, by unfold colN; rw [if_neg hgne]⟩
  generalize w1.alloc (.cells #[.int .i64 4, .int .i64 3, .int .i64 2, .int .i64 1, .int .i64 8, .int .i64 7, .int .i64 6, .int .i64 5] 3) = W1 at *
  obtain ⟨g, hg⟩ : ∃ g, g = w1.heap.size := ⟨_, rfl⟩
  rw [← hg] at X2 ⊢
  clear hg hgne X1
  have hF2 : fanN 2 4 = 2 := by decide
  go_loopw [4, 20] (fun s4 s20 wr => ∃ i : Nat, i ≤ 8 ∧ s20 = .int .i64 (i : Int) ∧ Hid (∃ col T, TS wr col t 2 4 T ∧ (T.tt, T.buf) = stA i ∧ UP i T.tt T.buf ∧ Ch W1 wr (colN t) col)) (fun _ s20 _ => 8 - (intOf s20).toNat)
  case atStart => exact ⟨0, by omega, rfl, Lib.hid ⟨colN t, tvN, X2.out.1, rfl, UP.nil, Ch.refl _ _⟩⟩
  case round =>
    obtain ⟨i, hi, rfl, H⟩ := hrel
    obtain ⟨col, T, H1, H2, H3, H4⟩ := H.out
    by_cases hi8 : i < 8
    · have hi8' : (i : Int) < 8 := by omega
      obtain ⟨x, hx⟩ : ∃ x, aw[i]? = some x := ⟨_, List.getElem?_eq_getElem (by show i < 8; exact hi8)⟩
      have hR : Rd wr (some ⟨g, 0, none⟩) 8 (ints aw) := X2.out.2.1.fr H4.fr (fun k hk hs => by
        have := (onBlk_some _ _ _ _).1 hk
        subst this
        exact hs X2.out.2.2.2.2)
      obtain ⟨b, o, y, e1, e2, d0⟩ := hR.ix hi8
      injection e1 with e1
      injection e1 with e1 e3
      subst e1 e3
      rw [hx] at e2
      injection e2 with e2
      subst e2
      obtain ⟨a9, p1, p2, p3⟩ := H3
      have hin := aw_in x (List.mem_of_getElem? hx)
      have HU := Lib.hid (Put_any (update_any (x, x, false) H1 p1 (by omega) (by omega) (by omega) p3 (by omega) (by omega) hin hin))
      have HSt := Lib.hid (stA_succ hx)
      have H3' := Lib.hid (UP.upd (B := 2) (M := 4) (F := 2) (by omega) (by omega) ⟨a9, p1, p2, p3⟩ (by omega) (x, x, false))
      have H2' := Lib.hid (And.intro H2 H4)
      rw [Nat.zero_add] at d0
      clear hx hR p1 p2 p3 H1 H2 H4 H hin
      go_wp2_with (go_at_call 14; refine HU.out.mono ?_; rintro e w2 ⟨rfl, col', T', u1, u2, u3⟩; have X3 := Lib.hid (And.intro u1 (And.intro u2 u3)); clear u1 u2 u3)
      go_roundw
      case rel => exact ⟨i + 1, by omega, by go_num, Lib.hid ⟨col', T', X3.out.1, by
        have h1 := X3.out.2.1
        rw [hF2] at h1
        rw [h1, HSt.out, ← H2'.out.1], by
        have h1 := X3.out.2.1
        rw [hF2] at h1
        have h2 := H3'.out
        rw [← h1] at h2
        exact h2, H2'.out.2.trans X3.out.2.2⟩⟩
      case measure => simp [intOf] <;> omega
    · obtain rfl : i = 8 := by omega
      have X5 : Hid (TS wr col t 2 4 T ∧ T.mv = 12 ∧ (∀ k, IsH (lvT T.lv) k → k = 2) ∧ T.lv.length ≤ 100 ∧ Fr F0 w wr) := Lib.hid ⟨H1, by
        have h1 := congrArg (fun s => s.1.mv) H2
        exact h1.trans stA_mv, fun k hk => by
        have h1 := congrArg (fun s => s.1.lv.map List.length) H2
        exact isH2 hk (h1.trans stA_lv), by
        have h1 := congrArg (fun s => (s.1.lv.map List.length).length) H2
        have h2 : ((lvT T.lv).map List.length).length = ([0, 1] : List Nat).length := h1.trans (congrArg List.length stA_lv)
        unfold lvT at h2
        rw [List.length_map, List.length_map] at h2
        rw [h2]; decide, X2.out.2.2.1.trans H4.fr (fun k hk hs => hs (by unfold colN; rw [if_neg (fun e => by have := X2.out.2.2.2.1; omega)]))⟩
      clear H1 H2 H3 H4 H X2
      have h58 : ¬ (((8 : Nat) : Int) < 8) := by omega
      have X6 : Hid (TS (wr.alloc (.cells #[.int .i64 5, .int .i64 4, .int .i64 3, .int .i64 2, .int .i64 1] 3)) col t 2 4 T ∧ Fr F0 w (wr.alloc (.cells #[.int .i64 5, .int .i64 4, .int .i64 3, .int .i64 2, .int .i64 1] 3))) := Lib.hid ⟨X5.out.1.fr0 ((Fr.refl F0 _).alloc _), X5.out.2.2.2.2.alloc _⟩
      have HSo : Hid (Calls Try.prog 17 #[.slice (some ⟨wr.heap.size, 0, none⟩) 5 5, .int .i64 2, .int .i64 4] (wr.alloc (.cells #[.int .i64 5, .int .i64 4, .int .i64 3, .int .i64 2, .int .i64 1] 3)) fun e w' => ∃ a' c', e = .returned (.tuple #[.slice a' 5 c', .int .i64 12, .int .i64 0]) ∧ Rd w' a' 5 (ints [1, 2, 3, 4, 5]) ∧ Fr F0 (wr.alloc (.cells #[.int .i64 5, .int .i64 4, .int .i64 3, .int .i64 2, .int .i64 1] 3)) w') := Lib.hid (by
        have h := BSort_any (B := 2) (M := 4) (Own.lit (w := wr) (B := 0) (T := 3) (ints [5, 4, 3, 2, 1]) 5 rfl (Nat.zero_le _) (by omega)).rd (c := 5) (by omega) (by omega) (by omega) (by omega)
        rw [srt12] at h
        refine h.mono ?_
        rintro e w' ⟨a', c', ys, he, p1, p2, p3, p4⟩
        have hy : ys = [1, 2, 3, 4, 5] := sorted_unique p2 (by decide) (p1.trans (by decide))
        subst hy
        exact ⟨a', c', he, p3, p4⟩)
      go_upto_region 11 with (go_at_call 17; refine HSo.out.mono ?_; rintro e w7 ⟨a7, c7, rfl, r7, F7⟩; have X7 := Lib.hid (And.intro (X6.out.1.fr0 F7) (And.intro r7 (X6.out.2.trans0 F7))); clear r7 F7)
      have HBl := Lib.hid (Blocks_any X7.out.1)
      have HHe := Lib.hid (Height_any X7.out.1 (by have := X5.out.2.2.2.1; omega))
      rw [X5.out.2.1] at HBl
      have HEq : Hid (∀ W, Fr F0 w7 W → ∀ g, Rd W (some ⟨g, 0, none⟩) 5 (ints [1, 2, 3, 4, 5]) → Calls Try.prog 22 #[.slice a7 5 c7, .slice (some ⟨g, 0, none⟩) 5 5] W fun e w' => e = .returned (.bool true) ∧ ∃ q, w' = W.drewN q) := Lib.hid (fun W F g hr => by
        have h := Equal_any a7 (some ⟨g, 0, none⟩) 5 5 c7 5 [1, 2, 3, 4, 5] [1, 2, 3, 4, 5] W (X7.out.2.1.fr0 F) hr
        exact h)
      have HRd : Hid (Rd (w7.alloc (.cells #[.int .i64 1, .int .i64 2, .int .i64 3, .int .i64 4, .int .i64 5] 3)) (some ⟨w7.heap.size, 0, none⟩) 5 (ints [1, 2, 3, 4, 5])) := Lib.hid (Own.lit (w := w7) (B := 0) (T := 3) (ints [1, 2, 3, 4, 5]) 5 rfl (Nat.zero_le _) (by omega)).rd
      go_wp2_with (first | (go_at_call 15; refine HBl.out.mono ?_; rintro e w8 ⟨rfl, rfl⟩) | (go_at_call 32; refine HHe.out.mono ?_; rintro e w8 ⟨kk, rfl, hk8, rfl⟩; obtain rfl := X5.out.2.2.1 kk hk8; clear hk8) | (go_at_call 22; refine (HEq.out _ ((Fr.refl F0 _).alloc _) _ HRd.out).mono ?_; rintro e w9 ⟨rfl, q9, rfl⟩))
      go_ret
      exact ⟨rfl, (X7.out.2.2.alloc _).drewN _⟩
end Go.Proofs.Ytkmnnfflibamnaa
