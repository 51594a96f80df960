/- The closures of the law Undoes: the names, and the unions. -/
import Derived.Test.YtihcaemheknjbaaF9
import Derived.Test.YtihcaemheknjbaaF28
import Derived.Deep.DeepCutAuto
namespace Go.Proofs.Ytihcaemheknjbaa
open Go.RowKit
attribute [local go_sem ↓] Go.wp_at_zero Go.wp_at_succ
theorem fndS_in {n v : Nat} {p : List Nat} (hv : v < n) : fndS n p (v : Int) = (((p.getD v 0 : Nat) : Int), 0) := by
  unfold fndS
  rw [if_neg (by omega)]; rfl
set_option maxRecDepth 100000 in
set_option maxHeartbeats 4000000 in
theorem names_any {w : World} {B f n q bf : Nat} {N : Nat → Prop} {ps : List (List Nat)} {p : List Nat} (h : Fh w B N f n ps p) (hn : n ≤ 40) (hq : w.cell? ⟨q, 0, none⟩ = some (.int .i64 (n : Int))) (hb : w.cell? ⟨bf, 0, none⟩ = some (.pointer (some ⟨f, 0, none⟩))) :
    Calls Try.prog 32 #[.pointer (some ⟨q, 0, none⟩), .pointer (some ⟨bf, 0, none⟩)] w fun e w' => ∃ a c, e = .returned (.slice a n c) ∧ Own w' w.heap.size 3 a n c (nv p) ∧ Fr F0 w w' := by
  have HH := Lib.hid h
  have hl := h.len
  clear h
  go_enter Try.func32, Try.ntmps32
  go_wp2_with fail
  go_loopw [3, 8] (fun s3 s8 wr => ∃ (i : Nat) (a : Option Addr) (c : Nat), i ≤ n ∧ s8 = .int .i64 i ∧ s3 = .slice a i c ∧ Hid (Own wr w.heap.size 3 a i c (nv (p.take i)) ∧ Fr F0 w wr)) (fun _ s8 _ => n - (intOf s8).toNat)
  case atStart => exact ⟨0, none, 0, Nat.zero_le _, rfl, rfl, Lib.hid ⟨Own.nil _ _ _, Fr.refl _ _⟩⟩
  case round =>
    obtain ⟨i, a, c, hi, rfl, rfl, H⟩ := hrel
    by_cases hlt : i < n
    · have hlt' : (i : Int) < (n : Int) := by omega
      have b1 := H.out.2.cell hb id
      have HF := Lib.hid (Find_h (i : Int) (HH.out.fr0 H.out.2) (by omega))
      rw [fndS_in hlt] at HF
      have hx : p[i]? = some (p.getD i 0) := by rw [List.getD_eq_getElem?_getD, List.getElem?_eq_getElem (by omega)]; rfl
      generalize p.getD i 0 = xi at hx HF
      have HX := Lib.hid hx
      clear hx
      go_wp2_with fail
      refine HF.out.mono ?_
      rintro e w2 ⟨rfl, F2⟩
      have H2 : Hid (Own w2 w.heap.size 3 a i c (nv (p.take i)) ∧ Fr F0 w w2) := Lib.hid ⟨H.out.1.fr0 F2, H.out.2.trans0 F2⟩
      clear F2 HF b1
      go_wp2_with (at_builtin; refine wpApp1 E3 H2.out.1 (by omega) (by omega) H2.out.2.size (u := .int .i64 (xi : Int)) rfl rfl rfl ?_; intro a' c' w' own' fr'; have HO := Lib.hid own'; have HF := Lib.hid (H2.out.2.trans fr' (fun k hk h1 => by have := (H2.out.1.blk k h1).1; omega)); clear own' fr')
      go_roundw
      case rel => exact ⟨i + 1, a', c', by omega, by go_num, rfl, Lib.hid ⟨by rw [take_snoc HX.out, nv_app]; exact HO.out, HF.out⟩⟩
      case measure => simp [intOf]; omega
    · obtain rfl : i = n := by omega
      go_wp2_with fail
      go_ret
      exact ⟨a, c, rfl, by have := H.out.1; rw [List.take_of_length_le (by omega)] at this; exact this, H.out.2⟩
theorem ArgP.frc {S : Nat → Prop} {w w' : World} {a : Option Addr} {n c : Nat} {l : List Pr} (h : ArgP w a n c l) (f : Fr S w w') (hS : 0 < n → ∀ k, onBlk a k → ¬ S k) : ArgP w' a n c l :=
  ⟨h.cap, h.max, h.len, fun i x hx => by
    obtain ⟨b, o, ha, h1, h2⟩ := h.cells i x hx
    have hi : i < n := by have := (List.getElem?_eq_some_iff.1 hx).1; have := h.len; omega
    have : ¬ S b := hS (by omega) b (by subst ha; exact (onBlk_some _ _ _ _).2 rfl)
    exact ⟨b, o, ha, f.cell h1 this, f.cell h2 this⟩⟩
/-- After some unions: X are the partitions since. -/
structure Jn (w wr : World) (B : Nat) (N : Nat → Prop) (f n : Nat) (ps : List (List Nat)) (p : List Nat) (X : List (List Nat)) : Prop where
  ex : ∃ N' hs p', Fh wr B N' f n (ps ++ hs) p' ∧ hs ++ [p'] = p :: X ∧ (∀ j, N' j → N j ∨ (w.heap.size ≤ j ∧ j < wr.heap.size))
  fr : Fr N w wr
section
variable {w wr w' : World} {B f n : Nat} {N : Nat → Prop} {ps X : List (List Nat)} {p : List Nat}
theorem Jn.start (h : Fh w B N f n ps p) : Jn w w B N f n ps p [] := ⟨⟨N, [], p, by simpa using h, rfl, fun _ h => .inl h⟩, Fr.refl _ _⟩
theorem Jn.fr0 (h : Jn w wr B N f n ps p X) (F : Fr F0 wr w') : Jn w w' B N f n ps p X := by
  obtain ⟨N', hs, p', h1, h2, h3⟩ := h.ex
  exact ⟨⟨N', hs, p', h1.fr0 F, h2, fun j hj => (h3 j hj).imp id (fun h => ⟨h.1, Nat.lt_of_lt_of_le h.2 F.size⟩)⟩, h.fr.trans0 F⟩
theorem Jn.union (h : Jn w wr B N f n ps p X) (hn : n ≤ 1000) (hp : ps.length ≤ 1000) (hX : X.length ≤ 1000) {v u : Nat} (hv : v < n) (hu : u < n) :
    Calls Try.prog 23 #[.pointer (some ⟨f, 0, none⟩), .int .i64 v, .int .i64 u] wr fun e w' => ∃ b, e = .returned (.tuple #[.bool b, .int .i64 0]) ∧ ∃ y, Jn w w' B N f n ps p (X ++ [y]) := by
  obtain ⟨N', hs, p', h1, h2, h3⟩ := h.ex
  have hl : hs.length = X.length := by have := congrArg List.length h2; simpa using this
  refine (Union_h h1 hn (by rw [List.length_append]; omega) hv hu).mono ?_
  rintro e w' ⟨he, g1, g2⟩
  have hfr : Fr N w w' := h.fr.trans g2 (fun k hk hN => (h3 k hN).elim id (fun h => by omega))
  refine ⟨_, he, joinP p' v u, ⟨⟨ext N' wr w', hs ++ [p'], joinP p' v u, by rw [← List.append_assoc]; exact g1, by rw [h2]; rfl, fun j hj => ?_⟩, hfr⟩⟩
  rcases hj with hj | ⟨hj, hj2⟩
  · exact (h3 j hj).imp id (fun h => ⟨h.1, Nat.lt_of_lt_of_le h.2 g2.size⟩)
  · exact .inr ⟨Nat.le_trans h.fr.size hj, hj2⟩
theorem Jn.bad (h : Jn w wr B N f n ps p X) {v u : Int} (hv : v < 0 ∨ (n : Int) ≤ v ∨ u < 0 ∨ (n : Int) ≤ u) :
    Calls Try.prog 23 #[.pointer (some ⟨f, 0, none⟩), .int .i64 v, .int .i64 u] wr fun e w' => e = .returned (.tuple #[.bool false, .int .i64 2]) ∧ wr = w' := by
  obtain ⟨N', hs, p', h1, h2, h3⟩ := h.ex
  exact Union_bad h1 hv
end
set_option maxRecDepth 100000 in
set_option maxHeartbeats 8000000 in
theorem join_any {w : World} {B f n bf : Nat} {N : Nat → Prop} {ps : List (List Nat)} {p : List Nat} (h : Fh w B N f n ps p) (hn : n ≤ 40) (hp : ps.length ≤ 40) (hb : w.cell? ⟨bf, 0, none⟩ = some (.pointer (some ⟨f, 0, none⟩))) (hbN : ¬ N bf)
    {a : Option Addr} {m c : Nat} {l : List Pr} (ha : ArgP w a m c l) (haN : 0 < m → ∀ k, onBlk a k → ¬ N k) (hm : m ≤ 40) :
    Calls Try.prog 33 #[.slice a m c, .pointer (some ⟨bf, 0, none⟩)] w fun e w' => ∃ X, e = .returned (.int .i64 (X.length : Int)) ∧ X.length ≤ m ∧ Jn w w' B N f n ps p X := by
  have HA := Lib.hid ha
  have HN := Lib.hid haN
  have HB := Lib.hid hbN
  have HS := Lib.hid (Jn.start h)
  have hcap := ha.cap
  have hmax := ha.max
  clear h ha haN hbN
  go_enter Try.func33, Try.ntmps33
  go_wp2_with fail
  go_loopw [4, 11] (fun s4 s11 wr => ∃ (i : Nat) (X : List (List Nat)), i ≤ m ∧ s11 = .int .i64 i ∧ s4 = .int .i64 (X.length : Int) ∧ X.length ≤ i ∧ Hid (Jn w wr B N f n ps p X)) (fun _ s11 _ => m - (intOf s11).toNat)
  case atStart => exact ⟨0, [], Nat.zero_le _, rfl, rfl, Nat.le_refl _, HS⟩
  case round =>
    obtain ⟨i, X, hi, rfl, rfl, hX, H⟩ := hrel
    by_cases hlt : i < m
    · have hlt' : (i : Int) < (m : Int) := by omega
      obtain ⟨⟨z1, z2⟩, he⟩ : ∃ e, l[i]? = some e := ⟨_, List.getElem?_eq_getElem (by rw [HA.out.len]; exact hlt)⟩
      obtain ⟨b, o, hb', c1, c2⟩ := (HA.out.frc H.out.fr HN.out).cells i _ he
      subst hb'
      dsimp only at c1 c2
      have xb := H.out.fr.cell hb HB.out
      clear he
      go_upto_region 5 with fail
      have F5 := (Fr.refl F0 wr).alloc (.cells #[.int .i64 z1, .int .i64 z2] 62)
      have P5 := Blk.new wr 62 [.int .i64 z1, .int .i64 z2]
      obtain ⟨g, hg⟩ : ∃ b, b = wr.heap.size := ⟨_, rfl⟩
      obtain ⟨w5, hw5⟩ : ∃ W, W = wr.alloc (.cells #[.int .i64 z1, .int .i64 z2] 62) := ⟨_, rfl⟩
      change Blk (wr.alloc (.cells #[.int .i64 z1, .int .i64 z2] 62)) _ _ _ at P5
      rw [← hw5] at F5 P5 ⊢
      rw [← hg] at P5 ⊢
      have y0 := P5.cell (i := 0) rfl
      have y1 := P5.cell (i := 1) rfl
      have xb5 := F5.cell xb id
      have H5 := Lib.hid (H.out.fr0 F5)
      clear hw5 hg F5 P5 c1 c2 xb
      by_cases hr : 0 ≤ z1 ∧ z1 < (n : Int) ∧ 0 ≤ z2 ∧ z2 < (n : Int)
      · obtain ⟨v, rfl⟩ := Int.eq_ofNat_of_zero_le hr.1
        obtain ⟨u, rfl⟩ := Int.eq_ofNat_of_zero_le hr.2.2.1
        have HU := Lib.hid (H5.out.union (by omega) (by omega) (by omega) (v := v) (u := u) (by omega) (by omega))
        go_wp2_with fail
        refine HU.out.mono ?_
        rintro e w6 ⟨bb, rfl, y, hJ⟩
        have H6 := Lib.hid hJ
        clear hJ HU
        go_wp2_with fail
        go_roundw
        case rel => exact ⟨i + 1, X ++ [y], by omega, by go_num, by rw [List.length_append]; go_num, by rw [List.length_append]; simp; omega, H6⟩
        case measure => simp [intOf]; omega
      · have HU := Lib.hid (H5.out.bad (v := z1) (u := z2) (by omega))
        go_wp2_with fail
        refine HU.out.mono ?_
        rintro e w6 ⟨rfl, rfl⟩
        go_wp2_with fail
        go_roundw
        case rel => exact ⟨i + 1, X, by omega, by go_num, rfl, by omega, H5⟩
        case measure => simp [intOf]; omega
    · obtain rfl : i = m := by omega
      go_wp2_with fail
      go_ret
      exact ⟨X, rfl, hX, H.out⟩
/-- One step back. -/
theorem undo_step {w : World} {B f n : Nat} {N : Nat → Prop} {ps P X : List (List Nat)} {p y : List Nat} (h : Fh w B N f n ps p) (hn : n ≤ 1000) (hP : P ≠ []) (e : ps ++ [p] = P ++ (X ++ [y])) (hl : ps.length ≤ 1000) :
    Calls Try.prog 29 #[.pointer (some ⟨f, 0, none⟩)] w fun e w' => e = .returned (.int .i64 0) ∧ ∃ ps' p', Fh w' B N f n ps' p' ∧ ps' ++ [p'] = P ++ X ∧ ps'.length ≤ 1000 ∧ Fr N w w' := by
  rw [← List.append_assoc] at e
  obtain ⟨e1, _⟩ := List.append_inj' e rfl
  subst e1
  have hne : P ++ X ≠ [] := fun h => hP (List.append_eq_nil_iff.1 h).1
  have hd := List.dropLast_concat_getLast hne
  rw [← hd] at h hl
  rw [List.length_append] at hl
  refine (Undo_h h hn (by simp at hl ⊢; omega)).mono ?_
  rintro e w' ⟨he, g1, g2⟩
  exact ⟨he, _, _, g1, hd, by simp at hl ⊢; omega, g2⟩
end Go.Proofs.Ytihcaemheknjbaa
