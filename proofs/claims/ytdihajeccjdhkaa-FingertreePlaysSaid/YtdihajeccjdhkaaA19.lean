/- Another element at an index. -/
import Derived.Test.YtdihajeccjdhkaaA18
namespace Go.Proofs.Ytdihajeccjdhkaa
open Go.RowKit
attribute [local go_sem ↓] Go.wp_at_zero Go.wp_at_succ
/-- The same tree with another element. -/
def StPost (t : Tr) (i : Nat) (x : Int) (w : World) (e : Ending) (w' : World) : Prop :=
  ∃ u p, u.list = t.list.set i x ∧ u.Avl ∧ u.ht = t.ht ∧ e = .returned (.pointer p) ∧ TM w' u p ∧ Fr F0 w w'
def StPostW (w : World) (t : Tr) (i : Nat) (x : Int) (W : World) (e : Ending) (w' : World) : Prop :=
  ∃ u p, u.list = t.list.set i x ∧ u.Avl ∧ u.ht = t.ht ∧ e = .returned (.pointer p) ∧ TM w' u p ∧ Fr F0 w w' ∧ Fr F0 W w'
theorem StPost.up {w W : World} {t : Tr} {i : Nat} {x : Int} {f : FuncId} {args : Array Value} (g : Fr F0 w W) (h : Calls Try.prog f args W (StPost t i x W)) : Calls Try.prog f args W (StPostW w t i x W) := h.mono fun _ _ ⟨u, p, h1, h2, h3, h4, h5, h6⟩ => ⟨u, p, h1, h2, h3, h4, h5, g.trans0 h6, h6⟩
theorem Small.set {l : List Int} {i : Nat} {x : Int} (h : Tr.Small l) (hx : -1048576 ≤ x ∧ x ≤ 1048576) : Tr.Small (l.set i x) := by
  intro y hy
  rcases List.mem_or_eq_of_mem_set hy with h1 | h1
  · exact h y h1
  · subst h1; exact hx
theorem set_left {l r : List Int} {y x : Int} {i : Nat} (h : i < l.length) : (l ++ y :: r).set i x = l.set i x ++ y :: r := by
  rw [List.set_append_left _ _ h]
theorem set_mid {l r : List Int} {y x : Int} : (l ++ y :: r).set l.length x = l ++ x :: r := by
  rw [List.set_append_right _ _ (Nat.le_refl _), Nat.sub_self]; rfl
theorem set_right {l r : List Int} {y x : Int} {i : Nat} (j : Nat) (h : i = l.length + 1 + j) : (l ++ y :: r).set i x = l ++ y :: r.set j x := by
  rw [List.set_append_right _ _ (by omega), show i - l.length = j + 1 by omega]; rfl
set_option maxHeartbeats 4000000 in
theorem set_any (x : Int) (hx : -1048576 ≤ x ∧ x ≤ 1048576) : ∀ (t : Tr) (p : Option Addr) (i : Nat) (w : World), TM w t p → Fit t → t.Avl → i < t.len → Calls Try.prog 49 #[.pointer p, .int .i64 i, .int .i64 x] w (StPost t i x w)
  | .nil, p, i, w, hT, hf, ha, hi => by simp [Tr.len, Tr.list] at hi
  | .nd l y r, p, i, w, hT, hf, ha, hi => by
    obtain ⟨b, pl, pr, rfl, hc, hl, hr⟩ := hT
    obtain ⟨al, ar, a1, a2⟩ := ha
    have hff := hf
    obtain ⟨fl, hy, fr⟩ := hf.nd
    have z0 : w.cell? ⟨b, 0, none⟩ = some (.pointer pl) := hc.cell (i := 0) rfl
    have z1 : w.cell? ⟨b, 1, none⟩ = some (.pointer pr) := hc.cell (i := 1) rfl
    have z2 : w.cell? ⟨b, 2, none⟩ = some (.int .i64 y) := hc.cell (i := 2) rfl
    have Kp := Lib.hid (fun (W : World) (f : Fr F0 w W) => And.intro (f.cell z0 id) (And.intro (f.cell z1 id) (f.cell z2 id)))
    have cl := len_any hl
    rw [Tr.len_nd] at hi
    obtain ⟨L, hL⟩ : ∃ L, L = l.len := ⟨_, rfl⟩
    have hLl : l.list.length = L := hL.symm
    have ll : L ≤ 100000 := by rw [hL]; exact fl.len
    have hlen := hff.len
    rw [Tr.len_nd, ← hL] at hlen
    rw [← hL] at cl hi
    have hbig : ∀ (l' r' : Tr) (z : Int), l'.len = l.len → r'.len = r.len → Tr.Small ((Tr.nd l' z r').list) → Fit (.nd l' z r') := fun l' r' z e1 e2 h => ⟨h, by rw [Tr.len_nd, e1, e2]; have := hff.len; rw [Tr.len_nd] at this; exact this⟩
    have Cl := Lib.hid cl
    rcases Nat.lt_trichotomy i L with hlt | heq | hgt
    · have ih := set_any x hx l pl i w hl fl al (by omega)
      have H1 := Lib.hid (fun (W : World) (f : Fr F0 w W) => (StPost.up f (set_any x hx l pl i W (hl.fr0 f) fl al (by omega)) : Calls Try.prog 49 #[.pointer pl, .int .i64 i, .int .i64 x] W (StPostW w l i x W)))
      have H2 := Lib.hid (fun (W : World) (u : Tr) (q : Option Addr) (hu : u.list = l.list.set i x) (f : Fr F0 w W) (hq : TM W u q) =>
        (MkPost.up f (build_any y hq (hr.fr0 f) (hbig u r y (by unfold Tr.len; rw [hu, List.length_set]) rfl (by simp only [Tr.list]; rw [hu, Small.app, Small.cons]; exact ⟨Small.set fl.small hx, hy, fr.small⟩))) : Calls Try.prog 56 #[.pointer q, .int .i64 y, .pointer pr] W (MkP w (.nd u y r) W)))
      have e1 : (Tr.nd l y r).list.set i x = l.list.set i x ++ y :: r.list := set_left (by omega)
      have He := Lib.hid (And.intro e1 (And.intro ar (And.intro a1 a2)))
      clear hc hl hr hf hff fl fr al ar a1 a2 hy cl hL hLl e1 hi hbig hlen ih
      go_enter Try.func49, Try.ntmps49
      go_wp2_with fail
      refine Cl.out.mono ?_; rintro e w1 ⟨rfl, rfl⟩
      go_wp2_with fail
      have Hh : w.drew.cell? ⟨b, 0, none⟩ = some (.pointer pl) ∧ w.drew.cell? ⟨b, 1, none⟩ = some (.pointer pr) ∧ w.drew.cell? ⟨b, 2, none⟩ = some (.int .i64 y) := ⟨z0, z1, z2⟩
      go_region_held3 (fun w' => w'.cell? ⟨b, 0, none⟩ = some (.pointer pl) ∧ w'.cell? ⟨b, 1, none⟩ = some (.pointer pr) ∧ w'.cell? ⟨b, 2, none⟩ = some (.int .i64 y)) (go_keep)
        (first | (go_at_call 49; (with_reducible refine (H1.out _ (by repeat (first | exact Fr.refl _ _ | refine Fr.drew ?_))).mono ?_); rintro e w2 ⟨u, p2, u1, ua, uh, rfl, T2, F2', G2⟩; have F2 := Lib.hid F2'; have k0 := (Kp.out _ F2').1; have k1 := (Kp.out _ F2').2.1; have k2 := (Kp.out _ F2').2.2) | (go_at_call 56; (with_reducible refine (H2.out _ u p2 u1 (by repeat (first | exact F2.out | refine Fr.drew ?_)) T2).mono ?_); rintro e w3 ⟨p3, rfl, T3, F3', G3⟩; have F3 := Lib.hid F3'; have c0 := (Kp.out _ F3').1; have c1 := (Kp.out _ F3').2.1; have c2 := (Kp.out _ F3').2.2) | fail)
      all_goals
        go_wp2_with fail
        go_ret
        obtain ⟨e1, ar, a1, a2⟩ := He.out
        exact ⟨.nd u y r, p3, by rw [e1, ← u1]; rfl, avl_nd y ua ar (by omega) (by omega), by simp only [Tr.ht]; rw [uh], rfl, T3, F3.out⟩
    · subst heq
      have H2 := Lib.hid (fun (W : World) (f : Fr F0 w W) =>
        (MkPost.up f (build_any x (hl.fr0 f) (hr.fr0 f) (hbig l r x rfl rfl (by simp only [Tr.list]; rw [Small.app, Small.cons]; exact ⟨fl.small, hx, fr.small⟩))) : Calls Try.prog 56 #[.pointer pl, .int .i64 x, .pointer pr] W (MkP w (.nd l x r) W)))
      have e1 : (Tr.nd l y r).list.set i x = l.list ++ x :: r.list := by rw [← hLl]; exact set_mid
      have He := Lib.hid (And.intro e1 (And.intro al (And.intro ar (And.intro a1 a2))))
      clear hc hl hr hf hff fl fr al ar a1 a2 hy cl hL hLl e1 hi hbig hlen
      go_enter Try.func49, Try.ntmps49
      go_wp2_with fail
      refine Cl.out.mono ?_; rintro e w1 ⟨rfl, rfl⟩
      go_wp2_with fail
      have Hh : w.drew.cell? ⟨b, 0, none⟩ = some (.pointer pl) ∧ w.drew.cell? ⟨b, 1, none⟩ = some (.pointer pr) := ⟨z0, z1⟩
      go_region_held3 (fun w' => w'.cell? ⟨b, 0, none⟩ = some (.pointer pl) ∧ w'.cell? ⟨b, 1, none⟩ = some (.pointer pr)) (go_keep)
        (first | (go_at_call 56; (with_reducible refine (H2.out _ (by repeat (first | exact Fr.refl _ _ | refine Fr.drew ?_))).mono ?_); rintro e w3 ⟨p3, rfl, T3, F3', G3⟩; have F3 := Lib.hid F3'; have c0 := (Kp.out _ F3').1; have c1 := (Kp.out _ F3').2.1) | fail)
      all_goals
        go_wp2_with fail
        go_ret
        obtain ⟨e1, al, ar, a1, a2⟩ := He.out
        exact ⟨.nd l x r, p3, by rw [e1]; rfl, avl_nd x al ar a1 a2, by simp only [Tr.ht], rfl, T3, F3.out⟩
    · obtain ⟨i', hi'⟩ : ∃ k, k = i - (L + 1) := ⟨_, rfl⟩
      have hii : i = L + 1 + i' := by omega
      have H1 := Lib.hid (fun (W : World) (f : Fr F0 w W) => (StPost.up f (set_any x hx r pr i' W (hr.fr0 f) fr ar (by omega)) : Calls Try.prog 49 #[.pointer pr, .int .i64 i', .int .i64 x] W (StPostW w r i' x W)))
      have H2 := Lib.hid (fun (W : World) (u : Tr) (q : Option Addr) (hu : u.list = r.list.set i' x) (f : Fr F0 w W) (hq : TM W u q) =>
        (MkPost.up f (build_any y (hl.fr0 f) hq (hbig l u y rfl (by unfold Tr.len; rw [hu, List.length_set]) (by simp only [Tr.list]; rw [hu, Small.app, Small.cons]; exact ⟨fl.small, hy, Small.set fr.small hx⟩))) : Calls Try.prog 56 #[.pointer pl, .int .i64 y, .pointer q] W (MkP w (.nd l y u) W)))
      have e1 : (Tr.nd l y r).list.set i x = l.list ++ y :: r.list.set i' x := set_right i' (by omega)
      have He := Lib.hid (And.intro e1 (And.intro al (And.intro a1 a2)))
      have w4 : IntKind.i64.wrap ((i : Int) - (L : Int)) = (i : Int) - (L : Int) := wI2 (by omega) (by omega)
      have w5 : IntKind.i64.wrap ((i : Int) - (L : Int) - 1) = (i' : Int) := by rw [wI2 (by omega) (by omega)]; omega
      clear hc hl hr hf hff fl fr al ar a1 a2 hy cl hL hLl e1 hi hbig hlen hii hi'
      go_enter Try.func49, Try.ntmps49
      go_wp2_with fail
      refine Cl.out.mono ?_; rintro e w1 ⟨rfl, rfl⟩
      go_wp2_with fail
      have Hh : w.drew.cell? ⟨b, 0, none⟩ = some (.pointer pl) ∧ w.drew.cell? ⟨b, 1, none⟩ = some (.pointer pr) ∧ w.drew.cell? ⟨b, 2, none⟩ = some (.int .i64 y) := ⟨z0, z1, z2⟩
      go_region_held3 (fun w' => w'.cell? ⟨b, 0, none⟩ = some (.pointer pl) ∧ w'.cell? ⟨b, 1, none⟩ = some (.pointer pr) ∧ w'.cell? ⟨b, 2, none⟩ = some (.int .i64 y)) (go_keep)
        (first | (go_at_call 49; (with_reducible refine (H1.out _ (by repeat (first | exact Fr.refl _ _ | refine Fr.drew ?_))).mono ?_); rintro e w2 ⟨u, p2, u1, ua, uh, rfl, T2, F2', G2⟩; have F2 := Lib.hid F2'; have k0 := (Kp.out _ F2').1; have k1 := (Kp.out _ F2').2.1; have k2 := (Kp.out _ F2').2.2) | (go_at_call 56; (with_reducible refine (H2.out _ u p2 u1 (by repeat (first | exact F2.out | refine Fr.drew ?_)) T2).mono ?_); rintro e w3 ⟨p3, rfl, T3, F3', G3⟩; have F3 := Lib.hid F3'; have c0 := (Kp.out _ F3').1; have c1 := (Kp.out _ F3').2.1; have c2 := (Kp.out _ F3').2.2) | fail)
      all_goals
        go_wp2_with fail
        go_ret
        obtain ⟨e1, al, a1, a2⟩ := He.out
        exact ⟨.nd l y u, p3, by rw [e1, ← u1]; rfl, avl_nd y al ua (by omega) (by omega), by simp only [Tr.ht]; rw [uh], rfl, T3, F3.out⟩
theorem SetT_ok {t : Tr} {p : Option Addr} {i : Nat} {x : Int} {w : World} (h : TrM w t p) (ha : t.Avl) (hs : Tr.Small t.list) (hn : t.len ≤ 4096) (hx : keyB x = true) (hi : i < t.len) :
    Calls Try.prog 28 #[.pointer p, .int .i64 i, .int .i64 x] w (TPost (t.list.set i x) w) := by
  have l1 := Len_any h
  have hel := element_any x w
  rw [hx] at hel
  obtain ⟨b, pr, rfl, ⟨hc, _⟩, ht⟩ := h
  have hst := Lib.hid (fun (W : World) (f : Fr F0 w W) => StPost.up f (set_any x ((keyB_iff x).1 hx) t pr i W (ht.fr0 f) ⟨hs, by omega⟩ ha hi))
  obtain ⟨L, hL⟩ : ∃ L, L = t.len := ⟨_, rfl⟩
  rw [← hL] at l1 hi hn
  have d1 : decide ((i : Int) < 0) = false := by simp
  have d2 : decide (L ≤ i) = false := by simp; omega
  clear ht ha hs hL hx hn hi
  go_enter Try.func28, Try.ntmps28
  go_wp2_with fail
  refine hel.mono ?_; rintro e w2 ⟨rfl, rfl⟩
  go_wp2_with fail
  refine l1.mono ?_; rintro e w2 ⟨rfl, rfl⟩
  go_wp2_with fail
  refine (hst.out _ (by repeat (first | exact Fr.refl _ _ | refine Fr.drew ?_))).mono ?_
  rintro e w3 ⟨u, p2, u1, ua, uh, rfl, T2, F2, G2⟩
  go_wp2_with fail
  go_ret2
  exact ⟨u, _, u1, ua, rfl, TrM.new (w := w3) T2, F2.alloc _⟩
end Go.Proofs.Ytdihajeccjdhkaa
