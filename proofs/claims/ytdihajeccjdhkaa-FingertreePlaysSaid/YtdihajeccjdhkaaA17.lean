/- Splitting; Concat and Split. -/
import Derived.Test.YtdihajeccjdhkaaA16
namespace Go.Proofs.Ytdihajeccjdhkaa
open Go.RowKit
attribute [local go_sem ↓] Go.wp_at_zero Go.wp_at_succ
/-- Two trees: the first elements, and the others. -/
def SPost (t : Tr) (i : Nat) (w : World) (e : Ending) (w' : World) : Prop :=
  ∃ u v p q, u.list = t.list.take i ∧ v.list = t.list.drop i ∧ u.Avl ∧ v.Avl ∧ e = .returned (.tuple #[.pointer p, .pointer q]) ∧ TM w' u p ∧ TM w' v q ∧ Fr F0 w w'
def JPost2 (w W1 : World) (l : Tr) (x : Int) (r : Tr) (e : Ending) (w' : World) : Prop :=
  ∃ t p, t.list = l.list ++ x :: r.list ∧ t.Avl ∧ e = .returned (.pointer p) ∧ TM w' t p ∧ Fr F0 w w' ∧ Fr F0 W1 w'
theorem JPost.two {w W1 W : World} {l : Tr} {x : Int} {r : Tr} {f : FuncId} {args : Array Value} (g : Fr F0 w W) (g1 : Fr F0 W1 W) (h : Calls Try.prog f args W (JPost W l x r)) : Calls Try.prog f args W (JPost2 w W1 l x r) := h.mono fun _ _ ⟨t, p, h1, h2, _, h4, h5, h6⟩ => ⟨t, p, h1, h2, h4, h5, g.trans0 h6, g1.trans0 h6⟩
theorem Fit.nd_of {l : Tr} {x : Int} {r t : Tr} (h : Fit t) (a b : List Int) (e : t.list = a ++ (l.list ++ x :: r.list) ++ b) : Fit (.nd l x r) := h.sub a b e
set_option maxRecDepth 100000 in
set_option maxHeartbeats 4000000 in
theorem split_any : ∀ (t : Tr) (p : Option Addr) (i : Nat) (w : World), TM w t p → Fit t → t.Avl → i ≤ t.len → Calls Try.prog 46 #[.pointer p, .int .i64 i] w (SPost t i w)
  | .nil, p, i, w, hT, hf, ha, hi => by
    obtain rfl : p = none := hT
    clear hf hi
    go_enter Try.func46, Try.ntmps46
    go_wp2_with fail
    go_ret2
    exact ⟨.nil, .nil, none, none, by simp [Tr.list], by simp [Tr.list], trivial, trivial, rfl, rfl, rfl, Fr.refl _ _⟩
  | .nd l x r, p, i, w, hT, hf, ha, hi => by
    obtain ⟨b, pl, pr, rfl, hc, hl, hr⟩ := hT
    obtain ⟨al, ar, a1, a2⟩ := ha
    obtain ⟨fl, hx, fr⟩ := hf.nd
    have z0 : w.cell? ⟨b, 0, none⟩ = some (.pointer pl) := hc.cell (i := 0) rfl
    have z1 : w.cell? ⟨b, 1, none⟩ = some (.pointer pr) := hc.cell (i := 1) rfl
    have z2 : w.cell? ⟨b, 2, none⟩ = some (.int .i64 x) := hc.cell (i := 2) rfl
    have Kp := Lib.hid (fun (W : World) (f : Fr F0 w W) => And.intro (f.cell z0 id) (And.intro (f.cell z1 id) (f.cell z2 id)))
    have cl := len_any hl
    rw [Tr.len_nd] at hi
    obtain ⟨L, hL⟩ : ∃ L, L = l.len := ⟨_, rfl⟩
    have hLl : l.list.length = L := hL.symm
    have ll : L ≤ 100000 := by rw [hL]; exact fl.len
    have ih1 := fun (h : i ≤ L) => split_any l pl i w hl fl al (by omega)
    rw [← hL] at cl hi
    have Cl := Lib.hid cl
    by_cases hle : i ≤ L
    · have Ih := Lib.hid (ih1 hle)
      have e1 : (Tr.nd l x r).list.take i = l.list.take i := by simp only [Tr.list]; rw [List.take_append_of_le_length (by omega)]
      have e2 : (Tr.nd l x r).list.drop i = l.list.drop i ++ x :: r.list := by simp only [Tr.list]; rw [List.drop_append_of_le_length (by omega)]
      have He := Lib.hid (And.intro e1 e2)
      have H2 := Lib.hid (fun (W : World) (v : Tr) (q : Option Addr) (hv : v.list = l.list.drop i) (av : v.Avl) (f : Fr F0 w W) (W1 : World) (g : Fr F0 W1 W) (hq : TM W v q) =>
        (JPost.two f g (join_any x hq (hr.fr0 f) (hf.nd_of (l := v) (l.list.take i) [] (by rw [hv]; simp only [Tr.list]; rw [List.append_nil, ← List.append_assoc, List.take_append_drop])) av ar) : Calls Try.prog 57 #[.pointer q, .int .i64 x, .pointer pr] W (JPost2 w W1 v x r)))
      clear hc hl hr hf fl fr al ar a1 a2 hx ih1 cl hL hLl e1 e2 hi
      go_enter Try.func46, Try.ntmps46
      go_wp2_with fail
      refine Cl.out.mono ?_; rintro e w1 ⟨rfl, rfl⟩
      go_wp2_with fail
      refine Ih.out.mono ?_
      rintro e w1 ⟨u, v, p1, q1, hu, hv, au, av, rfl, Tu, Tv, F1⟩
      obtain ⟨y0, y1, y2⟩ := Kp.out _ F1
      have H3 := Lib.hid (fun (W : World) (f : Fr F0 w1 W) => H2.out W v q1 hv av (F1.trans0 f) w1 f (Tv.fr0 f))
      have Hu := Lib.hid (And.intro hu (And.intro hv au))
      have HTu := Lib.hid Tu
      have F1h := Lib.hid F1
      clear z0 z1 z2 hu hv au av Tu Tv F1 H2 Ih
      go_wp2_with fail
      have Hh : w1.drew.cell? ⟨b, 1, none⟩ = some (.pointer pr) ∧ w1.drew.cell? ⟨b, 2, none⟩ = some (.int .i64 x) := ⟨y1, y2⟩
      go_region_held3 (fun w' => w'.cell? ⟨b, 1, none⟩ = some (.pointer pr) ∧ w'.cell? ⟨b, 2, none⟩ = some (.int .i64 x)) (go_keep)
        (first | (go_at_call 57; (with_reducible refine (H3.out _ (by repeat (first | exact Fr.refl _ _ | refine Fr.drew ?_))).mono ?_); rintro e w2 ⟨t2, p2, t1, ta, rfl, T2, F2, G2⟩; have F2h := Lib.hid F2; have G2h := Lib.hid (TM.fr0 G2 HTu.out); have k1 := (Kp.out _ F2).2.1; have k2 := (Kp.out _ F2).2.2) | fail)
      all_goals
        go_wp2_with fail
        go_ret2
        obtain ⟨u1, u2, u3⟩ := Hu.out
        obtain ⟨e1, e2⟩ := He.out
        exact ⟨u, t2, p1, p2, by rw [e1, u1], by rw [e2, t1, u2], u3, ta, rfl, G2h.out, T2, F2h.out⟩
    · obtain ⟨i', hi'⟩ : ∃ k, k = i - (L + 1) := ⟨_, rfl⟩
      have hii : i = L + 1 + i' := by omega
      have Ih := Lib.hid (split_any r pr i' w hr fr ar (by omega))
      have e1 : (Tr.nd l x r).list.take i = l.list ++ x :: r.list.take i' := by
        show (l.list ++ x :: r.list).take i = _
        rw [hii, show L + 1 + i' = l.list.length + (i' + 1) by omega, List.take_length_add_append, List.take_succ_cons]
      have e2 : (Tr.nd l x r).list.drop i = r.list.drop i' := by
        show (l.list ++ x :: r.list).drop i = _
        rw [hii, show L + 1 + i' = l.list.length + (i' + 1) by omega, List.drop_length_add_append, List.drop_succ_cons]
      have He := Lib.hid (And.intro e1 e2)
      have H2 := Lib.hid (fun (W : World) (u : Tr) (q : Option Addr) (hu : u.list = r.list.take i') (au : u.Avl) (f : Fr F0 w W) (W1 : World) (g : Fr F0 W1 W) (hq : TM W u q) =>
        (JPost.two f g (join_any x (hl.fr0 f) hq (hf.nd_of (r := u) [] (r.list.drop i') (by rw [hu]; simp only [Tr.list]; rw [List.nil_append, List.append_assoc, List.cons_append, List.take_append_drop])) al au) : Calls Try.prog 57 #[.pointer pl, .int .i64 x, .pointer q] W (JPost2 w W1 l x u)))
      have hLi : L < i := by omega
      have w4 : IntKind.i64.wrap ((i : Int) - (L : Int)) = (i : Int) - (L : Int) := wI2 (by omega) (by have := hf.len; rw [Tr.len_nd] at this; omega)
      have w5 : IntKind.i64.wrap ((i : Int) - (L : Int) - 1) = (i' : Int) := by rw [wI2 (by omega) (by have := hf.len; rw [Tr.len_nd] at this; omega)]; omega
      clear hc hl hr hf fl fr al ar a1 a2 hx ih1 cl hL hLl e1 e2 hi hii hi'
      go_enter Try.func46, Try.ntmps46
      go_wp2_with fail
      refine Cl.out.mono ?_; rintro e w1 ⟨rfl, rfl⟩
      go_wp2_with fail
      refine Ih.out.mono ?_
      rintro e w1 ⟨u, v, p1, q1, hu, hv, au, av, rfl, Tu, Tv, F1⟩
      obtain ⟨y0, y1, y2⟩ := Kp.out _ F1
      have H3 := Lib.hid (fun (W : World) (f : Fr F0 w1 W) => H2.out W u p1 hu au (F1.trans0 f) w1 f (Tu.fr0 f))
      have Hu := Lib.hid (And.intro hu (And.intro hv av))
      have HTu := Lib.hid Tv
      have F1h := Lib.hid F1
      clear z0 z1 z2 hu hv au av Tu Tv F1 H2 Ih
      go_wp2_with fail
      have Hh : w1.drew.cell? ⟨b, 0, none⟩ = some (.pointer pl) ∧ w1.drew.cell? ⟨b, 2, none⟩ = some (.int .i64 x) := ⟨y0, y2⟩
      go_region_held3 (fun w' => w'.cell? ⟨b, 0, none⟩ = some (.pointer pl) ∧ w'.cell? ⟨b, 2, none⟩ = some (.int .i64 x)) (go_keep)
        (first | (go_at_call 57; (with_reducible refine (H3.out _ (by repeat (first | exact Fr.refl _ _ | refine Fr.drew ?_))).mono ?_); rintro e w2 ⟨t2, p2, t1, ta, rfl, T2, F2, G2⟩; have F2h := Lib.hid F2; have G2h := Lib.hid (TM.fr0 G2 HTu.out); have k1 := (Kp.out _ F2).1; have k2 := (Kp.out _ F2).2.2) | fail)
      all_goals
        go_wp2_with fail
        go_ret2
        obtain ⟨u1, u2, u3⟩ := Hu.out
        obtain ⟨e1, e2⟩ := He.out
        exact ⟨t2, v, p2, q1, by rw [e1, t1, u1], by rw [e2, u2], ta, u3, rfl, T2, G2h.out, F2h.out⟩
theorem CPost.up {w W : World} {xs : List Int} {f : FuncId} {args : Array Value} (g : Fr F0 w W) (h : Calls Try.prog f args W (CPost W xs)) : Calls Try.prog f args W (CPost w xs) := h.mono fun _ _ ⟨t, p, h1, h2, h4, h5, h6⟩ => ⟨t, p, h1, h2, h4, h5, g.trans0 h6⟩
/-- Answers with trees, as the package hands them out. -/
theorem Concat_any {t u : Tr} {p q : Option Addr} {w : World} (h : TrM w t p) (h' : TrM w u q) (ha : t.Avl) (ha' : u.Avl) (hs : Tr.Small (t.list ++ u.list)) (hn : t.len + u.len ≤ 4096) :
    Calls Try.prog 18 #[.pointer p, .pointer q] w (TPost (t.list ++ u.list) w) := by
  have l1 := Len_any h
  have l2 := Len_any h'
  obtain ⟨b, pr, rfl, ⟨hc, _⟩, ht⟩ := h
  obtain ⟨b', pr', rfl, ⟨hc', _⟩, hu⟩ := h'
  have hcc := Lib.hid (fun (W : World) (f : Fr F0 w W) => CPost.up f (concat_any (ht.fr0 f) (hu.fr0 f) hs (by omega) ha ha'))
  obtain ⟨L, hL⟩ : ∃ L, L = t.len := ⟨_, rfl⟩
  obtain ⟨M, hM⟩ : ∃ L, L = u.len := ⟨_, rfl⟩
  rw [← hL] at l1 hn
  rw [← hM] at l2 hn
  have d1 : decide ((4096 : Int) < (L : Int) + (M : Int)) = false := by simp; omega
  have w1 : IntKind.i64.wrap ((L : Int) + (M : Int)) = (L : Int) + (M : Int) := wI2 (by omega) (by omega)
  clear ht hu hs hn hL hM
  go_enter Try.func18, Try.ntmps18
  go_wp2_with fail
  refine l1.mono ?_; rintro e w2 ⟨rfl, rfl⟩
  go_wp2_with fail
  refine l2.mono ?_; rintro e w2 ⟨rfl, rfl⟩
  go_wp2_with fail
  have Kp := Lib.hid (fun (W : World) (f : Fr F0 w W) => And.intro (f.cell hc id) (f.cell hc' id))
  have Hh : w.drew.cell? ⟨b, 0, none⟩ = some (.pointer pr) ∧ w.drew.cell? ⟨b', 0, none⟩ = some (.pointer pr') := ⟨hc, hc'⟩
  go_region_held3 (fun w' => w'.cell? ⟨b, 0, none⟩ = some (.pointer pr) ∧ w'.cell? ⟨b', 0, none⟩ = some (.pointer pr')) (go_keep)
    (first | (go_at_call 43; (with_reducible refine (hcc.out _ (by repeat (first | exact Fr.refl _ _ | refine Fr.drew ?_))).mono ?_); rintro e w2 ⟨t2, p2, t1, ta, rfl, T2, F2⟩; have F2h := Lib.hid F2; have T2h := Lib.hid T2; have k1 := (Kp.out _ F2).1; have k2 := (Kp.out _ F2).2) | fail)
  all_goals
    go_wp2_with fail
    go_ret2
    exact ⟨t2, _, t1, ta, rfl, TrM.new (w := w2) T2h.out, F2h.out.alloc _⟩
/-- Two trees were made. -/
def T2Post (xs ys : List Int) (w : World) (e : Ending) (w' : World) : Prop :=
  ∃ t u p q, t.list = xs ∧ u.list = ys ∧ t.Avl ∧ u.Avl ∧ e = .returned (.tuple #[.pointer p, .pointer q, .int .i64 0]) ∧ TrM w' t p ∧ TrM w' u q ∧ Fr F0 w w'
theorem Split_any {t : Tr} {p : Option Addr} {w : World} (h : TrM w t p) (ha : t.Avl) (hf : Fit t) {i : Nat} (hi : i ≤ t.len) :
    Calls Try.prog 22 #[.pointer p, .int .i64 i] w (T2Post (t.list.take i) (t.list.drop i) w) := by
  have l1 := Len_any h
  obtain ⟨b, pr, rfl, ⟨hc, _⟩, ht⟩ := h
  have hsp := Lib.hid (split_any t pr i w ht hf ha hi)
  obtain ⟨L, hL⟩ : ∃ L, L = t.len := ⟨_, rfl⟩
  rw [← hL] at l1 hi
  have d1 : decide ((i : Int) < 0) = false := by simp
  have d2 : decide (L < i) = false := by simp; omega
  clear ht hf ha hL
  go_enter Try.func22, Try.ntmps22
  go_wp2_with fail
  refine l1.mono ?_; rintro e w2 ⟨rfl, rfl⟩
  go_wp2_with fail
  refine hsp.out.mono ?_
  rintro e w2 ⟨u, v, p1, q1, hu, hv, au, av, rfl, Tu, Tv, F2⟩
  have T1 := (TrM.new (W := w2) (w := w2) Tu).fr0 ((Fr.refl F0 _).alloc (.cells #[.pointer q1] 68))
  have T2 := TrM.new (W := (w2.alloc (.cells #[.pointer p1] 68))) (w := w2) (Tv.fr0 ((Fr.refl F0 w2).alloc (.cells #[.pointer p1] 68)))
  have F3 : Fr F0 w ((w2.alloc (.cells #[.pointer p1] 68)).alloc (.cells #[.pointer q1] 68)) := (F2.alloc _).alloc _
  rw [size_alloc] at T2
  have H := Lib.hid (And.intro hu (And.intro hv (And.intro au (And.intro av (And.intro T1 (And.intro T2 F3))))))
  clear hu hv au av Tu Tv F2 T1 T2 F3
  go_wp2_with fail
  go_ret3
  obtain ⟨h1, h2, h3, h4, h5, h6, h7⟩ := H.out
  exact ⟨u, v, _, _, h1, h2, h3, h4, rfl, h5, h6, h7⟩
end Go.Proofs.Ytdihajeccjdhkaa
