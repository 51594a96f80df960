/- Taking the first; concatenating; splitting. -/
import Derived.Test.YtdihajeccjdhkaaA15
namespace Go.Proofs.Ytdihajeccjdhkaa
open Go.RowKit
attribute [local go_sem ↓] Go.wp_at_zero Go.wp_at_succ
/-- The first element, and the tree of the others. -/
def FPost (t : Tr) (w : World) (e : Ending) (w' : World) : Prop :=
  ∃ y u p, t.list = y :: u.list ∧ u.Avl ∧ (u.ht = t.ht ∨ u.ht + 1 = t.ht) ∧ e = .returned (.tuple #[.int .i64 y, .pointer p]) ∧ TM w' u p ∧ Fr F0 w w'
set_option maxHeartbeats 4000000 in
theorem first_any : ∀ (t : Tr) (p : Option Addr) (w : World), t.isNil = false → TM w t p → Fit t → t.Avl → Calls Try.prog 48 #[.pointer p] w (FPost t w)
  | .nil, _, _, h, _, _, _ => by cases h
  | .nd .nil x r, p, w, _, hT, hf, ha => by
    obtain ⟨b, pl, pr, rfl, hc, hl, hr⟩ := hT
    obtain rfl : pl = none := hl
    have z0 : w.cell? ⟨b, 0, none⟩ = some (.pointer none) := hc.cell (i := 0) rfl
    have z1 : w.cell? ⟨b, 1, none⟩ = some (.pointer pr) := hc.cell (i := 1) rfl
    have z2 : w.cell? ⟨b, 2, none⟩ = some (.int .i64 x) := hc.cell (i := 2) rfl
    obtain ⟨_, ar, _, a2⟩ := ha
    have Hr := Lib.hid hr
    have Ha := Lib.hid (And.intro ar a2)
    clear hc hr hf ar a2
    go_enter Try.func48, Try.ntmps48
    go_wp2_with fail
    go_quiet (fail)
    go_wp2_with fail
    go_ret2
    exact ⟨x, r, pr, rfl, Ha.out.1, .inr (by simp only [Tr.ht]; omega), rfl, Hr.out.fr0 ((Fr.refl _ _).drewN _), (Fr.refl _ _).drewN _⟩
  | .nd (.nd l1 x1 r1) x r, p, w, _, hT, hf, ha => by
    obtain ⟨b, pl, pr, rfl, hc, hl, hr⟩ := hT
    obtain ⟨al, ar, a1, a2⟩ := ha
    obtain ⟨fl, hx, fr⟩ := hf.nd
    have ih := first_any (.nd l1 x1 r1) pl w rfl hl fl al
    obtain ⟨bl, rfl⟩ : ∃ bl, pl = some ⟨bl, 0, none⟩ := by obtain ⟨bl, _, _, h, _⟩ := hl; exact ⟨bl, h⟩
    have z0 : w.cell? ⟨b, 0, none⟩ = some (.pointer (some ⟨bl, 0, none⟩)) := hc.cell (i := 0) rfl
    have z1 : w.cell? ⟨b, 1, none⟩ = some (.pointer pr) := hc.cell (i := 1) rfl
    have z2 : w.cell? ⟨b, 2, none⟩ = some (.int .i64 x) := hc.cell (i := 2) rfl
    have Ih := Lib.hid ih
    have H2 := Lib.hid (fun (W : World) (y : Int) (u : Tr) (q : Option Addr) (hu : (Tr.nd l1 x1 r1).list = y :: u.list) (au : u.Avl) (hh : u.ht = (Tr.nd l1 x1 r1).ht ∨ u.ht + 1 = (Tr.nd l1 x1 r1).ht) (f : Fr F0 w W) (hq : TM W u q) =>
      (BPost.up f (bal_any x hq (hr.fr0 f) (hf.sub (t := .nd (.nd l1 x1 r1) x r) (u := .nd u x r) [y] [] (by
        show (Tr.nd l1 x1 r1).list ++ x :: r.list = _
        rw [hu]; simp [Tr.list])) au ar (by omega) (by omega)) : Calls Try.prog 58 #[.pointer q, .int .i64 x, .pointer pr] W (BPostW w u x r)))
    have Hd := Lib.hid (And.intro a1 a2)
    have eht : (Tr.nd (.nd l1 x1 r1) x r).ht = 1 + max (Tr.nd l1 x1 r1).ht r.ht := rfl
    have eli : (Tr.nd (.nd l1 x1 r1) x r).list = (Tr.nd l1 x1 r1).list ++ x :: r.list := rfl
    have He := Lib.hid (And.intro eht eli)
    clear hc hl hr hf fl fr al ar a1 a2 ih eht eli
    go_enter Try.func48, Try.ntmps48
    go_wp2_with fail
    refine Ih.out.mono ?_
    rintro e w1 ⟨y, u, q, hu, au, hh, rfl, T1, F1⟩
    have z1' : w1.cell? ⟨b, 1, none⟩ = some (.pointer pr) := F1.cell z1 id
    have z2' : w1.cell? ⟨b, 2, none⟩ = some (.int .i64 x) := F1.cell z2 id
    have H3 := Lib.hid (fun (W : World) (f : Fr F0 w1 W) => H2.out W y u q hu au hh (F1.trans0 f) (T1.fr0 f))
    have kp1 := fun {W : World} (f : Fr F0 w W) => f.cell z1 id
    have kp2 := fun {W : World} (f : Fr F0 w W) => f.cell z2 id
    have Kp1 := Lib.hid (fun (W : World) (f : Fr F0 w W) => f.cell z1 id)
    have Kp2 := Lib.hid (fun (W : World) (f : Fr F0 w W) => f.cell z2 id)
    clear kp1 kp2
    have Hu := Lib.hid (And.intro hu hh)
    clear z0 z1 z2 hu hh au T1 F1 H2 Ih
    go_wp2_with fail
    have Hh : w1.drew.cell? ⟨b, 1, none⟩ = some (.pointer pr) ∧ w1.drew.cell? ⟨b, 2, none⟩ = some (.int .i64 x) := ⟨z1', z2'⟩
    go_region_held3 (fun w' => w'.cell? ⟨b, 1, none⟩ = some (.pointer pr) ∧ w'.cell? ⟨b, 2, none⟩ = some (.int .i64 x)) (go_keep)
      (first | (go_at_call 58; (with_reducible refine (H3.out _ (by repeat (first | exact Fr.refl _ _ | refine Fr.drew ?_))).mono ?_); rintro e w2 ⟨t2, p2, t1, ta, th, rfl, T2, F2⟩; have F2h := Lib.hid F2; have k1 := Kp1.out _ F2; have k2 := Kp2.out _ F2) | fail)
    all_goals
      go_wp2_with fail
      go_ret2
      obtain ⟨u1, u2⟩ := Hu.out
      obtain ⟨e1, e2⟩ := He.out
      obtain ⟨d1, d2⟩ := Hd.out
      refine ⟨y, t2, p2, by rw [e2, u1, t1]; rfl, ta, ?_, rfl, T2, F2h.out⟩
      rw [e1]
      omega
/-- One tree behind the other. -/
def CPost (w : World) (xs : List Int) (e : Ending) (w' : World) : Prop := ∃ t p, t.list = xs ∧ t.Avl ∧ e = .returned (.pointer p) ∧ TM w' t p ∧ Fr F0 w w'
theorem concat_any {l r : Tr} {pl pr : Option Addr} {w : World} (hl : TM w l pl) (hr : TM w r pr) (hs : Tr.Small (l.list ++ r.list)) (hn : l.len + r.len ≤ 100000) (al : l.Avl) (ar : r.Avl) :
    Calls Try.prog 43 #[.pointer pl, .pointer pr] w (CPost w (l.list ++ r.list)) := by
  cases r with
  | nil =>
    obtain rfl : pr = none := hr
    have e : l.list ++ Tr.nil.list = l.list := by simp [Tr.list]
    rw [e]
    have Hl := Lib.hid hl
    clear hl hs hn e
    go_enter Try.func43, Try.ntmps43
    go_wp2_with fail
    go_ret
    exact ⟨l, pl, rfl, al, rfl, Hl.out, Fr.refl _ _⟩
  | nd r1 x r2 =>
    rw [Small.app] at hs
    have hfr : Fit (.nd r1 x r2) := ⟨hs.2, by omega⟩
    have h1 := Lib.hid (first_any (.nd r1 x r2) pr w rfl hr hfr ar)
    obtain ⟨bR, rfl⟩ : ∃ bl, pr = some ⟨bl, 0, none⟩ := by obtain ⟨bl, _, _, h, _⟩ := hr; exact ⟨bl, h⟩
    have Hl := Lib.hid hl
    have Hs := Lib.hid hs
    have Hn := Lib.hid hn
    generalize Tr.nd r1 x r2 = R at *
    clear hl hr hs hn hfr
    go_enter Try.func43, Try.ntmps43
    go_wp2_with fail
    refine h1.out.mono ?_
    rintro e w1 ⟨y, u, q, hu, au, _, rfl, T1, F1⟩
    have hfit : Fit (.nd l y u) := ⟨by simp only [Tr.list]; rw [← hu, Small.app]; exact Hs.out, by have h1 := Hn.out; show (l.list ++ y :: u.list).length ≤ _; rw [← hu, List.length_append]; exact h1⟩
    have hj := Lib.hid (join_any y (Hl.out.fr0 F1) T1 hfit al au)
    have Hu := Lib.hid hu
    have F1h := Lib.hid F1
    clear hfit hu au T1 F1
    go_wp2_with fail
    refine hj.out.mono ?_
    rintro e w2 ⟨t, p, h1, h2, _, rfl, T2, F2⟩
    have F3 := Lib.hid (F1h.out.trans0 F2)
    clear F2
    go_wp2_with fail
    go_ret
    exact ⟨t, p, by rw [h1, Hu.out], h2, rfl, T2, F3.out⟩
end Go.Proofs.Ytdihajeccjdhkaa
