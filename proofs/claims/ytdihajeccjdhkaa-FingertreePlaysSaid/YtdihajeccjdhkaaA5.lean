/- Joining. -/
import Derived.Test.YtdihajeccjdhkaaA4
namespace Go.Proofs.Ytdihajeccjdhkaa
open Go.RowKit
attribute [local go_sem ↓] Go.wp_at_zero Go.wp_at_succ
/-- A balanced tree with the elements of two, and one between them; of trees of any heights. -/
def JPost (w : World) (l : Tr) (x : Int) (r : Tr) (e : Ending) (w' : World) : Prop :=
  ∃ t p, t.list = l.list ++ x :: r.list ∧ t.Avl ∧ (t.ht = max l.ht r.ht ∨ t.ht = max l.ht r.ht + 1) ∧ e = .returned (.pointer p) ∧ TM w' t p ∧ Fr F0 w w'
def BPostW (w : World) (l : Tr) (x : Int) (r : Tr) (e : Ending) (w' : World) : Prop :=
  ∃ t p, t.list = l.list ++ x :: r.list ∧ t.Avl ∧ ((l.ht ≤ r.ht + 1 → r.ht ≤ l.ht + 1 → t.ht = 1 + max l.ht r.ht) ∧ (t.ht = max l.ht r.ht ∨ t.ht = max l.ht r.ht + 1)) ∧ e = .returned (.pointer p) ∧ TM w' t p ∧ Fr F0 w w'
theorem JPost.up {w W : World} {l : Tr} {x : Int} {r : Tr} {f : FuncId} {args : Array Value} (g : Fr F0 w W) (h : Calls Try.prog f args W (JPost W l x r)) : Calls Try.prog f args W (JPost w l x r) := h.mono fun _ _ ⟨t, p, h1, h2, h3, h4, h5, h6⟩ => ⟨t, p, h1, h2, h3, h4, h5, g.trans0 h6⟩
theorem BPost.up {w W : World} {l : Tr} {x : Int} {r : Tr} {f : FuncId} {args : Array Value} (g : Fr F0 w W) (h : Calls Try.prog f args W (BPost l x r W)) : Calls Try.prog f args W (BPostW w l x r) := h.mono fun _ _ ⟨t, h1, h2, h3, p, h4, h5, h6⟩ => ⟨t, p, h1, h2, h3, h4, h5, g.trans0 h6⟩
def JoinAt (n : Nat) : Prop := ∀ (l r : Tr) (pl pr : Option Addr) (x : Int) (w : World), l.len + r.len ≤ n → TM w l pl → TM w r pr → Fit (.nd l x r) → l.Avl → r.Avl → Calls Try.prog 57 #[.pointer pl, .int .i64 x, .pointer pr] w (JPost w l x r)
theorem Fit.of' {l : Tr} {x : Int} {r t : Tr} (h : Fit (.nd l x r)) (e : t.list = l.list ++ x :: r.list) : Fit t := h.of e
set_option maxHeartbeats 4000000 in
theorem join_L {n : Nat} (ih : JoinAt n) {l r : Tr} {pl pr : Option Addr} (x : Int) {w : World} (hn : l.len + r.len ≤ n + 1) (hl : TM w l pl) (hr : TM w r pr) (hf : Fit (.nd l x r)) (al : l.Avl) (ar : r.Avl)
    (hb : r.ht + 1 < l.ht) : Calls Try.prog 57 #[.pointer pl, .int .i64 x, .pointer pr] w (JPost w l x r) := by
  cases l with
  | nil => simp [Tr.ht] at hb
  | nd u y v =>
    have hlen := hf.len
    have g1 := Tr.ht_le_len (.nd u y v)
    have g2 := Tr.ht_le_len r
    rw [Tr.len_nd] at hlen
    have cl := Lib.hid (height_any hl)
    have cr := Lib.hid (height_any hr)
    obtain ⟨b, pu, pv, rfl, hc, hu, hv⟩ := hl
    obtain ⟨au, av, a1, a2⟩ := al
    have z0 : w.cell? ⟨b, 0, none⟩ = some (.pointer pu) := hc.cell (i := 0) rfl
    have z1 : w.cell? ⟨b, 1, none⟩ = some (.pointer pv) := hc.cell (i := 1) rfl
    have z2 : w.cell? ⟨b, 2, none⟩ = some (.int .i64 y) := hc.cell (i := 2) rfl
    have hnd := Tr.len_nd u y v
    have hfi : Fit (.nd v x r) := hf.sub (u.list ++ [y]) [] (by simp [Tr.list])
    have H1 := Lib.hid (fun (W : World) (f : Fr F0 w W) => (JPost.up f (ih v r pv pr x W (by omega) (hv.fr0 f) (hr.fr0 f) hfi av ar) : Calls Try.prog 57 #[.pointer pv, .int .i64 x, .pointer pr] W (JPost w v x r)))
    have H2 := Lib.hid (fun (W : World) (p2 : Option Addr) (J : Tr) (hj : J.list = v.list ++ x :: r.list) (ja : J.Avl) (jh : J.ht = max v.ht r.ht ∨ J.ht = max v.ht r.ht + 1) (f : Fr F0 w W) (h : TM W J p2) =>
      (BPost.up f (bal_any y (hu.fr0 f) h (hf.of' (t := .nd u y J) (by simp [Tr.list, hj])) au ja (by simp only [Tr.ht] at hb; omega) (by simp only [Tr.ht] at hb; omega)) : Calls Try.prog 58 #[.pointer pu, .int .i64 y, .pointer p2] W (BPostW w u y J)))
    have eb : (Tr.nd u y v).ht = 1 + max u.ht v.ht := rfl
    have Hd := Lib.hid (And.intro hb (And.intro a1 (And.intro a2 eb)))
    obtain ⟨ds, hds⟩ : ∃ n, n = r.ht := ⟨_, rfl⟩
    obtain ⟨db, hdb⟩ : ∃ n, n = (Tr.nd u y v).ht := ⟨_, rfl⟩
    rw [← hds] at cr g2 hb
    rw [← hdb] at cl g1 hb
    have m1 : db ≤ 100000 := by omega
    have m2 : ds ≤ 100000 := by omega
    have q1 : decide ((ds : Int) + 1 < (db : Int)) = true := by simp; omega
    clear hds hdb hc hu hv hf au av hr ar hlen g1 g2 hfi hnd hn ih hb a1 a2 eb
    go_enter Try.func57, Try.ntmps57
    go_wp2_with fail
    refine cl.out.mono ?_; rintro e w1 ⟨rfl, rfl⟩
    go_wp2_with fail
    refine cr.out.mono ?_; rintro e w1 ⟨rfl, rfl⟩
    go_wp2_with fail
    have Hh : (w.drew.cell? ⟨b, 0, none⟩ = some (.pointer pu) ∧ w.drew.cell? ⟨b, 1, none⟩ = some (.pointer pv) ∧ w.drew.cell? ⟨b, 2, none⟩ = some (.int .i64 y)) := ⟨z0, z1, z2⟩
    go_region_held3 (fun w' => w'.cell? ⟨b, 0, none⟩ = some (.pointer pu) ∧ w'.cell? ⟨b, 1, none⟩ = some (.pointer pv) ∧ w'.cell? ⟨b, 2, none⟩ = some (.int .i64 y)) (go_keep)
      (first | (go_at_call 57; (with_reducible refine (H1.out _ (by repeat (first | exact Fr.refl _ _ | refine Fr.drew ?_))).mono ?_); rintro e w2 ⟨J, p2, j1, j2, j3, rfl, T2, F2'⟩; have F2 := Lib.hid F2'; have k0 := F2.out.cell z0 id; have k1 := F2.out.cell z1 id; have k2 := F2.out.cell z2 id) | (go_at_call 58; (with_reducible refine (H2.out _ _ J j1 j2 j3 (by repeat (first | exact F2.out | refine Fr.drew ?_)) T2).mono ?_); rintro e w3 ⟨t, p3, t1, t2, t3, rfl, T3, F3'⟩; have F3 := Lib.hid F3'; have c0 := F3.out.cell z0 id; have c1 := F3.out.cell z1 id; have c2 := F3.out.cell z2 id) | fail)
    all_goals
      go_wp2_with fail
      go_ret
      refine ⟨t, p3, by rw [t1, j1]; simp [Tr.list], t2, ?_, rfl, T3, F3.out⟩
      obtain ⟨d1, d2, d3, d4⟩ := Hd.out
      rw [d4] at d1 ⊢
      omega
set_option maxHeartbeats 4000000 in
theorem join_R {n : Nat} (ih : JoinAt n) {l r : Tr} {pl pr : Option Addr} (x : Int) {w : World} (hn : l.len + r.len ≤ n + 1) (hl : TM w l pl) (hr : TM w r pr) (hf : Fit (.nd l x r)) (al : l.Avl) (ar : r.Avl)
    (hb : l.ht + 1 < r.ht) : Calls Try.prog 57 #[.pointer pl, .int .i64 x, .pointer pr] w (JPost w l x r) := by
  cases r with
  | nil => simp [Tr.ht] at hb
  | nd u y v =>
    have hlen := hf.len
    have g1 := Tr.ht_le_len l
    have g2 := Tr.ht_le_len (.nd u y v)
    rw [Tr.len_nd] at hlen
    have cl := Lib.hid (height_any hl)
    have cr := Lib.hid (height_any hr)
    obtain ⟨b, pu, pv, rfl, hc, hu, hv⟩ := hr
    obtain ⟨au, av, a1, a2⟩ := ar
    have z0 : w.cell? ⟨b, 0, none⟩ = some (.pointer pu) := hc.cell (i := 0) rfl
    have z1 : w.cell? ⟨b, 1, none⟩ = some (.pointer pv) := hc.cell (i := 1) rfl
    have z2 : w.cell? ⟨b, 2, none⟩ = some (.int .i64 y) := hc.cell (i := 2) rfl
    have hnd := Tr.len_nd u y v
    have hfi : Fit (.nd l x u) := hf.sub [] (y :: v.list) (by simp [Tr.list])
    have H1 := Lib.hid (fun (W : World) (f : Fr F0 w W) => (JPost.up f (ih l u pl pu x W (by omega) (hl.fr0 f) (hu.fr0 f) hfi al au) : Calls Try.prog 57 #[.pointer pl, .int .i64 x, .pointer pu] W (JPost w l x u)))
    have H2 := Lib.hid (fun (W : World) (p2 : Option Addr) (J : Tr) (hj : J.list = l.list ++ x :: u.list) (ja : J.Avl) (jh : J.ht = max l.ht u.ht ∨ J.ht = max l.ht u.ht + 1) (f : Fr F0 w W) (h : TM W J p2) =>
      (BPost.up f (bal_any y h (hv.fr0 f) (hf.of' (t := .nd J y v) (by simp [Tr.list, hj])) ja av (by simp only [Tr.ht] at hb; omega) (by simp only [Tr.ht] at hb; omega)) : Calls Try.prog 58 #[.pointer p2, .int .i64 y, .pointer pv] W (BPostW w J y v)))
    have eb : (Tr.nd u y v).ht = 1 + max u.ht v.ht := rfl
    have Hd := Lib.hid (And.intro hb (And.intro a1 (And.intro a2 eb)))
    obtain ⟨ds, hds⟩ : ∃ n, n = l.ht := ⟨_, rfl⟩
    obtain ⟨db, hdb⟩ : ∃ n, n = (Tr.nd u y v).ht := ⟨_, rfl⟩
    rw [← hds] at cl g1 hb
    rw [← hdb] at cr g2 hb
    have m1 : db ≤ 100000 := by omega
    have m2 : ds ≤ 100000 := by omega
    have q1 : decide ((db : Int) + 1 < (ds : Int)) = false := by simp; omega
    have q2 : decide ((ds : Int) + 1 < (db : Int)) = true := by simp; omega
    clear hds hdb hc hu hv hf au av hl al hlen g1 g2 hfi hnd hn ih hb a1 a2 eb
    go_enter Try.func57, Try.ntmps57
    go_wp2_with fail
    refine cl.out.mono ?_; rintro e w1 ⟨rfl, rfl⟩
    go_wp2_with fail
    refine cr.out.mono ?_; rintro e w1 ⟨rfl, rfl⟩
    go_wp2_with fail
    refine cr.out.mono ?_; rintro e w1 ⟨rfl, rfl⟩
    go_wp2_with fail
    refine cl.out.mono ?_; rintro e w1 ⟨rfl, rfl⟩
    go_wp2_with fail
    have Hh : (w.drew.cell? ⟨b, 0, none⟩ = some (.pointer pu) ∧ w.drew.cell? ⟨b, 1, none⟩ = some (.pointer pv) ∧ w.drew.cell? ⟨b, 2, none⟩ = some (.int .i64 y)) := ⟨z0, z1, z2⟩
    go_region_held3 (fun w' => w'.cell? ⟨b, 0, none⟩ = some (.pointer pu) ∧ w'.cell? ⟨b, 1, none⟩ = some (.pointer pv) ∧ w'.cell? ⟨b, 2, none⟩ = some (.int .i64 y)) (go_keep)
      (first | (go_at_call 57; (with_reducible refine (H1.out _ (by repeat (first | exact Fr.refl _ _ | refine Fr.drew ?_))).mono ?_); rintro e w2 ⟨J, p2, j1, j2, j3, rfl, T2, F2'⟩; have F2 := Lib.hid F2'; have k0 := F2.out.cell z0 id; have k1 := F2.out.cell z1 id; have k2 := F2.out.cell z2 id) | (go_at_call 58; (with_reducible refine (H2.out _ _ J j1 j2 j3 (by repeat (first | exact F2.out | refine Fr.drew ?_)) T2).mono ?_); rintro e w3 ⟨t, p3, t1, t2, t3, rfl, T3, F3'⟩; have F3 := Lib.hid F3'; have c0 := F3.out.cell z0 id; have c1 := F3.out.cell z1 id; have c2 := F3.out.cell z2 id) | fail)
    all_goals
      go_wp2_with fail
      go_ret
      refine ⟨t, p3, by rw [t1, j1]; simp [Tr.list], t2, ?_, rfl, T3, F3.out⟩
      obtain ⟨d1, d2, d3, d4⟩ := Hd.out
      rw [d4] at d1 ⊢
      omega
theorem join_C {l r : Tr} {pl pr : Option Addr} (x : Int) {w : World} (hl : TM w l pl) (hr : TM w r pr) (hf : Fit (.nd l x r)) (al : l.Avl) (ar : r.Avl) (h1 : l.ht ≤ r.ht + 1) (h2 : r.ht ≤ l.ht + 1) :
    Calls Try.prog 57 #[.pointer pl, .int .i64 x, .pointer pr] w (JPost w l x r) := by
  have hlen := hf.len
  have g1 := Tr.ht_le_len l
  have g2 := Tr.ht_le_len r
  rw [Tr.len_nd] at hlen
  have cl := Lib.hid (height_any hl)
  have cr := Lib.hid (height_any hr)
  have hbd := Lib.hid (build_any x hl hr hf)
  have Hh := Lib.hid (And.intro h1 h2)
  have q1 : decide ((r.ht : Int) + 1 < (l.ht : Int)) = false := by simp; omega
  have q2 : decide ((l.ht : Int) + 1 < (r.ht : Int)) = false := by simp; omega
  have m1 : l.ht ≤ 100000 := by omega
  have m2 : r.ht ≤ 100000 := by omega
  obtain ⟨dl, hdl⟩ : ∃ n, n = l.ht := ⟨_, rfl⟩
  obtain ⟨dr, hdr⟩ : ∃ n, n = r.ht := ⟨_, rfl⟩
  rw [← hdl] at cl q1 q2 m1
  rw [← hdr] at cr q1 q2 m2
  clear hlen g1 g2 hl hr hf h1 h2 hdl hdr
  go_enter Try.func57, Try.ntmps57
  go_wp2_with fail
  refine cl.out.mono ?_; rintro e w1 ⟨rfl, rfl⟩
  go_wp2_with fail
  refine cr.out.mono ?_; rintro e w1 ⟨rfl, rfl⟩
  go_wp2_with fail
  refine cr.out.mono ?_; rintro e w1 ⟨rfl, rfl⟩
  go_wp2_with fail
  refine cl.out.mono ?_; rintro e w1 ⟨rfl, rfl⟩
  go_wp2_with fail
  refine hbd.out.mono ?_
  rintro e w1 ⟨p, rfl, T, F⟩
  go_wp2_with fail
  go_ret
  exact ⟨.nd l x r, p, rfl, avl_nd x al ar Hh.out.1 Hh.out.2, by simp only [Tr.ht]; omega, rfl, T, F⟩
theorem join_all : ∀ n, JoinAt n
  | 0 => fun l r pl pr x w hn hl hr hf al ar => by
    have e1 : l = .nil := Tr.nil_of_len (by omega)
    have e2 : r = .nil := Tr.nil_of_len (by omega)
    subst e1
    subst e2
    exact join_C x hl hr hf al ar (by omega) (by omega)
  | n + 1 => fun l r pl pr x w hn hl hr hf al ar => by
    rcases Nat.lt_or_ge (r.ht + 1) l.ht with h | h
    · exact join_L (join_all n) x hn hl hr hf al ar h
    · rcases Nat.lt_or_ge (l.ht + 1) r.ht with h' | h'
      · exact join_R (join_all n) x hn hl hr hf al ar h'
      · exact join_C x hl hr hf al ar h h'
theorem join_any {l r : Tr} {pl pr : Option Addr} (x : Int) {w : World} (hl : TM w l pl) (hr : TM w r pr) (hf : Fit (.nd l x r)) (al : l.Avl) (ar : r.Avl) :
    Calls Try.prog 57 #[.pointer pl, .int .i64 x, .pointer pr] w (JPost w l x r) := join_all _ l r pl pr x w (Nat.le_refl _) hl hr hf al ar
end Go.Proofs.Ytdihajeccjdhkaa
