/- The tree of a list. -/
import Derived.Test.YtdihajeccjdhkaaA5
import Derived.Test.YtdihajeccjdhkaaCom9
namespace Go.Proofs.Ytdihajeccjdhkaa
open Go.RowKit
attribute [local go_sem ↓] Go.wp_at_zero Go.wp_at_succ
/-- The tree of a list was made. -/
def OPost (w : World) (xs : List Int) (e : Ending) (w' : World) : Prop :=
  ∃ t p, t.list = xs ∧ t.Avl ∧ t.ht = hof xs.length ∧ e = .returned (.pointer p) ∧ TM w' t p ∧ Fr F0 w w'
def OPostW (w : World) (xs : List Int) (W : World) (e : Ending) (w' : World) : Prop :=
  ∃ t p, t.list = xs ∧ t.Avl ∧ t.ht = hof xs.length ∧ e = .returned (.pointer p) ∧ TM w' t p ∧ Fr F0 w w' ∧ Fr F0 W w'
theorem OPost.up {w W : World} {xs : List Int} {f : FuncId} {args : Array Value} (g : Fr F0 w W) (h : Calls Try.prog f args W (OPost W xs)) : Calls Try.prog f args W (OPostW w xs W) := h.mono fun _ _ ⟨t, p, h1, h2, h3, h4, h5, h6⟩ => ⟨t, p, h1, h2, h3, h4, h5, g.trans0 h6, h6⟩
def OfAt (n : Nat) : Prop := ∀ (m c : Nat) (a : Option Addr) (xs : List Int) (w : World), m ≤ n → Rd w a m (ints xs) → m ≤ c → Tr.Small xs → m ≤ 100000 → Calls Try.prog 39 #[.slice a m c] w (OPost w xs)
theorem ints_take (xs : List Int) (k : Nat) : (ints xs).take k = ints (xs.take k) := by simp [ints]
theorem ints_drop (xs : List Int) (k : Nat) : (ints xs).drop k = ints (xs.drop k) := by simp [ints]
set_option maxHeartbeats 4000000 in
theorem of_step {n : Nat} (ih : OfAt n) {m c : Nat} {a : Option Addr} {xs : List Int} {w : World} (hn : m ≤ n + 1) (hr : Rd w a m (ints xs)) (hc : m ≤ c) (hs : Tr.Small xs) (hm : m ≤ 100000) (h0 : m ≠ 0) : Calls Try.prog 39 #[.slice a m c] w (OPost w xs) := by
  have hxl : xs.length = m := by simpa using hr.len
  obtain ⟨h, hh⟩ : ∃ h, h = m / 2 := ⟨_, rfl⟩
  obtain ⟨r, hrr⟩ : ∃ r, r = m - (h + 1) := ⟨_, rfl⟩
  have hmr : m = h + 1 + r := by omega
  have hr1 : Rd w (cutA a c 0) h (ints (xs.take h)) := by have := hr.cutHi hc (k := h) (by omega); rwa [ints_take] at this
  have hr2 : Rd w (cutA a c (h + 1)) r (ints (xs.drop (h + 1))) := by have := hr.cut hc (k := h + 1) (r := r) (by omega); rwa [ints_drop] at this
  obtain ⟨b, o, y, hb, hy, d⟩ := hr.ix (i := h) (by omega)
  have hsplit : xs.take h ++ y :: xs.drop (h + 1) = xs := by
    have h1 : xs.drop h = y :: xs.drop (h + 1) := by
      rw [List.drop_eq_getElem_cons (by omega)]
      congr 1
      exact (List.getElem?_eq_some_iff.1 hy).2
    rw [← h1, List.take_append_drop]
  have l1 : (xs.take h).length = h := by rw [List.length_take]; omega
  have l2 : (xs.drop (h + 1)).length = r := by rw [List.length_drop]; omega
  have hs' := hs
  rw [← hsplit, Small.app, Small.cons] at hs'
  have s1 := run_cutHi E3 w a (n := m) (c := c) (k := h) (by omega) (x := (h : Int)) rfl
  have s1' : ∀ W, (Instr.sliceAt 22 (.slice a m c) none (some (.int .i64 (h : Int))) none).run Try.prog W = .ok (.slice (cutA a c 0) h c) W := fun W => run_cutHi E3 W a (n := m) (c := c) (k := h) (by omega) rfl
  have s2' : ∀ W, (Instr.sliceAt 22 (.slice a m c) (some (.int .i64 ((h : Int) + 1))) none none).run Try.prog W = .ok (.slice (cutA a c (h + 1)) r (c - (h + 1))) W := fun W => run_cutLo E3 W a (n := m) (c := c) (k := h + 1) (r := r) (by omega) (by omega)
  have hhof := hof_halves m h0
  rw [← hh, ← hrr] at hhof
  have H1 := Lib.hid (fun (W : World) (f : Fr F0 w W) => (OPost.up f (ih h c _ (xs.take h) W (by omega) (hr1.fr0 f) (by omega) hs'.1 (by omega)) : Calls Try.prog 39 #[.slice (cutA a c 0) h c] W (OPostW w (xs.take h) W)))
  have H2 := Lib.hid (fun (W : World) (f : Fr F0 w W) => (OPost.up f (ih r (c - (h + 1)) _ (xs.drop (h + 1)) W (by omega) (hr2.fr0 f) (by omega) hs'.2.2 (by omega)) : Calls Try.prog 39 #[.slice (cutA a c (h + 1)) r (c - (h + 1))] W (OPostW w (xs.drop (h + 1)) W)))
  have H3 := Lib.hid (fun (W : World) (t u : Tr) (p q : Option Addr) (ht : t.list = xs.take h) (hu : u.list = xs.drop (h + 1)) (f : Fr F0 w W) (hp : TM W t p) (hq : TM W u q) =>
    (MkPost.up f (build_any y hp hq ⟨by simp only [Tr.list, ht, hu]; rw [hsplit]; exact hs, by show (Tr.nd t y u).list.length ≤ _; simp only [Tr.list, ht, hu]; rw [hsplit]; omega⟩) : Calls Try.prog 56 #[.pointer p, .int .i64 y, .pointer q] W (MkP w (.nd t y u) W)))
  have Hd := Lib.hid (And.intro hhof (And.intro hsplit (And.intro l1 (And.intro l2 hxl))))
  have i0 : (0 : Int) ≤ (h : Int) := by omega
  have i1 : (h : Int) < (m : Int) := by omega
  have e1 : ((m : Int) == 0) = false := by simp; omega
  have hq : (m : Int) / 2 = (h : Int) := by omega
  have hq2 : Int.tdiv (m : Int) 2 = (h : Int) := by rw [Int.tdiv_eq_ediv_of_nonneg (by omega)]; omega
  have hw1 : IntKind.i64.wrap ((h : Int) + 1) = (h : Int) + 1 := wI2 (by omega) (by omega)
  have hw2 : IntKind.i64.wrap (h : Int) = (h : Int) := wI2 (by omega) (by omega)
  subst hb
  clear hr hc hs hn hr1 hr2 hy hsplit l1 l2 hs' hhof hxl hh hrr s1 ih h0 hmr hm
  go_enter Try.func39, Try.ntmps39
  go_wp2_with fail
  have Hh : w.drew.cell? ⟨b, o + h, none⟩ = some (.int .i64 y) := d
  go_region_held3 (fun w' => w'.cell? ⟨b, o + h, none⟩ = some (.int .i64 y)) (go_keep)
    (first | (go_at_call 39; (with_reducible refine (H1.out _ (by repeat (first | exact Fr.refl _ _ | exact Fb.out | refine Fr.drew ?_))).mono ?_); rintro e wa ⟨ta, pa, a1, a2, a3, rfl, Ta, Fa', Ga⟩; have Fa := Lib.hid Fa'; (try (have Tb' := TM.fr0 Ga Tb)); have ka := Fa'.cell d id) | (go_at_call 39; (with_reducible refine (H2.out _ (by repeat (first | exact Fr.refl _ _ | exact Fa.out | refine Fr.drew ?_))).mono ?_); rintro e wb ⟨tb, pb, b1, b2, b3, rfl, Tb, Fb', Gb⟩; have Fb := Lib.hid Fb'; (try (have Ta' := TM.fr0 Gb Ta)); have kb := Fb'.cell d id) | (go_at_call 56; first | ((with_reducible refine (H3.out _ ta tb pa pb a1 b1 (by repeat (first | exact Fb.out | refine Fr.drew ?_)) Ta' Tb).mono ?_); rintro e wc ⟨pc, rfl, Tc, Fc', Gc⟩; have Fc := Lib.hid Fc'; have kc := Fc'.cell d id) | ((with_reducible refine (H3.out _ ta tb pa pb a1 b1 (by repeat (first | exact Fa.out | refine Fr.drew ?_)) Ta Tb').mono ?_); rintro e wc ⟨pc, rfl, Tc, Fc', Gc⟩; have Fc := Lib.hid Fc'; have kc := Fc'.cell d id) | fail) | fail)
  all_goals
    go_wp2_with fail
    go_ret
    obtain ⟨⟨g1, g2, g3⟩, g4, g5, g6, g7⟩ := Hd.out
    rw [g5] at a3
    rw [g6] at b3
    exact ⟨.nd ta y tb, pc, by simp only [Tr.list, a1, b1]; exact g4, avl_nd y a2 b2 (by omega) (by omega), by rw [g7, ← g3, ← a3, ← b3]; rfl, rfl, Tc, Fc.out⟩
theorem of_all : ∀ n, OfAt n
  | 0 => fun m c a xs w hn hr hc hs hm => by
    obtain rfl : m = 0 := by omega
    have hx : xs = [] := by have := hr.len; simpa using this
    subst hx
    clear hr
    go_enter Try.func39, Try.ntmps39
    go_wp2_with fail
    go_ret
    exact ⟨.nil, none, rfl, trivial, hof_0.symm, rfl, rfl, Fr.refl _ _⟩
  | n + 1 => fun m c a xs w hn hr hc hs hm => by
    by_cases h0 : m = 0
    · exact of_all n m c a xs w (by omega) hr hc hs hm
    · exact of_step (of_all n) hn hr hc hs hm h0
theorem of_any {m c : Nat} {a : Option Addr} {xs : List Int} {w : World} (hr : Rd w a m (ints xs)) (hc : m ≤ c) (hs : Tr.Small xs) (hm : m ≤ 100000) : Calls Try.prog 39 #[.slice a m c] w (OPost w xs) := of_all m m c a xs w (Nat.le_refl _) hr hc hs hm
end Go.Proofs.Ytdihajeccjdhkaa
