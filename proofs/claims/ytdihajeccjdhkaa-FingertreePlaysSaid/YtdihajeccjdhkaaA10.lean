/- Whether a tree is right; pushing. -/
import Derived.Test.YtdihajeccjdhkaaA9
namespace Go.Proofs.Ytdihajeccjdhkaa
open Go.RowKit
attribute [local go_sem ↓] Go.wp_at_zero Go.wp_at_succ
theorem is_any {t : Tr} {p : Option Addr} {a : Option Addr} {m c : Nat} {xs : List Int} {w : World} (h : TrM w t p) (ha : t.Avl) (hl : t.list = xs) (hm : m ≤ 100000) (hr : Rd w a m (ints xs)) :
    Calls Try.prog 12 #[.pointer p, .slice a m c] w fun e w' => e = .returned (.bool true) ∧ Fr F0 w w' := by
  have hxl : xs.length = m := by simpa using hr.len
  have htl : t.len = m := by unfold Tr.len; rw [hl, hxl]
  have h1 := Len_any h
  have h2 := List_any h (by omega)
  have hd := depth_ok ha
  rw [htl] at h1 h2 hd
  rw [hl] at h2
  have H2 := Lib.hid h2
  have Hd := Lib.hid hd
  have Hm := Lib.hid hm
  have H := Lib.hid h
  have Hr := Lib.hid hr
  have hsh := Lib.hid (fun (W : World) (f : Fr F0 w W) => Shape_any (h.fr0 f))
  have hdp := Lib.hid (fun (W : World) (f : Fr F0 w W) => Depth_any (h.fr0 f))
  rw [htl] at hsh
  have hnn : ∃ b, p = some ⟨b, 0, none⟩ := by obtain ⟨b, _, h1, _⟩ := h; exact ⟨b, h1⟩
  obtain ⟨b, rfl⟩ := hnn
  clear h hl hr hxl htl ha hd h2 hm
  go_enter Try.func12, Try.ntmps12
  go_wp2_with fail
  refine h1.mono ?_; rintro e w1 ⟨rfl, rfl⟩
  go_wp2_with fail
  refine H2.out.mono ?_
  rintro e w1 ⟨a1, m1, c1, rfl, rfl, O1, F1⟩
  have heq := Equal_any a1 a m1 m1 c1 c xs xs w1 O1.rd (Hr.out.fr0 F1)
  rw [decide_eq_true rfl] at heq
  have Heq := Lib.hid heq
  have F1h := Lib.hid F1
  clear O1 F1 heq h1
  go_wp2_with fail
  refine Heq.out.mono ?_
  rintro e w2 ⟨rfl, q, hq⟩
  have F2 : Hid (Fr F0 w w2) := Lib.hid (by rw [hq]; exact F1h.out.drewN q)
  clear hq
  go_wp2_with fail
  refine (hdp.out _ F2.out).mono ?_; rintro e w3 ⟨rfl, rfl⟩
  go_wp2_with fail
  refine (hsh.out _ F2.out).mono ?_
  rintro e w3 ⟨a3, m3, c3, hm3, rfl, R3, F3⟩
  clear hm3
  have F4 := Lib.hid (F2.out.trans0 F3)
  have hsp := Lib.hid (Shaped_any m1 t.ht Hm.out Hd.out a3 m3 c3 w3 R3)
  clear R3 F3
  go_wp2_with fail
  refine hsp.out.mono ?_; rintro e w4 ⟨rfl, rfl⟩
  go_wp2_with fail
  go_ret
  exact ⟨rfl, F4.out⟩
theorem join_one {t : Tr} {p : Option Addr} (x : Int) (front : Bool) {w : World} (h : TM w t p) (ha : t.Avl) (hf : Fit t) (hx : keyB x = true) (hn : t.len < 100000) :
    Calls Try.prog 57 (if front then #[.pointer none, .int .i64 x, .pointer p] else #[.pointer p, .int .i64 x, .pointer none]) w (fun e w' => ∃ t' p', t'.list = (if front then x :: t.list else t.list ++ [x]) ∧ t'.Avl ∧ e = .returned (.pointer p') ∧ TM w' t' p' ∧ Fr F0 w w') := by
  have hk := (keyB_iff x).1 hx
  cases front with
  | true =>
    have hfit : Fit (.nd .nil x t) := ⟨by simp only [Tr.list, List.nil_append]; rw [Small.cons]; exact ⟨hk, hf.small⟩, by rw [Tr.len_nd, Tr.len_nil]; omega⟩
    exact (join_any (l := .nil) (r := t) (pl := none) x rfl h hfit trivial ha).mono fun e w' ⟨t', p', h1, h2, _, h4, h5, h6⟩ => ⟨t', p', by simpa [Tr.list] using h1, h2, h4, h5, h6⟩
  | false =>
    have hfit : Fit (.nd t x .nil) := ⟨by simp only [Tr.list]; rw [Small.app, Small.cons]; exact ⟨hf.small, hk, by intro y hy; cases hy⟩, by rw [Tr.len_nd, Tr.len_nil]; omega⟩
    exact (join_any (l := t) (r := .nil) (pr := none) x h rfl hfit ha trivial).mono fun e w' ⟨t', p', h1, h2, _, h4, h5, h6⟩ => ⟨t', p', by simpa [Tr.list] using h1, h2, h4, h5, h6⟩
/-- The answer of push: a tree with the element, or an error. -/
def pushL (xs : List Int) (x : Int) (front : Bool) : List Int := if front then x :: xs else xs ++ [x]
theorem push_ok {t : Tr} {p : Option Addr} (x : Int) (front : Bool) {w : World} (h : TrM w t p) (ha : t.Avl) (hs : Tr.Small t.list) (hx : keyB x = true) (hn : t.len < 4096) :
    Calls Try.prog 47 #[.pointer p, .int .i64 x, .bool front] w (TPost (pushL t.list x front) w) := by
  have hlen := Len_any h
  obtain ⟨b, pr, rfl, ⟨hc, _⟩, ht⟩ := h
  have hf : Fit t := ⟨hs, by omega⟩
  have hel := element_any x w
  rw [hx] at hel
  have hj := join_one x front ht ha hf hx (by omega)
  have Hel := Lib.hid hel
  obtain ⟨L, hL⟩ : ∃ L, L = t.len := ⟨_, rfl⟩
  rw [← hL] at hlen hn
  have Hlen := Lib.hid hlen
  have d1 : decide ((4096 : Int) ≤ (L : Int)) = false := by simp; omega
  clear hel hlen hn hf ht hs ha hL
  cases front with
  | true =>
    have Hj := Lib.hid hj
    clear hj
    go_enter Try.func47, Try.ntmps47
    go_wp2_with fail
    refine Hel.out.mono ?_; rintro e w1 ⟨rfl, rfl⟩
    go_wp2_with fail
    refine Hlen.out.mono ?_; rintro e w1 ⟨rfl, rfl⟩
    go_wp2_with fail
    refine Hj.out.mono ?_
    rintro e w1 ⟨t', p', h1, h2, rfl, T, F⟩
    go_wp2_with fail
    go_ret2
    exact ⟨t', _, h1, h2, rfl, TrM.new (w := w1) T, F.alloc _⟩
  | false =>
    have Hj := Lib.hid hj
    clear hj
    go_enter Try.func47, Try.ntmps47
    go_wp2_with fail
    refine Hel.out.mono ?_; rintro e w1 ⟨rfl, rfl⟩
    go_wp2_with fail
    refine Hlen.out.mono ?_; rintro e w1 ⟨rfl, rfl⟩
    go_wp2_with fail
    refine Hj.out.mono ?_
    rintro e w1 ⟨t', p', h1, h2, rfl, T, F⟩
    go_wp2_with fail
    go_ret2
    exact ⟨t', _, h1, h2, rfl, TrM.new (w := w1) T, F.alloc _⟩
/-- Errors of push. -/
theorem push_bad {t : Tr} {p : Option Addr} (x : Int) (front : Bool) {w : World} (h : TrM w t p) (hx : keyB x = false) :
    Calls Try.prog 47 #[.pointer p, .int .i64 x, .bool front] w fun e w' => e = .returned (.tuple #[.pointer none, .int .i64 1]) ∧ w = w' := by
  obtain ⟨b, pr, rfl, ⟨hc, _⟩, ht⟩ := h
  have hel := element_any x w
  rw [hx] at hel
  go_enter Try.func47, Try.ntmps47
  go_wp2_with fail
  refine hel.mono ?_; rintro e w1 ⟨rfl, rfl⟩
  go_wp2_with fail
  go_ret2
  exact ⟨rfl, rfl⟩
theorem push_full {t : Tr} {p : Option Addr} (x : Int) (front : Bool) {w : World} (h : TrM w t p) (hx : keyB x = true) (hn : 4096 ≤ t.len) :
    Calls Try.prog 47 #[.pointer p, .int .i64 x, .bool front] w fun e w' => e = .returned (.tuple #[.pointer none, .int .i64 4]) ∧ w = w' := by
  have hlen := Len_any h
  obtain ⟨b, pr, rfl, ⟨hc, _⟩, ht⟩ := h
  have hel := element_any x w
  rw [hx] at hel
  obtain ⟨L, hL⟩ : ∃ L, L = t.len := ⟨_, rfl⟩
  rw [← hL] at hlen hn
  have d1 : decide ((4096 : Int) ≤ (L : Int)) = true := by simp; omega
  clear ht hn hL
  go_enter Try.func47, Try.ntmps47
  go_wp2_with fail
  refine hel.mono ?_; rintro e w1 ⟨rfl, rfl⟩
  go_wp2_with fail
  refine hlen.mono ?_; rintro e w1 ⟨rfl, rfl⟩
  go_wp2_with fail
  go_ret2
  exact ⟨rfl, rfl⟩
theorem push_nil (x : Int) (front : Bool) (w : World) :
    Calls Try.prog 47 #[.pointer none, .int .i64 x, .bool front] w fun e w' => e = .returned (.tuple #[.pointer none, .int .i64 1]) ∧ w = w' := by
  go_enter Try.func47, Try.ntmps47
  go_wp2_with fail
  go_ret2
  exact ⟨rfl, rfl⟩
theorem PushFront_of {p : Option Addr} {x : Int} {w : World} {Q : Ending → World → Prop} (hv : ∀ e w', Q e w' → ∃ q z, e = .returned (.tuple #[.pointer q, .int .i64 z])) (h : Calls Try.prog 47 #[.pointer p, .int .i64 x, .bool true] w Q) : Calls Try.prog 24 #[.pointer p, .int .i64 x] w Q := by
  go_enter Try.func24, Try.ntmps24
  go_wp2_with fail
  refine h.mono ?_
  intro e w' hq
  obtain ⟨a, b, rfl⟩ := hv e w' hq
  go_wp2_with fail
  exact hq
theorem PushBack_of {p : Option Addr} {x : Int} {w : World} {Q : Ending → World → Prop} (hv : ∀ e w', Q e w' → ∃ q z, e = .returned (.tuple #[.pointer q, .int .i64 z])) (h : Calls Try.prog 47 #[.pointer p, .int .i64 x, .bool false] w Q) : Calls Try.prog 25 #[.pointer p, .int .i64 x] w Q := by
  go_enter Try.func25, Try.ntmps25
  go_wp2_with fail
  refine h.mono ?_
  intro e w' hq
  obtain ⟨a, b, rfl⟩ := hv e w' hq
  go_wp2_with fail
  exact hq
end Go.Proofs.Ytdihajeccjdhkaa
