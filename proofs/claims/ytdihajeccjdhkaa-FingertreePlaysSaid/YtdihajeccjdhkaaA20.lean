/- Taking the first or the last; the errors of Set; all in words of lists. -/
import Derived.Test.YtdihajeccjdhkaaA19
import Derived.Test.YtdihajeccjdhkaaN3
namespace Go.Proofs.Ytdihajeccjdhkaa
open Go.RowKit
attribute [local go_sem ↓] Go.wp_at_zero Go.wp_at_succ
/-- An element, and a tree with these elements. -/
def TKv (v : Int) (xs : List Int) (w : World) (e : Ending) (w' : World) : Prop := ∃ b, e = .returned (.tuple #[.int .i64 v, .pointer (some ⟨b, 0, none⟩), .int .i64 0]) ∧ TK w' xs (some ⟨b, 0, none⟩) ∧ Fr F0 w w'
theorem TM.root {w : World} {t : Tr} {p : Option Addr} (h : TM w t p) (hn : t.list ≠ []) : ∃ b, p = some ⟨b, 0, none⟩ := by
  cases t with
  | nil => exact absurd rfl hn
  | nd l x r => obtain ⟨b, _, _, h, _⟩ := h; exact ⟨b, h⟩
theorem PopFront_tk {v : Int} {xs : List Int} {p : Option Addr} {w : World} (h : TK w (v :: xs) p) (hs : Tr.Small (v :: xs)) (hn : xs.length ≤ 4096) :
    Calls Try.prog 26 #[.pointer p] w (TKv v xs w) := by
  obtain ⟨t, h1, h2, h3⟩ := h
  obtain ⟨b, pr, rfl, ⟨hc, _⟩, ht⟩ := h1
  have hne : t.isNil = false := by
    cases t with
    | nil => cases h3
    | nd l x r => rfl
  obtain ⟨br, rfl⟩ := ht.root (by rw [h3]; simp)
  have H := Lib.hid (first_any t _ w hne ht ⟨by rw [h3]; exact hs, by show t.list.length ≤ _; rw [h3, List.length_cons]; omega⟩ h2)
  have H3 := Lib.hid h3
  clear ht h2 hs hn hne h3
  go_enter Try.func26, Try.ntmps26
  go_wp2_with fail
  refine H.out.mono ?_
  rintro e w2 ⟨y, u, q, e1, e2, _, rfl, T, F⟩
  have e3 := H3.out
  rw [e1] at e3
  injection e3 with e3 e4
  subst e3
  clear e1 H
  have K := Lib.hid (And.intro e2 (And.intro e4 (And.intro T F)))
  clear e2 e4 T F
  go_wp2_with fail
  go_ret3
  obtain ⟨k1, k2, k3, k4⟩ := K.out
  exact ⟨_, rfl, ⟨u, TrM.new (w := w2) k3, k1, k2⟩, k4.alloc _⟩
theorem PopFront_none {p : Option Addr} {w : World} (h : TK w [] p) :
    Calls Try.prog 26 #[.pointer p] w fun e w' => e = .returned (.tuple #[.int .i64 0, .pointer none, .int .i64 14]) ∧ w = w' := by
  obtain ⟨t, h1, h2, h3⟩ := h
  obtain ⟨b, pr, rfl, ⟨hc, _⟩, ht⟩ := h1
  obtain rfl : pr = none := by
    cases t with
    | nil => exact ht
    | nd l x r => simp [Tr.list] at h3
  clear ht
  go_enter Try.func26, Try.ntmps26
  go_wp2_with fail
  go_ret3
  exact ⟨rfl, rfl⟩
theorem PopBack_none {p : Option Addr} {w : World} (h : TK w [] p) :
    Calls Try.prog 27 #[.pointer p] w fun e w' => e = .returned (.tuple #[.int .i64 0, .pointer none, .int .i64 14]) ∧ w = w' := by
  have hl := Len_tk h
  obtain ⟨b, rfl⟩ := h.nn
  clear h
  go_enter Try.func27, Try.ntmps27
  go_wp2_with fail
  refine hl.mono ?_; rintro e w2 ⟨rfl, rfl⟩
  go_wp2_with fail
  go_ret3
  exact ⟨rfl, rfl⟩
theorem PopBack_tk {v : Int} {xs : List Int} {p : Option Addr} {w : World} (h : TK w (xs ++ [v]) p) (hs : Tr.Small (xs ++ [v])) (hn : xs.length ≤ 4096) :
    Calls Try.prog 27 #[.pointer p] w (TKv v xs w) := by
  have hl := Len_tk h
  obtain ⟨t, h1, h2, h3⟩ := h
  obtain ⟨b, pr, rfl, ⟨hc, _⟩, ht⟩ := h1
  obtain ⟨n, hxn⟩ : ∃ n, n = xs.length := ⟨_, rfl⟩
  have hlen : t.list.length = n + 1 := by rw [h3, hxn]; simp
  rw [show (xs ++ [v]).length = n + 1 by rw [hxn]; simp] at hl
  have H := Lib.hid (fun (W : World) (f : Fr F0 w W) => split_any t _ n W (ht.fr0 f) ⟨by rw [h3]; exact hs, by show t.list.length ≤ _; omega⟩ h2 (by show n ≤ t.list.length; omega))
  have H3 := Lib.hid h3
  have HX := Lib.hid hxn
  rw [← hxn] at hn
  have e1 : ((((n + 1 : Nat) : Int)) == 0) = false := by simp; omega
  have e2 : IntKind.i64.wrap (((n + 1 : Nat) : Int) - 1) = (n : Int) := by rw [wI2 (by omega) (by omega)]; omega
  have e3 : ((n : Int) + 1 - 1) = (n : Int) := by omega
  have e4 : (((n : Int) + 1) == 0) = false := by simp; omega
  have e5 : IntKind.i64.wrap ((n : Int) + 1 - 1) = (n : Int) := by rw [wI2 (by omega) (by omega)]; omega
  clear ht h2 hs h3 hlen hxn
  go_enter Try.func27, Try.ntmps27
  go_wp2_with fail
  refine hl.mono ?_; rintro e w2 ⟨rfl, rfl⟩
  go_wp2_with fail
  refine (H.out _ (by repeat (first | exact Fr.refl _ _ | refine Fr.drew ?_))).mono ?_
  rintro e w3 ⟨u, z, p1, q1, hu, hz, au, az, rfl, Tu, Tz, F⟩
  rw [H3.out, HX.out, List.take_left] at hu
  rw [H3.out, HX.out, List.drop_left] at hz
  cases z with
  | nil => cases hz
  | nd l x r =>
    obtain ⟨bz, pl, pr', rfl, hcz, _, _⟩ := Tz
    have hx : x = v ∧ l.list = [] := by
      simp only [Tr.list] at hz
      rcases hl' : l.list with _ | ⟨y, ys⟩
      · rw [hl'] at hz; simp at hz; exact ⟨hz.1, rfl⟩
      · rw [hl'] at hz; simp at hz
    obtain ⟨rfl, _⟩ := hx
    have zx : w3.cell? ⟨bz, 2, none⟩ = some (.int .i64 x) := hcz.cell (i := 2) rfl
    have K := Lib.hid (And.intro au (And.intro hu (And.intro Tu F)))
    clear au hu Tu F hcz hz H hl
    go_wp2_with fail
    go_ret3
    obtain ⟨k1, k2, k3, k4⟩ := K.out
    exact ⟨_, rfl, ⟨u, TrM.new (w := w3) k3, k1, k2⟩, k4.alloc _⟩
theorem Set_tk {xs : List Int} {p : Option Addr} {i : Nat} {x : Int} {w : World} (h : TK w xs p) (hs : Tr.Small xs) (hn : xs.length ≤ 4096) (hx : keyB x = true) (hi : i < xs.length) :
    Calls Try.prog 28 #[.pointer p, .int .i64 i, .int .i64 x] w (TK1 (xs.set i x) w) := by
  obtain ⟨t, h1, h2, rfl⟩ := h
  exact (SetT_ok h1 h2 hs hn hx hi).mono fun _ _ h => TK1.of h
theorem Set_key {xs : List Int} {p : Option Addr} {i x : Int} {w : World} (h : TK w xs p) (hx : keyB x = false) :
    Calls Try.prog 28 #[.pointer p, .int .i64 i, .int .i64 x] w fun e w' => e = .returned (.tuple #[.pointer none, .int .i64 1]) ∧ w = w' := by
  have hel := element_any x w
  rw [hx] at hel
  obtain ⟨b, rfl⟩ := h.nn
  clear h
  go_enter Try.func28, Try.ntmps28
  go_wp2_with fail
  refine hel.mono ?_; rintro e w2 ⟨rfl, rfl⟩
  go_wp2_with fail
  go_ret2
  exact ⟨rfl, rfl⟩
theorem Set_range {xs : List Int} {p : Option Addr} {i x : Int} {w : World} (h : TK w xs p) (hx : keyB x = true) (hi : i < 0 ∨ (xs.length : Int) ≤ i) :
    Calls Try.prog 28 #[.pointer p, .int .i64 i, .int .i64 x] w fun e w' => e = .returned (.tuple #[.pointer none, .int .i64 2]) ∧ w = w' := by
  have hel := element_any x w
  rw [hx] at hel
  have hl := Len_tk h
  obtain ⟨b, rfl⟩ := h.nn
  generalize xs.length = L at *
  clear h
  by_cases h0 : i < 0
  · clear hi
    go_enter Try.func28, Try.ntmps28
    go_wp2_with fail
    refine hel.mono ?_; rintro e w2 ⟨rfl, rfl⟩
    go_wp2_with fail
    go_ret2
    exact ⟨rfl, rfl⟩
  · have h1 : (L : Int) ≤ i := by omega
    clear hi
    go_enter Try.func28, Try.ntmps28
    go_wp2_with fail
    refine hel.mono ?_; rintro e w2 ⟨rfl, rfl⟩
    go_wp2_with fail
    refine hl.mono ?_; rintro e w2 ⟨rfl, rfl⟩
    go_wp2_with fail
    go_ret2
    exact ⟨rfl, rfl⟩
theorem Split_range {xs : List Int} {p : Option Addr} {i : Int} {w : World} (h : TK w xs p) (hi : i < 0 ∨ (xs.length : Int) < i) :
    Calls Try.prog 22 #[.pointer p, .int .i64 i] w fun e w' => e = .returned (.tuple #[.pointer none, .pointer none, .int .i64 2]) ∧ w = w' := by
  have hl := Len_tk h
  obtain ⟨b, rfl⟩ := h.nn
  generalize xs.length = L at *
  clear h
  by_cases h0 : i < 0
  · clear hi
    go_enter Try.func22, Try.ntmps22
    go_wp2_with fail
    go_ret3
    exact ⟨rfl, rfl⟩
  · have h1 : (L : Int) < i := by omega
    clear hi
    go_enter Try.func22, Try.ntmps22
    go_wp2_with fail
    refine hl.mono ?_; rintro e w2 ⟨rfl, rfl⟩
    go_wp2_with fail
    go_ret3
    exact ⟨rfl, rfl⟩
/-- Pushing. -/
theorem PushFront_tk {xs : List Int} {p : Option Addr} {x : Int} {w : World} (h : TK w xs p) (hs : Tr.Small xs) (hn : xs.length < 4096) (hx : keyB x = true) : Calls Try.prog 24 #[.pointer p, .int .i64 x] w (TK1 (x :: xs) w) := by
  obtain ⟨t, h1, h2, rfl⟩ := h
  exact (PushFront_of (Q := TPost (pushL t.list x true) w) tpost_pair (push_ok x true h1 h2 hs hx hn)).mono fun _ _ h => TK1.of h
theorem PushBack_tk {xs : List Int} {p : Option Addr} {x : Int} {w : World} (h : TK w xs p) (hs : Tr.Small xs) (hn : xs.length < 4096) (hx : keyB x = true) : Calls Try.prog 25 #[.pointer p, .int .i64 x] w (TK1 (xs ++ [x]) w) := by
  obtain ⟨t, h1, h2, rfl⟩ := h
  exact (PushBack_of (Q := TPost (pushL t.list x false) w) tpost_pair (push_ok x false h1 h2 hs hx hn)).mono fun _ _ h => TK1.of h
theorem PushFront_key {xs : List Int} {p : Option Addr} {x : Int} {w : World} (h : TK w xs p) (hx : keyB x = false) : Calls Try.prog 24 #[.pointer p, .int .i64 x] w fun e w' => e = .returned (.tuple #[.pointer none, .int .i64 1]) ∧ w = w' := by
  obtain ⟨t, h1, h2, rfl⟩ := h
  exact PushFront_of (fun e w' hq => ⟨_, _, hq.1⟩) (push_bad x true h1 hx)
theorem PushBack_key {xs : List Int} {p : Option Addr} {x : Int} {w : World} (h : TK w xs p) (hx : keyB x = false) : Calls Try.prog 25 #[.pointer p, .int .i64 x] w fun e w' => e = .returned (.tuple #[.pointer none, .int .i64 1]) ∧ w = w' := by
  obtain ⟨t, h1, h2, rfl⟩ := h
  exact PushBack_of (fun e w' hq => ⟨_, _, hq.1⟩) (push_bad x false h1 hx)
/-- Sum and Search, in words of lists. -/
theorem Sum_tk {xs : List Int} {p : Option Addr} {w : World} (h : TK w xs p) (hs : Tr.Small xs) (hn : xs.length ≤ 4096) {f g : Nat} (h1 : f ≤ g) (h2 : g ≤ xs.length) :
    Calls Try.prog 14 #[.pointer p, .int .i64 f, .int .i64 g] w fun e w' => e = .returned (.tuple #[.int .i64 (preS xs g - preS xs f), .int .i64 0]) ∧ Fr F0 w w' := by
  obtain ⟨t, k1, k2, rfl⟩ := h
  refine (Sum_any k1 ⟨hs, by show t.list.length ≤ _; omega⟩ (f : Int) (g : Int)).mono ?_
  rintro e w' ⟨he, q, hq⟩
  have es : sumS t.list (f : Int) (g : Int) = (preS t.list g - preS t.list f, 0) := by
    unfold sumS
    rw [if_neg (by omega), Int.toNat_natCast, Int.toNat_natCast]
  rw [es] at he
  exact ⟨he, by rw [hq]; exact (Fr.refl _ _).drewN _⟩
theorem Search_tk {xs : List Int} {p : Option Addr} {w : World} (h : TK w xs p) (hs : Tr.Small xs) (hn : xs.length ≤ 4096) (s : Int) :
    Calls Try.prog 16 #[.pointer p, .int .i64 s] w fun e w' => e = .returned (.tuple #[.int .i64 (searchS xs s).1, .int .i64 (searchS xs s).2]) ∧ Fr F0 w w' := by
  obtain ⟨t, k1, k2, rfl⟩ := h
  refine (Search_any k1 ⟨hs, by show t.list.length ≤ _; omega⟩ s).mono ?_
  rintro e w' ⟨he, q, hq⟩
  exact ⟨he, by rw [hq]; exact (Fr.refl _ _).drewN _⟩
end Go.Proofs.Ytdihajeccjdhkaa
