/- Sums of beginnings. -/
import Derived.Test.YtdihajeccjdhkaaA10
namespace Go.Proofs.Ytdihajeccjdhkaa
open Go.RowKit
attribute [local go_sem ↓] Go.wp_at_zero Go.wp_at_succ
theorem qmore {P : Program} {f : FuncId} {args : Array Value} {w : World} {v : Value} (h : ∀ q, Calls P f args (w.drewN q) fun e w' => e = .returned v ∧ ∃ m, w' = (w.drewN q).drewN m) (n : Nat) :
    Calls P f args (w.drewN n) fun e w'' => e = .returned v ∧ ∃ m, w'' = w.drewN m := (h n).mono fun _ _ ⟨h1, _, h2⟩ => ⟨h1, _, h2.trans (World.drewN_drewN _ _ _)⟩
/-- The number of elements, as the node says. -/
def lenM (v : Value) (w : World) : Nat :=
  match v with
  | .pointer (some a) => match w.cell? ⟨a.block, 3, none⟩ with
    | some (.int _ n) => n.toNat
    | _ => 0
  | _ => 0
theorem lenM_eq {w : World} {u : Tr} {q : Option Addr} (h : TM w u q) : lenM (.pointer q) w = u.len := by
  cases u with
  | nil => obtain rfl : q = none := h; rfl
  | nd l x r =>
    obtain ⟨b, pl, pr, rfl, hc, _, _⟩ := h
    have c3 : w.cell? ⟨b, 3, none⟩ = some (.int .i64 ((Tr.nd l x r).len : Nat)) := hc.cell (i := 3) rfl
    unfold lenM
    simp only [c3]
    simp
theorem preS_0 (l : List Int) : preS l 0 = 0 := by simp [preS]
theorem preS_left {l r : List Int} {x : Int} {i : Nat} (h : i ≤ l.length) : preS (l ++ x :: r) i = preS l i := by
  unfold preS; rw [List.take_append_of_le_length h]
theorem preS_right {l r : List Int} {x : Int} {i : Nat} (h : l.length < i) : preS (l ++ x :: r) i = l.sum + x + preS r (i - (l.length + 1)) := by
  unfold preS
  obtain ⟨j, rfl⟩ : ∃ j, i = l.length + (j + 1) := ⟨i - l.length - 1, by omega⟩
  rw [List.take_length_add_append, List.take_succ_cons, List.sum_append, List.sum_cons, show l.length + (j + 1) - (l.length + 1) = j by omega]
  omega
theorem preS_bound {l : List Int} (h : Tr.Small l) (hl : l.length ≤ 100000) (i : Nat) : -104857600000 ≤ preS l i ∧ preS l i ≤ 104857600000 := by
  have h1 := Small.sum (l := l.take i) (fun x hx => h x (List.mem_of_mem_take hx))
  have h2 : (l.take i).length ≤ l.length := by rw [List.length_take]; omega
  unfold preS
  omega
set_option maxHeartbeats 2000000 in
theorem prefix_any {t : Tr} {p : Option Addr} {i : Nat} {w : World} (h : TM w t p) (hf : Fit t) (hi : i ≤ t.len) :
    Calls Try.prog 41 #[.pointer p, .int .i64 i] w fun e w' => e = .returned (.int .i64 (preS t.list i)) ∧ ∃ q, w' = w.drewN q := by
  have hb0 := preS_bound hf.small hf.len i
  obtain ⟨V, hV⟩ : ∃ V, V = preS t.list i := ⟨_, rfl⟩
  rw [← hV] at hb0 ⊢
  have HV := Lib.hid hV
  have H := Lib.hid h
  have HF := Lib.hid hf
  have HI := Lib.hid hi
  clear hV h hf hi
  go_enter Try.func41, Try.ntmps41
  go_wp2_with fail
  go_loopw [0, 1, 5] (fun s0 s1 s5 wr => ∃ (u : Tr) (q : Option Addr) (j : Nat) (s : Int) (k : Nat), s0 = .pointer q ∧ s1 = .int .i64 j ∧ s5 = .int .i64 s ∧ Hid (TM w u q) ∧ Hid (Fit u) ∧ Hid (j ≤ u.len) ∧ Hid (s + preS u.list j = V) ∧ wr = w.drewN k) (fun s0 _ _ wr => lenM s0 wr)
  case atStart => exact ⟨t, p, i, 0, 0, rfl, rfl, rfl, H, HF, HI, Lib.hid (by rw [HV.out]; omega), rfl⟩
  case round =>
    obtain ⟨u, q, j, s, k, rfl, rfl, rfl, hT, hFt, hj, hs, hWk⟩ := hrel
    have hFr : Fr F0 w wr := by rw [hWk]; exact (Fr.refl F0 w).drewN k
    have HWk := Lib.hid hWk
    clear hWk
    cases u with
    | nil =>
      obtain rfl : q = none := hT.out
      have e : Hid (s = V) := Lib.hid (by have h1 := hs.out; have h2 := hj.out; rw [Tr.len_nil] at h2; have : j = 0 := by omega
                                          rw [this, preS_0] at h1; omega)
      clear hFr
      go_wp2_with fail
      go_ret
      exact ⟨ret_int e.out, k, HWk.out⟩
    | nd l x r =>
      have hTo := hT.out
      have hM := Lib.hid (lenM_eq ((hTo).fr0 hFr))
      obtain ⟨b, pl, pr, rfl, hc, hl, hr⟩ := hTo
      obtain ⟨fl, ⟨x1, x2⟩, fr⟩ := hFt.out.nd
      have z0 : wr.cell? ⟨b, 0, none⟩ = some (.pointer pl) := hFr.cell (hc.cell (i := 0) rfl) id
      have z1 : wr.cell? ⟨b, 1, none⟩ = some (.pointer pr) := hFr.cell (hc.cell (i := 1) rfl) id
      have z2 : wr.cell? ⟨b, 2, none⟩ = some (.int .i64 x) := hFr.cell (hc.cell (i := 2) rfl) id
      have cl := len_any (hl.fr0 hFr)
      obtain ⟨L, hL⟩ : ∃ L, L = l.len := ⟨_, rfl⟩
      have hLl : l.list.length = L := hL.symm
      have ll : L ≤ 100000 := by rw [hL]; exact fl.len
      have hjl := hj.out
      rw [Tr.len_nd, ← hL] at hjl
      have hjb : j ≤ 100001 := by have := hFt.out.len; rw [Tr.len_nd, ← hL] at this; omega
      rw [← hL] at cl
      have Hl := Lib.hid hl
      have Hr := Lib.hid hr
      have Hfl := Lib.hid fl
      have Hfr := Lib.hid fr
      have HL := Lib.hid hL
      have Cl := Lib.hid cl
      obtain ⟨sl1, sl2⟩ := fl.sumB
      by_cases hjL : j ≤ L
      · have e : Hid (s + preS l.list j = V) := Lib.hid (by
          have h1 : s + preS (l.list ++ x :: r.list) j = V := hs.out
          rwa [preS_left (by omega)] at h1)
        have hm1 : Hid (lenM (.pointer pl) wr < lenM (.pointer (some ⟨b, 0, none⟩)) wr) := Lib.hid (by rw [hM.out, lenM_eq (Hl.out.fr0 hFr), Tr.len_nd]; omega)
        have hj2 : Hid (j ≤ l.len) := Lib.hid (by omega)
        clear hFr hc hl hr fl fr hL hLl hjl cl ll hjb
        go_wp2_with fail
        refine Cl.out.mono ?_; rintro e w1 ⟨rfl, rfl⟩
        go_wp2_with fail
        exact ⟨⟨l, pl, j, s, k, rfl, rfl, rfl, Hl, Hfl, hj2, e, HWk.out⟩, hm1.out⟩
      · obtain ⟨j', hj'⟩ : ∃ j', j' = j - (L + 1) := ⟨_, rfl⟩
        have hjj : j = L + 1 + j' := by omega
        obtain ⟨sl, hsl⟩ : ∃ sl, sl = l.sum := ⟨_, rfl⟩
        have e0 : s + (sl + x + preS r.list j') = V := by
          have h1 : s + preS (l.list ++ x :: r.list) j = V := hs.out
          rw [preS_right (by omega), hLl, ← hj'] at h1
          rw [hsl]; exact h1
        have e : Hid (s + (sl + x) + preS r.list j' = V) := Lib.hid (by omega)
        have hpb := preS_bound fr.small fr.len j'
        have hj2 : Hid (j' ≤ r.len) := Lib.hid (by omega)
        have hLj : L < j := by omega
        have hm1 : Hid (∀ k', lenM (.pointer pr) (wr.drewN k') < lenM (.pointer (some ⟨b, 0, none⟩)) wr) := Lib.hid (fun k' => by rw [hM.out, lenM_eq ((Hr.out.fr0 hFr).fr0 ((Fr.refl F0 wr).drewN k')), Tr.len_nd]; omega)
        have ct := Lib.hid (fun n => qsame (n := n) (w := wr) (total_any ((Hl.out.fr0 hFr).fr0 ((Fr.refl F0 wr).drewN n))))
        rw [← hsl] at sl1 sl2 ct
        have w1 : IntKind.i64.wrap (sl + x) = sl + x := wI2 (by omega) (by omega)
        have w2 : IntKind.i64.wrap (s + (sl + x)) = s + (sl + x) := wI2 (by omega) (by omega)
        have w3 : IntKind.i64.wrap ((L : Int) + 1) = (L : Int) + 1 := wI2 (by omega) (by omega)
        have w4 : IntKind.i64.wrap ((j : Int) - ((L : Int) + 1)) = (j' : Int) := by rw [wI2 (by omega) (by omega)]; omega
        have Z1 := Lib.hid z1
        clear hc hl hr fl fr hL hLl hjl hjL cl ll hjb e0 hpb hsl hjj hj' hb0
        go_wp2_with fail
        refine Cl.out.mono ?_; rintro e w1 ⟨rfl, rfl⟩
        go_wp2_with fail
        go_quiet (first | (go_at_call 42; with_reducible exact ct.out _) | fail)
        have z1' : (wr.drewN nq).cell? ⟨b, 1, none⟩ = some (.pointer pr) := ((Fr.refl F0 wr).drewN nq).cell Z1.out id
        go_wp2_with fail
        exact ⟨⟨r, pr, j', s + (sl + x), k + nq, rfl, rfl, rfl, Hr, Hfr, hj2, e, by rw [HWk.out, World.drewN_drewN]⟩, hm1.out _⟩
end Go.Proofs.Ytdihajeccjdhkaa
