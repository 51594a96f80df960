/- The chapter's example. -/
import Derived.Test.YtdihajeccjdhkaaA13
namespace Go.Proofs.Ytdihajeccjdhkaa
open Go.RowKit
attribute [local go_sem ↓] Go.wp_at_zero Go.wp_at_succ
theorem small314 : Tr.Small [3, 1, 4] := by intro x hx; simp at hx; omega
theorem s314 : sumS [3, 1, 4] 0 3 = (8, 0) := by decide
theorem q314 : searchS [3, 1, 4] 4 = (2, 0) := by decide
theorem r314 : searchS [3, 1, 4] 9 = (0, 12) := by decide
theorem tpost_pair {xs : List Int} {w : World} : ∀ e w', TPost xs w e w' → ∃ q z, e = .returned (.tuple #[.pointer q, .int .i64 z]) := by
  rintro e w' ⟨t, p, _, _, h, _⟩
  exact ⟨p, 0, h⟩
theorem TrM.nn {w : World} {t : Tr} {p : Option Addr} (h : TrM w t p) : ∃ b, p = some ⟨b, 0, none⟩ := by obtain ⟨b, _, h1, _⟩ := h; exact ⟨b, h1⟩
set_option maxHeartbeats 4000000 in
theorem awake_any (w : World) : Calls Try.prog 9 #[] w fun e w' => e = .returned (.bool true) ∧ Fr F0 w w' := by
  have R0 : Rd (w.alloc (.cells #[.int .i64 3, .int .i64 1, .int .i64 4] 3)) (some ⟨w.heap.size, 0, none⟩) 3 (ints [3, 1, 4]) := (Own.lit (w := w) (B := 0) (T := 3) (ints [3, 1, 4]) 3 rfl (Nat.zero_le _) (by omega)).rd
  have H1 := Lib.hid (Make_ok R0 (c := 3) (by omega) small314 (by omega))
  have F0' : Hid (Fr F0 w (w.alloc (.cells #[.int .i64 3, .int .i64 1, .int .i64 4] 3))) := Lib.hid ((Fr.refl _ _).alloc _)
  clear R0
  go_enter Try.func9, Try.ntmps9
  go_wp2_with fail
  refine H1.out.mono ?_
  rintro e w1 ⟨t, p, hl, ha, rfl, T1, F1⟩
  replace F1 := Lib.hid (F0'.out.trans0 F1)
  have hs : Tr.Small t.list := by rw [hl]; exact small314
  have hlen : t.len = 3 := by unfold Tr.len; rw [hl]; rfl
  have hf : Fit t := ⟨hs, by omega⟩
  have H2 := Lib.hid (PushFront_of (Q := TPost (pushL t.list 2 true) w1) tpost_pair (push_ok 2 true T1 ha hs (by decide) (by omega)))
  rw [hl] at H2
  obtain ⟨b1, rfl⟩ := T1.nn
  have Hf := Lib.hid hf
  have Hl := Lib.hid hl
  have HT := Lib.hid T1
  have Hlen := Lib.hid hlen
  clear H1 hs hf ha T1 hl hlen F0'
  go_wp2_with fail
  refine H2.out.mono ?_
  rintro e w2 ⟨u, p2, hl2, ha2, rfl, T2, F2⟩
  replace HT := Lib.hid (HT.out.fr0 F2)
  have F3 := Lib.hid (F1.out.trans0 F2)
  have HT2 := Lib.hid T2
  have Hl2 := Lib.hid hl2
  have H3 := Lib.hid (Sum_any HT.out Hf.out 0 3)
  rw [Hl.out, s314] at H3
  clear H2 F1 F2 T2 ha2 hl2
  go_wp2_with fail
  refine H3.out.mono ?_
  rintro e w3 ⟨rfl, q3, hq3⟩
  have G3 : Fr F0 w2 w3 := by rw [hq3]; exact (Fr.refl _ _).drewN _
  replace HT := Lib.hid (HT.out.fr0 G3)
  replace HT2 := Lib.hid (HT2.out.fr0 G3)
  have F4 := Lib.hid (F3.out.trans0 G3)
  have H4 := Lib.hid (Search_any HT.out Hf.out 4)
  rw [Hl.out, q314] at H4
  clear H3 F3 G3 hq3
  go_wp2_with fail
  refine H4.out.mono ?_
  rintro e w4 ⟨rfl, q4, hq4⟩
  have G4 : Fr F0 w3 w4 := by rw [hq4]; exact (Fr.refl _ _).drewN _
  replace HT := Lib.hid (HT.out.fr0 G4)
  replace HT2 := Lib.hid (HT2.out.fr0 G4)
  have F5 := Lib.hid (F4.out.trans0 G4)
  have H5 := Lib.hid (Search_any HT.out Hf.out 9)
  rw [Hl.out, r314] at H5
  clear H4 F4 G4 hq4
  go_wp2_with fail
  refine H5.out.mono ?_
  rintro e w5 ⟨rfl, q5, hq5⟩
  have G5 : Fr F0 w4 w5 := by rw [hq5]; exact (Fr.refl _ _).drewN _
  replace HT := Lib.hid (HT.out.fr0 G5)
  replace HT2 := Lib.hid (HT2.out.fr0 G5)
  have F6 := Lib.hid (F5.out.trans0 G5)
  have hul : u.list = [2, 3, 1, 4] := Hl2.out
  have H6 := Lib.hid (List_any HT2.out (by unfold Tr.len; rw [hul]; decide))
  clear H5 F5 G5 hq5
  go_wp2_with fail
  refine H6.out.mono ?_
  rintro e w6 ⟨a6, m6, c6, hm6, rfl, O6, F7⟩
  rw [hul] at O6
  obtain rfl : m6 = 4 := by rw [hm6]; unfold Tr.len; rw [hul]; rfl
  replace HT := Lib.hid (HT.out.fr0 F7)
  have F8 := Lib.hid (F6.out.trans0 F7)
  have L1 : Fr F0 w6 (w6.alloc (.cells #[.int .i64 2, .int .i64 3, .int .i64 1, .int .i64 4] 3)) := (Fr.refl _ _).alloc _
  have R1 : Rd (w6.alloc (.cells #[.int .i64 2, .int .i64 3, .int .i64 1, .int .i64 4] 3)) (some ⟨w6.heap.size, 0, none⟩) 4 (ints [2, 3, 1, 4]) := (Own.lit (w := w6) (B := 0) (T := 3) (ints [2, 3, 1, 4]) 4 rfl (Nat.zero_le _) (by omega)).rd
  have heq := Equal_any a6 (some ⟨w6.heap.size, 0, none⟩) 4 4 c6 4 [2, 3, 1, 4] [2, 3, 1, 4] _ (O6.rd.fr0 L1) R1
  rw [decide_eq_true rfl] at heq
  have H7 := Lib.hid heq
  have F9 := Lib.hid (F8.out.trans0 L1)
  replace HT := Lib.hid (HT.out.fr0 L1)
  clear H6 F6 O6 F7 hm6 hul L1 R1 heq F8
  go_wp2_with fail
  refine H7.out.mono ?_
  rintro e w7 ⟨rfl, q7, hq7⟩
  have G7 : Fr F0 (w6.alloc (.cells #[.int .i64 2, .int .i64 3, .int .i64 1, .int .i64 4] 3)) w7 := by rw [hq7]; exact (Fr.refl _ _).drewN _
  replace HT := Lib.hid (HT.out.fr0 G7)
  have F10 := Lib.hid (F9.out.trans0 G7)
  have H8 := Lib.hid (List_any HT.out (by rw [Hlen.out]; omega))
  clear H7 F9 G7 hq7
  go_wp2_with fail
  refine H8.out.mono ?_
  rintro e w8 ⟨a8, m8, c8, hm8, rfl, O8, F11⟩
  rw [Hl.out] at O8
  obtain rfl : m8 = 3 := by rw [hm8, Hlen.out]
  have F12 := Lib.hid (F10.out.trans0 F11)
  have L1 : Fr F0 w8 (w8.alloc (.cells #[.int .i64 3, .int .i64 1, .int .i64 4] 3)) := (Fr.refl _ _).alloc _
  have R1 : Rd (w8.alloc (.cells #[.int .i64 3, .int .i64 1, .int .i64 4] 3)) (some ⟨w8.heap.size, 0, none⟩) 3 (ints [3, 1, 4]) := (Own.lit (w := w8) (B := 0) (T := 3) (ints [3, 1, 4]) 3 rfl (Nat.zero_le _) (by omega)).rd
  have heq := Equal_any a8 (some ⟨w8.heap.size, 0, none⟩) 3 3 c8 3 [3, 1, 4] [3, 1, 4] _ (O8.rd.fr0 L1) R1
  rw [decide_eq_true rfl] at heq
  have H9 := Lib.hid heq
  have F13 := Lib.hid (F12.out.trans0 L1)
  clear H8 F10 O8 F11 hm8 L1 R1 heq F12
  go_wp2_with fail
  refine H9.out.mono ?_
  rintro e w9 ⟨rfl, q9, hq9⟩
  have G9 : Hid (Fr F0 w w9) := Lib.hid (by rw [hq9]; exact F13.out.drewN _)
  clear H9 hq9
  go_wp2_with fail
  go_ret
  exact ⟨rfl, G9.out⟩
end Go.Proofs.Ytdihajeccjdhkaa
