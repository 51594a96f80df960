/- FingertreeSplits: the walk. -/
import Derived.Test.YtdihajeccjdhkaaA18
import Derived.Test.YtdihajeccjdhkaaN1
namespace Go.Proofs.Ytdihajeccjdhkaa
open Go.RowKit
attribute [local go_sem ↓] Go.wp_at_zero Go.wp_at_succ
/-- A tree with these elements. -/
def TK (w : World) (xs : List Int) (p : Option Addr) : Prop := ∃ t, TrM w t p ∧ t.Avl ∧ t.list = xs
theorem TK.fr0 {w w' : World} (f : Fr F0 w w') {xs : List Int} {p : Option Addr} (h : TK w xs p) : TK w' xs p := by obtain ⟨t, h1, h2, h3⟩ := h; exact ⟨t, h1.fr0 f, h2, h3⟩
theorem TK.nn {w : World} {xs : List Int} {p : Option Addr} (h : TK w xs p) : ∃ b, p = some ⟨b, 0, none⟩ := by obtain ⟨t, h1, _⟩ := h; exact h1.nn
def TK1 (xs : List Int) (w : World) (e : Ending) (w' : World) : Prop := ∃ b, e = .returned (.tuple #[.pointer (some ⟨b, 0, none⟩), .int .i64 0]) ∧ TK w' xs (some ⟨b, 0, none⟩) ∧ Fr F0 w w'
theorem TK1.of {xs : List Int} {w : World} {e : Ending} {w' : World} (h : TPost xs w e w') : TK1 xs w e w' := by
  obtain ⟨t, p, h1, h2, h3, h4, h5⟩ := h
  obtain ⟨b, rfl⟩ := h4.nn
  exact ⟨b, h3, ⟨t, h4, h2, h1⟩, h5⟩
def TK2 (xs ys : List Int) (w : World) (e : Ending) (w' : World) : Prop := ∃ b c, e = .returned (.tuple #[.pointer (some ⟨b, 0, none⟩), .pointer (some ⟨c, 0, none⟩), .int .i64 0]) ∧ TK w' xs (some ⟨b, 0, none⟩) ∧ TK w' ys (some ⟨c, 0, none⟩) ∧ Fr F0 w w'
theorem TK2.of {xs ys : List Int} {w : World} {e : Ending} {w' : World} (h : T2Post xs ys w e w') : TK2 xs ys w e w' := by
  obtain ⟨t, u, p, q, h1, h2, h3, h4, h5, h6, h7, h8⟩ := h
  obtain ⟨b, rfl⟩ := h6.nn
  obtain ⟨c, rfl⟩ := h7.nn
  exact ⟨b, c, h5, ⟨t, h6, h3, h1⟩, ⟨u, h7, h4, h2⟩, h8⟩
theorem Make_tk {a : Option Addr} {m c : Nat} {xs : List Int} {w : World} (hr : Rd w a m (ints xs)) (hc : m ≤ c) (hs : Tr.Small xs) (hm : m ≤ 4096) : Calls Try.prog 10 #[.slice a m c] w (TK1 xs w) := (Make_ok hr hc hs hm).mono fun _ _ h => TK1.of h
theorem Concat_tk {xs ys : List Int} {p q : Option Addr} {w : World} (h : TK w xs p) (h' : TK w ys q) (hs : Tr.Small (xs ++ ys)) (hn : xs.length + ys.length ≤ 4096) : Calls Try.prog 18 #[.pointer p, .pointer q] w (TK1 (xs ++ ys) w) := by
  obtain ⟨t, h1, h2, rfl⟩ := h
  obtain ⟨u, h3, h4, rfl⟩ := h'
  exact (Concat_any h1 h3 h2 h4 hs hn).mono fun _ _ h => TK1.of h
theorem Split_tk {xs : List Int} {p : Option Addr} {w : World} (h : TK w xs p) (hs : Tr.Small xs) (hn : xs.length ≤ 4096) {i : Nat} (hi : i ≤ xs.length) : Calls Try.prog 22 #[.pointer p, .int .i64 i] w (TK2 (xs.take i) (xs.drop i) w) := by
  obtain ⟨t, h1, h2, rfl⟩ := h
  exact (Split_any h1 h2 ⟨hs, by show t.list.length ≤ _; omega⟩ hi).mono fun _ _ h => TK2.of h
theorem List_tk {xs : List Int} {p : Option Addr} {w : World} (h : TK w xs p) (hn : xs.length ≤ 100000) : Calls Try.prog 20 #[.pointer p] w fun e w' => ∃ a c, e = .returned (.slice a xs.length c) ∧ Rd w' a xs.length (ints xs) ∧ Fr F0 w w' := by
  obtain ⟨t, h1, h2, rfl⟩ := h
  exact (List_any h1 hn).mono fun _ _ ⟨a, m, c, hm, h3, h4, h5⟩ => ⟨a, c, by rw [h3, hm]; rfl, by rw [hm] at h4; exact h4.rd, h5⟩
theorem is_tk {xs : List Int} {p : Option Addr} {w : World} (h : TK w xs p) {a : Option Addr} {m c : Nat} (hm : m ≤ 100000) (hr : Rd w a m (ints xs)) : Calls Try.prog 12 #[.pointer p, .slice a m c] w fun e w' => e = .returned (.bool true) ∧ Fr F0 w w' := by
  obtain ⟨t, h1, h2, h3⟩ := h
  exact is_any h1 h2 h3 hm hr
theorem Len_tk {xs : List Int} {p : Option Addr} {w : World} (h : TK w xs p) : Calls Try.prog 23 #[.pointer p] w fun e w' => e = .returned (.int .i64 xs.length) ∧ w = w' := by
  obtain ⟨t, h1, h2, rfl⟩ := h
  exact Len_any h1
theorem Equal_tk {a1 a2 : Option Addr} {n m c1 c2 : Nat} {xs : List Int} {w : World} (h1 : Rd w a1 n (ints xs)) (h2 : Rd w a2 m (ints xs)) : Calls Try.prog 19 #[.slice a1 n c1, .slice a2 m c2] w fun e w' => e = .returned (.bool true) ∧ Fr F0 w w' :=
  (Equal_any a1 a2 n m c1 c2 xs xs w h1 h2).mono fun _ _ ⟨h, q, h3⟩ => ⟨by rw [h, decide_eq_true rfl], by rw [h3]; exact (Fr.refl _ _).drewN _⟩
theorem Make_gen {a : Option Addr} {m c : Nat} {xs : List Int} {w : World} (hr : Rd w a m (ints xs)) (hc : m ≤ c) : Calls Try.prog 10 #[.slice a m c] w fun e w' => ∃ p, e = .returned (.tuple #[.pointer p, .int .i64 (madeI xs)]) ∧ (madeI xs ≠ 0 → p = none) ∧ Fr F0 w w' := by
  by_cases h : madeI xs = 0
  · obtain ⟨h1, h2⟩ := madeI_ok h
    have hxl : xs.length = m := by simpa using hr.len
    rw [h]
    exact (Make_ok hr hc h1 (by omega)).mono fun _ _ ⟨t, p, _, _, h3, _, h5⟩ => ⟨p, h3, fun h => absurd rfl h, h5⟩
  · exact (Make_bad hr h).mono fun _ _ ⟨h3, h4⟩ => ⟨none, h3, fun _ => rfl, h4⟩
theorem max3 {x y z : Nat} (h1 : x ≤ 100) (h2 : y ≤ 100) (h3 : z ≤ 100) : ∃ M : Nat, M ≤ 100 ∧ ∀ (ts : Array TypeId) (t : TypeId) (w : World), (Builtin.max_ ts t #[.int .i64 (x : Int), .int .i64 (y : Int), .int .i64 (z : Int)]).run Try.prog w = .ok (.int .i64 (M : Int)) w := by
  refine ⟨max (max x y) z, by omega, fun ts t w => ?_⟩
  simp [Builtin.max_, Builtin.max2]
  by_cases h4 : x < y
  · rw [if_pos h4]; split <;> omega
  · rw [if_neg h4]; split <;> omega
set_option maxRecDepth 100000 in
set_option maxHeartbeats 16000000 in
theorem Splits_main {a b c : Option Addr} {na nb nc ca cb cc : Nat} {xs ys zs : List Int} {cut : Nat} {w : World} (ra : Rd w a na (ints xs)) (rb : Rd w b nb (ints ys)) (rc : Rd w c nc (ints zs)) (ha : na ≤ ca) (hb : nb ≤ cb) (hc : nc ≤ cc)
    (la : na ≤ 100) (lb : nb ≤ 100) (lc : nc ≤ 100) (za : madeI xs = 0) (zb : madeI ys = 0) (zc : madeI zs = 0) (hcut : cut < 256) :
    Calls Try.prog 5 #[.slice a na ca, .slice b nb cb, .slice c nc cc, .int .u8 cut] w fun e w' => e = .returned (.bool true) ∧ Fr F0 w w' := by
  have xl : xs.length = na := by simpa using ra.len
  have yl : ys.length = nb := by simpa using rb.len
  have zl : zs.length = nc := by simpa using rc.len
  obtain ⟨sa, _⟩ := madeI_ok za
  obtain ⟨sb, _⟩ := madeI_ok zb
  obtain ⟨sc, _⟩ := madeI_ok zc
  have Ra := Lib.hid ra
  have Rb := Lib.hid rb
  have Rc := Lib.hid rc
  have Hs := Lib.hid (And.intro sa (And.intro sb sc))
  have Hl := Lib.hid (And.intro xl (And.intro yl zl))
  have Hc := Lib.hid (And.intro ha (And.intro hb hc))
  have HL := Lib.hid (And.intro la (And.intro lb lc))
  have hmx := max3 la lb lc
  have S1 : Hid (Tr.Small (xs ++ ys)) := Lib.hid (Small.app.2 ⟨sa, sb⟩)
  have S2 : Hid (Tr.Small (ys ++ zs)) := Lib.hid (Small.app.2 ⟨sb, sc⟩)
  have S3 : Hid (Tr.Small (xs ++ ys ++ zs)) := Lib.hid (Small.app.2 ⟨Small.app.2 ⟨sa, sb⟩, sc⟩)
  have S4 : Hid (Tr.Small (xs ++ (ys ++ zs))) := Lib.hid (Small.app.2 ⟨sa, Small.app.2 ⟨sb, sc⟩⟩)
  have hc0 : (0 : Int) ≤ (cut : Int) := by omega
  clear ra rb rc sa sb sc xl yl zl ha hb hc la lb lc za zb zc
  go_enter Try.func5, Try.ntmps5
  go_wp2_with fail
  refine (awake_any _).mono ?_
  rintro e w1 ⟨rfl, F⟩
  have FW := Lib.hid F
  obtain ⟨M, hM1, hM2⟩ := hmx
  have d1 : decide (100 < M) = false := by simp; omega
  have d1' : decide ((100 : Int) < (M : Int)) = false := by simp; omega
  clear F hM1
  go_wp2_with fail
  refine (Make_tk (Ra.out.fr0 FW.out) Hc.out.1 Hs.out.1 (by have := HL.out; have := Hl.out; omega)).mono ?_
  rintro e w2 ⟨bt, rfl, T, F⟩
  replace FW := Lib.hid (FW.out.trans0 F)
  have Tt := Lib.hid (T)
  clear F T
  go_wp2_with fail
  refine (Make_tk (Rb.out.fr0 FW.out) Hc.out.2.1 Hs.out.2.1 (by have := HL.out; have := Hl.out; omega)).mono ?_
  rintro e w3 ⟨bu, rfl, T, F⟩
  replace Tt := Lib.hid (Tt.out.fr0 F)
  replace FW := Lib.hid (FW.out.trans0 F)
  have Tu := Lib.hid (T)
  clear F T
  go_wp2_with fail
  refine (Make_tk (Rc.out.fr0 FW.out) Hc.out.2.2 Hs.out.2.2 (by have := HL.out; have := Hl.out; omega)).mono ?_
  rintro e w4 ⟨bv, rfl, T, F⟩
  replace Tt := Lib.hid (Tt.out.fr0 F)
  replace Tu := Lib.hid (Tu.out.fr0 F)
  replace FW := Lib.hid (FW.out.trans0 F)
  have Tv := Lib.hid (T)
  clear F T
  clear d1 d1' hM2
  go_wp2_with fail
  refine (Concat_tk Tt.out Tu.out S1.out (by have := HL.out; have := Hl.out; omega)).mono ?_
  rintro e w5 ⟨btu, rfl, T, F⟩
  replace Tt := Lib.hid (Tt.out.fr0 F)
  replace Tu := Lib.hid (Tu.out.fr0 F)
  replace Tv := Lib.hid (Tv.out.fr0 F)
  replace FW := Lib.hid (FW.out.trans0 F)
  have Ttu := Lib.hid (T)
  clear F T
  go_wp2_with fail
  refine (Concat_tk Tu.out Tv.out S2.out (by have := HL.out; have := Hl.out; omega)).mono ?_
  rintro e w6 ⟨buv, rfl, T, F⟩
  replace Tt := Lib.hid (Tt.out.fr0 F)
  replace Tu := Lib.hid (Tu.out.fr0 F)
  replace Tv := Lib.hid (Tv.out.fr0 F)
  replace Ttu := Lib.hid (Ttu.out.fr0 F)
  replace FW := Lib.hid (FW.out.trans0 F)
  have Tuv := Lib.hid (T)
  clear F T
  go_wp2_with fail
  refine (Concat_tk Ttu.out Tv.out S3.out (by simp only [List.length_append]; have := HL.out; have := Hl.out; omega)).mono ?_
  rintro e w7 ⟨bx, rfl, T, F⟩
  replace Tt := Lib.hid (Tt.out.fr0 F)
  replace Tu := Lib.hid (Tu.out.fr0 F)
  replace Tv := Lib.hid (Tv.out.fr0 F)
  replace Ttu := Lib.hid (Ttu.out.fr0 F)
  replace Tuv := Lib.hid (Tuv.out.fr0 F)
  replace FW := Lib.hid (FW.out.trans0 F)
  have Tx := Lib.hid (T)
  clear F T
  go_wp2_with fail
  refine (Concat_tk Tt.out Tuv.out S4.out (by simp only [List.length_append]; have := HL.out; have := Hl.out; omega)).mono ?_
  rintro e w8 ⟨bY, rfl, T, F⟩
  replace Tt := Lib.hid (Tt.out.fr0 F)
  replace Tu := Lib.hid (Tu.out.fr0 F)
  replace Tv := Lib.hid (Tv.out.fr0 F)
  replace Ttu := Lib.hid (Ttu.out.fr0 F)
  replace Tuv := Lib.hid (Tuv.out.fr0 F)
  replace Tx := Lib.hid (Tx.out.fr0 F)
  replace FW := Lib.hid (FW.out.trans0 F)
  have Ty := Lib.hid (T)
  clear F T
  have hass : xs ++ (ys ++ zs) = xs ++ ys ++ zs := (List.append_assoc _ _ _).symm
  rw [hass] at Ty
  obtain ⟨X, hX⟩ : ∃ X, X = xs ++ ys ++ zs := ⟨_, rfl⟩
  have hXl : X.length = na + nb + nc := by rw [hX]; simp only [List.length_append]; have := Hl.out; omega
  have hX1 : X.take na = xs := by rw [hX, List.append_assoc, ← Hl.out.1, List.take_left]
  have hX2 : X.drop na = ys ++ zs := by rw [hX, List.append_assoc, ← Hl.out.1, List.drop_left]
  have HX := Lib.hid (And.intro hX (And.intro hXl (And.intro hX1 hX2)))
  rw [← hX] at Tx Ty S3
  obtain ⟨N, hN⟩ : ∃ N, N = X.length := ⟨_, rfl⟩
  have hN3 : N ≤ 300 := by rw [hN, hXl]; have := HL.out; omega
  have HN := Lib.hid hN
  clear hass hX hXl hX1 hX2 hN Ttu Tuv S1 S2 S4 Tt Tu Tv
  go_wp2_with fail
  refine (List_tk Tx.out (by have := HN.out; omega)).mono ?_
  rintro e w9 ⟨a9, c9, rfl, R, F⟩
  replace Tx := Lib.hid (Tx.out.fr0 F)
  replace Ty := Lib.hid (Ty.out.fr0 F)
  replace FW := Lib.hid (FW.out.trans0 F)
  have R9 := Lib.hid (R)
  rw [← HN.out] at R9
  rw [← HN.out]
  clear F R
  go_wp2_with fail
  refine (List_tk Ty.out (by have := HN.out; omega)).mono ?_
  rintro e w10 ⟨aa, ca', rfl, R, F⟩
  replace Tx := Lib.hid (Tx.out.fr0 F)
  replace Ty := Lib.hid (Ty.out.fr0 F)
  replace R9 := Lib.hid (R9.out.fr0 F)
  replace FW := Lib.hid (FW.out.trans0 F)
  have RA := Lib.hid (R)
  rw [← HN.out] at RA
  rw [← HN.out]
  clear F R
  go_wp2_with fail
  refine (Equal_tk R9.out RA.out).mono ?_
  rintro e w11 ⟨rfl, F⟩
  replace Tx := Lib.hid (Tx.out.fr0 F)
  replace Ty := Lib.hid (Ty.out.fr0 F)
  replace R9 := Lib.hid (R9.out.fr0 F)
  replace RA := Lib.hid (RA.out.fr0 F)
  replace FW := Lib.hid (FW.out.trans0 F)
  clear F
  clear R9 RA Ty
  have A0 : Fr F0 w11 (w11.alloc (.cells #[.slice a na ca, .slice b nb cb, .slice c nc cc] 22)) := (Fr.refl _ _).alloc _
  have RL : Rd (w11.alloc (.cells #[.slice a na ca, .slice b nb cb, .slice c nc cc] 22)) (some ⟨w11.heap.size, 0, none⟩) 3 (List.map SlI.val [⟨a, na, ca, xs⟩, ⟨b, nb, cb, ys⟩, ⟨c, nc, cc, zs⟩]) := (Own.lit (w := w11) (B := 0) (T := 22) (List.map SlI.val [⟨a, na, ca, xs⟩, ⟨b, nb, cb, ys⟩, ⟨c, nc, cc, zs⟩]) 3 rfl (Nat.zero_le _) (by omega)).rd
  have ecat : cat [⟨a, na, ca, xs⟩, ⟨b, nb, cb, ys⟩, ⟨c, nc, cc, zs⟩] = X := by simp [cat, HX.out.1]
  have hcat := SConcat_any (ck := 3) RL (fun r hr => by
    simp only [List.mem_cons, List.not_mem_nil, or_false] at hr
    rcases hr with rfl | rfl | rfl
    · exact (Ra.out.fr0 FW.out).fr0 A0
    · exact (Rb.out.fr0 FW.out).fr0 A0
    · exact (Rc.out.fr0 FW.out).fr0 A0
    ) (by rw [ecat]; have := HN.out; omega)
  rw [ecat] at hcat
  have Hcat := Lib.hid hcat
  replace Tx := Lib.hid (Tx.out.fr0 A0)
  replace FW := Lib.hid (FW.out.trans0 A0)
  clear A0 RL ecat hcat
  go_wp2_with fail
  refine (Hcat.out).mono ?_
  rintro e w12 ⟨aS, mS, cS, hmS, rfl, O, F⟩
  replace Tx := Lib.hid (Tx.out.fr0 F)
  replace FW := Lib.hid (FW.out.trans0 F)
  have RS := Lib.hid (O.rd)
  have HmS := Lib.hid hmS
  clear hmS Hcat O
  clear F 
  go_wp2_with fail
  refine (is_tk Tx.out (by have := HmS.out; have := HN.out; omega) RS.out).mono ?_
  rintro e w13 ⟨rfl, F⟩
  replace Tx := Lib.hid (Tx.out.fr0 F)
  replace RS := Lib.hid (RS.out.fr0 F)
  replace FW := Lib.hid (FW.out.trans0 F)
  clear F
  clear RS HmS
  go_wp2_with fail
  refine (Split_tk Tx.out S3.out (by have := HN.out; omega) (i := na) (by rw [HX.out.2.1]; omega)).mono ?_
  rintro e w14 ⟨bl, br, rfl, T, T', F⟩
  replace Tx := Lib.hid (Tx.out.fr0 F)
  replace FW := Lib.hid (FW.out.trans0 F)
  have Tl := Lib.hid (T)
  have Tr := Lib.hid (T')
  clear F T
  clear T'
  rw [HX.out.2.2.1] at Tl
  rw [HX.out.2.2.2] at Tr
  go_wp2_with fail
  refine (is_tk Tl.out (by have := HL.out; omega) (Ra.out.fr0 FW.out)).mono ?_
  rintro e w15 ⟨rfl, F⟩
  replace Tx := Lib.hid (Tx.out.fr0 F)
  replace Tl := Lib.hid (Tl.out.fr0 F)
  replace Tr := Lib.hid (Tr.out.fr0 F)
  replace FW := Lib.hid (FW.out.trans0 F)
  clear F
  clear Tl
  have A0 : Fr F0 w15 (w15.alloc (.cells #[.slice b nb cb, .slice c nc cc] 22)) := (Fr.refl _ _).alloc _
  have RL : Rd (w15.alloc (.cells #[.slice b nb cb, .slice c nc cc] 22)) (some ⟨w15.heap.size, 0, none⟩) 2 (List.map SlI.val [⟨b, nb, cb, ys⟩, ⟨c, nc, cc, zs⟩]) := (Own.lit (w := w15) (B := 0) (T := 22) (List.map SlI.val [⟨b, nb, cb, ys⟩, ⟨c, nc, cc, zs⟩]) 2 rfl (Nat.zero_le _) (by omega)).rd
  have ecat : cat [⟨b, nb, cb, ys⟩, ⟨c, nc, cc, zs⟩] = ys ++ zs := by simp [cat]
  have hcat := SConcat_any (ck := 2) RL (fun r hr => by
    simp only [List.mem_cons, List.not_mem_nil, or_false] at hr
    rcases hr with rfl | rfl
    · exact (Rb.out.fr0 FW.out).fr0 A0
    · exact (Rc.out.fr0 FW.out).fr0 A0
    ) (by rw [ecat]; simp only [List.length_append]; have := Hl.out; have := HL.out; omega)
  rw [ecat] at hcat
  have Hcat := Lib.hid hcat
  replace Tx := Lib.hid (Tx.out.fr0 A0)
  replace Tr := Lib.hid (Tr.out.fr0 A0)
  replace FW := Lib.hid (FW.out.trans0 A0)
  clear A0 RL ecat hcat
  go_wp2_with fail
  refine (Hcat.out).mono ?_
  rintro e w16 ⟨aS, mS, cS, hmS, rfl, O, F⟩
  replace Tx := Lib.hid (Tx.out.fr0 F)
  replace Tr := Lib.hid (Tr.out.fr0 F)
  replace FW := Lib.hid (FW.out.trans0 F)
  have RS := Lib.hid (O.rd)
  have HmS := Lib.hid hmS
  clear hmS Hcat O
  clear F 
  go_wp2_with fail
  refine (is_tk Tr.out (by have := HmS.out; simp only [List.length_append] at this; have := Hl.out; have := HL.out; omega) RS.out).mono ?_
  rintro e w17 ⟨rfl, F⟩
  replace Tx := Lib.hid (Tx.out.fr0 F)
  replace Tr := Lib.hid (Tr.out.fr0 F)
  replace RS := Lib.hid (RS.out.fr0 F)
  replace FW := Lib.hid (FW.out.trans0 F)
  clear F
  clear RS HmS Tr
  obtain ⟨j, hj⟩ : ∃ j, j = cut % (N + 1) := ⟨_, rfl⟩
  have hjN : j ≤ N := by rw [hj]; have := Nat.mod_lt cut (show 0 < N + 1 by omega); omega
  have m1 : (cut : Int) % ((N : Int) + 1) = (j : Int) := by rw [hj]; simp
  have m2 : Int.tmod (cut : Int) ((N : Int) + 1) = (j : Int) := by rw [Int.tmod_eq_emod_of_nonneg (by omega)]; exact m1
  have m3 : (((N : Int) + 1) == 0) = false := by simp; omega
  have Hj := Lib.hid hjN
  clear hj hjN
  go_wp2_with fail
  have hLn := Len_tk Tx.out
  rw [← HN.out] at hLn
  refine hLn.mono ?_; rintro e w99 ⟨rfl, rfl⟩
  go_wp2_with fail
  refine (Split_tk Tx.out S3.out (by have := HN.out; omega) (i := j) (by have := HN.out; have := Hj.out; omega)).mono ?_
  rintro e w18 ⟨bp, bq, rfl, T, T', F⟩
  replace Tx := Lib.hid (Tx.out.fr0 F)
  replace FW := Lib.hid (FW.out.trans0 F)
  have Tp := Lib.hid (T)
  have Tq := Lib.hid (T')
  clear F T
  clear T'
  go_wp2_with fail
  refine (Concat_tk Tp.out Tq.out (by rw [List.take_append_drop]; exact S3.out) (by rw [List.length_take, List.length_drop]; have := HN.out; omega)).mono ?_
  rintro e w19 ⟨bz, rfl, T, F⟩
  replace Tx := Lib.hid (Tx.out.fr0 F)
  replace Tp := Lib.hid (Tp.out.fr0 F)
  replace Tq := Lib.hid (Tq.out.fr0 F)
  replace FW := Lib.hid (FW.out.trans0 F)
  have Tz := Lib.hid (T)
  clear F T
  rw [List.take_append_drop] at Tz
  clear Tp Tq
  go_wp2_with fail
  refine (List_tk Tz.out (by have := HN.out; omega)).mono ?_
  rintro e w20 ⟨a9, c9, rfl, R, F⟩
  replace Tx := Lib.hid (Tx.out.fr0 F)
  replace Tz := Lib.hid (Tz.out.fr0 F)
  replace FW := Lib.hid (FW.out.trans0 F)
  have R9 := Lib.hid (R)
  rw [← HN.out] at R9
  rw [← HN.out]
  clear F R
  go_wp2_with fail
  refine (List_tk Tx.out (by have := HN.out; omega)).mono ?_
  rintro e w21 ⟨aa, ca', rfl, R, F⟩
  replace Tx := Lib.hid (Tx.out.fr0 F)
  replace Tz := Lib.hid (Tz.out.fr0 F)
  replace R9 := Lib.hid (R9.out.fr0 F)
  replace FW := Lib.hid (FW.out.trans0 F)
  have RA := Lib.hid (R)
  rw [← HN.out] at RA
  rw [← HN.out]
  clear F R
  go_wp2_with fail
  refine (Equal_tk R9.out RA.out).mono ?_
  rintro e w22 ⟨rfl, F⟩
  replace Tx := Lib.hid (Tx.out.fr0 F)
  replace Tz := Lib.hid (Tz.out.fr0 F)
  replace R9 := Lib.hid (R9.out.fr0 F)
  replace RA := Lib.hid (RA.out.fr0 F)
  replace FW := Lib.hid (FW.out.trans0 F)
  clear F
  go_wp2_with fail
  go_ret
  exact ⟨rfl, FW.out⟩
theorem max3big {x y z : Nat} (h : 100 < x ∨ 100 < y ∨ 100 < z) : ∃ M : Nat, 100 < M ∧ ∀ (ts : Array TypeId) (t : TypeId) (w : World), (Builtin.max_ ts t #[.int .i64 (x : Int), .int .i64 (y : Int), .int .i64 (z : Int)]).run Try.prog w = .ok (.int .i64 (M : Int)) w := by
  refine ⟨max (max x y) z, by omega, fun ts t w => ?_⟩
  simp [Builtin.max_, Builtin.max2]
  by_cases h4 : x < y
  · rw [if_pos h4]; split <;> omega
  · rw [if_neg h4]; split <;> omega
set_option maxRecDepth 100000 in
theorem Splits_big {a b c : Option Addr} {na nb nc ca cb cc : Nat} {cut : Nat} {w : World} (h : 100 < na ∨ 100 < nb ∨ 100 < nc) :
    Calls Try.prog 5 #[.slice a na ca, .slice b nb cb, .slice c nc cc, .int .u8 cut] w fun e w' => e = .returned (.bool true) ∧ Fr F0 w w' := by
  obtain ⟨M, hM1, hM2⟩ := max3big h
  have d1 : decide ((100 : Int) < (M : Int)) = true := by simp; omega
  clear h
  go_enter Try.func5, Try.ntmps5
  go_wp2_with fail
  refine (awake_any _).mono ?_
  rintro e w1 ⟨rfl, F1⟩
  replace F1 := Lib.hid F1
  go_wp2_with fail
  refine (awake_any _).mono ?_
  rintro e w2 ⟨rfl, F2⟩
  replace F2 := Lib.hid (F1.out.trans0 F2)
  go_wp2_with fail
  go_ret
  exact ⟨rfl, F2.out⟩
set_option maxRecDepth 100000 in
set_option maxHeartbeats 4000000 in
theorem Splits_bad {a b c : Option Addr} {na nb nc ca cb cc : Nat} {xs ys zs : List Int} {cut : Nat} {w : World} (ra : Rd w a na (ints xs)) (rb : Rd w b nb (ints ys)) (rc : Rd w c nc (ints zs)) (ha : na ≤ ca) (hb : nb ≤ cb) (hc : nc ≤ cc)
    (la : na ≤ 100) (lb : nb ≤ 100) (lc : nc ≤ 100) (hz : madeI xs ≠ 0 ∨ madeI ys ≠ 0 ∨ madeI zs ≠ 0) :
    Calls Try.prog 5 #[.slice a na ca, .slice b nb cb, .slice c nc cc, .int .u8 cut] w fun e w' => e = .returned (.bool true) ∧ Fr F0 w w' := by
  have Ra := Lib.hid ra
  have Rb := Lib.hid rb
  have Rc := Lib.hid rc
  have Hc := Lib.hid (And.intro ha (And.intro hb hc))
  have hmx := max3 la lb lc
  have HA := Lib.hid (fun (W : World) (f : Fr F0 w W) => Make_gen (Ra.out.fr0 f) ha)
  have HB := Lib.hid (fun (W : World) (f : Fr F0 w W) => Make_gen (Rb.out.fr0 f) hb)
  have HC := Lib.hid (fun (W : World) (f : Fr F0 w W) => Make_gen (Rc.out.fr0 f) hc)
  generalize madeI xs = Ea at *
  generalize madeI ys = Eb at *
  generalize madeI zs = Ec at *
  clear ra rb rc ha hb hc la lb lc
  go_enter Try.func5, Try.ntmps5
  go_wp2_with fail
  refine (awake_any _).mono ?_
  rintro e w1 ⟨rfl, F1⟩
  replace F1 := Lib.hid F1
  obtain ⟨M, hM1, hM2⟩ := hmx
  have d1 : decide (100 < M) = false := by simp; omega
  have d1' : decide ((100 : Int) < (M : Int)) = false := by simp; omega
  clear hM1
  go_wp2_with fail
  refine (HA.out _ F1.out).mono ?_
  rintro e w2 ⟨pa, rfl, hpa, F2⟩
  replace F2 := Lib.hid (F1.out.trans0 F2)
  clear d1 d1' hM2 F1
  go_wp2_with fail
  refine (HB.out _ F2.out).mono ?_
  rintro e w3 ⟨pb, rfl, _, F3⟩
  replace F3 := Lib.hid (F2.out.trans0 F3)
  clear F2
  go_wp2_with fail
  refine (HC.out _ F3.out).mono ?_
  rintro e w4 ⟨pc, rfl, _, F4⟩
  replace F4 := Lib.hid (F3.out.trans0 F4)
  clear F3
  by_cases hEa : Ea = 0
  · subst hEa
    clear hpa
    by_cases hEb : Eb = 0
    · subst hEb
      have hEc : (Ec == 0) = false := by rcases hz with h | h | h; exact absurd rfl h; exact absurd rfl h; simpa using h
      clear hz
      go_wp2_with fail
      go_ret
      exact ⟨rfl, F4.out⟩
    · have hEc : (Eb == 0) = false := by simpa using hEb
      clear hz
      go_wp2_with fail
      go_ret
      exact ⟨rfl, F4.out⟩
  · obtain rfl := hpa hEa
    have hEc : (Ea == 0) = false := by simpa using hEa
    clear hz hpa
    go_wp2_with fail
    go_ret
    exact ⟨rfl, F4.out⟩
theorem Splits_law (a : Option Addr) (na ca : Nat) (xs : List Int) (b : Option Addr) (nb cb : Nat) (ys : List Int) (c : Option Addr) (nc cc : Nat) (zs : List Int) (cut : Int) (w : World) (h1 : ArgSl w a na ca xs) (h2 : ArgSl w b nb cb ys) (h3 : ArgSl w c nc cc zs) (h5 : (Lit.int .u8 cut).wf = true) :
    Calls Try.prog 5 #[.slice a na ca, .slice b nb cb, .slice c nc cc, .int .u8 cut] w fun e w' => e = .returned (.bool true) ∧ Fr F0 w w' := by
  have h4 : 0 ≤ cut ∧ cut ≤ 255 := by
    simp only [Lit.wf, Bool.and_eq_true, decide_eq_true_eq] at h5
    have e1 : IntKind.u8.min = 0 := by decide
    have e2 : IntKind.u8.max = 255 := by decide
    rw [e1, e2] at h5
    exact h5
  obtain ⟨k, rfl⟩ := Int.eq_ofNat_of_zero_le h4.1
  by_cases hbig : 100 < na ∨ 100 < nb ∨ 100 < nc
  · exact Splits_big hbig
  · by_cases hz : madeI xs ≠ 0 ∨ madeI ys ≠ 0 ∨ madeI zs ≠ 0
    · exact Splits_bad h1.rd h2.rd h3.rd h1.cap h2.cap h3.cap (by omega) (by omega) (by omega) hz
    · have z1 : madeI xs = 0 := by
        by_cases h : madeI xs = 0
        · exact h
        · exact absurd (.inl h) hz
      have z2 : madeI ys = 0 := by
        by_cases h : madeI ys = 0
        · exact h
        · exact absurd (.inr (.inl h)) hz
      have z3 : madeI zs = 0 := by
        by_cases h : madeI zs = 0
        · exact h
        · exact absurd (.inr (.inr h)) hz
      exact Splits_main h1.rd h2.rd h3.rd h1.cap h2.cap h3.cap (by omega) (by omega) (by omega) z1 z2 z3 (by omega)
end Go.Proofs.Ytdihajeccjdhkaa
