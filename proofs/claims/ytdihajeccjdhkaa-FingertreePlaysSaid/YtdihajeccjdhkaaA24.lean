/- A step that pushes. -/
import Derived.Test.YtdihajeccjdhkaaA23
namespace Go.Proofs.Ytdihajeccjdhkaa
open Go.RowKit
attribute [local go_sem ↓] Go.wp_at_zero Go.wp_at_succ
theorem small_one {x : Int} (h : keyB x = true) : Tr.Small [x] := by
  intro y hy
  rw [List.mem_singleton] at hy
  subst hy
  exact (keyB_iff y).1 h
set_option maxRecDepth 100000 in
set_option maxHeartbeats 16000000 in
theorem do_push0_k {w : World} {bx K : Nat} {L : List Ent} {t : Option Addr} {ct : Nat} {l : Option Addr} {cl k : Nat} (H : XS w bx K L t ct l cl k) (hK : K ≤ 1000) (hk : k ≤ 1000) (hk0 : 0 < k) {I X : Int} {A B : Nat} (hA : A ≤ 255) (hB : B ≤ 255) (hX : keyB X = true) :
    Calls Try.prog 34 #[.pointer (some ⟨bx, 0, none⟩), .agg #[.int .i64 0, .int .u8 A, .int .u8 B, .int .i64 I, .int .i64 X]] w (XPost w bx (K + 1) L t l (fun M => M.length ≤ 2)) := by
  obtain ⟨i, hi⟩ : ∃ i, i = A % k := ⟨_, rfl⟩
  obtain ⟨j, hj⟩ : ∃ i, i = B % k := ⟨_, rfl⟩
  have ma : (A : Int) % (k : Int) = (i : Int) := by rw [hi]; simp
  have mb : (B : Int) % (k : Int) = (j : Int) := by rw [hj]; simp
  have ta : Int.tmod (A : Int) (k : Int) = (i : Int) := by rw [Int.tmod_eq_emod_of_nonneg (by omega)]; exact ma
  have tb : Int.tmod (B : Int) (k : Int) = (j : Int) := by rw [Int.tmod_eq_emod_of_nonneg (by omega)]; exact mb
  have hik : i < k := by rw [hi]; exact Nat.mod_lt _ hk0
  have hjk : j < k := by rw [hj]; exact Nat.mod_lt _ hk0
  have m0 : ¬ ((k : Int) = 0) := by omega
  have ca : IntKind.i64.wrap (A : Int) = (A : Int) := wI2 (by omega) (by omega)
  have cb : IntKind.i64.wrap (B : Int) = (B : Int) := wI2 (by omega) (by omega)
  have ca' : IntKind.i64.wrap (i : Int) = (i : Int) := wI2 (by omega) (by omega)
  have cb' : IntKind.i64.wrap (j : Int) = (j : Int) := wI2 (by omega) (by omega)
  obtain ⟨gt, rfl, gt1, gt2, tcell, _⟩ := H.ot.at hk0
  obtain ⟨gl, rfl, gl1, gl2, lcell, _⟩ := H.ol.at hk0
  obtain ⟨⟨pi, ri⟩, hei⟩ : ∃ e, L[i]? = some e := ⟨_, List.getElem?_eq_getElem (by rw [H.len]; exact hik)⟩
  obtain ⟨⟨pj, rj⟩, hej⟩ : ∃ e, L[j]? = some e := ⟨_, List.getElem?_eq_getElem (by rw [H.len]; exact hjk)⟩
  have ei := H.all _ (List.mem_of_getElem? hei)
  have ej := H.all _ (List.mem_of_getElem? hej)
  obtain ⟨bi, hbi⟩ := ei.t.now.nn
  obtain ⟨bj, hbj⟩ := ej.t.now.nn
  have hbi' : pi = some ⟨bi, 0, none⟩ := hbi
  have hbj' : pj = some ⟨bj, 0, none⟩ := hbj
  subst hbi' hbj'
  obtain ⟨ai, ni, ci, xi⟩ := ri
  obtain ⟨aj, nj, cj, xj⟩ := rj
  have c0 : w.cell? ⟨bx, 0, none⟩ = some (.slice (some ⟨gt, 0, none⟩) k ct) := H.blk.cell rfl
  have c1 : w.cell? ⟨bx, 1, none⟩ = some (.slice (some ⟨gl, 0, none⟩) k cl) := H.blk.cell rfl
  have ti : w.cell? ⟨gt, i, none⟩ = some (.pointer (some ⟨bi, 0, none⟩)) := tcell i _ (by rw [List.getElem?_map, hei]; rfl)
  have tj : w.cell? ⟨gt, j, none⟩ = some (.pointer (some ⟨bj, 0, none⟩)) := tcell j _ (by rw [List.getElem?_map, hej]; rfl)
  have li : w.cell? ⟨gl, i, none⟩ = some (.slice ai ni ci) := lcell i _ (by rw [List.getElem?_map, hei]; rfl)
  have lj : w.cell? ⟨gl, j, none⟩ = some (.slice aj nj cj) := lcell j _ (by rw [List.getElem?_map, hej]; rfl)
  have HH := Lib.hid H
  have Ei := Lib.hid ei
  have Ej := Lib.hid ej
  have HK := Lib.hid (And.intro hK hk)
  have i0 : (0 : Int) ≤ (i : Int) := by omega
  have i1 : (i : Int) < (k : Int) := by omega
  have j0 : (0 : Int) ≤ (j : Int) := by omega
  have j1 : (j : Int) < (k : Int) := by omega
  obtain ⟨W1, hW1⟩ : ∃ W, W = w.alloc (.cells #[.int .i64 0, .int .u8 A, .int .u8 B, .int .i64 I, .int .i64 X] 59) := ⟨_, rfl⟩
  obtain ⟨sb, hsb⟩ : ∃ s, s = w.heap.size := ⟨_, rfl⟩
  have F1 : Fr F0 w W1 := by rw [hW1]; exact (Fr.refl _ _).alloc _
  have sB : Blk W1 sb 59 [.int .i64 0, .int .u8 A, .int .u8 B, .int .i64 I, .int .i64 X] := by rw [hW1, hsb]; exact Blk.new w 59 _
  have s0 : W1.cell? ⟨sb, 0, none⟩ = some (.int .i64 0) := sB.cell rfl
  have s1 : W1.cell? ⟨sb, 1, none⟩ = some (.int .u8 A) := sB.cell rfl
  have s2 : W1.cell? ⟨sb, 2, none⟩ = some (.int .u8 B) := sB.cell rfl
  have s3 : W1.cell? ⟨sb, 3, none⟩ = some (.int .i64 I) := sB.cell rfl
  have s4 : W1.cell? ⟨sb, 4, none⟩ = some (.int .i64 X) := sB.cell rfl
  replace c0 := F1.cell c0 id
  replace c1 := F1.cell c1 id
  replace ti := F1.cell ti id
  replace tj := F1.cell tj id
  replace li := F1.cell li id
  replace lj := F1.cell lj id
  have FW := Lib.hid F1
  clear H hi hj ei ej hei hej tcell lcell hbi hbj hK hk sB F1 gt1 gt2 gl1 gl2
  have HX := Lib.hid hX
  clear hX
  go_enter Try.func34, Try.ntmps34
  go_wp2_with fail
  rw [← hW1, ← hsb]
  have Hsb := Lib.hid hsb
  clear hW1 hsb
  go_quiet (fail)
  have F2 : Fr F0 W1 (W1.drewN nq) := (Fr.refl _ _).drewN _
  replace s0 := F2.cell s0 id
  replace s1 := F2.cell s1 id
  replace s2 := F2.cell s2 id
  replace s3 := F2.cell s3 id
  replace s4 := F2.cell s4 id
  replace c0 := F2.cell c0 id
  replace c1 := F2.cell c1 id
  replace ti := F2.cell ti id
  replace tj := F2.cell tj id
  replace li := F2.cell li id
  replace lj := F2.cell lj id
  replace FW := Lib.hid (FW.out.trans0 F2)
  clear F2 ma mb ta tb m0 ca cb ca' cb' hik hjk
  generalize W1.drewN nq = WQ at *
  go_wp2_with fail
  go_quiet (fail)
  have F2 : Fr F0 WQ (WQ.drewN nq) := (Fr.refl _ _).drewN _
  replace s0 := F2.cell s0 id
  replace s1 := F2.cell s1 id
  replace s2 := F2.cell s2 id
  replace s3 := F2.cell s3 id
  replace s4 := F2.cell s4 id
  replace c0 := F2.cell c0 id
  replace c1 := F2.cell c1 id
  replace ti := F2.cell ti id
  replace tj := F2.cell tj id
  replace li := F2.cell li id
  replace lj := F2.cell lj id
  replace FW := Lib.hid (FW.out.trans0 F2)
  clear F2 i0 i1 ti li c0 c1 j0 j1 tj lj
  generalize WQ.drewN nq = W2 at *
  have Si := Lib.hid (show Tr.Small xi from Ei.out.s)
  have Ci := Lib.hid (show ni ≤ ci from Ei.out.c)
  have Ki := Lib.hid (show ni ≤ K from Ei.out.k)
  have Xl := Lib.hid (show xi.length = ni by have := Ei.out.r.now.len; simpa using this)
  have Ri := Lib.hid (fun (W : World) (f : Fr F0 w W) => show Rd W ai ni (ints xi) from Ei.out.r.now.fr0 f)
  have Ti := Lib.hid (fun (W : World) (f : Fr F0 w W) => show TK W xi (some ⟨bi, 0, none⟩) from Ei.out.t.now.fr0 f)
  have RSi := Lib.hid (show RdS _ w ai ni xi from Ei.out.r)
  go_wp2_with fail
  refine (PushBack_tk (Ti.out _ FW.out) Si.out (by have := Xl.out; have := Ki.out; have := HK.out; omega) HX.out).mono ?_
  rintro e w3 ⟨b1, rfl, T1, F⟩
  have T := Lib.hid T1
  replace FW := Lib.hid (FW.out.trans0 F)
  replace s0 := F.cell s0 id
  replace s1 := F.cell s1 id
  replace s2 := F.cell s2 id
  replace s3 := F.cell s3 id
  replace s4 := F.cell s4 id
  clear F T1
  go_wp2_with fail
  have HC := Lib.hid (fun (W : World) (f : Fr F0 w3 W) => ((Clone_all ((Ri.out _ FW.out).fr0 f) (by have := Ki.out; have := HK.out; omega)).mono (fun e w' h => (by obtain ⟨a', c', h1, h2, h3⟩ := h; exact ⟨a', c', h1, h2.mono f.size, f.trans0 h3, h3⟩)) : Calls Try.prog 52 #[.slice ai ni ci] W (fun e w' => ∃ a' c', e = .returned (.slice a' ni c') ∧ Own w' w3.heap.size 3 a' ni c' (ints xi) ∧ Fr F0 w3 w' ∧ Fr F0 W w')))
  have RX := Lib.hid (fun (W : World) (f : Fr F0 (w3.alloc (.cells #[.int .i64 X] 3)) W) => ((Own.lit (w := w3) (B := 0) (T := 3) (ints [X]) 1 rfl (Nat.zero_le _) (by omega)).rd.fr0 f : Rd W (some ⟨w3.heap.size, 0, none⟩) 1 (ints [X])))
  have KN : ni ≤ 1000 := by have := Ki.out; have := HK.out; omega
  have Hh : w3.drew.cell? ⟨sb, 4, none⟩ = some (.int .i64 X) := s4
  go_region_held3 (fun w' => w'.cell? ⟨sb, 4, none⟩ = some (.int .i64 X)) (go_keep)
    (first | (go_at_call 52; (with_reducible refine (HC.out _ (by repeat (first | exact Fr.refl _ _ | refine Fr.drew ?_ | refine Fr.alloc ?_ _))).mono ?_); rintro e wc ⟨ac, cc, rfl, Oc', Fc', Gc'⟩; have k4 := Fc'.cell s4 id; (first | have RXa := Lib.hid (RX.out wc ((Fr.refl _ _).drew.trans0 Gc')) | have RXa := Lib.hid (RX.out wc Gc') | skip); have Oc := Lib.hid Oc'; have Fc := Lib.hid Fc'; have OcB := Lib.hid (Oc'.alloc (.cells #[.int .i64 X] 3)); have RXb : Hid (Rd (wc.alloc (.cells #[.int .i64 X] 3)) (some ⟨wc.heap.size, 0, none⟩) 1 (ints [X])) := Lib.hid (Own.rd (Own.lit (w := wc) (B := 0) (T := 3) (ints [X]) 1 rfl (Nat.zero_le _) (by omega))); have FcB := Lib.hid (Fc'.alloc (.cells #[.int .i64 X] 3)); clear Oc' Fc' Gc') | (refine stepAppRd E3 (by rfl) (by rfl) (by rfl) (by rfl) OcB.out RXb.out (oneCell_ints _) (by omega) (by omega) FcB.out.size (ni + 1) rfl ?_; intro a6 c6 w6 own6 fr6 at6; have G6 := Lib.hid (FcB.out.trans fr6 (fun k hk hs => absurd (OcB.out.blk _ hs).1 (by omega))); have k6 := G6.out.cell s4 id; replace own6 := Lib.hid own6; clear fr6 at6) | (refine stepAppRd E3 (by rfl) (by rfl) (by rfl) (by rfl) Oc.out RXa.out (oneCell_ints _) (by omega) (by omega) Fc.out.size (ni + 1) rfl ?_; intro a6 c6 w6 own6 fr6 at6; have G6 := Lib.hid (Fc.out.trans fr6 (fun k hk hs => absurd (Oc.out.blk _ hs).1 (by omega))); have k6 := G6.out.cell s4 id; replace own6 := Lib.hid own6; clear fr6 at6) | fail)
  all_goals
    clear RX HC Hh
    have F6 := Lib.hid (FW.out.trans0 G6.out)
    have O6 : Hid (Own w6 w3.heap.size 3 a6 (ni + 1) c6 (ints (xi ++ [X]))) := Lib.hid (by have h := own6.out; simpa [ints] using h)
    have hsz : Hid (w.heap.size ≤ w3.heap.size) := Lib.hid FW.out.size
    have qs0 := G6.out.cell s0 id
    have qs1 := G6.out.cell s1 id
    have qs2 := G6.out.cell s2 id
    have qs3 := G6.out.cell s3 id
    have qs4 := G6.out.cell s4 id
    have T6 := Lib.hid (T.out.fr0 G6.out)
    clear own6 G6 k6 FW s0 s1 s2 s3 s4 T
    go_wp2_with fail
    refine (PushFront_tk (Ti.out _ F6.out) Si.out (by have := Xl.out; have := Ki.out; have := HK.out; omega) HX.out).mono ?_
    rintro e w7 ⟨b2, rfl, T7, F⟩
    replace T6 := Lib.hid T7
    replace F6 := Lib.hid (F6.out.trans0 F)
    replace qs0 := F.cell qs0 id
    replace qs1 := F.cell qs1 id
    replace qs2 := F.cell qs2 id
    replace qs3 := F.cell qs3 id
    replace qs4 := F.cell qs4 id
    clear F T7 O6
    have OL : Hid (Own (w7.alloc (.cells #[.int .i64 X] 3)) w7.heap.size 3 (some ⟨w7.heap.size, 0, none⟩) 1 1 (ints [X])) := Lib.hid (Own.lit (w := w7) (B := w7.heap.size) (T := 3) (ints [X]) 1 rfl (Nat.le_refl _) (by omega))
    have A7 : Fr F0 w7 (w7.alloc (.cells #[.int .i64 X] 3)) := (Fr.refl _ _).alloc _
    have RL := Lib.hid ((Ri.out _ F6.out).fr0 A7)
    have HA7 := Lib.hid A7
    have e1 : 1 + ni = ni + 1 := by omega
    clear A7
    go_wp2_with (at_builtin; refine wpAppRd E3 OL.out RL.out (oneCell_ints _) (by omega) (by omega) (by simp) (ni + 1) e1 rfl rfl ?_; intro a8 c8 w8 own8 fr8 at8; have G8 := Lib.hid (HA7.out.trans fr8 (fun k hk hs => absurd (OL.out.blk _ hs).1 (by omega))); have zs0 := G8.out.cell qs0 id; have zs1 := G8.out.cell qs1 id; have zs2 := G8.out.cell qs2 id; have zs3 := G8.out.cell qs3 id; have zs4 := G8.out.cell qs4 id; replace own8 := Lib.hid own8; clear fr8 at8)
    have O8 : Hid (Own w8 w7.heap.size 3 a8 (ni + 1) c8 (ints (X :: xi))) := Lib.hid (by have h := own8.out; simpa [ints] using h)
    have hsz8 : Hid (w.heap.size ≤ w7.heap.size) := Lib.hid F6.out.size
    replace F6 := Lib.hid (F6.out.trans0 G8.out)
    replace T6 := Lib.hid (T6.out.fr0 G8.out)
    clear own8 G8 OL RL HA7
    have hky := Key_any X w8
    rw [HX.out] at hky
    refine hky.mono ?_; rintro e w9 ⟨rfl, rfl⟩
    have hx1 : Tr.Small (X :: xi) := by rw [Small.cons]; exact ⟨(keyB_iff X).1 HX.out, Si.out⟩
    have hadd := Lib.hid (add_at (r := ⟨a8, ni + 1, c8, X :: xi⟩) HH.out F6.out T6.out (EOk.new HH.out F6.out T6.out O8.out hsz8.out hx1 (by have := Ki.out; omega)) HK.out.1 HK.out.2)
    go_wp2_with fail
    refine hadd.out.mono ?_
    rintro e wZ ⟨rfl, R⟩
    replace R := Lib.hid R
    go_wp2_with fail
    go_ret
    exact ⟨rfl, R.out⟩
set_option maxRecDepth 100000 in
set_option maxHeartbeats 16000000 in
theorem do_push0_b {w : World} {bx K : Nat} {L : List Ent} {t : Option Addr} {ct : Nat} {l : Option Addr} {cl k : Nat} (H : XS w bx K L t ct l cl k) (hK : K ≤ 1000) (hk : k ≤ 1000) (hk0 : 0 < k) {I X : Int} {A B : Nat} (hA : A ≤ 255) (hB : B ≤ 255) (hX : keyB X = false) :
    Calls Try.prog 34 #[.pointer (some ⟨bx, 0, none⟩), .agg #[.int .i64 0, .int .u8 A, .int .u8 B, .int .i64 I, .int .i64 X]] w (XPost w bx (K + 1) L t l (fun M => M.length ≤ 2)) := by
  obtain ⟨i, hi⟩ : ∃ i, i = A % k := ⟨_, rfl⟩
  obtain ⟨j, hj⟩ : ∃ i, i = B % k := ⟨_, rfl⟩
  have ma : (A : Int) % (k : Int) = (i : Int) := by rw [hi]; simp
  have mb : (B : Int) % (k : Int) = (j : Int) := by rw [hj]; simp
  have ta : Int.tmod (A : Int) (k : Int) = (i : Int) := by rw [Int.tmod_eq_emod_of_nonneg (by omega)]; exact ma
  have tb : Int.tmod (B : Int) (k : Int) = (j : Int) := by rw [Int.tmod_eq_emod_of_nonneg (by omega)]; exact mb
  have hik : i < k := by rw [hi]; exact Nat.mod_lt _ hk0
  have hjk : j < k := by rw [hj]; exact Nat.mod_lt _ hk0
  have m0 : ¬ ((k : Int) = 0) := by omega
  have ca : IntKind.i64.wrap (A : Int) = (A : Int) := wI2 (by omega) (by omega)
  have cb : IntKind.i64.wrap (B : Int) = (B : Int) := wI2 (by omega) (by omega)
  have ca' : IntKind.i64.wrap (i : Int) = (i : Int) := wI2 (by omega) (by omega)
  have cb' : IntKind.i64.wrap (j : Int) = (j : Int) := wI2 (by omega) (by omega)
  obtain ⟨gt, rfl, gt1, gt2, tcell, _⟩ := H.ot.at hk0
  obtain ⟨gl, rfl, gl1, gl2, lcell, _⟩ := H.ol.at hk0
  obtain ⟨⟨pi, ri⟩, hei⟩ : ∃ e, L[i]? = some e := ⟨_, List.getElem?_eq_getElem (by rw [H.len]; exact hik)⟩
  obtain ⟨⟨pj, rj⟩, hej⟩ : ∃ e, L[j]? = some e := ⟨_, List.getElem?_eq_getElem (by rw [H.len]; exact hjk)⟩
  have ei := H.all _ (List.mem_of_getElem? hei)
  have ej := H.all _ (List.mem_of_getElem? hej)
  obtain ⟨bi, hbi⟩ := ei.t.now.nn
  obtain ⟨bj, hbj⟩ := ej.t.now.nn
  have hbi' : pi = some ⟨bi, 0, none⟩ := hbi
  have hbj' : pj = some ⟨bj, 0, none⟩ := hbj
  subst hbi' hbj'
  obtain ⟨ai, ni, ci, xi⟩ := ri
  obtain ⟨aj, nj, cj, xj⟩ := rj
  have c0 : w.cell? ⟨bx, 0, none⟩ = some (.slice (some ⟨gt, 0, none⟩) k ct) := H.blk.cell rfl
  have c1 : w.cell? ⟨bx, 1, none⟩ = some (.slice (some ⟨gl, 0, none⟩) k cl) := H.blk.cell rfl
  have ti : w.cell? ⟨gt, i, none⟩ = some (.pointer (some ⟨bi, 0, none⟩)) := tcell i _ (by rw [List.getElem?_map, hei]; rfl)
  have tj : w.cell? ⟨gt, j, none⟩ = some (.pointer (some ⟨bj, 0, none⟩)) := tcell j _ (by rw [List.getElem?_map, hej]; rfl)
  have li : w.cell? ⟨gl, i, none⟩ = some (.slice ai ni ci) := lcell i _ (by rw [List.getElem?_map, hei]; rfl)
  have lj : w.cell? ⟨gl, j, none⟩ = some (.slice aj nj cj) := lcell j _ (by rw [List.getElem?_map, hej]; rfl)
  have HH := Lib.hid H
  have Ei := Lib.hid ei
  have Ej := Lib.hid ej
  have HK := Lib.hid (And.intro hK hk)
  have i0 : (0 : Int) ≤ (i : Int) := by omega
  have i1 : (i : Int) < (k : Int) := by omega
  have j0 : (0 : Int) ≤ (j : Int) := by omega
  have j1 : (j : Int) < (k : Int) := by omega
  obtain ⟨W1, hW1⟩ : ∃ W, W = w.alloc (.cells #[.int .i64 0, .int .u8 A, .int .u8 B, .int .i64 I, .int .i64 X] 59) := ⟨_, rfl⟩
  obtain ⟨sb, hsb⟩ : ∃ s, s = w.heap.size := ⟨_, rfl⟩
  have F1 : Fr F0 w W1 := by rw [hW1]; exact (Fr.refl _ _).alloc _
  have sB : Blk W1 sb 59 [.int .i64 0, .int .u8 A, .int .u8 B, .int .i64 I, .int .i64 X] := by rw [hW1, hsb]; exact Blk.new w 59 _
  have s0 : W1.cell? ⟨sb, 0, none⟩ = some (.int .i64 0) := sB.cell rfl
  have s1 : W1.cell? ⟨sb, 1, none⟩ = some (.int .u8 A) := sB.cell rfl
  have s2 : W1.cell? ⟨sb, 2, none⟩ = some (.int .u8 B) := sB.cell rfl
  have s3 : W1.cell? ⟨sb, 3, none⟩ = some (.int .i64 I) := sB.cell rfl
  have s4 : W1.cell? ⟨sb, 4, none⟩ = some (.int .i64 X) := sB.cell rfl
  replace c0 := F1.cell c0 id
  replace c1 := F1.cell c1 id
  replace ti := F1.cell ti id
  replace tj := F1.cell tj id
  replace li := F1.cell li id
  replace lj := F1.cell lj id
  have FW := Lib.hid F1
  clear H hi hj ei ej hei hej tcell lcell hbi hbj hK hk sB F1 gt1 gt2 gl1 gl2
  have HX := Lib.hid hX
  clear hX
  go_enter Try.func34, Try.ntmps34
  go_wp2_with fail
  rw [← hW1, ← hsb]
  have Hsb := Lib.hid hsb
  clear hW1 hsb
  go_quiet (fail)
  have F2 : Fr F0 W1 (W1.drewN nq) := (Fr.refl _ _).drewN _
  replace s0 := F2.cell s0 id
  replace s1 := F2.cell s1 id
  replace s2 := F2.cell s2 id
  replace s3 := F2.cell s3 id
  replace s4 := F2.cell s4 id
  replace c0 := F2.cell c0 id
  replace c1 := F2.cell c1 id
  replace ti := F2.cell ti id
  replace tj := F2.cell tj id
  replace li := F2.cell li id
  replace lj := F2.cell lj id
  replace FW := Lib.hid (FW.out.trans0 F2)
  clear F2 ma mb ta tb m0 ca cb ca' cb' hik hjk
  generalize W1.drewN nq = WQ at *
  go_wp2_with fail
  go_quiet (fail)
  have F2 : Fr F0 WQ (WQ.drewN nq) := (Fr.refl _ _).drewN _
  replace s0 := F2.cell s0 id
  replace s1 := F2.cell s1 id
  replace s2 := F2.cell s2 id
  replace s3 := F2.cell s3 id
  replace s4 := F2.cell s4 id
  replace c0 := F2.cell c0 id
  replace c1 := F2.cell c1 id
  replace ti := F2.cell ti id
  replace tj := F2.cell tj id
  replace li := F2.cell li id
  replace lj := F2.cell lj id
  replace FW := Lib.hid (FW.out.trans0 F2)
  clear F2 i0 i1 ti li c0 c1 j0 j1 tj lj
  generalize WQ.drewN nq = W2 at *
  have Si := Lib.hid (show Tr.Small xi from Ei.out.s)
  have Ci := Lib.hid (show ni ≤ ci from Ei.out.c)
  have Ki := Lib.hid (show ni ≤ K from Ei.out.k)
  have Xl := Lib.hid (show xi.length = ni by have := Ei.out.r.now.len; simpa using this)
  have Ri := Lib.hid (fun (W : World) (f : Fr F0 w W) => show Rd W ai ni (ints xi) from Ei.out.r.now.fr0 f)
  have Ti := Lib.hid (fun (W : World) (f : Fr F0 w W) => show TK W xi (some ⟨bi, 0, none⟩) from Ei.out.t.now.fr0 f)
  have RSi := Lib.hid (show RdS _ w ai ni xi from Ei.out.r)
  go_wp2_with fail
  refine (PushBack_key (Ti.out _ FW.out) HX.out).mono ?_
  rintro e w3 ⟨rfl, rfl⟩
  go_wp2_with fail
  have HC := Lib.hid (fun (W : World) (f : Fr F0 W2 W) => ((Clone_all ((Ri.out _ FW.out).fr0 f) (by have := Ki.out; have := HK.out; omega)).mono (fun e w' h => (by obtain ⟨a', c', h1, h2, h3⟩ := h; exact ⟨a', c', h1, h2.mono f.size, f.trans0 h3, h3⟩)) : Calls Try.prog 52 #[.slice ai ni ci] W (fun e w' => ∃ a' c', e = .returned (.slice a' ni c') ∧ Own w' W2.heap.size 3 a' ni c' (ints xi) ∧ Fr F0 W2 w' ∧ Fr F0 W w')))
  have RX := Lib.hid (fun (W : World) (f : Fr F0 (W2.alloc (.cells #[.int .i64 X] 3)) W) => ((Own.lit (w := W2) (B := 0) (T := 3) (ints [X]) 1 rfl (Nat.zero_le _) (by omega)).rd.fr0 f : Rd W (some ⟨W2.heap.size, 0, none⟩) 1 (ints [X])))
  have KN : ni ≤ 1000 := by have := Ki.out; have := HK.out; omega
  have Hh : W2.drew.cell? ⟨sb, 4, none⟩ = some (.int .i64 X) := s4
  go_region_held3 (fun w' => w'.cell? ⟨sb, 4, none⟩ = some (.int .i64 X)) (go_keep)
    (first | (go_at_call 52; (with_reducible refine (HC.out _ (by repeat (first | exact Fr.refl _ _ | refine Fr.drew ?_ | refine Fr.alloc ?_ _))).mono ?_); rintro e wc ⟨ac, cc, rfl, Oc', Fc', Gc'⟩; have k4 := Fc'.cell s4 id; (first | have RXa := Lib.hid (RX.out wc ((Fr.refl _ _).drew.trans0 Gc')) | have RXa := Lib.hid (RX.out wc Gc') | skip); have Oc := Lib.hid Oc'; have Fc := Lib.hid Fc'; have OcB := Lib.hid (Oc'.alloc (.cells #[.int .i64 X] 3)); have RXb : Hid (Rd (wc.alloc (.cells #[.int .i64 X] 3)) (some ⟨wc.heap.size, 0, none⟩) 1 (ints [X])) := Lib.hid (Own.rd (Own.lit (w := wc) (B := 0) (T := 3) (ints [X]) 1 rfl (Nat.zero_le _) (by omega))); have FcB := Lib.hid (Fc'.alloc (.cells #[.int .i64 X] 3)); clear Oc' Fc' Gc') | (refine stepAppRd E3 (by rfl) (by rfl) (by rfl) (by rfl) OcB.out RXb.out (oneCell_ints _) (by omega) (by omega) FcB.out.size (ni + 1) rfl ?_; intro a6 c6 w6 own6 fr6 at6; have G6 := Lib.hid (FcB.out.trans fr6 (fun k hk hs => absurd (OcB.out.blk _ hs).1 (by omega))); have k6 := G6.out.cell s4 id; replace own6 := Lib.hid own6; clear fr6 at6) | (refine stepAppRd E3 (by rfl) (by rfl) (by rfl) (by rfl) Oc.out RXa.out (oneCell_ints _) (by omega) (by omega) Fc.out.size (ni + 1) rfl ?_; intro a6 c6 w6 own6 fr6 at6; have G6 := Lib.hid (Fc.out.trans fr6 (fun k hk hs => absurd (Oc.out.blk _ hs).1 (by omega))); have k6 := G6.out.cell s4 id; replace own6 := Lib.hid own6; clear fr6 at6) | fail)
  all_goals
    clear RX HC Hh
    have F6 := Lib.hid (FW.out.trans0 G6.out)
    have O6 : Hid (Own w6 W2.heap.size 3 a6 (ni + 1) c6 (ints (xi ++ [X]))) := Lib.hid (by have h := own6.out; simpa [ints] using h)
    have hsz : Hid (w.heap.size ≤ W2.heap.size) := Lib.hid FW.out.size
    have qs0 := G6.out.cell s0 id
    have qs1 := G6.out.cell s1 id
    have qs2 := G6.out.cell s2 id
    have qs3 := G6.out.cell s3 id
    have qs4 := G6.out.cell s4 id
    clear own6 G6 k6 FW s0 s1 s2 s3 s4
    go_wp2_with fail
    refine (PushFront_key (Ti.out _ F6.out) HX.out).mono ?_
    rintro e w7 ⟨rfl, rfl⟩
    have OL : Hid (Own (w6.alloc (.cells #[.int .i64 X] 3)) w6.heap.size 3 (some ⟨w6.heap.size, 0, none⟩) 1 1 (ints [X])) := Lib.hid (Own.lit (w := w6) (B := w6.heap.size) (T := 3) (ints [X]) 1 rfl (Nat.le_refl _) (by omega))
    have A7 : Fr F0 w6 (w6.alloc (.cells #[.int .i64 X] 3)) := (Fr.refl _ _).alloc _
    have RL := Lib.hid ((Ri.out _ F6.out).fr0 A7)
    have HA7 := Lib.hid A7
    have e1 : 1 + ni = ni + 1 := by omega
    clear A7
    go_wp2_with (at_builtin; refine wpAppRd E3 OL.out RL.out (oneCell_ints _) (by omega) (by omega) (by simp) (ni + 1) e1 rfl rfl ?_; intro a8 c8 w8 own8 fr8 at8; have G8 := Lib.hid (HA7.out.trans fr8 (fun k hk hs => absurd (OL.out.blk _ hs).1 (by omega))); have zs0 := G8.out.cell qs0 id; have zs1 := G8.out.cell qs1 id; have zs2 := G8.out.cell qs2 id; have zs3 := G8.out.cell qs3 id; have zs4 := G8.out.cell qs4 id; replace own8 := Lib.hid own8; clear fr8 at8)
    have O8 : Hid (Own w8 w6.heap.size 3 a8 (ni + 1) c8 (ints (X :: xi))) := Lib.hid (by have h := own8.out; simpa [ints] using h)
    have hsz8 : Hid (w.heap.size ≤ w6.heap.size) := Lib.hid F6.out.size
    replace F6 := Lib.hid (F6.out.trans0 G8.out)
    clear own8 G8 OL RL HA7
    have hky := Key_any X w8
    rw [HX.out] at hky
    refine hky.mono ?_; rintro e w9 ⟨rfl, rfl⟩
    go_wp2_with fail
    go_ret
    exact XPost.none HH.out F6.out
set_option maxRecDepth 100000 in
set_option maxHeartbeats 16000000 in
theorem do_push1_k {w : World} {bx K : Nat} {L : List Ent} {t : Option Addr} {ct : Nat} {l : Option Addr} {cl k : Nat} (H : XS w bx K L t ct l cl k) (hK : K ≤ 1000) (hk : k ≤ 1000) (hk0 : 0 < k) {I X : Int} {A B : Nat} (hA : A ≤ 255) (hB : B ≤ 255) (hX : keyB X = true) :
    Calls Try.prog 34 #[.pointer (some ⟨bx, 0, none⟩), .agg #[.int .i64 1, .int .u8 A, .int .u8 B, .int .i64 I, .int .i64 X]] w (XPost w bx (K + 1) L t l (fun M => M.length ≤ 2)) := by
  obtain ⟨i, hi⟩ : ∃ i, i = A % k := ⟨_, rfl⟩
  obtain ⟨j, hj⟩ : ∃ i, i = B % k := ⟨_, rfl⟩
  have ma : (A : Int) % (k : Int) = (i : Int) := by rw [hi]; simp
  have mb : (B : Int) % (k : Int) = (j : Int) := by rw [hj]; simp
  have ta : Int.tmod (A : Int) (k : Int) = (i : Int) := by rw [Int.tmod_eq_emod_of_nonneg (by omega)]; exact ma
  have tb : Int.tmod (B : Int) (k : Int) = (j : Int) := by rw [Int.tmod_eq_emod_of_nonneg (by omega)]; exact mb
  have hik : i < k := by rw [hi]; exact Nat.mod_lt _ hk0
  have hjk : j < k := by rw [hj]; exact Nat.mod_lt _ hk0
  have m0 : ¬ ((k : Int) = 0) := by omega
  have ca : IntKind.i64.wrap (A : Int) = (A : Int) := wI2 (by omega) (by omega)
  have cb : IntKind.i64.wrap (B : Int) = (B : Int) := wI2 (by omega) (by omega)
  have ca' : IntKind.i64.wrap (i : Int) = (i : Int) := wI2 (by omega) (by omega)
  have cb' : IntKind.i64.wrap (j : Int) = (j : Int) := wI2 (by omega) (by omega)
  obtain ⟨gt, rfl, gt1, gt2, tcell, _⟩ := H.ot.at hk0
  obtain ⟨gl, rfl, gl1, gl2, lcell, _⟩ := H.ol.at hk0
  obtain ⟨⟨pi, ri⟩, hei⟩ : ∃ e, L[i]? = some e := ⟨_, List.getElem?_eq_getElem (by rw [H.len]; exact hik)⟩
  obtain ⟨⟨pj, rj⟩, hej⟩ : ∃ e, L[j]? = some e := ⟨_, List.getElem?_eq_getElem (by rw [H.len]; exact hjk)⟩
  have ei := H.all _ (List.mem_of_getElem? hei)
  have ej := H.all _ (List.mem_of_getElem? hej)
  obtain ⟨bi, hbi⟩ := ei.t.now.nn
  obtain ⟨bj, hbj⟩ := ej.t.now.nn
  have hbi' : pi = some ⟨bi, 0, none⟩ := hbi
  have hbj' : pj = some ⟨bj, 0, none⟩ := hbj
  subst hbi' hbj'
  obtain ⟨ai, ni, ci, xi⟩ := ri
  obtain ⟨aj, nj, cj, xj⟩ := rj
  have c0 : w.cell? ⟨bx, 0, none⟩ = some (.slice (some ⟨gt, 0, none⟩) k ct) := H.blk.cell rfl
  have c1 : w.cell? ⟨bx, 1, none⟩ = some (.slice (some ⟨gl, 0, none⟩) k cl) := H.blk.cell rfl
  have ti : w.cell? ⟨gt, i, none⟩ = some (.pointer (some ⟨bi, 0, none⟩)) := tcell i _ (by rw [List.getElem?_map, hei]; rfl)
  have tj : w.cell? ⟨gt, j, none⟩ = some (.pointer (some ⟨bj, 0, none⟩)) := tcell j _ (by rw [List.getElem?_map, hej]; rfl)
  have li : w.cell? ⟨gl, i, none⟩ = some (.slice ai ni ci) := lcell i _ (by rw [List.getElem?_map, hei]; rfl)
  have lj : w.cell? ⟨gl, j, none⟩ = some (.slice aj nj cj) := lcell j _ (by rw [List.getElem?_map, hej]; rfl)
  have HH := Lib.hid H
  have Ei := Lib.hid ei
  have Ej := Lib.hid ej
  have HK := Lib.hid (And.intro hK hk)
  have i0 : (0 : Int) ≤ (i : Int) := by omega
  have i1 : (i : Int) < (k : Int) := by omega
  have j0 : (0 : Int) ≤ (j : Int) := by omega
  have j1 : (j : Int) < (k : Int) := by omega
  obtain ⟨W1, hW1⟩ : ∃ W, W = w.alloc (.cells #[.int .i64 1, .int .u8 A, .int .u8 B, .int .i64 I, .int .i64 X] 59) := ⟨_, rfl⟩
  obtain ⟨sb, hsb⟩ : ∃ s, s = w.heap.size := ⟨_, rfl⟩
  have F1 : Fr F0 w W1 := by rw [hW1]; exact (Fr.refl _ _).alloc _
  have sB : Blk W1 sb 59 [.int .i64 1, .int .u8 A, .int .u8 B, .int .i64 I, .int .i64 X] := by rw [hW1, hsb]; exact Blk.new w 59 _
  have s0 : W1.cell? ⟨sb, 0, none⟩ = some (.int .i64 1) := sB.cell rfl
  have s1 : W1.cell? ⟨sb, 1, none⟩ = some (.int .u8 A) := sB.cell rfl
  have s2 : W1.cell? ⟨sb, 2, none⟩ = some (.int .u8 B) := sB.cell rfl
  have s3 : W1.cell? ⟨sb, 3, none⟩ = some (.int .i64 I) := sB.cell rfl
  have s4 : W1.cell? ⟨sb, 4, none⟩ = some (.int .i64 X) := sB.cell rfl
  replace c0 := F1.cell c0 id
  replace c1 := F1.cell c1 id
  replace ti := F1.cell ti id
  replace tj := F1.cell tj id
  replace li := F1.cell li id
  replace lj := F1.cell lj id
  have FW := Lib.hid F1
  clear H hi hj ei ej hei hej tcell lcell hbi hbj hK hk sB F1 gt1 gt2 gl1 gl2
  have HX := Lib.hid hX
  clear hX
  go_enter Try.func34, Try.ntmps34
  go_wp2_with fail
  rw [← hW1, ← hsb]
  have Hsb := Lib.hid hsb
  clear hW1 hsb
  go_quiet (fail)
  have F2 : Fr F0 W1 (W1.drewN nq) := (Fr.refl _ _).drewN _
  replace s0 := F2.cell s0 id
  replace s1 := F2.cell s1 id
  replace s2 := F2.cell s2 id
  replace s3 := F2.cell s3 id
  replace s4 := F2.cell s4 id
  replace c0 := F2.cell c0 id
  replace c1 := F2.cell c1 id
  replace ti := F2.cell ti id
  replace tj := F2.cell tj id
  replace li := F2.cell li id
  replace lj := F2.cell lj id
  replace FW := Lib.hid (FW.out.trans0 F2)
  clear F2 ma mb ta tb m0 ca cb ca' cb' hik hjk
  generalize W1.drewN nq = WQ at *
  go_wp2_with fail
  go_quiet (fail)
  have F2 : Fr F0 WQ (WQ.drewN nq) := (Fr.refl _ _).drewN _
  replace s0 := F2.cell s0 id
  replace s1 := F2.cell s1 id
  replace s2 := F2.cell s2 id
  replace s3 := F2.cell s3 id
  replace s4 := F2.cell s4 id
  replace c0 := F2.cell c0 id
  replace c1 := F2.cell c1 id
  replace ti := F2.cell ti id
  replace tj := F2.cell tj id
  replace li := F2.cell li id
  replace lj := F2.cell lj id
  replace FW := Lib.hid (FW.out.trans0 F2)
  clear F2 i0 i1 ti li c0 c1 j0 j1 tj lj
  generalize WQ.drewN nq = W2 at *
  have Si := Lib.hid (show Tr.Small xi from Ei.out.s)
  have Ci := Lib.hid (show ni ≤ ci from Ei.out.c)
  have Ki := Lib.hid (show ni ≤ K from Ei.out.k)
  have Xl := Lib.hid (show xi.length = ni by have := Ei.out.r.now.len; simpa using this)
  have Ri := Lib.hid (fun (W : World) (f : Fr F0 w W) => show Rd W ai ni (ints xi) from Ei.out.r.now.fr0 f)
  have Ti := Lib.hid (fun (W : World) (f : Fr F0 w W) => show TK W xi (some ⟨bi, 0, none⟩) from Ei.out.t.now.fr0 f)
  have RSi := Lib.hid (show RdS _ w ai ni xi from Ei.out.r)
  go_wp2_with fail
  refine (PushBack_tk (Ti.out _ FW.out) Si.out (by have := Xl.out; have := Ki.out; have := HK.out; omega) HX.out).mono ?_
  rintro e w3 ⟨b1, rfl, T1, F⟩
  have T := Lib.hid T1
  replace FW := Lib.hid (FW.out.trans0 F)
  replace s0 := F.cell s0 id
  replace s1 := F.cell s1 id
  replace s2 := F.cell s2 id
  replace s3 := F.cell s3 id
  replace s4 := F.cell s4 id
  clear F T1
  go_wp2_with fail
  have HC := Lib.hid (fun (W : World) (f : Fr F0 w3 W) => ((Clone_all ((Ri.out _ FW.out).fr0 f) (by have := Ki.out; have := HK.out; omega)).mono (fun e w' h => (by obtain ⟨a', c', h1, h2, h3⟩ := h; exact ⟨a', c', h1, h2.mono f.size, f.trans0 h3, h3⟩)) : Calls Try.prog 52 #[.slice ai ni ci] W (fun e w' => ∃ a' c', e = .returned (.slice a' ni c') ∧ Own w' w3.heap.size 3 a' ni c' (ints xi) ∧ Fr F0 w3 w' ∧ Fr F0 W w')))
  have RX := Lib.hid (fun (W : World) (f : Fr F0 (w3.alloc (.cells #[.int .i64 X] 3)) W) => ((Own.lit (w := w3) (B := 0) (T := 3) (ints [X]) 1 rfl (Nat.zero_le _) (by omega)).rd.fr0 f : Rd W (some ⟨w3.heap.size, 0, none⟩) 1 (ints [X])))
  have KN : ni ≤ 1000 := by have := Ki.out; have := HK.out; omega
  have Hh : w3.drew.cell? ⟨sb, 4, none⟩ = some (.int .i64 X) := s4
  go_region_held3 (fun w' => w'.cell? ⟨sb, 4, none⟩ = some (.int .i64 X)) (go_keep)
    (first | (go_at_call 52; (with_reducible refine (HC.out _ (by repeat (first | exact Fr.refl _ _ | refine Fr.drew ?_ | refine Fr.alloc ?_ _))).mono ?_); rintro e wc ⟨ac, cc, rfl, Oc', Fc', Gc'⟩; have k4 := Fc'.cell s4 id; (first | have RXa := Lib.hid (RX.out wc ((Fr.refl _ _).drew.trans0 Gc')) | have RXa := Lib.hid (RX.out wc Gc') | skip); have Oc := Lib.hid Oc'; have Fc := Lib.hid Fc'; have OcB := Lib.hid (Oc'.alloc (.cells #[.int .i64 X] 3)); have RXb : Hid (Rd (wc.alloc (.cells #[.int .i64 X] 3)) (some ⟨wc.heap.size, 0, none⟩) 1 (ints [X])) := Lib.hid (Own.rd (Own.lit (w := wc) (B := 0) (T := 3) (ints [X]) 1 rfl (Nat.zero_le _) (by omega))); have FcB := Lib.hid (Fc'.alloc (.cells #[.int .i64 X] 3)); clear Oc' Fc' Gc') | (refine stepAppRd E3 (by rfl) (by rfl) (by rfl) (by rfl) OcB.out RXb.out (oneCell_ints _) (by omega) (by omega) FcB.out.size (ni + 1) rfl ?_; intro a6 c6 w6 own6 fr6 at6; have G6 := Lib.hid (FcB.out.trans fr6 (fun k hk hs => absurd (OcB.out.blk _ hs).1 (by omega))); have k6 := G6.out.cell s4 id; replace own6 := Lib.hid own6; clear fr6 at6) | (refine stepAppRd E3 (by rfl) (by rfl) (by rfl) (by rfl) Oc.out RXa.out (oneCell_ints _) (by omega) (by omega) Fc.out.size (ni + 1) rfl ?_; intro a6 c6 w6 own6 fr6 at6; have G6 := Lib.hid (Fc.out.trans fr6 (fun k hk hs => absurd (Oc.out.blk _ hs).1 (by omega))); have k6 := G6.out.cell s4 id; replace own6 := Lib.hid own6; clear fr6 at6) | fail)
  all_goals
    clear RX HC Hh
    have F6 := Lib.hid (FW.out.trans0 G6.out)
    have O6 : Hid (Own w6 w3.heap.size 3 a6 (ni + 1) c6 (ints (xi ++ [X]))) := Lib.hid (by have h := own6.out; simpa [ints] using h)
    have hsz : Hid (w.heap.size ≤ w3.heap.size) := Lib.hid FW.out.size
    have qs0 := G6.out.cell s0 id
    have qs1 := G6.out.cell s1 id
    have qs2 := G6.out.cell s2 id
    have qs3 := G6.out.cell s3 id
    have qs4 := G6.out.cell s4 id
    have T6 := Lib.hid (T.out.fr0 G6.out)
    clear own6 G6 k6 FW s0 s1 s2 s3 s4 T
    go_wp2_with fail
    have hky := Key_any X w6
    rw [HX.out] at hky
    refine hky.mono ?_; rintro e w9 ⟨rfl, rfl⟩
    have hx1 : Tr.Small (xi ++ [X]) := Small.app.2 ⟨Si.out, small_one HX.out⟩
    have hadd := Lib.hid (add_at (r := ⟨a6, ni + 1, c6, xi ++ [X]⟩) HH.out F6.out T6.out (EOk.new HH.out F6.out T6.out O6.out hsz.out hx1 (by have := Ki.out; omega)) HK.out.1 HK.out.2)
    go_wp2_with fail
    refine hadd.out.mono ?_
    rintro e wZ ⟨rfl, R⟩
    replace R := Lib.hid R
    go_wp2_with fail
    go_ret
    exact ⟨rfl, R.out⟩
set_option maxRecDepth 100000 in
set_option maxHeartbeats 16000000 in
theorem do_push1_b {w : World} {bx K : Nat} {L : List Ent} {t : Option Addr} {ct : Nat} {l : Option Addr} {cl k : Nat} (H : XS w bx K L t ct l cl k) (hK : K ≤ 1000) (hk : k ≤ 1000) (hk0 : 0 < k) {I X : Int} {A B : Nat} (hA : A ≤ 255) (hB : B ≤ 255) (hX : keyB X = false) :
    Calls Try.prog 34 #[.pointer (some ⟨bx, 0, none⟩), .agg #[.int .i64 1, .int .u8 A, .int .u8 B, .int .i64 I, .int .i64 X]] w (XPost w bx (K + 1) L t l (fun M => M.length ≤ 2)) := by
  obtain ⟨i, hi⟩ : ∃ i, i = A % k := ⟨_, rfl⟩
  obtain ⟨j, hj⟩ : ∃ i, i = B % k := ⟨_, rfl⟩
  have ma : (A : Int) % (k : Int) = (i : Int) := by rw [hi]; simp
  have mb : (B : Int) % (k : Int) = (j : Int) := by rw [hj]; simp
  have ta : Int.tmod (A : Int) (k : Int) = (i : Int) := by rw [Int.tmod_eq_emod_of_nonneg (by omega)]; exact ma
  have tb : Int.tmod (B : Int) (k : Int) = (j : Int) := by rw [Int.tmod_eq_emod_of_nonneg (by omega)]; exact mb
  have hik : i < k := by rw [hi]; exact Nat.mod_lt _ hk0
  have hjk : j < k := by rw [hj]; exact Nat.mod_lt _ hk0
  have m0 : ¬ ((k : Int) = 0) := by omega
  have ca : IntKind.i64.wrap (A : Int) = (A : Int) := wI2 (by omega) (by omega)
  have cb : IntKind.i64.wrap (B : Int) = (B : Int) := wI2 (by omega) (by omega)
  have ca' : IntKind.i64.wrap (i : Int) = (i : Int) := wI2 (by omega) (by omega)
  have cb' : IntKind.i64.wrap (j : Int) = (j : Int) := wI2 (by omega) (by omega)
  obtain ⟨gt, rfl, gt1, gt2, tcell, _⟩ := H.ot.at hk0
  obtain ⟨gl, rfl, gl1, gl2, lcell, _⟩ := H.ol.at hk0
  obtain ⟨⟨pi, ri⟩, hei⟩ : ∃ e, L[i]? = some e := ⟨_, List.getElem?_eq_getElem (by rw [H.len]; exact hik)⟩
  obtain ⟨⟨pj, rj⟩, hej⟩ : ∃ e, L[j]? = some e := ⟨_, List.getElem?_eq_getElem (by rw [H.len]; exact hjk)⟩
  have ei := H.all _ (List.mem_of_getElem? hei)
  have ej := H.all _ (List.mem_of_getElem? hej)
  obtain ⟨bi, hbi⟩ := ei.t.now.nn
  obtain ⟨bj, hbj⟩ := ej.t.now.nn
  have hbi' : pi = some ⟨bi, 0, none⟩ := hbi
  have hbj' : pj = some ⟨bj, 0, none⟩ := hbj
  subst hbi' hbj'
  obtain ⟨ai, ni, ci, xi⟩ := ri
  obtain ⟨aj, nj, cj, xj⟩ := rj
  have c0 : w.cell? ⟨bx, 0, none⟩ = some (.slice (some ⟨gt, 0, none⟩) k ct) := H.blk.cell rfl
  have c1 : w.cell? ⟨bx, 1, none⟩ = some (.slice (some ⟨gl, 0, none⟩) k cl) := H.blk.cell rfl
  have ti : w.cell? ⟨gt, i, none⟩ = some (.pointer (some ⟨bi, 0, none⟩)) := tcell i _ (by rw [List.getElem?_map, hei]; rfl)
  have tj : w.cell? ⟨gt, j, none⟩ = some (.pointer (some ⟨bj, 0, none⟩)) := tcell j _ (by rw [List.getElem?_map, hej]; rfl)
  have li : w.cell? ⟨gl, i, none⟩ = some (.slice ai ni ci) := lcell i _ (by rw [List.getElem?_map, hei]; rfl)
  have lj : w.cell? ⟨gl, j, none⟩ = some (.slice aj nj cj) := lcell j _ (by rw [List.getElem?_map, hej]; rfl)
  have HH := Lib.hid H
  have Ei := Lib.hid ei
  have Ej := Lib.hid ej
  have HK := Lib.hid (And.intro hK hk)
  have i0 : (0 : Int) ≤ (i : Int) := by omega
  have i1 : (i : Int) < (k : Int) := by omega
  have j0 : (0 : Int) ≤ (j : Int) := by omega
  have j1 : (j : Int) < (k : Int) := by omega
  obtain ⟨W1, hW1⟩ : ∃ W, W = w.alloc (.cells #[.int .i64 1, .int .u8 A, .int .u8 B, .int .i64 I, .int .i64 X] 59) := ⟨_, rfl⟩
  obtain ⟨sb, hsb⟩ : ∃ s, s = w.heap.size := ⟨_, rfl⟩
  have F1 : Fr F0 w W1 := by rw [hW1]; exact (Fr.refl _ _).alloc _
  have sB : Blk W1 sb 59 [.int .i64 1, .int .u8 A, .int .u8 B, .int .i64 I, .int .i64 X] := by rw [hW1, hsb]; exact Blk.new w 59 _
  have s0 : W1.cell? ⟨sb, 0, none⟩ = some (.int .i64 1) := sB.cell rfl
  have s1 : W1.cell? ⟨sb, 1, none⟩ = some (.int .u8 A) := sB.cell rfl
  have s2 : W1.cell? ⟨sb, 2, none⟩ = some (.int .u8 B) := sB.cell rfl
  have s3 : W1.cell? ⟨sb, 3, none⟩ = some (.int .i64 I) := sB.cell rfl
  have s4 : W1.cell? ⟨sb, 4, none⟩ = some (.int .i64 X) := sB.cell rfl
  replace c0 := F1.cell c0 id
  replace c1 := F1.cell c1 id
  replace ti := F1.cell ti id
  replace tj := F1.cell tj id
  replace li := F1.cell li id
  replace lj := F1.cell lj id
  have FW := Lib.hid F1
  clear H hi hj ei ej hei hej tcell lcell hbi hbj hK hk sB F1 gt1 gt2 gl1 gl2
  have HX := Lib.hid hX
  clear hX
  go_enter Try.func34, Try.ntmps34
  go_wp2_with fail
  rw [← hW1, ← hsb]
  have Hsb := Lib.hid hsb
  clear hW1 hsb
  go_quiet (fail)
  have F2 : Fr F0 W1 (W1.drewN nq) := (Fr.refl _ _).drewN _
  replace s0 := F2.cell s0 id
  replace s1 := F2.cell s1 id
  replace s2 := F2.cell s2 id
  replace s3 := F2.cell s3 id
  replace s4 := F2.cell s4 id
  replace c0 := F2.cell c0 id
  replace c1 := F2.cell c1 id
  replace ti := F2.cell ti id
  replace tj := F2.cell tj id
  replace li := F2.cell li id
  replace lj := F2.cell lj id
  replace FW := Lib.hid (FW.out.trans0 F2)
  clear F2 ma mb ta tb m0 ca cb ca' cb' hik hjk
  generalize W1.drewN nq = WQ at *
  go_wp2_with fail
  go_quiet (fail)
  have F2 : Fr F0 WQ (WQ.drewN nq) := (Fr.refl _ _).drewN _
  replace s0 := F2.cell s0 id
  replace s1 := F2.cell s1 id
  replace s2 := F2.cell s2 id
  replace s3 := F2.cell s3 id
  replace s4 := F2.cell s4 id
  replace c0 := F2.cell c0 id
  replace c1 := F2.cell c1 id
  replace ti := F2.cell ti id
  replace tj := F2.cell tj id
  replace li := F2.cell li id
  replace lj := F2.cell lj id
  replace FW := Lib.hid (FW.out.trans0 F2)
  clear F2 i0 i1 ti li c0 c1 j0 j1 tj lj
  generalize WQ.drewN nq = W2 at *
  have Si := Lib.hid (show Tr.Small xi from Ei.out.s)
  have Ci := Lib.hid (show ni ≤ ci from Ei.out.c)
  have Ki := Lib.hid (show ni ≤ K from Ei.out.k)
  have Xl := Lib.hid (show xi.length = ni by have := Ei.out.r.now.len; simpa using this)
  have Ri := Lib.hid (fun (W : World) (f : Fr F0 w W) => show Rd W ai ni (ints xi) from Ei.out.r.now.fr0 f)
  have Ti := Lib.hid (fun (W : World) (f : Fr F0 w W) => show TK W xi (some ⟨bi, 0, none⟩) from Ei.out.t.now.fr0 f)
  have RSi := Lib.hid (show RdS _ w ai ni xi from Ei.out.r)
  go_wp2_with fail
  refine (PushBack_key (Ti.out _ FW.out) HX.out).mono ?_
  rintro e w3 ⟨rfl, rfl⟩
  go_wp2_with fail
  have HC := Lib.hid (fun (W : World) (f : Fr F0 W2 W) => ((Clone_all ((Ri.out _ FW.out).fr0 f) (by have := Ki.out; have := HK.out; omega)).mono (fun e w' h => (by obtain ⟨a', c', h1, h2, h3⟩ := h; exact ⟨a', c', h1, h2.mono f.size, f.trans0 h3, h3⟩)) : Calls Try.prog 52 #[.slice ai ni ci] W (fun e w' => ∃ a' c', e = .returned (.slice a' ni c') ∧ Own w' W2.heap.size 3 a' ni c' (ints xi) ∧ Fr F0 W2 w' ∧ Fr F0 W w')))
  have RX := Lib.hid (fun (W : World) (f : Fr F0 (W2.alloc (.cells #[.int .i64 X] 3)) W) => ((Own.lit (w := W2) (B := 0) (T := 3) (ints [X]) 1 rfl (Nat.zero_le _) (by omega)).rd.fr0 f : Rd W (some ⟨W2.heap.size, 0, none⟩) 1 (ints [X])))
  have KN : ni ≤ 1000 := by have := Ki.out; have := HK.out; omega
  have Hh : W2.drew.cell? ⟨sb, 4, none⟩ = some (.int .i64 X) := s4
  go_region_held3 (fun w' => w'.cell? ⟨sb, 4, none⟩ = some (.int .i64 X)) (go_keep)
    (first | (go_at_call 52; (with_reducible refine (HC.out _ (by repeat (first | exact Fr.refl _ _ | refine Fr.drew ?_ | refine Fr.alloc ?_ _))).mono ?_); rintro e wc ⟨ac, cc, rfl, Oc', Fc', Gc'⟩; have k4 := Fc'.cell s4 id; (first | have RXa := Lib.hid (RX.out wc ((Fr.refl _ _).drew.trans0 Gc')) | have RXa := Lib.hid (RX.out wc Gc') | skip); have Oc := Lib.hid Oc'; have Fc := Lib.hid Fc'; have OcB := Lib.hid (Oc'.alloc (.cells #[.int .i64 X] 3)); have RXb : Hid (Rd (wc.alloc (.cells #[.int .i64 X] 3)) (some ⟨wc.heap.size, 0, none⟩) 1 (ints [X])) := Lib.hid (Own.rd (Own.lit (w := wc) (B := 0) (T := 3) (ints [X]) 1 rfl (Nat.zero_le _) (by omega))); have FcB := Lib.hid (Fc'.alloc (.cells #[.int .i64 X] 3)); clear Oc' Fc' Gc') | (refine stepAppRd E3 (by rfl) (by rfl) (by rfl) (by rfl) OcB.out RXb.out (oneCell_ints _) (by omega) (by omega) FcB.out.size (ni + 1) rfl ?_; intro a6 c6 w6 own6 fr6 at6; have G6 := Lib.hid (FcB.out.trans fr6 (fun k hk hs => absurd (OcB.out.blk _ hs).1 (by omega))); have k6 := G6.out.cell s4 id; replace own6 := Lib.hid own6; clear fr6 at6) | (refine stepAppRd E3 (by rfl) (by rfl) (by rfl) (by rfl) Oc.out RXa.out (oneCell_ints _) (by omega) (by omega) Fc.out.size (ni + 1) rfl ?_; intro a6 c6 w6 own6 fr6 at6; have G6 := Lib.hid (Fc.out.trans fr6 (fun k hk hs => absurd (Oc.out.blk _ hs).1 (by omega))); have k6 := G6.out.cell s4 id; replace own6 := Lib.hid own6; clear fr6 at6) | fail)
  all_goals
    clear RX HC Hh
    have F6 := Lib.hid (FW.out.trans0 G6.out)
    have O6 : Hid (Own w6 W2.heap.size 3 a6 (ni + 1) c6 (ints (xi ++ [X]))) := Lib.hid (by have h := own6.out; simpa [ints] using h)
    have hsz : Hid (w.heap.size ≤ W2.heap.size) := Lib.hid FW.out.size
    have qs0 := G6.out.cell s0 id
    have qs1 := G6.out.cell s1 id
    have qs2 := G6.out.cell s2 id
    have qs3 := G6.out.cell s3 id
    have qs4 := G6.out.cell s4 id
    clear own6 G6 k6 FW s0 s1 s2 s3 s4
    go_wp2_with fail
    have hky := Key_any X w6
    rw [HX.out] at hky
    refine hky.mono ?_; rintro e w9 ⟨rfl, rfl⟩
    go_wp2_with fail
    go_ret
    exact XPost.none HH.out F6.out
end Go.Proofs.Ytdihajeccjdhkaa
