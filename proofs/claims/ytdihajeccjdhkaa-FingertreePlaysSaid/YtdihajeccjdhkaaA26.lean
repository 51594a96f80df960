/- Steps that put together, or part; and others. -/
import Derived.Test.YtdihajeccjdhkaaA25
namespace Go.Proofs.Ytdihajeccjdhkaa
open Go.RowKit
attribute [local go_sem ↓] Go.wp_at_zero Go.wp_at_succ
theorem small12 : Tr.Small [1, 2] := by intro x hx; simp at hx; omega
/-- Two were added. -/
theorem XPost.two {w w6 : World} {bx K : Nat} {L : List Ent} {t l t' l' : Option Addr} {M : List Ent} {M' : List Ent → Prop} {e : Ending} {w' : World} (f : Fr (Nb bx t l) w w6) (hN : ∀ j, j < w.heap.size → Nb bx t' l' j → Nb bx t l j)
    (h1M : M.length ≤ 1) (h2M : ∀ x, M' x → x.length ≤ 1) (h : XPost w6 bx K (L ++ M) t' l' M' e w') : XPost w bx K L t l (fun M => M.length ≤ 2) e w' := by
  obtain ⟨h1, m, hm, t2, ct2, l2, cl2, k2, h2, h3, h4⟩ := h
  refine ⟨h1, M ++ m, by show (M ++ m).length ≤ 2; rw [List.length_append]; have := h2M m hm; omega, t2, ct2, l2, cl2, k2, by rw [← List.append_assoc]; exact h2, f.trans h3 hN, fun j hj hk => hN j hj (h4 j (Nat.lt_of_lt_of_le hj f.size) hk)⟩
set_option maxRecDepth 100000 in
set_option maxHeartbeats 16000000 in
theorem do_concat_b {w : World} {bx K : Nat} {L : List Ent} {t : Option Addr} {ct : Nat} {l : Option Addr} {cl k : Nat} (H : XS w bx K L t ct l cl k) (hK : K ≤ 1000) (hk : k ≤ 1000) (hk0 : 0 < k) {I X : Int} {A B : Nat} (hA : A ≤ 255) (hB : B ≤ 255) (h0 : ∀ e e', L[A % k]? = some e → L[B % k]? = some e' → 300 < e.2.n + e'.2.n) (hK3 : 300 ≤ K) :
    Calls Try.prog 34 #[.pointer (some ⟨bx, 0, none⟩), .agg #[.int .i64 5, .int .u8 A, .int .u8 B, .int .i64 I, .int .i64 X]] w (XPost w bx (K + 1) L t l (fun M => M.length ≤ 2)) := by
  obtain ⟨i, hi⟩ : ∃ i, i = A % k := ⟨_, rfl⟩
  obtain ⟨j, hj⟩ : ∃ i, i = B % k := ⟨_, rfl⟩
  have ma : (A : Int) % (k : Int) = (i : Int) := by rw [hi]; simp
  have mb : (B : Int) % (k : Int) = (j : Int) := by rw [hj]; simp
  have ta : Int.tmod (A : Int) (k : Int) = (i : Int) := by rw [Int.tmod_eq_emod_of_nonneg (by omega)]; exact ma
  have tb : Int.tmod (B : Int) (k : Int) = (j : Int) := by rw [Int.tmod_eq_emod_of_nonneg (by omega)]; exact mb
  have hik : i < k := by rw [hi]; exact Nat.mod_lt _ hk0
  have hjk : j < k := by rw [hj]; exact Nat.mod_lt _ hk0
  have m0 : ¬ ((k : Int) = 0) := by omega
  have ca : IntKind.i64.wrap (A : Int) = (A : Int) := wI2 (by omega) (by omega)
  have cb : IntKind.i64.wrap (B : Int) = (B : Int) := wI2 (by omega) (by omega)
  have ca' : IntKind.i64.wrap (i : Int) = (i : Int) := wI2 (by omega) (by omega)
  have cb' : IntKind.i64.wrap (j : Int) = (j : Int) := wI2 (by omega) (by omega)
  obtain ⟨gt, rfl, gt1, gt2, tcell, _⟩ := H.ot.at hk0
  obtain ⟨gl, rfl, gl1, gl2, lcell, _⟩ := H.ol.at hk0
  obtain ⟨⟨pi, ri⟩, hei⟩ : ∃ e, L[i]? = some e := ⟨_, List.getElem?_eq_getElem (by rw [H.len]; exact hik)⟩
  obtain ⟨⟨pj, rj⟩, hej⟩ : ∃ e, L[j]? = some e := ⟨_, List.getElem?_eq_getElem (by rw [H.len]; exact hjk)⟩
  have ei := H.all _ (List.mem_of_getElem? hei)
  have ej := H.all _ (List.mem_of_getElem? hej)
  obtain ⟨bi, hbi⟩ := ei.t.now.nn
  obtain ⟨bj, hbj⟩ := ej.t.now.nn
  have hbi' : pi = some ⟨bi, 0, none⟩ := hbi
  have hbj' : pj = some ⟨bj, 0, none⟩ := hbj
  subst hbi' hbj'
  obtain ⟨ai, ni, ci, xi⟩ := ri
  obtain ⟨aj, nj, cj, xj⟩ := rj
  have c0 : w.cell? ⟨bx, 0, none⟩ = some (.slice (some ⟨gt, 0, none⟩) k ct) := H.blk.cell rfl
  have c1 : w.cell? ⟨bx, 1, none⟩ = some (.slice (some ⟨gl, 0, none⟩) k cl) := H.blk.cell rfl
  have ti : w.cell? ⟨gt, i, none⟩ = some (.pointer (some ⟨bi, 0, none⟩)) := tcell i _ (by rw [List.getElem?_map, hei]; rfl)
  have tj : w.cell? ⟨gt, j, none⟩ = some (.pointer (some ⟨bj, 0, none⟩)) := tcell j _ (by rw [List.getElem?_map, hej]; rfl)
  have li : w.cell? ⟨gl, i, none⟩ = some (.slice ai ni ci) := lcell i _ (by rw [List.getElem?_map, hei]; rfl)
  have lj : w.cell? ⟨gl, j, none⟩ = some (.slice aj nj cj) := lcell j _ (by rw [List.getElem?_map, hej]; rfl)
  have HH := Lib.hid H
  have Ei := Lib.hid ei
  have Ej := Lib.hid ej
  have HK := Lib.hid (And.intro hK hk)
  have i0 : (0 : Int) ≤ (i : Int) := by omega
  have i1 : (i : Int) < (k : Int) := by omega
  have j0 : (0 : Int) ≤ (j : Int) := by omega
  have j1 : (j : Int) < (k : Int) := by omega
  obtain ⟨W1, hW1⟩ : ∃ W, W = w.alloc (.cells #[.int .i64 5, .int .u8 A, .int .u8 B, .int .i64 I, .int .i64 X] 59) := ⟨_, rfl⟩
  obtain ⟨sb, hsb⟩ : ∃ s, s = w.heap.size := ⟨_, rfl⟩
  have F1 : Fr F0 w W1 := by rw [hW1]; exact (Fr.refl _ _).alloc _
  have sB : Blk W1 sb 59 [.int .i64 5, .int .u8 A, .int .u8 B, .int .i64 I, .int .i64 X] := by rw [hW1, hsb]; exact Blk.new w 59 _
  have s0 : W1.cell? ⟨sb, 0, none⟩ = some (.int .i64 5) := sB.cell rfl
  have s1 : W1.cell? ⟨sb, 1, none⟩ = some (.int .u8 A) := sB.cell rfl
  have s2 : W1.cell? ⟨sb, 2, none⟩ = some (.int .u8 B) := sB.cell rfl
  have s3 : W1.cell? ⟨sb, 3, none⟩ = some (.int .i64 I) := sB.cell rfl
  have s4 : W1.cell? ⟨sb, 4, none⟩ = some (.int .i64 X) := sB.cell rfl
  replace c0 := F1.cell c0 id
  replace c1 := F1.cell c1 id
  replace ti := F1.cell ti id
  replace tj := F1.cell tj id
  replace li := F1.cell li id
  replace lj := F1.cell lj id
  have FW := Lib.hid F1
  have hr0 : 300 < ni + nj := h0 _ _ (hi ▸ hei) (hj ▸ hej)
  have HK3 := Lib.hid hK3
  clear h0 hK3 H hi hj ei ej hei hej tcell lcell hbi hbj hK hk sB F1 gt1 gt2 gl1 gl2
  go_enter Try.func34, Try.ntmps34
  go_wp2_with fail
  rw [← hW1, ← hsb]
  have Hsb := Lib.hid hsb
  clear hW1 hsb
  go_quiet (fail)
  have F2 : Fr F0 W1 (W1.drewN nq) := (Fr.refl _ _).drewN _
  replace s0 := F2.cell s0 id
  replace s1 := F2.cell s1 id
  replace s2 := F2.cell s2 id
  replace s3 := F2.cell s3 id
  replace s4 := F2.cell s4 id
  replace c0 := F2.cell c0 id
  replace c1 := F2.cell c1 id
  replace ti := F2.cell ti id
  replace tj := F2.cell tj id
  replace li := F2.cell li id
  replace lj := F2.cell lj id
  replace FW := Lib.hid (FW.out.trans0 F2)
  clear F2 ma mb ta tb m0 ca cb ca' cb' hik hjk
  generalize W1.drewN nq = WQ at *
  go_wp2_with fail
  go_quiet (fail)
  have F2 : Fr F0 WQ (WQ.drewN nq) := (Fr.refl _ _).drewN _
  replace s0 := F2.cell s0 id
  replace s1 := F2.cell s1 id
  replace s2 := F2.cell s2 id
  replace s3 := F2.cell s3 id
  replace s4 := F2.cell s4 id
  replace c0 := F2.cell c0 id
  replace c1 := F2.cell c1 id
  replace ti := F2.cell ti id
  replace tj := F2.cell tj id
  replace li := F2.cell li id
  replace lj := F2.cell lj id
  replace FW := Lib.hid (FW.out.trans0 F2)
  clear F2 i0 i1 ti li
  generalize WQ.drewN nq = W2 at *
  have Si := Lib.hid (show Tr.Small xi from Ei.out.s)
  have Ci := Lib.hid (show ni ≤ ci from Ei.out.c)
  have Ki := Lib.hid (show ni ≤ K from Ei.out.k)
  have Xl := Lib.hid (show xi.length = ni by have := Ei.out.r.now.len; simpa using this)
  have Ri := Lib.hid (fun (W : World) (f : Fr F0 w W) => show Rd W ai ni (ints xi) from Ei.out.r.now.fr0 f)
  have Ti := Lib.hid (fun (W : World) (f : Fr F0 w W) => show TK W xi (some ⟨bi, 0, none⟩) from Ei.out.t.now.fr0 f)
  have RSi := Lib.hid (show RdS _ w ai ni xi from Ei.out.r)
  have Sj := Lib.hid (show Tr.Small xj from Ej.out.s)
  have Cj := Lib.hid (show nj ≤ cj from Ej.out.c)
  have Kj := Lib.hid (show nj ≤ K from Ej.out.k)
  have Xlj := Lib.hid (show xj.length = nj by have := Ej.out.r.now.len; simpa using this)
  have Rj := Lib.hid (fun (W : World) (f : Fr F0 w W) => show Rd W aj nj (ints xj) from Ej.out.r.now.fr0 f)
  have Tj := Lib.hid (fun (W : World) (f : Fr F0 w W) => show TK W xj (some ⟨bj, 0, none⟩) from Ej.out.t.now.fr0 f)
  have kb1 : ni ≤ 1000 := by have := Ki.out; have := HK.out; omega
  have kb2 : nj ≤ 1000 := by have := Kj.out; have := HK.out; omega
  have wn : IntKind.i64.wrap ((ni : Int) + (nj : Int)) = (ni : Int) + (nj : Int) := wI2 (by omega) (by omega)
  have hd : (300 : Int) < (ni : Int) + (nj : Int) := by omega
  go_wp2_with fail
  go_ret
  exact XPost.none HH.out FW.out
set_option maxRecDepth 100000 in
set_option maxHeartbeats 16000000 in
theorem do_concat_k {w : World} {bx K : Nat} {L : List Ent} {t : Option Addr} {ct : Nat} {l : Option Addr} {cl k : Nat} (H : XS w bx K L t ct l cl k) (hK : K ≤ 1000) (hk : k ≤ 1000) (hk0 : 0 < k) {I X : Int} {A B : Nat} (hA : A ≤ 255) (hB : B ≤ 255) (h0 : ∀ e e', L[A % k]? = some e → L[B % k]? = some e' → e.2.n + e'.2.n ≤ 300) (hK3 : 300 ≤ K) :
    Calls Try.prog 34 #[.pointer (some ⟨bx, 0, none⟩), .agg #[.int .i64 5, .int .u8 A, .int .u8 B, .int .i64 I, .int .i64 X]] w (XPost w bx (K + 1) L t l (fun M => M.length ≤ 2)) := by
  obtain ⟨i, hi⟩ : ∃ i, i = A % k := ⟨_, rfl⟩
  obtain ⟨j, hj⟩ : ∃ i, i = B % k := ⟨_, rfl⟩
  have ma : (A : Int) % (k : Int) = (i : Int) := by rw [hi]; simp
  have mb : (B : Int) % (k : Int) = (j : Int) := by rw [hj]; simp
  have ta : Int.tmod (A : Int) (k : Int) = (i : Int) := by rw [Int.tmod_eq_emod_of_nonneg (by omega)]; exact ma
  have tb : Int.tmod (B : Int) (k : Int) = (j : Int) := by rw [Int.tmod_eq_emod_of_nonneg (by omega)]; exact mb
  have hik : i < k := by rw [hi]; exact Nat.mod_lt _ hk0
  have hjk : j < k := by rw [hj]; exact Nat.mod_lt _ hk0
  have m0 : ¬ ((k : Int) = 0) := by omega
  have ca : IntKind.i64.wrap (A : Int) = (A : Int) := wI2 (by omega) (by omega)
  have cb : IntKind.i64.wrap (B : Int) = (B : Int) := wI2 (by omega) (by omega)
  have ca' : IntKind.i64.wrap (i : Int) = (i : Int) := wI2 (by omega) (by omega)
  have cb' : IntKind.i64.wrap (j : Int) = (j : Int) := wI2 (by omega) (by omega)
  obtain ⟨gt, rfl, gt1, gt2, tcell, _⟩ := H.ot.at hk0
  obtain ⟨gl, rfl, gl1, gl2, lcell, _⟩ := H.ol.at hk0
  obtain ⟨⟨pi, ri⟩, hei⟩ : ∃ e, L[i]? = some e := ⟨_, List.getElem?_eq_getElem (by rw [H.len]; exact hik)⟩
  obtain ⟨⟨pj, rj⟩, hej⟩ : ∃ e, L[j]? = some e := ⟨_, List.getElem?_eq_getElem (by rw [H.len]; exact hjk)⟩
  have ei := H.all _ (List.mem_of_getElem? hei)
  have ej := H.all _ (List.mem_of_getElem? hej)
  obtain ⟨bi, hbi⟩ := ei.t.now.nn
  obtain ⟨bj, hbj⟩ := ej.t.now.nn
  have hbi' : pi = some ⟨bi, 0, none⟩ := hbi
  have hbj' : pj = some ⟨bj, 0, none⟩ := hbj
  subst hbi' hbj'
  obtain ⟨ai, ni, ci, xi⟩ := ri
  obtain ⟨aj, nj, cj, xj⟩ := rj
  have c0 : w.cell? ⟨bx, 0, none⟩ = some (.slice (some ⟨gt, 0, none⟩) k ct) := H.blk.cell rfl
  have c1 : w.cell? ⟨bx, 1, none⟩ = some (.slice (some ⟨gl, 0, none⟩) k cl) := H.blk.cell rfl
  have ti : w.cell? ⟨gt, i, none⟩ = some (.pointer (some ⟨bi, 0, none⟩)) := tcell i _ (by rw [List.getElem?_map, hei]; rfl)
  have tj : w.cell? ⟨gt, j, none⟩ = some (.pointer (some ⟨bj, 0, none⟩)) := tcell j _ (by rw [List.getElem?_map, hej]; rfl)
  have li : w.cell? ⟨gl, i, none⟩ = some (.slice ai ni ci) := lcell i _ (by rw [List.getElem?_map, hei]; rfl)
  have lj : w.cell? ⟨gl, j, none⟩ = some (.slice aj nj cj) := lcell j _ (by rw [List.getElem?_map, hej]; rfl)
  have HH := Lib.hid H
  have Ei := Lib.hid ei
  have Ej := Lib.hid ej
  have HK := Lib.hid (And.intro hK hk)
  have i0 : (0 : Int) ≤ (i : Int) := by omega
  have i1 : (i : Int) < (k : Int) := by omega
  have j0 : (0 : Int) ≤ (j : Int) := by omega
  have j1 : (j : Int) < (k : Int) := by omega
  obtain ⟨W1, hW1⟩ : ∃ W, W = w.alloc (.cells #[.int .i64 5, .int .u8 A, .int .u8 B, .int .i64 I, .int .i64 X] 59) := ⟨_, rfl⟩
  obtain ⟨sb, hsb⟩ : ∃ s, s = w.heap.size := ⟨_, rfl⟩
  have F1 : Fr F0 w W1 := by rw [hW1]; exact (Fr.refl _ _).alloc _
  have sB : Blk W1 sb 59 [.int .i64 5, .int .u8 A, .int .u8 B, .int .i64 I, .int .i64 X] := by rw [hW1, hsb]; exact Blk.new w 59 _
  have s0 : W1.cell? ⟨sb, 0, none⟩ = some (.int .i64 5) := sB.cell rfl
  have s1 : W1.cell? ⟨sb, 1, none⟩ = some (.int .u8 A) := sB.cell rfl
  have s2 : W1.cell? ⟨sb, 2, none⟩ = some (.int .u8 B) := sB.cell rfl
  have s3 : W1.cell? ⟨sb, 3, none⟩ = some (.int .i64 I) := sB.cell rfl
  have s4 : W1.cell? ⟨sb, 4, none⟩ = some (.int .i64 X) := sB.cell rfl
  replace c0 := F1.cell c0 id
  replace c1 := F1.cell c1 id
  replace ti := F1.cell ti id
  replace tj := F1.cell tj id
  replace li := F1.cell li id
  replace lj := F1.cell lj id
  have FW := Lib.hid F1
  have hr0 : ni + nj ≤ 300 := h0 _ _ (hi ▸ hei) (hj ▸ hej)
  have HK3 := Lib.hid hK3
  clear h0 hK3 H hi hj ei ej hei hej tcell lcell hbi hbj hK hk sB F1 gt1 gt2 gl1 gl2
  go_enter Try.func34, Try.ntmps34
  go_wp2_with fail
  rw [← hW1, ← hsb]
  have Hsb := Lib.hid hsb
  clear hW1 hsb
  go_quiet (fail)
  have F2 : Fr F0 W1 (W1.drewN nq) := (Fr.refl _ _).drewN _
  replace s0 := F2.cell s0 id
  replace s1 := F2.cell s1 id
  replace s2 := F2.cell s2 id
  replace s3 := F2.cell s3 id
  replace s4 := F2.cell s4 id
  replace c0 := F2.cell c0 id
  replace c1 := F2.cell c1 id
  replace ti := F2.cell ti id
  replace tj := F2.cell tj id
  replace li := F2.cell li id
  replace lj := F2.cell lj id
  replace FW := Lib.hid (FW.out.trans0 F2)
  clear F2 ma mb ta tb m0 ca cb ca' cb' hik hjk
  generalize W1.drewN nq = WQ at *
  go_wp2_with fail
  go_quiet (fail)
  have F2 : Fr F0 WQ (WQ.drewN nq) := (Fr.refl _ _).drewN _
  replace s0 := F2.cell s0 id
  replace s1 := F2.cell s1 id
  replace s2 := F2.cell s2 id
  replace s3 := F2.cell s3 id
  replace s4 := F2.cell s4 id
  replace c0 := F2.cell c0 id
  replace c1 := F2.cell c1 id
  replace ti := F2.cell ti id
  replace tj := F2.cell tj id
  replace li := F2.cell li id
  replace lj := F2.cell lj id
  replace FW := Lib.hid (FW.out.trans0 F2)
  clear F2 i0 i1 ti li
  generalize WQ.drewN nq = W2 at *
  have Si := Lib.hid (show Tr.Small xi from Ei.out.s)
  have Ci := Lib.hid (show ni ≤ ci from Ei.out.c)
  have Ki := Lib.hid (show ni ≤ K from Ei.out.k)
  have Xl := Lib.hid (show xi.length = ni by have := Ei.out.r.now.len; simpa using this)
  have Ri := Lib.hid (fun (W : World) (f : Fr F0 w W) => show Rd W ai ni (ints xi) from Ei.out.r.now.fr0 f)
  have Ti := Lib.hid (fun (W : World) (f : Fr F0 w W) => show TK W xi (some ⟨bi, 0, none⟩) from Ei.out.t.now.fr0 f)
  have RSi := Lib.hid (show RdS _ w ai ni xi from Ei.out.r)
  have Sj := Lib.hid (show Tr.Small xj from Ej.out.s)
  have Cj := Lib.hid (show nj ≤ cj from Ej.out.c)
  have Kj := Lib.hid (show nj ≤ K from Ej.out.k)
  have Xlj := Lib.hid (show xj.length = nj by have := Ej.out.r.now.len; simpa using this)
  have Rj := Lib.hid (fun (W : World) (f : Fr F0 w W) => show Rd W aj nj (ints xj) from Ej.out.r.now.fr0 f)
  have Tj := Lib.hid (fun (W : World) (f : Fr F0 w W) => show TK W xj (some ⟨bj, 0, none⟩) from Ej.out.t.now.fr0 f)
  have kb1 : ni ≤ 1000 := by have := Ki.out; have := HK.out; omega
  have kb2 : nj ≤ 1000 := by have := Kj.out; have := HK.out; omega
  have wn : IntKind.i64.wrap ((ni : Int) + (nj : Int)) = (ni : Int) + (nj : Int) := wI2 (by omega) (by omega)
  have hd : decide ((300 : Int) < (ni : Int) + (nj : Int)) = false := by simp; omega
  have Hr0 := Lib.hid hr0
  clear hr0
  go_wp2_with fail
  clear wn hd
  refine (Concat_tk (Ti.out _ FW.out) (Tj.out _ FW.out) (Small.app.2 ⟨Si.out, Sj.out⟩) (by have := Xl.out; have := Xlj.out; have := Hr0.out; omega)).mono ?_
  rintro e w3 ⟨b1, rfl, T1, F⟩
  have T := Lib.hid T1
  replace FW := Lib.hid (FW.out.trans0 F)
  replace s0 := F.cell s0 id
  replace s1 := F.cell s1 id
  replace s2 := F.cell s2 id
  replace s3 := F.cell s3 id
  replace s4 := F.cell s4 id
  replace c0 := F.cell c0 id
  replace c1 := F.cell c1 id
  replace tj := F.cell tj id
  replace lj := F.cell lj id
  clear F T1
  have A0 : Fr F0 w3 (w3.alloc (.cells #[.slice ai ni ci, .slice aj nj cj] 22)) := (Fr.refl _ _).alloc _
  have RL : Rd (w3.alloc (.cells #[.slice ai ni ci, .slice aj nj cj] 22)) (some ⟨w3.heap.size, 0, none⟩) 2 (List.map SlI.val [⟨ai, ni, ci, xi⟩, ⟨aj, nj, cj, xj⟩]) := (Own.lit (w := w3) (B := 0) (T := 22) (List.map SlI.val [⟨ai, ni, ci, xi⟩, ⟨aj, nj, cj, xj⟩]) 2 rfl (Nat.zero_le _) (by omega)).rd
  have ecat : cat [⟨ai, ni, ci, xi⟩, ⟨aj, nj, cj, xj⟩] = xi ++ xj := by simp [cat]
  have hcat := SConcat_any (ck := 2) RL (fun r hr => by
    simp only [List.mem_cons, List.not_mem_nil, or_false] at hr
    rcases hr with rfl | rfl
    · exact (Ri.out _ FW.out).fr0 A0
    · exact (Rj.out _ FW.out).fr0 A0
    ) (by rw [ecat]; simp only [List.length_append]; have := Xl.out; have := Xlj.out; have := Hr0.out; omega)
  rw [ecat] at hcat
  have Hcat := Lib.hid hcat
  replace T := Lib.hid (T.out.fr0 A0)
  have hB := Lib.hid (Nat.le_trans FW.out.size A0.size)
  replace FW := Lib.hid (FW.out.trans0 A0)
  clear A0 RL ecat hcat
  go_wp2_with fail
  refine (Hcat.out).mono ?_
  rintro e w4 ⟨aS, mS, cS, hmS, rfl, O, F⟩
  replace T := Lib.hid (T.out.fr0 F)
  replace FW := Lib.hid (FW.out.trans0 F)
  have hml : mS ≤ 300 := by rw [hmS, List.length_append]; have := Xl.out; have := Xlj.out; have := Hr0.out; omega
  have hadd := Lib.hid (add_at (r := ⟨aS, mS, cS, xi ++ xj⟩) HH.out FW.out T.out (EOk.new HH.out FW.out T.out O hB.out (Small.app.2 ⟨Si.out, Sj.out⟩) (by have := HK3.out; omega)) HK.out.1 HK.out.2)
  clear O F hmS Hcat T hB hml
  go_wp2_with fail
  refine hadd.out.mono ?_
  rintro e wZ ⟨rfl, R⟩
  replace R := Lib.hid R
  go_wp2_with fail
  go_ret
  exact ⟨rfl, R.out⟩
set_option maxRecDepth 100000 in
set_option maxHeartbeats 16000000 in
theorem do_split_k {w : World} {bx K : Nat} {L : List Ent} {t : Option Addr} {ct : Nat} {l : Option Addr} {cl k : Nat} (H : XS w bx K L t ct l cl k) (hK : K ≤ 1000) (hk : k ≤ 1000) (hk0 : 0 < k) {I X : Int} {A B : Nat} (hA : A ≤ 255) (hB : B ≤ 255) {n : Nat} (hI : I = n) (h0 : ∀ e, L[A % k]? = some e → n ≤ e.2.n) :
    Calls Try.prog 34 #[.pointer (some ⟨bx, 0, none⟩), .agg #[.int .i64 6, .int .u8 A, .int .u8 B, .int .i64 I, .int .i64 X]] w (XPost w bx (K + 1) L t l (fun M => M.length ≤ 2)) := by
  subst hI
  obtain ⟨i, hi⟩ : ∃ i, i = A % k := ⟨_, rfl⟩
  obtain ⟨j, hj⟩ : ∃ i, i = B % k := ⟨_, rfl⟩
  have ma : (A : Int) % (k : Int) = (i : Int) := by rw [hi]; simp
  have mb : (B : Int) % (k : Int) = (j : Int) := by rw [hj]; simp
  have ta : Int.tmod (A : Int) (k : Int) = (i : Int) := by rw [Int.tmod_eq_emod_of_nonneg (by omega)]; exact ma
  have tb : Int.tmod (B : Int) (k : Int) = (j : Int) := by rw [Int.tmod_eq_emod_of_nonneg (by omega)]; exact mb
  have hik : i < k := by rw [hi]; exact Nat.mod_lt _ hk0
  have hjk : j < k := by rw [hj]; exact Nat.mod_lt _ hk0
  have m0 : ¬ ((k : Int) = 0) := by omega
  have ca : IntKind.i64.wrap (A : Int) = (A : Int) := wI2 (by omega) (by omega)
  have cb : IntKind.i64.wrap (B : Int) = (B : Int) := wI2 (by omega) (by omega)
  have ca' : IntKind.i64.wrap (i : Int) = (i : Int) := wI2 (by omega) (by omega)
  have cb' : IntKind.i64.wrap (j : Int) = (j : Int) := wI2 (by omega) (by omega)
  obtain ⟨gt, rfl, gt1, gt2, tcell, _⟩ := H.ot.at hk0
  obtain ⟨gl, rfl, gl1, gl2, lcell, _⟩ := H.ol.at hk0
  obtain ⟨⟨pi, ri⟩, hei⟩ : ∃ e, L[i]? = some e := ⟨_, List.getElem?_eq_getElem (by rw [H.len]; exact hik)⟩
  obtain ⟨⟨pj, rj⟩, hej⟩ : ∃ e, L[j]? = some e := ⟨_, List.getElem?_eq_getElem (by rw [H.len]; exact hjk)⟩
  have ei := H.all _ (List.mem_of_getElem? hei)
  have ej := H.all _ (List.mem_of_getElem? hej)
  obtain ⟨bi, hbi⟩ := ei.t.now.nn
  obtain ⟨bj, hbj⟩ := ej.t.now.nn
  have hbi' : pi = some ⟨bi, 0, none⟩ := hbi
  have hbj' : pj = some ⟨bj, 0, none⟩ := hbj
  subst hbi' hbj'
  obtain ⟨ai, ni, ci, xi⟩ := ri
  obtain ⟨aj, nj, cj, xj⟩ := rj
  have c0 : w.cell? ⟨bx, 0, none⟩ = some (.slice (some ⟨gt, 0, none⟩) k ct) := H.blk.cell rfl
  have c1 : w.cell? ⟨bx, 1, none⟩ = some (.slice (some ⟨gl, 0, none⟩) k cl) := H.blk.cell rfl
  have ti : w.cell? ⟨gt, i, none⟩ = some (.pointer (some ⟨bi, 0, none⟩)) := tcell i _ (by rw [List.getElem?_map, hei]; rfl)
  have tj : w.cell? ⟨gt, j, none⟩ = some (.pointer (some ⟨bj, 0, none⟩)) := tcell j _ (by rw [List.getElem?_map, hej]; rfl)
  have li : w.cell? ⟨gl, i, none⟩ = some (.slice ai ni ci) := lcell i _ (by rw [List.getElem?_map, hei]; rfl)
  have lj : w.cell? ⟨gl, j, none⟩ = some (.slice aj nj cj) := lcell j _ (by rw [List.getElem?_map, hej]; rfl)
  have HH := Lib.hid H
  have Ei := Lib.hid ei
  have Ej := Lib.hid ej
  have HK := Lib.hid (And.intro hK hk)
  have i0 : (0 : Int) ≤ (i : Int) := by omega
  have i1 : (i : Int) < (k : Int) := by omega
  have j0 : (0 : Int) ≤ (j : Int) := by omega
  have j1 : (j : Int) < (k : Int) := by omega
  obtain ⟨W1, hW1⟩ : ∃ W, W = w.alloc (.cells #[.int .i64 6, .int .u8 A, .int .u8 B, .int .i64 (n : Int), .int .i64 X] 59) := ⟨_, rfl⟩
  obtain ⟨sb, hsb⟩ : ∃ s, s = w.heap.size := ⟨_, rfl⟩
  have F1 : Fr F0 w W1 := by rw [hW1]; exact (Fr.refl _ _).alloc _
  have sB : Blk W1 sb 59 [.int .i64 6, .int .u8 A, .int .u8 B, .int .i64 (n : Int), .int .i64 X] := by rw [hW1, hsb]; exact Blk.new w 59 _
  have s0 : W1.cell? ⟨sb, 0, none⟩ = some (.int .i64 6) := sB.cell rfl
  have s1 : W1.cell? ⟨sb, 1, none⟩ = some (.int .u8 A) := sB.cell rfl
  have s2 : W1.cell? ⟨sb, 2, none⟩ = some (.int .u8 B) := sB.cell rfl
  have s3 : W1.cell? ⟨sb, 3, none⟩ = some (.int .i64 (n : Int)) := sB.cell rfl
  have s4 : W1.cell? ⟨sb, 4, none⟩ = some (.int .i64 X) := sB.cell rfl
  replace c0 := F1.cell c0 id
  replace c1 := F1.cell c1 id
  replace ti := F1.cell ti id
  replace tj := F1.cell tj id
  replace li := F1.cell li id
  replace lj := F1.cell lj id
  have FW := Lib.hid F1
  have hr0 : n ≤ ni := h0 _ (hi ▸ hei)
  have Hr0 := Lib.hid hr0
  clear hr0 h0 H hi hj ei ej hei hej tcell lcell hbi hbj hK hk sB F1 gt1 gt2 gl1 gl2
  go_enter Try.func34, Try.ntmps34
  go_wp2_with fail
  rw [← hW1, ← hsb]
  have Hsb := Lib.hid hsb
  clear hW1 hsb
  go_quiet (fail)
  have F2 : Fr F0 W1 (W1.drewN nq) := (Fr.refl _ _).drewN _
  replace s0 := F2.cell s0 id
  replace s1 := F2.cell s1 id
  replace s2 := F2.cell s2 id
  replace s3 := F2.cell s3 id
  replace s4 := F2.cell s4 id
  replace c0 := F2.cell c0 id
  replace c1 := F2.cell c1 id
  replace ti := F2.cell ti id
  replace tj := F2.cell tj id
  replace li := F2.cell li id
  replace lj := F2.cell lj id
  replace FW := Lib.hid (FW.out.trans0 F2)
  clear F2 ma mb ta tb m0 ca cb ca' cb' hik hjk
  generalize W1.drewN nq = WQ at *
  go_wp2_with fail
  go_quiet (fail)
  have F2 : Fr F0 WQ (WQ.drewN nq) := (Fr.refl _ _).drewN _
  replace s0 := F2.cell s0 id
  replace s1 := F2.cell s1 id
  replace s2 := F2.cell s2 id
  replace s3 := F2.cell s3 id
  replace s4 := F2.cell s4 id
  replace c0 := F2.cell c0 id
  replace c1 := F2.cell c1 id
  replace ti := F2.cell ti id
  replace tj := F2.cell tj id
  replace li := F2.cell li id
  replace lj := F2.cell lj id
  replace FW := Lib.hid (FW.out.trans0 F2)
  clear F2 i0 i1 ti li c0 c1 j0 j1 tj lj
  generalize WQ.drewN nq = W2 at *
  have Si := Lib.hid (show Tr.Small xi from Ei.out.s)
  have Ci := Lib.hid (show ni ≤ ci from Ei.out.c)
  have Ki := Lib.hid (show ni ≤ K from Ei.out.k)
  have Xl := Lib.hid (show xi.length = ni by have := Ei.out.r.now.len; simpa using this)
  have Ri := Lib.hid (fun (W : World) (f : Fr F0 w W) => show Rd W ai ni (ints xi) from Ei.out.r.now.fr0 f)
  have Ti := Lib.hid (fun (W : World) (f : Fr F0 w W) => show TK W xi (some ⟨bi, 0, none⟩) from Ei.out.t.now.fr0 f)
  have RSi := Lib.hid (show RdS _ w ai ni xi from Ei.out.r)
  have n1 : decide ((n : Int) < 0) = false := by simp
  have n2 : decide (ni < n) = false := by have := Hr0.out; simp; omega
  go_wp2_with fail
  refine (Split_tk (Ti.out _ FW.out) Si.out (by have := Xl.out; have := Ki.out; have := HK.out; omega) (i := n) (by have := Hr0.out; have := Xl.out; omega)).mono ?_
  rintro e w3 ⟨b1, b2, rfl, T1, T2, F⟩
  replace FW := Lib.hid (FW.out.trans0 F)
  replace s0 := F.cell s0 id
  replace s1 := F.cell s1 id
  replace s2 := F.cell s2 id
  replace s3 := F.cell s3 id
  replace s4 := F.cell s4 id
  have R1 := RSi.out.take Ci.out (k := n) Hr0.out
  have hnr : ni = n + (ni - n) := by have := Hr0.out; omega
  have R2 := RSi.out.drop Ci.out hnr
  have hadd := Lib.hid (add_ok (c := ci) ((HH.out.fr0 FW.out).up (Nat.le_succ K)) T1 (EOk.at HH.out FW.out T1 R1 (by have := Ci.out; have := Hr0.out; omega) (Small.of_take Si.out) (by have := Ki.out; have := Hr0.out; omega)) (by have := HK.out; omega) (by have := HK.out; omega))
  have E2 := Lib.hid (show EOk _ _ (K + 1) (some ⟨b2, 0, none⟩, ⟨cutA ai ci n, ni - n, ci - n, xi.drop n⟩) from EOk.at HH.out FW.out T2 R2 (by have := Ci.out; omega) (Small.of_drop Si.out) (by have := Ki.out; omega))
  have sl1 : ∀ W, (Instr.sliceAt 22 (.slice ai ni ci) none (some (.int .i64 (n : Int))) none).run Try.prog W = .ok (.slice (cutA ai ci 0) n ci) W := fun W => run_cutHi E3 W ai (n := ni) (c := ci) (k := n) (by have := Ci.out; have := Hr0.out; omega) rfl
  have sl2 : ∀ W, (Instr.sliceAt 22 (.slice ai ni ci) (some (.int .i64 (n : Int))) none none).run Try.prog W = .ok (.slice (cutA ai ci n) (ni - n) (ci - n)) W := fun W => run_cutLo E3 W ai (n := ni) (c := ci) (k := n) (r := ni - n) hnr rfl
  have kn : n ≤ 1000 := by have := Ki.out; have := HK.out; have := Hr0.out; omega
  clear F T1 T2 R1 R2 hnr
  go_wp2_with fail
  refine hadd.out.mono ?_
  rintro e w4 ⟨rfl, M1, hM1, t1, ct1, l1, cl1, k1, X1, G1, N1⟩
  have E3' := E2.out.go G1 N1
  have s3' := G1.cell s3 (fun h => absurd (HH.out.nlt sb h) (by have := Hsb.out; omega))
  have HM1 := Lib.hid hM1
  have hk1 : k1 ≤ 100000 := by have h := X1.len; rw [hM1, List.length_append, HH.out.len] at h; have := HK.out; simp at h; omega
  have hadd2 := Lib.hid (add_ok X1 E3'.t.now E3' (by have := HK.out; omega) hk1)
  have G2 := Lib.hid ((FW.out.mono (fun _ _ h => h.elim) : Fr (Nb bx (some ⟨gt, 0, none⟩) (some ⟨gl, 0, none⟩)) w w3).trans G1 (fun _ _ h => h))
  have N2 := Lib.hid (fun j (hj : j < w.heap.size) hk => N1 j (Nat.lt_of_lt_of_le hj FW.out.size) hk)
  clear X1 G1 N1 E3' hadd s0 s1 s2 s3 s4
  go_wp2_with fail
  refine hadd2.out.mono ?_
  rintro e w5 ⟨rfl, R⟩
  have R' := Lib.hid (XPost.two G2.out N2.out (by rw [HM1.out]; simp) (fun x hx => by rw [hx]; simp) ⟨rfl, R⟩)
  clear R
  go_wp2_with fail
  go_ret
  exact R'.out
set_option maxRecDepth 100000 in
set_option maxHeartbeats 16000000 in
theorem do_split_b {w : World} {bx K : Nat} {L : List Ent} {t : Option Addr} {ct : Nat} {l : Option Addr} {cl k : Nat} (H : XS w bx K L t ct l cl k) (hK : K ≤ 1000) (hk : k ≤ 1000) (hk0 : 0 < k) {I X : Int} {A B : Nat} (hA : A ≤ 255) (hB : B ≤ 255) (h0 : ∀ e, L[A % k]? = some e → I < 0 ∨ (e.2.n : Int) < I) :
    Calls Try.prog 34 #[.pointer (some ⟨bx, 0, none⟩), .agg #[.int .i64 6, .int .u8 A, .int .u8 B, .int .i64 I, .int .i64 X]] w (XPost w bx (K + 1) L t l (fun M => M.length ≤ 2)) := by
  obtain ⟨i, hi⟩ : ∃ i, i = A % k := ⟨_, rfl⟩
  obtain ⟨j, hj⟩ : ∃ i, i = B % k := ⟨_, rfl⟩
  have ma : (A : Int) % (k : Int) = (i : Int) := by rw [hi]; simp
  have mb : (B : Int) % (k : Int) = (j : Int) := by rw [hj]; simp
  have ta : Int.tmod (A : Int) (k : Int) = (i : Int) := by rw [Int.tmod_eq_emod_of_nonneg (by omega)]; exact ma
  have tb : Int.tmod (B : Int) (k : Int) = (j : Int) := by rw [Int.tmod_eq_emod_of_nonneg (by omega)]; exact mb
  have hik : i < k := by rw [hi]; exact Nat.mod_lt _ hk0
  have hjk : j < k := by rw [hj]; exact Nat.mod_lt _ hk0
  have m0 : ¬ ((k : Int) = 0) := by omega
  have ca : IntKind.i64.wrap (A : Int) = (A : Int) := wI2 (by omega) (by omega)
  have cb : IntKind.i64.wrap (B : Int) = (B : Int) := wI2 (by omega) (by omega)
  have ca' : IntKind.i64.wrap (i : Int) = (i : Int) := wI2 (by omega) (by omega)
  have cb' : IntKind.i64.wrap (j : Int) = (j : Int) := wI2 (by omega) (by omega)
  obtain ⟨gt, rfl, gt1, gt2, tcell, _⟩ := H.ot.at hk0
  obtain ⟨gl, rfl, gl1, gl2, lcell, _⟩ := H.ol.at hk0
  obtain ⟨⟨pi, ri⟩, hei⟩ : ∃ e, L[i]? = some e := ⟨_, List.getElem?_eq_getElem (by rw [H.len]; exact hik)⟩
  obtain ⟨⟨pj, rj⟩, hej⟩ : ∃ e, L[j]? = some e := ⟨_, List.getElem?_eq_getElem (by rw [H.len]; exact hjk)⟩
  have ei := H.all _ (List.mem_of_getElem? hei)
  have ej := H.all _ (List.mem_of_getElem? hej)
  obtain ⟨bi, hbi⟩ := ei.t.now.nn
  obtain ⟨bj, hbj⟩ := ej.t.now.nn
  have hbi' : pi = some ⟨bi, 0, none⟩ := hbi
  have hbj' : pj = some ⟨bj, 0, none⟩ := hbj
  subst hbi' hbj'
  obtain ⟨ai, ni, ci, xi⟩ := ri
  obtain ⟨aj, nj, cj, xj⟩ := rj
  have c0 : w.cell? ⟨bx, 0, none⟩ = some (.slice (some ⟨gt, 0, none⟩) k ct) := H.blk.cell rfl
  have c1 : w.cell? ⟨bx, 1, none⟩ = some (.slice (some ⟨gl, 0, none⟩) k cl) := H.blk.cell rfl
  have ti : w.cell? ⟨gt, i, none⟩ = some (.pointer (some ⟨bi, 0, none⟩)) := tcell i _ (by rw [List.getElem?_map, hei]; rfl)
  have tj : w.cell? ⟨gt, j, none⟩ = some (.pointer (some ⟨bj, 0, none⟩)) := tcell j _ (by rw [List.getElem?_map, hej]; rfl)
  have li : w.cell? ⟨gl, i, none⟩ = some (.slice ai ni ci) := lcell i _ (by rw [List.getElem?_map, hei]; rfl)
  have lj : w.cell? ⟨gl, j, none⟩ = some (.slice aj nj cj) := lcell j _ (by rw [List.getElem?_map, hej]; rfl)
  have HH := Lib.hid H
  have Ei := Lib.hid ei
  have Ej := Lib.hid ej
  have HK := Lib.hid (And.intro hK hk)
  have i0 : (0 : Int) ≤ (i : Int) := by omega
  have i1 : (i : Int) < (k : Int) := by omega
  have j0 : (0 : Int) ≤ (j : Int) := by omega
  have j1 : (j : Int) < (k : Int) := by omega
  obtain ⟨W1, hW1⟩ : ∃ W, W = w.alloc (.cells #[.int .i64 6, .int .u8 A, .int .u8 B, .int .i64 I, .int .i64 X] 59) := ⟨_, rfl⟩
  obtain ⟨sb, hsb⟩ : ∃ s, s = w.heap.size := ⟨_, rfl⟩
  have F1 : Fr F0 w W1 := by rw [hW1]; exact (Fr.refl _ _).alloc _
  have sB : Blk W1 sb 59 [.int .i64 6, .int .u8 A, .int .u8 B, .int .i64 I, .int .i64 X] := by rw [hW1, hsb]; exact Blk.new w 59 _
  have s0 : W1.cell? ⟨sb, 0, none⟩ = some (.int .i64 6) := sB.cell rfl
  have s1 : W1.cell? ⟨sb, 1, none⟩ = some (.int .u8 A) := sB.cell rfl
  have s2 : W1.cell? ⟨sb, 2, none⟩ = some (.int .u8 B) := sB.cell rfl
  have s3 : W1.cell? ⟨sb, 3, none⟩ = some (.int .i64 I) := sB.cell rfl
  have s4 : W1.cell? ⟨sb, 4, none⟩ = some (.int .i64 X) := sB.cell rfl
  replace c0 := F1.cell c0 id
  replace c1 := F1.cell c1 id
  replace ti := F1.cell ti id
  replace tj := F1.cell tj id
  replace li := F1.cell li id
  replace lj := F1.cell lj id
  have FW := Lib.hid F1
  have hr0 : I < 0 ∨ (ni : Int) < I := h0 _ (hi ▸ hei)
  have Hr0 := Lib.hid hr0
  clear hr0 h0 H hi hj ei ej hei hej tcell lcell hbi hbj hK hk sB F1 gt1 gt2 gl1 gl2
  go_enter Try.func34, Try.ntmps34
  go_wp2_with fail
  rw [← hW1, ← hsb]
  have Hsb := Lib.hid hsb
  clear hW1 hsb
  go_quiet (fail)
  have F2 : Fr F0 W1 (W1.drewN nq) := (Fr.refl _ _).drewN _
  replace s0 := F2.cell s0 id
  replace s1 := F2.cell s1 id
  replace s2 := F2.cell s2 id
  replace s3 := F2.cell s3 id
  replace s4 := F2.cell s4 id
  replace c0 := F2.cell c0 id
  replace c1 := F2.cell c1 id
  replace ti := F2.cell ti id
  replace tj := F2.cell tj id
  replace li := F2.cell li id
  replace lj := F2.cell lj id
  replace FW := Lib.hid (FW.out.trans0 F2)
  clear F2 ma mb ta tb m0 ca cb ca' cb' hik hjk
  generalize W1.drewN nq = WQ at *
  go_wp2_with fail
  go_quiet (fail)
  have F2 : Fr F0 WQ (WQ.drewN nq) := (Fr.refl _ _).drewN _
  replace s0 := F2.cell s0 id
  replace s1 := F2.cell s1 id
  replace s2 := F2.cell s2 id
  replace s3 := F2.cell s3 id
  replace s4 := F2.cell s4 id
  replace c0 := F2.cell c0 id
  replace c1 := F2.cell c1 id
  replace ti := F2.cell ti id
  replace tj := F2.cell tj id
  replace li := F2.cell li id
  replace lj := F2.cell lj id
  replace FW := Lib.hid (FW.out.trans0 F2)
  clear F2 i0 i1 ti li c0 c1 j0 j1 tj lj
  generalize WQ.drewN nq = W2 at *
  have Si := Lib.hid (show Tr.Small xi from Ei.out.s)
  have Ci := Lib.hid (show ni ≤ ci from Ei.out.c)
  have Ki := Lib.hid (show ni ≤ K from Ei.out.k)
  have Xl := Lib.hid (show xi.length = ni by have := Ei.out.r.now.len; simpa using this)
  have Ri := Lib.hid (fun (W : World) (f : Fr F0 w W) => show Rd W ai ni (ints xi) from Ei.out.r.now.fr0 f)
  have Ti := Lib.hid (fun (W : World) (f : Fr F0 w W) => show TK W xi (some ⟨bi, 0, none⟩) from Ei.out.t.now.fr0 f)
  have RSi := Lib.hid (show RdS _ w ai ni xi from Ei.out.r)
  have SK := Split_range (i := I) (Ti.out _ FW.out) (by have h := Hr0.out; rw [Xl.out]; exact h)
  by_cases hneg : I < 0
  · clear Hr0
    go_wp2_with fail
    refine SK.mono ?_; rintro e w3 ⟨rfl, rfl⟩
    go_wp2_with fail
    go_ret
    exact XPost.none HH.out FW.out
  · have hge : (ni : Int) < I := by have := Hr0.out; omega
    clear Hr0
    go_wp2_with fail
    refine SK.mono ?_; rintro e w3 ⟨rfl, rfl⟩
    go_wp2_with fail
    go_ret
    exact XPost.none HH.out FW.out
set_option maxRecDepth 100000 in
set_option maxHeartbeats 16000000 in
theorem do_make {w : World} {bx K : Nat} {L : List Ent} {t : Option Addr} {ct : Nat} {l : Option Addr} {cl k : Nat} (H : XS w bx K L t ct l cl k) (hK : K ≤ 1000) (hk : k ≤ 1000) (hk0 : 0 < k) {kd I X : Int} {A B : Nat} (hA : A ≤ 255) (hB : B ≤ 255) (h0 : kd ≠ 0 ∧ kd ≠ 1 ∧ kd ≠ 2 ∧ kd ≠ 3 ∧ kd ≠ 4 ∧ kd ≠ 5 ∧ kd ≠ 6) (hK3 : 300 ≤ K) :
    Calls Try.prog 34 #[.pointer (some ⟨bx, 0, none⟩), .agg #[.int .i64 kd, .int .u8 A, .int .u8 B, .int .i64 I, .int .i64 X]] w (XPost w bx (K + 1) L t l (fun M => M.length ≤ 2)) := by
  obtain ⟨i, hi⟩ : ∃ i, i = A % k := ⟨_, rfl⟩
  obtain ⟨j, hj⟩ : ∃ i, i = B % k := ⟨_, rfl⟩
  have ma : (A : Int) % (k : Int) = (i : Int) := by rw [hi]; simp
  have mb : (B : Int) % (k : Int) = (j : Int) := by rw [hj]; simp
  have ta : Int.tmod (A : Int) (k : Int) = (i : Int) := by rw [Int.tmod_eq_emod_of_nonneg (by omega)]; exact ma
  have tb : Int.tmod (B : Int) (k : Int) = (j : Int) := by rw [Int.tmod_eq_emod_of_nonneg (by omega)]; exact mb
  have hik : i < k := by rw [hi]; exact Nat.mod_lt _ hk0
  have hjk : j < k := by rw [hj]; exact Nat.mod_lt _ hk0
  have m0 : ¬ ((k : Int) = 0) := by omega
  have ca : IntKind.i64.wrap (A : Int) = (A : Int) := wI2 (by omega) (by omega)
  have cb : IntKind.i64.wrap (B : Int) = (B : Int) := wI2 (by omega) (by omega)
  have ca' : IntKind.i64.wrap (i : Int) = (i : Int) := wI2 (by omega) (by omega)
  have cb' : IntKind.i64.wrap (j : Int) = (j : Int) := wI2 (by omega) (by omega)
  obtain ⟨gt, rfl, gt1, gt2, tcell, _⟩ := H.ot.at hk0
  obtain ⟨gl, rfl, gl1, gl2, lcell, _⟩ := H.ol.at hk0
  obtain ⟨⟨pi, ri⟩, hei⟩ : ∃ e, L[i]? = some e := ⟨_, List.getElem?_eq_getElem (by rw [H.len]; exact hik)⟩
  obtain ⟨⟨pj, rj⟩, hej⟩ : ∃ e, L[j]? = some e := ⟨_, List.getElem?_eq_getElem (by rw [H.len]; exact hjk)⟩
  have ei := H.all _ (List.mem_of_getElem? hei)
  have ej := H.all _ (List.mem_of_getElem? hej)
  obtain ⟨bi, hbi⟩ := ei.t.now.nn
  obtain ⟨bj, hbj⟩ := ej.t.now.nn
  have hbi' : pi = some ⟨bi, 0, none⟩ := hbi
  have hbj' : pj = some ⟨bj, 0, none⟩ := hbj
  subst hbi' hbj'
  obtain ⟨ai, ni, ci, xi⟩ := ri
  obtain ⟨aj, nj, cj, xj⟩ := rj
  have c0 : w.cell? ⟨bx, 0, none⟩ = some (.slice (some ⟨gt, 0, none⟩) k ct) := H.blk.cell rfl
  have c1 : w.cell? ⟨bx, 1, none⟩ = some (.slice (some ⟨gl, 0, none⟩) k cl) := H.blk.cell rfl
  have ti : w.cell? ⟨gt, i, none⟩ = some (.pointer (some ⟨bi, 0, none⟩)) := tcell i _ (by rw [List.getElem?_map, hei]; rfl)
  have tj : w.cell? ⟨gt, j, none⟩ = some (.pointer (some ⟨bj, 0, none⟩)) := tcell j _ (by rw [List.getElem?_map, hej]; rfl)
  have li : w.cell? ⟨gl, i, none⟩ = some (.slice ai ni ci) := lcell i _ (by rw [List.getElem?_map, hei]; rfl)
  have lj : w.cell? ⟨gl, j, none⟩ = some (.slice aj nj cj) := lcell j _ (by rw [List.getElem?_map, hej]; rfl)
  have HH := Lib.hid H
  have Ei := Lib.hid ei
  have Ej := Lib.hid ej
  have HK := Lib.hid (And.intro hK hk)
  have i0 : (0 : Int) ≤ (i : Int) := by omega
  have i1 : (i : Int) < (k : Int) := by omega
  have j0 : (0 : Int) ≤ (j : Int) := by omega
  have j1 : (j : Int) < (k : Int) := by omega
  obtain ⟨W1, hW1⟩ : ∃ W, W = w.alloc (.cells #[.int .i64 kd, .int .u8 A, .int .u8 B, .int .i64 I, .int .i64 X] 59) := ⟨_, rfl⟩
  obtain ⟨sb, hsb⟩ : ∃ s, s = w.heap.size := ⟨_, rfl⟩
  have F1 : Fr F0 w W1 := by rw [hW1]; exact (Fr.refl _ _).alloc _
  have sB : Blk W1 sb 59 [.int .i64 kd, .int .u8 A, .int .u8 B, .int .i64 I, .int .i64 X] := by rw [hW1, hsb]; exact Blk.new w 59 _
  have s0 : W1.cell? ⟨sb, 0, none⟩ = some (.int .i64 kd) := sB.cell rfl
  have s1 : W1.cell? ⟨sb, 1, none⟩ = some (.int .u8 A) := sB.cell rfl
  have s2 : W1.cell? ⟨sb, 2, none⟩ = some (.int .u8 B) := sB.cell rfl
  have s3 : W1.cell? ⟨sb, 3, none⟩ = some (.int .i64 I) := sB.cell rfl
  have s4 : W1.cell? ⟨sb, 4, none⟩ = some (.int .i64 X) := sB.cell rfl
  replace c0 := F1.cell c0 id
  replace c1 := F1.cell c1 id
  replace ti := F1.cell ti id
  replace tj := F1.cell tj id
  replace li := F1.cell li id
  replace lj := F1.cell lj id
  have FW := Lib.hid F1
  have HK3 := Lib.hid hK3
  have hd0 : (kd == 0) = false := by simp; omega
  have hd1 : (kd == 1) = false := by simp; omega
  have hd2 : (kd == 2) = false := by simp; omega
  have hd3 : (kd == 3) = false := by simp; omega
  have hd4 : (kd == 4) = false := by simp; omega
  have hd5 : (kd == 5) = false := by simp; omega
  have hd6 : (kd == 6) = false := by simp; omega
  clear h0 hK3 H hi hj ei ej hei hej tcell lcell hbi hbj hK hk sB F1 gt1 gt2 gl1 gl2
  go_enter Try.func34, Try.ntmps34
  go_wp2_with fail
  rw [← hW1, ← hsb]
  have Hsb := Lib.hid hsb
  clear hW1 hsb
  go_quiet (fail)
  have F2 : Fr F0 W1 (W1.drewN nq) := (Fr.refl _ _).drewN _
  replace s0 := F2.cell s0 id
  replace s1 := F2.cell s1 id
  replace s2 := F2.cell s2 id
  replace s3 := F2.cell s3 id
  replace s4 := F2.cell s4 id
  replace c0 := F2.cell c0 id
  replace c1 := F2.cell c1 id
  replace ti := F2.cell ti id
  replace tj := F2.cell tj id
  replace li := F2.cell li id
  replace lj := F2.cell lj id
  replace FW := Lib.hid (FW.out.trans0 F2)
  clear F2 ma mb ta tb m0 ca cb ca' cb' hik hjk
  generalize W1.drewN nq = WQ at *
  go_wp2_with fail
  go_quiet (fail)
  have F2 : Fr F0 WQ (WQ.drewN nq) := (Fr.refl _ _).drewN _
  replace s0 := F2.cell s0 id
  replace s1 := F2.cell s1 id
  replace s2 := F2.cell s2 id
  replace s3 := F2.cell s3 id
  replace s4 := F2.cell s4 id
  replace c0 := F2.cell c0 id
  replace c1 := F2.cell c1 id
  replace ti := F2.cell ti id
  replace tj := F2.cell tj id
  replace li := F2.cell li id
  replace lj := F2.cell lj id
  replace FW := Lib.hid (FW.out.trans0 F2)
  clear F2 i0 i1 ti li c0 c1 j0 j1 tj lj
  generalize WQ.drewN nq = W2 at *
  have Si := Lib.hid (show Tr.Small xi from Ei.out.s)
  have Ci := Lib.hid (show ni ≤ ci from Ei.out.c)
  have Ki := Lib.hid (show ni ≤ K from Ei.out.k)
  have Xl := Lib.hid (show xi.length = ni by have := Ei.out.r.now.len; simpa using this)
  have Ri := Lib.hid (fun (W : World) (f : Fr F0 w W) => show Rd W ai ni (ints xi) from Ei.out.r.now.fr0 f)
  have Ti := Lib.hid (fun (W : World) (f : Fr F0 w W) => show TK W xi (some ⟨bi, 0, none⟩) from Ei.out.t.now.fr0 f)
  have RSi := Lib.hid (show RdS _ w ai ni xi from Ei.out.r)
  have A3 : Fr F0 W2 (W2.alloc (.cells #[.int .i64 1, .int .i64 2] 3)) := (Fr.refl _ _).alloc _
  have R3 : Rd (W2.alloc (.cells #[.int .i64 1, .int .i64 2] 3)) (some ⟨W2.heap.size, 0, none⟩) 2 (ints [1, 2]) := (Own.lit (w := W2) (B := 0) (T := 3) (ints [1, 2]) 2 rfl (Nat.zero_le _) (by omega)).rd
  have H1 := Lib.hid (Make_tk R3 (c := 2) (by omega) small12 (by omega))
  replace FW := Lib.hid (FW.out.trans0 A3)
  clear A3 R3
  go_wp2_with fail
  refine H1.out.mono ?_
  rintro e w3 ⟨b1, rfl, T1, F⟩
  replace FW := Lib.hid (FW.out.trans0 F)
  have A4 : Fr F0 w3 (w3.alloc (.cells #[.int .i64 1, .int .i64 2] 3)) := (Fr.refl _ _).alloc _
  have O4 : Own (w3.alloc (.cells #[.int .i64 1, .int .i64 2] 3)) w3.heap.size 3 (some ⟨w3.heap.size, 0, none⟩) 2 2 (ints [1, 2]) := Own.lit (w := w3) (B := w3.heap.size) (T := 3) (ints [1, 2]) 2 rfl (Nat.le_refl _) (by omega)
  have hB := FW.out.size
  replace FW := Lib.hid (FW.out.trans0 A4)
  have hadd := Lib.hid (add_at (r := ⟨some ⟨w3.heap.size, 0, none⟩, 2, 2, [1, 2]⟩) HH.out FW.out (T1.fr0 A4) (EOk.new HH.out FW.out (T1.fr0 A4) O4 hB small12 (by have := HK3.out; omega)) HK.out.1 HK.out.2)
  clear F T1 A4 O4 hB H1
  go_wp2_with fail
  refine hadd.out.mono ?_
  rintro e wZ ⟨rfl, R⟩
  replace R := Lib.hid R
  go_wp2_with fail
  go_ret
  exact ⟨rfl, R.out⟩
end Go.Proofs.Ytdihajeccjdhkaa
