/- Steps that take an element away, or set one. -/
import Derived.Test.YtdihajeccjdhkaaA24
namespace Go.Proofs.Ytdihajeccjdhkaa
open Go.RowKit
attribute [local go_sem ↓] Go.wp_at_zero Go.wp_at_succ
theorem EOk.at {w w5 : World} {bx K : Nat} {L : List Ent} {t : Option Addr} {ct : Nat} {l : Option Addr} {cl k : Nat} (H : XS w bx K L t ct l cl k) (f : Fr F0 w w5) {K' n c : Nat} {p a : Option Addr} {xs : List Int}
    (hT : TK w5 xs p) (R : RdS (Nb bx t l) w a n xs) (hc : n ≤ c) (hs : Tr.Small xs) (hn : n ≤ K') : EOk (Nb bx t l) w5 K' (p, ⟨a, n, c, xs⟩) :=
  ⟨hT.st (H.fr0 f).noT, R.go (f.mono (fun _ _ h => h.elim)) (fun _ _ h => h), hc, hs, hn⟩
theorem Small.of_take {xs : List Int} {n : Nat} (h : Tr.Small xs) : Tr.Small (xs.take n) := fun y hy => h y (List.mem_of_mem_take hy)
theorem Small.of_drop {xs : List Int} {n : Nat} (h : Tr.Small xs) : Tr.Small (xs.drop n) := fun y hy => h y (List.mem_of_mem_drop hy)
set_option maxRecDepth 100000 in
set_option maxHeartbeats 16000000 in
theorem do_pop2_0 {w : World} {bx K : Nat} {L : List Ent} {t : Option Addr} {ct : Nat} {l : Option Addr} {cl k : Nat} (H : XS w bx K L t ct l cl k) (hK : K ≤ 1000) (hk : k ≤ 1000) (hk0 : 0 < k) {I X : Int} {A B : Nat} (hA : A ≤ 255) (hB : B ≤ 255) (h0 : ∀ e, L[A % k]? = some e → e.2.n = 0) :
    Calls Try.prog 34 #[.pointer (some ⟨bx, 0, none⟩), .agg #[.int .i64 2, .int .u8 A, .int .u8 B, .int .i64 I, .int .i64 X]] w (XPost w bx (K + 1) L t l (fun M => M.length ≤ 2)) := by
  obtain ⟨i, hi⟩ : ∃ i, i = A % k := ⟨_, rfl⟩
  obtain ⟨j, hj⟩ : ∃ i, i = B % k := ⟨_, rfl⟩
  have ma : (A : Int) % (k : Int) = (i : Int) := by rw [hi]; simp
  have mb : (B : Int) % (k : Int) = (j : Int) := by rw [hj]; simp
  have ta : Int.tmod (A : Int) (k : Int) = (i : Int) := by rw [Int.tmod_eq_emod_of_nonneg (by omega)]; exact ma
  have tb : Int.tmod (B : Int) (k : Int) = (j : Int) := by rw [Int.tmod_eq_emod_of_nonneg (by omega)]; exact mb
  have hik : i < k := by rw [hi]; exact Nat.mod_lt _ hk0
  have hjk : j < k := by rw [hj]; exact Nat.mod_lt _ hk0
  have m0 : ¬ ((k : Int) = 0) := by omega
  have ca : IntKind.i64.wrap (A : Int) = (A : Int) := wI2 (by omega) (by omega)
  have cb : IntKind.i64.wrap (B : Int) = (B : Int) := wI2 (by omega) (by omega)
  have ca' : IntKind.i64.wrap (i : Int) = (i : Int) := wI2 (by omega) (by omega)
  have cb' : IntKind.i64.wrap (j : Int) = (j : Int) := wI2 (by omega) (by omega)
  obtain ⟨gt, rfl, gt1, gt2, tcell, _⟩ := H.ot.at hk0
  obtain ⟨gl, rfl, gl1, gl2, lcell, _⟩ := H.ol.at hk0
  obtain ⟨⟨pi, ri⟩, hei⟩ : ∃ e, L[i]? = some e := ⟨_, List.getElem?_eq_getElem (by rw [H.len]; exact hik)⟩
  obtain ⟨⟨pj, rj⟩, hej⟩ : ∃ e, L[j]? = some e := ⟨_, List.getElem?_eq_getElem (by rw [H.len]; exact hjk)⟩
  have ei := H.all _ (List.mem_of_getElem? hei)
  have ej := H.all _ (List.mem_of_getElem? hej)
  obtain ⟨bi, hbi⟩ := ei.t.now.nn
  obtain ⟨bj, hbj⟩ := ej.t.now.nn
  have hbi' : pi = some ⟨bi, 0, none⟩ := hbi
  have hbj' : pj = some ⟨bj, 0, none⟩ := hbj
  subst hbi' hbj'
  obtain ⟨ai, ni, ci, xi⟩ := ri
  obtain ⟨aj, nj, cj, xj⟩ := rj
  have c0 : w.cell? ⟨bx, 0, none⟩ = some (.slice (some ⟨gt, 0, none⟩) k ct) := H.blk.cell rfl
  have c1 : w.cell? ⟨bx, 1, none⟩ = some (.slice (some ⟨gl, 0, none⟩) k cl) := H.blk.cell rfl
  have ti : w.cell? ⟨gt, i, none⟩ = some (.pointer (some ⟨bi, 0, none⟩)) := tcell i _ (by rw [List.getElem?_map, hei]; rfl)
  have tj : w.cell? ⟨gt, j, none⟩ = some (.pointer (some ⟨bj, 0, none⟩)) := tcell j _ (by rw [List.getElem?_map, hej]; rfl)
  have li : w.cell? ⟨gl, i, none⟩ = some (.slice ai ni ci) := lcell i _ (by rw [List.getElem?_map, hei]; rfl)
  have lj : w.cell? ⟨gl, j, none⟩ = some (.slice aj nj cj) := lcell j _ (by rw [List.getElem?_map, hej]; rfl)
  have HH := Lib.hid H
  have Ei := Lib.hid ei
  have Ej := Lib.hid ej
  have HK := Lib.hid (And.intro hK hk)
  have i0 : (0 : Int) ≤ (i : Int) := by omega
  have i1 : (i : Int) < (k : Int) := by omega
  have j0 : (0 : Int) ≤ (j : Int) := by omega
  have j1 : (j : Int) < (k : Int) := by omega
  obtain ⟨W1, hW1⟩ : ∃ W, W = w.alloc (.cells #[.int .i64 2, .int .u8 A, .int .u8 B, .int .i64 I, .int .i64 X] 59) := ⟨_, rfl⟩
  obtain ⟨sb, hsb⟩ : ∃ s, s = w.heap.size := ⟨_, rfl⟩
  have F1 : Fr F0 w W1 := by rw [hW1]; exact (Fr.refl _ _).alloc _
  have sB : Blk W1 sb 59 [.int .i64 2, .int .u8 A, .int .u8 B, .int .i64 I, .int .i64 X] := by rw [hW1, hsb]; exact Blk.new w 59 _
  have s0 : W1.cell? ⟨sb, 0, none⟩ = some (.int .i64 2) := sB.cell rfl
  have s1 : W1.cell? ⟨sb, 1, none⟩ = some (.int .u8 A) := sB.cell rfl
  have s2 : W1.cell? ⟨sb, 2, none⟩ = some (.int .u8 B) := sB.cell rfl
  have s3 : W1.cell? ⟨sb, 3, none⟩ = some (.int .i64 I) := sB.cell rfl
  have s4 : W1.cell? ⟨sb, 4, none⟩ = some (.int .i64 X) := sB.cell rfl
  replace c0 := F1.cell c0 id
  replace c1 := F1.cell c1 id
  replace ti := F1.cell ti id
  replace tj := F1.cell tj id
  replace li := F1.cell li id
  replace lj := F1.cell lj id
  have FW := Lib.hid F1
  have hn0 : ni = 0 := h0 _ (hi ▸ hei)
  subst hn0
  clear h0 H hi hj ei ej hei hej tcell lcell hbi hbj hK hk sB F1 gt1 gt2 gl1 gl2
  go_enter Try.func34, Try.ntmps34
  go_wp2_with fail
  rw [← hW1, ← hsb]
  have Hsb := Lib.hid hsb
  clear hW1 hsb
  go_quiet (fail)
  have F2 : Fr F0 W1 (W1.drewN nq) := (Fr.refl _ _).drewN _
  replace s0 := F2.cell s0 id
  replace s1 := F2.cell s1 id
  replace s2 := F2.cell s2 id
  replace s3 := F2.cell s3 id
  replace s4 := F2.cell s4 id
  replace c0 := F2.cell c0 id
  replace c1 := F2.cell c1 id
  replace ti := F2.cell ti id
  replace tj := F2.cell tj id
  replace li := F2.cell li id
  replace lj := F2.cell lj id
  replace FW := Lib.hid (FW.out.trans0 F2)
  clear F2 ma mb ta tb m0 ca cb ca' cb' hik hjk
  generalize W1.drewN nq = WQ at *
  go_wp2_with fail
  go_quiet (fail)
  have F2 : Fr F0 WQ (WQ.drewN nq) := (Fr.refl _ _).drewN _
  replace s0 := F2.cell s0 id
  replace s1 := F2.cell s1 id
  replace s2 := F2.cell s2 id
  replace s3 := F2.cell s3 id
  replace s4 := F2.cell s4 id
  replace c0 := F2.cell c0 id
  replace c1 := F2.cell c1 id
  replace ti := F2.cell ti id
  replace tj := F2.cell tj id
  replace li := F2.cell li id
  replace lj := F2.cell lj id
  replace FW := Lib.hid (FW.out.trans0 F2)
  clear F2 i0 i1 ti li c0 c1 j0 j1 tj lj
  generalize WQ.drewN nq = W2 at *
  have Si := Lib.hid (show Tr.Small xi from Ei.out.s)
  have Ci := Lib.hid (show 0 ≤ ci from Ei.out.c)
  have Ki := Lib.hid (show 0 ≤ K from Ei.out.k)
  have Xl := Lib.hid (show xi.length = 0 by have := Ei.out.r.now.len; simpa using this)
  have Ri := Lib.hid (fun (W : World) (f : Fr F0 w W) => show Rd W ai 0 (ints xi) from Ei.out.r.now.fr0 f)
  have Ti := Lib.hid (fun (W : World) (f : Fr F0 w W) => show TK W xi (some ⟨bi, 0, none⟩) from Ei.out.t.now.fr0 f)
  have RSi := Lib.hid (show RdS _ w ai 0 xi from Ei.out.r)
  have hxe : xi = [] := List.length_eq_zero_iff.1 Xl.out
  subst hxe
  have PB := PopBack_none (Ti.out _ FW.out)
  go_wp2_with fail
  refine PB.mono ?_; rintro e w3 ⟨rfl, rfl⟩
  have PF := PopFront_none (Ti.out _ FW.out)
  go_wp2_with fail
  refine PF.mono ?_; rintro e w3 ⟨rfl, rfl⟩
  go_wp2_with fail
  go_ret
  exact XPost.none HH.out FW.out
set_option maxRecDepth 100000 in
set_option maxHeartbeats 16000000 in
theorem do_pop3_0 {w : World} {bx K : Nat} {L : List Ent} {t : Option Addr} {ct : Nat} {l : Option Addr} {cl k : Nat} (H : XS w bx K L t ct l cl k) (hK : K ≤ 1000) (hk : k ≤ 1000) (hk0 : 0 < k) {I X : Int} {A B : Nat} (hA : A ≤ 255) (hB : B ≤ 255) (h0 : ∀ e, L[A % k]? = some e → e.2.n = 0) :
    Calls Try.prog 34 #[.pointer (some ⟨bx, 0, none⟩), .agg #[.int .i64 3, .int .u8 A, .int .u8 B, .int .i64 I, .int .i64 X]] w (XPost w bx (K + 1) L t l (fun M => M.length ≤ 2)) := by
  obtain ⟨i, hi⟩ : ∃ i, i = A % k := ⟨_, rfl⟩
  obtain ⟨j, hj⟩ : ∃ i, i = B % k := ⟨_, rfl⟩
  have ma : (A : Int) % (k : Int) = (i : Int) := by rw [hi]; simp
  have mb : (B : Int) % (k : Int) = (j : Int) := by rw [hj]; simp
  have ta : Int.tmod (A : Int) (k : Int) = (i : Int) := by rw [Int.tmod_eq_emod_of_nonneg (by omega)]; exact ma
  have tb : Int.tmod (B : Int) (k : Int) = (j : Int) := by rw [Int.tmod_eq_emod_of_nonneg (by omega)]; exact mb
  have hik : i < k := by rw [hi]; exact Nat.mod_lt _ hk0
  have hjk : j < k := by rw [hj]; exact Nat.mod_lt _ hk0
  have m0 : ¬ ((k : Int) = 0) := by omega
  have ca : IntKind.i64.wrap (A : Int) = (A : Int) := wI2 (by omega) (by omega)
  have cb : IntKind.i64.wrap (B : Int) = (B : Int) := wI2 (by omega) (by omega)
  have ca' : IntKind.i64.wrap (i : Int) = (i : Int) := wI2 (by omega) (by omega)
  have cb' : IntKind.i64.wrap (j : Int) = (j : Int) := wI2 (by omega) (by omega)
  obtain ⟨gt, rfl, gt1, gt2, tcell, _⟩ := H.ot.at hk0
  obtain ⟨gl, rfl, gl1, gl2, lcell, _⟩ := H.ol.at hk0
  obtain ⟨⟨pi, ri⟩, hei⟩ : ∃ e, L[i]? = some e := ⟨_, List.getElem?_eq_getElem (by rw [H.len]; exact hik)⟩
  obtain ⟨⟨pj, rj⟩, hej⟩ : ∃ e, L[j]? = some e := ⟨_, List.getElem?_eq_getElem (by rw [H.len]; exact hjk)⟩
  have ei := H.all _ (List.mem_of_getElem? hei)
  have ej := H.all _ (List.mem_of_getElem? hej)
  obtain ⟨bi, hbi⟩ := ei.t.now.nn
  obtain ⟨bj, hbj⟩ := ej.t.now.nn
  have hbi' : pi = some ⟨bi, 0, none⟩ := hbi
  have hbj' : pj = some ⟨bj, 0, none⟩ := hbj
  subst hbi' hbj'
  obtain ⟨ai, ni, ci, xi⟩ := ri
  obtain ⟨aj, nj, cj, xj⟩ := rj
  have c0 : w.cell? ⟨bx, 0, none⟩ = some (.slice (some ⟨gt, 0, none⟩) k ct) := H.blk.cell rfl
  have c1 : w.cell? ⟨bx, 1, none⟩ = some (.slice (some ⟨gl, 0, none⟩) k cl) := H.blk.cell rfl
  have ti : w.cell? ⟨gt, i, none⟩ = some (.pointer (some ⟨bi, 0, none⟩)) := tcell i _ (by rw [List.getElem?_map, hei]; rfl)
  have tj : w.cell? ⟨gt, j, none⟩ = some (.pointer (some ⟨bj, 0, none⟩)) := tcell j _ (by rw [List.getElem?_map, hej]; rfl)
  have li : w.cell? ⟨gl, i, none⟩ = some (.slice ai ni ci) := lcell i _ (by rw [List.getElem?_map, hei]; rfl)
  have lj : w.cell? ⟨gl, j, none⟩ = some (.slice aj nj cj) := lcell j _ (by rw [List.getElem?_map, hej]; rfl)
  have HH := Lib.hid H
  have Ei := Lib.hid ei
  have Ej := Lib.hid ej
  have HK := Lib.hid (And.intro hK hk)
  have i0 : (0 : Int) ≤ (i : Int) := by omega
  have i1 : (i : Int) < (k : Int) := by omega
  have j0 : (0 : Int) ≤ (j : Int) := by omega
  have j1 : (j : Int) < (k : Int) := by omega
  obtain ⟨W1, hW1⟩ : ∃ W, W = w.alloc (.cells #[.int .i64 3, .int .u8 A, .int .u8 B, .int .i64 I, .int .i64 X] 59) := ⟨_, rfl⟩
  obtain ⟨sb, hsb⟩ : ∃ s, s = w.heap.size := ⟨_, rfl⟩
  have F1 : Fr F0 w W1 := by rw [hW1]; exact (Fr.refl _ _).alloc _
  have sB : Blk W1 sb 59 [.int .i64 3, .int .u8 A, .int .u8 B, .int .i64 I, .int .i64 X] := by rw [hW1, hsb]; exact Blk.new w 59 _
  have s0 : W1.cell? ⟨sb, 0, none⟩ = some (.int .i64 3) := sB.cell rfl
  have s1 : W1.cell? ⟨sb, 1, none⟩ = some (.int .u8 A) := sB.cell rfl
  have s2 : W1.cell? ⟨sb, 2, none⟩ = some (.int .u8 B) := sB.cell rfl
  have s3 : W1.cell? ⟨sb, 3, none⟩ = some (.int .i64 I) := sB.cell rfl
  have s4 : W1.cell? ⟨sb, 4, none⟩ = some (.int .i64 X) := sB.cell rfl
  replace c0 := F1.cell c0 id
  replace c1 := F1.cell c1 id
  replace ti := F1.cell ti id
  replace tj := F1.cell tj id
  replace li := F1.cell li id
  replace lj := F1.cell lj id
  have FW := Lib.hid F1
  have hn0 : ni = 0 := h0 _ (hi ▸ hei)
  subst hn0
  clear h0 H hi hj ei ej hei hej tcell lcell hbi hbj hK hk sB F1 gt1 gt2 gl1 gl2
  go_enter Try.func34, Try.ntmps34
  go_wp2_with fail
  rw [← hW1, ← hsb]
  have Hsb := Lib.hid hsb
  clear hW1 hsb
  go_quiet (fail)
  have F2 : Fr F0 W1 (W1.drewN nq) := (Fr.refl _ _).drewN _
  replace s0 := F2.cell s0 id
  replace s1 := F2.cell s1 id
  replace s2 := F2.cell s2 id
  replace s3 := F2.cell s3 id
  replace s4 := F2.cell s4 id
  replace c0 := F2.cell c0 id
  replace c1 := F2.cell c1 id
  replace ti := F2.cell ti id
  replace tj := F2.cell tj id
  replace li := F2.cell li id
  replace lj := F2.cell lj id
  replace FW := Lib.hid (FW.out.trans0 F2)
  clear F2 ma mb ta tb m0 ca cb ca' cb' hik hjk
  generalize W1.drewN nq = WQ at *
  go_wp2_with fail
  go_quiet (fail)
  have F2 : Fr F0 WQ (WQ.drewN nq) := (Fr.refl _ _).drewN _
  replace s0 := F2.cell s0 id
  replace s1 := F2.cell s1 id
  replace s2 := F2.cell s2 id
  replace s3 := F2.cell s3 id
  replace s4 := F2.cell s4 id
  replace c0 := F2.cell c0 id
  replace c1 := F2.cell c1 id
  replace ti := F2.cell ti id
  replace tj := F2.cell tj id
  replace li := F2.cell li id
  replace lj := F2.cell lj id
  replace FW := Lib.hid (FW.out.trans0 F2)
  clear F2 i0 i1 ti li c0 c1 j0 j1 tj lj
  generalize WQ.drewN nq = W2 at *
  have Si := Lib.hid (show Tr.Small xi from Ei.out.s)
  have Ci := Lib.hid (show 0 ≤ ci from Ei.out.c)
  have Ki := Lib.hid (show 0 ≤ K from Ei.out.k)
  have Xl := Lib.hid (show xi.length = 0 by have := Ei.out.r.now.len; simpa using this)
  have Ri := Lib.hid (fun (W : World) (f : Fr F0 w W) => show Rd W ai 0 (ints xi) from Ei.out.r.now.fr0 f)
  have Ti := Lib.hid (fun (W : World) (f : Fr F0 w W) => show TK W xi (some ⟨bi, 0, none⟩) from Ei.out.t.now.fr0 f)
  have RSi := Lib.hid (show RdS _ w ai 0 xi from Ei.out.r)
  have hxe : xi = [] := List.length_eq_zero_iff.1 Xl.out
  subst hxe
  have PB := PopBack_none (Ti.out _ FW.out)
  go_wp2_with fail
  refine PB.mono ?_; rintro e w3 ⟨rfl, rfl⟩
  go_wp2_with fail
  go_ret
  exact XPost.none HH.out FW.out
set_option maxRecDepth 100000 in
set_option maxHeartbeats 16000000 in
theorem do_pop2_1 {w : World} {bx K : Nat} {L : List Ent} {t : Option Addr} {ct : Nat} {l : Option Addr} {cl k : Nat} (H : XS w bx K L t ct l cl k) (hK : K ≤ 1000) (hk : k ≤ 1000) (hk0 : 0 < k) {I X : Int} {A B : Nat} (hA : A ≤ 255) (hB : B ≤ 255) (h0 : ∀ e, L[A % k]? = some e → e.2.n ≠ 0) :
    Calls Try.prog 34 #[.pointer (some ⟨bx, 0, none⟩), .agg #[.int .i64 2, .int .u8 A, .int .u8 B, .int .i64 I, .int .i64 X]] w (XPost w bx (K + 1) L t l (fun M => M.length ≤ 2)) := by
  obtain ⟨i, hi⟩ : ∃ i, i = A % k := ⟨_, rfl⟩
  obtain ⟨j, hj⟩ : ∃ i, i = B % k := ⟨_, rfl⟩
  have ma : (A : Int) % (k : Int) = (i : Int) := by rw [hi]; simp
  have mb : (B : Int) % (k : Int) = (j : Int) := by rw [hj]; simp
  have ta : Int.tmod (A : Int) (k : Int) = (i : Int) := by rw [Int.tmod_eq_emod_of_nonneg (by omega)]; exact ma
  have tb : Int.tmod (B : Int) (k : Int) = (j : Int) := by rw [Int.tmod_eq_emod_of_nonneg (by omega)]; exact mb
  have hik : i < k := by rw [hi]; exact Nat.mod_lt _ hk0
  have hjk : j < k := by rw [hj]; exact Nat.mod_lt _ hk0
  have m0 : ¬ ((k : Int) = 0) := by omega
  have ca : IntKind.i64.wrap (A : Int) = (A : Int) := wI2 (by omega) (by omega)
  have cb : IntKind.i64.wrap (B : Int) = (B : Int) := wI2 (by omega) (by omega)
  have ca' : IntKind.i64.wrap (i : Int) = (i : Int) := wI2 (by omega) (by omega)
  have cb' : IntKind.i64.wrap (j : Int) = (j : Int) := wI2 (by omega) (by omega)
  obtain ⟨gt, rfl, gt1, gt2, tcell, _⟩ := H.ot.at hk0
  obtain ⟨gl, rfl, gl1, gl2, lcell, _⟩ := H.ol.at hk0
  obtain ⟨⟨pi, ri⟩, hei⟩ : ∃ e, L[i]? = some e := ⟨_, List.getElem?_eq_getElem (by rw [H.len]; exact hik)⟩
  obtain ⟨⟨pj, rj⟩, hej⟩ : ∃ e, L[j]? = some e := ⟨_, List.getElem?_eq_getElem (by rw [H.len]; exact hjk)⟩
  have ei := H.all _ (List.mem_of_getElem? hei)
  have ej := H.all _ (List.mem_of_getElem? hej)
  obtain ⟨bi, hbi⟩ := ei.t.now.nn
  obtain ⟨bj, hbj⟩ := ej.t.now.nn
  have hbi' : pi = some ⟨bi, 0, none⟩ := hbi
  have hbj' : pj = some ⟨bj, 0, none⟩ := hbj
  subst hbi' hbj'
  obtain ⟨ai, ni, ci, xi⟩ := ri
  obtain ⟨aj, nj, cj, xj⟩ := rj
  have c0 : w.cell? ⟨bx, 0, none⟩ = some (.slice (some ⟨gt, 0, none⟩) k ct) := H.blk.cell rfl
  have c1 : w.cell? ⟨bx, 1, none⟩ = some (.slice (some ⟨gl, 0, none⟩) k cl) := H.blk.cell rfl
  have ti : w.cell? ⟨gt, i, none⟩ = some (.pointer (some ⟨bi, 0, none⟩)) := tcell i _ (by rw [List.getElem?_map, hei]; rfl)
  have tj : w.cell? ⟨gt, j, none⟩ = some (.pointer (some ⟨bj, 0, none⟩)) := tcell j _ (by rw [List.getElem?_map, hej]; rfl)
  have li : w.cell? ⟨gl, i, none⟩ = some (.slice ai ni ci) := lcell i _ (by rw [List.getElem?_map, hei]; rfl)
  have lj : w.cell? ⟨gl, j, none⟩ = some (.slice aj nj cj) := lcell j _ (by rw [List.getElem?_map, hej]; rfl)
  have HH := Lib.hid H
  have Ei := Lib.hid ei
  have Ej := Lib.hid ej
  have HK := Lib.hid (And.intro hK hk)
  have i0 : (0 : Int) ≤ (i : Int) := by omega
  have i1 : (i : Int) < (k : Int) := by omega
  have j0 : (0 : Int) ≤ (j : Int) := by omega
  have j1 : (j : Int) < (k : Int) := by omega
  obtain ⟨W1, hW1⟩ : ∃ W, W = w.alloc (.cells #[.int .i64 2, .int .u8 A, .int .u8 B, .int .i64 I, .int .i64 X] 59) := ⟨_, rfl⟩
  obtain ⟨sb, hsb⟩ : ∃ s, s = w.heap.size := ⟨_, rfl⟩
  have F1 : Fr F0 w W1 := by rw [hW1]; exact (Fr.refl _ _).alloc _
  have sB : Blk W1 sb 59 [.int .i64 2, .int .u8 A, .int .u8 B, .int .i64 I, .int .i64 X] := by rw [hW1, hsb]; exact Blk.new w 59 _
  have s0 : W1.cell? ⟨sb, 0, none⟩ = some (.int .i64 2) := sB.cell rfl
  have s1 : W1.cell? ⟨sb, 1, none⟩ = some (.int .u8 A) := sB.cell rfl
  have s2 : W1.cell? ⟨sb, 2, none⟩ = some (.int .u8 B) := sB.cell rfl
  have s3 : W1.cell? ⟨sb, 3, none⟩ = some (.int .i64 I) := sB.cell rfl
  have s4 : W1.cell? ⟨sb, 4, none⟩ = some (.int .i64 X) := sB.cell rfl
  replace c0 := F1.cell c0 id
  replace c1 := F1.cell c1 id
  replace ti := F1.cell ti id
  replace tj := F1.cell tj id
  replace li := F1.cell li id
  replace lj := F1.cell lj id
  have FW := Lib.hid F1
  have hn0 : ni ≠ 0 := h0 _ (hi ▸ hei)
  obtain ⟨m, rfl⟩ : ∃ m, ni = m + 1 := ⟨ni - 1, by omega⟩
  clear h0 hn0 H hi hj ei ej hei hej tcell lcell hbi hbj hK hk sB F1 gt1 gt2 gl1 gl2
  go_enter Try.func34, Try.ntmps34
  go_wp2_with fail
  rw [← hW1, ← hsb]
  have Hsb := Lib.hid hsb
  clear hW1 hsb
  go_quiet (fail)
  have F2 : Fr F0 W1 (W1.drewN nq) := (Fr.refl _ _).drewN _
  replace s0 := F2.cell s0 id
  replace s1 := F2.cell s1 id
  replace s2 := F2.cell s2 id
  replace s3 := F2.cell s3 id
  replace s4 := F2.cell s4 id
  replace c0 := F2.cell c0 id
  replace c1 := F2.cell c1 id
  replace ti := F2.cell ti id
  replace tj := F2.cell tj id
  replace li := F2.cell li id
  replace lj := F2.cell lj id
  replace FW := Lib.hid (FW.out.trans0 F2)
  clear F2 ma mb ta tb m0 ca cb ca' cb' hik hjk
  generalize W1.drewN nq = WQ at *
  go_wp2_with fail
  go_quiet (fail)
  have F2 : Fr F0 WQ (WQ.drewN nq) := (Fr.refl _ _).drewN _
  replace s0 := F2.cell s0 id
  replace s1 := F2.cell s1 id
  replace s2 := F2.cell s2 id
  replace s3 := F2.cell s3 id
  replace s4 := F2.cell s4 id
  replace c0 := F2.cell c0 id
  replace c1 := F2.cell c1 id
  replace ti := F2.cell ti id
  replace tj := F2.cell tj id
  replace li := F2.cell li id
  replace lj := F2.cell lj id
  replace FW := Lib.hid (FW.out.trans0 F2)
  clear F2 i0 i1 ti li c0 c1 j0 j1 tj lj
  generalize WQ.drewN nq = W2 at *
  have Si := Lib.hid (show Tr.Small xi from Ei.out.s)
  have Ci := Lib.hid (show (m + 1) ≤ ci from Ei.out.c)
  have Ki := Lib.hid (show (m + 1) ≤ K from Ei.out.k)
  have Xl := Lib.hid (show xi.length = (m + 1) by have := Ei.out.r.now.len; simpa using this)
  have Ri := Lib.hid (fun (W : World) (f : Fr F0 w W) => show Rd W ai (m + 1) (ints xi) from Ei.out.r.now.fr0 f)
  have Ti := Lib.hid (fun (W : World) (f : Fr F0 w W) => show TK W xi (some ⟨bi, 0, none⟩) from Ei.out.t.now.fr0 f)
  have RSi := Lib.hid (show RdS _ w ai (m + 1) xi from Ei.out.r)
  have KM : m ≤ 1000 := by have := Ki.out; have := HK.out; omega
  obtain ⟨ys, z, hyz⟩ : ∃ ys z, xi = ys ++ [z] := ⟨xi.dropLast, xi.getLast (fun h => by have := Xl.out; rw [h] at this; simp at this), (List.dropLast_concat_getLast _).symm⟩
  have hyl : ys.length = m := by have := Xl.out; rw [hyz] at this; simpa using this
  have Hyz := Lib.hid (And.intro hyz hyl)
  obtain ⟨v, zs, hvz⟩ : ∃ v zs, xi = v :: zs := by
    cases xi with
    | nil => have := Xl.out; simp at this
    | cons v zs => exact ⟨v, zs, rfl⟩
  have hzl : zs.length = m := by have := Xl.out; rw [hvz] at this; simpa using this
  have Hvz := Lib.hid (And.intro hvz hzl)
  have PB := Lib.hid (fun (W : World) (f : Fr F0 w W) => (PopBack_tk (v := z) (xs := ys) (by have h := Ti.out _ f; rw [← hyz]; exact h) (by rw [← hyz]; exact Si.out) (by omega) : Calls Try.prog 27 #[.pointer (some ⟨bi, 0, none⟩)] W (TKv z ys W)))
  have PF := Lib.hid (fun (W : World) (f : Fr F0 w W) => (PopFront_tk (v := v) (xs := zs) (by have h := Ti.out _ f; rw [← hvz]; exact h) (by rw [← hvz]; exact Si.out) (by omega) : Calls Try.prog 26 #[.pointer (some ⟨bi, 0, none⟩)] W (TKv v zs W)))
  have hix : xi[0]? = some v := by rw [hvz]; rfl
  have hdr : xi.drop 1 = zs := by rw [hvz]; rfl
  clear hvz hzl
  clear hyz hyl
  go_wp2_with fail
  refine (PB.out _ FW.out).mono ?_
  rintro e w3 ⟨b1, rfl, T1, F⟩
  have T := Lib.hid T1
  replace FW := Lib.hid (FW.out.trans0 F)
  replace s0 := F.cell s0 id
  replace s1 := F.cell s1 id
  replace s2 := F.cell s2 id
  replace s3 := F.cell s3 id
  replace s4 := F.cell s4 id
  clear F T1
  clear T
  go_wp2_with fail
  refine (PF.out _ FW.out).mono ?_
  rintro e w4 ⟨b2, rfl, T1, F⟩
  have T := Lib.hid T1
  replace FW := Lib.hid (FW.out.trans0 F)
  replace s0 := F.cell s0 id
  replace s1 := F.cell s1 id
  replace s2 := F.cell s2 id
  replace s3 := F.cell s3 id
  replace s4 := F.cell s4 id
  clear F T1
  obtain ⟨bb, oo, x0, ha, hx0, d⟩ := (Ri.out _ FW.out).ix (i := 0) (by omega)
  obtain rfl : x0 = v := by rw [show (xi)[0]? = some v from hix] at hx0; injection hx0 with h; exact h.symm
  have ha' : ai = some ⟨bb, oo, none⟩ := ha
  rw [Nat.add_zero] at d
  have sl : ∀ W, (Instr.sliceAt 22 (.slice ai (m + 1) ci) (some (.int .i64 1)) none none).run Try.prog W = .ok (.slice (cutA ai ci 1) m (ci - 1)) W := fun W => run_cutLo E3 W ai (n := m + 1) (c := ci) (k := 1) (r := m) (by omega) rfl
  have RS := Lib.hid (show RdS _ _ (cutA ai ci 1) m zs from hdr ▸ RSi.out.drop Ci.out (k := 1) (r := m) (by omega))
  have hadd := Lib.hid (add_at (r := ⟨cutA ai ci 1, m, ci - 1, zs⟩) HH.out FW.out T.out (EOk.at HH.out FW.out T.out RS.out (by have := Ci.out; omega) (hdr ▸ Small.of_drop Si.out) (by have := Ki.out; omega)) HK.out.1 HK.out.2)
  subst ha'
  have i0 : (0 : Int) ≤ (m : Int) := by omega
  have i1 : (m : Int) < (m : Int) + 1 := by omega
  have i2 : (0 : Int) < (m : Int) + 1 := by omega
  clear hx0 hix ha RS PB
  go_wp2_with fail
  refine hadd.out.mono ?_
  rintro e wZ ⟨rfl, R⟩
  replace R := Lib.hid R
  go_wp2_with fail
  go_ret
  exact ⟨rfl, R.out⟩
set_option maxRecDepth 100000 in
set_option maxHeartbeats 16000000 in
theorem do_pop3_1 {w : World} {bx K : Nat} {L : List Ent} {t : Option Addr} {ct : Nat} {l : Option Addr} {cl k : Nat} (H : XS w bx K L t ct l cl k) (hK : K ≤ 1000) (hk : k ≤ 1000) (hk0 : 0 < k) {I X : Int} {A B : Nat} (hA : A ≤ 255) (hB : B ≤ 255) (h0 : ∀ e, L[A % k]? = some e → e.2.n ≠ 0) :
    Calls Try.prog 34 #[.pointer (some ⟨bx, 0, none⟩), .agg #[.int .i64 3, .int .u8 A, .int .u8 B, .int .i64 I, .int .i64 X]] w (XPost w bx (K + 1) L t l (fun M => M.length ≤ 2)) := by
  obtain ⟨i, hi⟩ : ∃ i, i = A % k := ⟨_, rfl⟩
  obtain ⟨j, hj⟩ : ∃ i, i = B % k := ⟨_, rfl⟩
  have ma : (A : Int) % (k : Int) = (i : Int) := by rw [hi]; simp
  have mb : (B : Int) % (k : Int) = (j : Int) := by rw [hj]; simp
  have ta : Int.tmod (A : Int) (k : Int) = (i : Int) := by rw [Int.tmod_eq_emod_of_nonneg (by omega)]; exact ma
  have tb : Int.tmod (B : Int) (k : Int) = (j : Int) := by rw [Int.tmod_eq_emod_of_nonneg (by omega)]; exact mb
  have hik : i < k := by rw [hi]; exact Nat.mod_lt _ hk0
  have hjk : j < k := by rw [hj]; exact Nat.mod_lt _ hk0
  have m0 : ¬ ((k : Int) = 0) := by omega
  have ca : IntKind.i64.wrap (A : Int) = (A : Int) := wI2 (by omega) (by omega)
  have cb : IntKind.i64.wrap (B : Int) = (B : Int) := wI2 (by omega) (by omega)
  have ca' : IntKind.i64.wrap (i : Int) = (i : Int) := wI2 (by omega) (by omega)
  have cb' : IntKind.i64.wrap (j : Int) = (j : Int) := wI2 (by omega) (by omega)
  obtain ⟨gt, rfl, gt1, gt2, tcell, _⟩ := H.ot.at hk0
  obtain ⟨gl, rfl, gl1, gl2, lcell, _⟩ := H.ol.at hk0
  obtain ⟨⟨pi, ri⟩, hei⟩ : ∃ e, L[i]? = some e := ⟨_, List.getElem?_eq_getElem (by rw [H.len]; exact hik)⟩
  obtain ⟨⟨pj, rj⟩, hej⟩ : ∃ e, L[j]? = some e := ⟨_, List.getElem?_eq_getElem (by rw [H.len]; exact hjk)⟩
  have ei := H.all _ (List.mem_of_getElem? hei)
  have ej := H.all _ (List.mem_of_getElem? hej)
  obtain ⟨bi, hbi⟩ := ei.t.now.nn
  obtain ⟨bj, hbj⟩ := ej.t.now.nn
  have hbi' : pi = some ⟨bi, 0, none⟩ := hbi
  have hbj' : pj = some ⟨bj, 0, none⟩ := hbj
  subst hbi' hbj'
  obtain ⟨ai, ni, ci, xi⟩ := ri
  obtain ⟨aj, nj, cj, xj⟩ := rj
  have c0 : w.cell? ⟨bx, 0, none⟩ = some (.slice (some ⟨gt, 0, none⟩) k ct) := H.blk.cell rfl
  have c1 : w.cell? ⟨bx, 1, none⟩ = some (.slice (some ⟨gl, 0, none⟩) k cl) := H.blk.cell rfl
  have ti : w.cell? ⟨gt, i, none⟩ = some (.pointer (some ⟨bi, 0, none⟩)) := tcell i _ (by rw [List.getElem?_map, hei]; rfl)
  have tj : w.cell? ⟨gt, j, none⟩ = some (.pointer (some ⟨bj, 0, none⟩)) := tcell j _ (by rw [List.getElem?_map, hej]; rfl)
  have li : w.cell? ⟨gl, i, none⟩ = some (.slice ai ni ci) := lcell i _ (by rw [List.getElem?_map, hei]; rfl)
  have lj : w.cell? ⟨gl, j, none⟩ = some (.slice aj nj cj) := lcell j _ (by rw [List.getElem?_map, hej]; rfl)
  have HH := Lib.hid H
  have Ei := Lib.hid ei
  have Ej := Lib.hid ej
  have HK := Lib.hid (And.intro hK hk)
  have i0 : (0 : Int) ≤ (i : Int) := by omega
  have i1 : (i : Int) < (k : Int) := by omega
  have j0 : (0 : Int) ≤ (j : Int) := by omega
  have j1 : (j : Int) < (k : Int) := by omega
  obtain ⟨W1, hW1⟩ : ∃ W, W = w.alloc (.cells #[.int .i64 3, .int .u8 A, .int .u8 B, .int .i64 I, .int .i64 X] 59) := ⟨_, rfl⟩
  obtain ⟨sb, hsb⟩ : ∃ s, s = w.heap.size := ⟨_, rfl⟩
  have F1 : Fr F0 w W1 := by rw [hW1]; exact (Fr.refl _ _).alloc _
  have sB : Blk W1 sb 59 [.int .i64 3, .int .u8 A, .int .u8 B, .int .i64 I, .int .i64 X] := by rw [hW1, hsb]; exact Blk.new w 59 _
  have s0 : W1.cell? ⟨sb, 0, none⟩ = some (.int .i64 3) := sB.cell rfl
  have s1 : W1.cell? ⟨sb, 1, none⟩ = some (.int .u8 A) := sB.cell rfl
  have s2 : W1.cell? ⟨sb, 2, none⟩ = some (.int .u8 B) := sB.cell rfl
  have s3 : W1.cell? ⟨sb, 3, none⟩ = some (.int .i64 I) := sB.cell rfl
  have s4 : W1.cell? ⟨sb, 4, none⟩ = some (.int .i64 X) := sB.cell rfl
  replace c0 := F1.cell c0 id
  replace c1 := F1.cell c1 id
  replace ti := F1.cell ti id
  replace tj := F1.cell tj id
  replace li := F1.cell li id
  replace lj := F1.cell lj id
  have FW := Lib.hid F1
  have hn0 : ni ≠ 0 := h0 _ (hi ▸ hei)
  obtain ⟨m, rfl⟩ : ∃ m, ni = m + 1 := ⟨ni - 1, by omega⟩
  clear h0 hn0 H hi hj ei ej hei hej tcell lcell hbi hbj hK hk sB F1 gt1 gt2 gl1 gl2
  go_enter Try.func34, Try.ntmps34
  go_wp2_with fail
  rw [← hW1, ← hsb]
  have Hsb := Lib.hid hsb
  clear hW1 hsb
  go_quiet (fail)
  have F2 : Fr F0 W1 (W1.drewN nq) := (Fr.refl _ _).drewN _
  replace s0 := F2.cell s0 id
  replace s1 := F2.cell s1 id
  replace s2 := F2.cell s2 id
  replace s3 := F2.cell s3 id
  replace s4 := F2.cell s4 id
  replace c0 := F2.cell c0 id
  replace c1 := F2.cell c1 id
  replace ti := F2.cell ti id
  replace tj := F2.cell tj id
  replace li := F2.cell li id
  replace lj := F2.cell lj id
  replace FW := Lib.hid (FW.out.trans0 F2)
  clear F2 ma mb ta tb m0 ca cb ca' cb' hik hjk
  generalize W1.drewN nq = WQ at *
  go_wp2_with fail
  go_quiet (fail)
  have F2 : Fr F0 WQ (WQ.drewN nq) := (Fr.refl _ _).drewN _
  replace s0 := F2.cell s0 id
  replace s1 := F2.cell s1 id
  replace s2 := F2.cell s2 id
  replace s3 := F2.cell s3 id
  replace s4 := F2.cell s4 id
  replace c0 := F2.cell c0 id
  replace c1 := F2.cell c1 id
  replace ti := F2.cell ti id
  replace tj := F2.cell tj id
  replace li := F2.cell li id
  replace lj := F2.cell lj id
  replace FW := Lib.hid (FW.out.trans0 F2)
  clear F2 i0 i1 ti li c0 c1 j0 j1 tj lj
  generalize WQ.drewN nq = W2 at *
  have Si := Lib.hid (show Tr.Small xi from Ei.out.s)
  have Ci := Lib.hid (show (m + 1) ≤ ci from Ei.out.c)
  have Ki := Lib.hid (show (m + 1) ≤ K from Ei.out.k)
  have Xl := Lib.hid (show xi.length = (m + 1) by have := Ei.out.r.now.len; simpa using this)
  have Ri := Lib.hid (fun (W : World) (f : Fr F0 w W) => show Rd W ai (m + 1) (ints xi) from Ei.out.r.now.fr0 f)
  have Ti := Lib.hid (fun (W : World) (f : Fr F0 w W) => show TK W xi (some ⟨bi, 0, none⟩) from Ei.out.t.now.fr0 f)
  have RSi := Lib.hid (show RdS _ w ai (m + 1) xi from Ei.out.r)
  have KM : m ≤ 1000 := by have := Ki.out; have := HK.out; omega
  obtain ⟨ys, z, hyz⟩ : ∃ ys z, xi = ys ++ [z] := ⟨xi.dropLast, xi.getLast (fun h => by have := Xl.out; rw [h] at this; simp at this), (List.dropLast_concat_getLast _).symm⟩
  have hyl : ys.length = m := by have := Xl.out; rw [hyz] at this; simpa using this
  have Hyz := Lib.hid (And.intro hyz hyl)
  have PB := Lib.hid (fun (W : World) (f : Fr F0 w W) => (PopBack_tk (v := z) (xs := ys) (by have h := Ti.out _ f; rw [← hyz]; exact h) (by rw [← hyz]; exact Si.out) (by omega) : Calls Try.prog 27 #[.pointer (some ⟨bi, 0, none⟩)] W (TKv z ys W)))
  have hix : xi[m]? = some z := by rw [hyz, ← hyl]; simp
  have htk : xi.take m = ys := by rw [hyz, ← hyl]; simp
  clear hyz hyl
  go_wp2_with fail
  refine (PB.out _ FW.out).mono ?_
  rintro e w3 ⟨b1, rfl, T1, F⟩
  have T := Lib.hid T1
  replace FW := Lib.hid (FW.out.trans0 F)
  replace s0 := F.cell s0 id
  replace s1 := F.cell s1 id
  replace s2 := F.cell s2 id
  replace s3 := F.cell s3 id
  replace s4 := F.cell s4 id
  clear F T1
  obtain ⟨bb, oo, x0, ha, hx0, d⟩ := (Ri.out _ FW.out).ix (i := m) (by omega)
  obtain rfl : x0 = z := by rw [show (xi)[m]? = some z from hix] at hx0; injection hx0 with h; exact h.symm
  have ha' : ai = some ⟨bb, oo, none⟩ := ha
  have sl : ∀ W, (Instr.sliceAt 22 (.slice ai (m + 1) ci) none (some (.int .i64 (m : Int))) none).run Try.prog W = .ok (.slice (cutA ai ci 0) m ci) W := fun W => run_cutHi E3 W ai (n := m + 1) (c := ci) (k := m) (by have := Ci.out; omega) rfl
  have RS := Lib.hid (show RdS _ _ (cutA ai ci 0) m ys from htk ▸ RSi.out.take Ci.out (k := m) (by omega))
  have hadd := Lib.hid (add_at (r := ⟨cutA ai ci 0, m, ci, ys⟩) HH.out FW.out T.out (EOk.at HH.out FW.out T.out RS.out (by have := Ci.out; omega) (htk ▸ Small.of_take Si.out) (by have := Ki.out; omega)) HK.out.1 HK.out.2)
  have wm : IntKind.i64.wrap (m : Int) = (m : Int) := wI2 (by omega) (by omega)
  subst ha'
  have i0 : (0 : Int) ≤ (m : Int) := by omega
  have i1 : (m : Int) < (m : Int) + 1 := by omega
  have i2 : (0 : Int) < (m : Int) + 1 := by omega
  clear hx0 hix ha RS PB
  go_wp2_with fail
  refine hadd.out.mono ?_
  rintro e wZ ⟨rfl, R⟩
  replace R := Lib.hid R
  go_wp2_with fail
  go_ret
  exact ⟨rfl, R.out⟩
set_option maxRecDepth 100000 in
set_option maxHeartbeats 16000000 in
theorem do_set_bad {w : World} {bx K : Nat} {L : List Ent} {t : Option Addr} {ct : Nat} {l : Option Addr} {cl k : Nat} (H : XS w bx K L t ct l cl k) (hK : K ≤ 1000) (hk : k ≤ 1000) (hk0 : 0 < k) {I X : Int} {A B : Nat} (hA : A ≤ 255) (hB : B ≤ 255) (hX : keyB X = false) :
    Calls Try.prog 34 #[.pointer (some ⟨bx, 0, none⟩), .agg #[.int .i64 4, .int .u8 A, .int .u8 B, .int .i64 I, .int .i64 X]] w (XPost w bx (K + 1) L t l (fun M => M.length ≤ 2)) := by
  obtain ⟨i, hi⟩ : ∃ i, i = A % k := ⟨_, rfl⟩
  obtain ⟨j, hj⟩ : ∃ i, i = B % k := ⟨_, rfl⟩
  have ma : (A : Int) % (k : Int) = (i : Int) := by rw [hi]; simp
  have mb : (B : Int) % (k : Int) = (j : Int) := by rw [hj]; simp
  have ta : Int.tmod (A : Int) (k : Int) = (i : Int) := by rw [Int.tmod_eq_emod_of_nonneg (by omega)]; exact ma
  have tb : Int.tmod (B : Int) (k : Int) = (j : Int) := by rw [Int.tmod_eq_emod_of_nonneg (by omega)]; exact mb
  have hik : i < k := by rw [hi]; exact Nat.mod_lt _ hk0
  have hjk : j < k := by rw [hj]; exact Nat.mod_lt _ hk0
  have m0 : ¬ ((k : Int) = 0) := by omega
  have ca : IntKind.i64.wrap (A : Int) = (A : Int) := wI2 (by omega) (by omega)
  have cb : IntKind.i64.wrap (B : Int) = (B : Int) := wI2 (by omega) (by omega)
  have ca' : IntKind.i64.wrap (i : Int) = (i : Int) := wI2 (by omega) (by omega)
  have cb' : IntKind.i64.wrap (j : Int) = (j : Int) := wI2 (by omega) (by omega)
  obtain ⟨gt, rfl, gt1, gt2, tcell, _⟩ := H.ot.at hk0
  obtain ⟨gl, rfl, gl1, gl2, lcell, _⟩ := H.ol.at hk0
  obtain ⟨⟨pi, ri⟩, hei⟩ : ∃ e, L[i]? = some e := ⟨_, List.getElem?_eq_getElem (by rw [H.len]; exact hik)⟩
  obtain ⟨⟨pj, rj⟩, hej⟩ : ∃ e, L[j]? = some e := ⟨_, List.getElem?_eq_getElem (by rw [H.len]; exact hjk)⟩
  have ei := H.all _ (List.mem_of_getElem? hei)
  have ej := H.all _ (List.mem_of_getElem? hej)
  obtain ⟨bi, hbi⟩ := ei.t.now.nn
  obtain ⟨bj, hbj⟩ := ej.t.now.nn
  have hbi' : pi = some ⟨bi, 0, none⟩ := hbi
  have hbj' : pj = some ⟨bj, 0, none⟩ := hbj
  subst hbi' hbj'
  obtain ⟨ai, ni, ci, xi⟩ := ri
  obtain ⟨aj, nj, cj, xj⟩ := rj
  have c0 : w.cell? ⟨bx, 0, none⟩ = some (.slice (some ⟨gt, 0, none⟩) k ct) := H.blk.cell rfl
  have c1 : w.cell? ⟨bx, 1, none⟩ = some (.slice (some ⟨gl, 0, none⟩) k cl) := H.blk.cell rfl
  have ti : w.cell? ⟨gt, i, none⟩ = some (.pointer (some ⟨bi, 0, none⟩)) := tcell i _ (by rw [List.getElem?_map, hei]; rfl)
  have tj : w.cell? ⟨gt, j, none⟩ = some (.pointer (some ⟨bj, 0, none⟩)) := tcell j _ (by rw [List.getElem?_map, hej]; rfl)
  have li : w.cell? ⟨gl, i, none⟩ = some (.slice ai ni ci) := lcell i _ (by rw [List.getElem?_map, hei]; rfl)
  have lj : w.cell? ⟨gl, j, none⟩ = some (.slice aj nj cj) := lcell j _ (by rw [List.getElem?_map, hej]; rfl)
  have HH := Lib.hid H
  have Ei := Lib.hid ei
  have Ej := Lib.hid ej
  have HK := Lib.hid (And.intro hK hk)
  have i0 : (0 : Int) ≤ (i : Int) := by omega
  have i1 : (i : Int) < (k : Int) := by omega
  have j0 : (0 : Int) ≤ (j : Int) := by omega
  have j1 : (j : Int) < (k : Int) := by omega
  obtain ⟨W1, hW1⟩ : ∃ W, W = w.alloc (.cells #[.int .i64 4, .int .u8 A, .int .u8 B, .int .i64 I, .int .i64 X] 59) := ⟨_, rfl⟩
  obtain ⟨sb, hsb⟩ : ∃ s, s = w.heap.size := ⟨_, rfl⟩
  have F1 : Fr F0 w W1 := by rw [hW1]; exact (Fr.refl _ _).alloc _
  have sB : Blk W1 sb 59 [.int .i64 4, .int .u8 A, .int .u8 B, .int .i64 I, .int .i64 X] := by rw [hW1, hsb]; exact Blk.new w 59 _
  have s0 : W1.cell? ⟨sb, 0, none⟩ = some (.int .i64 4) := sB.cell rfl
  have s1 : W1.cell? ⟨sb, 1, none⟩ = some (.int .u8 A) := sB.cell rfl
  have s2 : W1.cell? ⟨sb, 2, none⟩ = some (.int .u8 B) := sB.cell rfl
  have s3 : W1.cell? ⟨sb, 3, none⟩ = some (.int .i64 I) := sB.cell rfl
  have s4 : W1.cell? ⟨sb, 4, none⟩ = some (.int .i64 X) := sB.cell rfl
  replace c0 := F1.cell c0 id
  replace c1 := F1.cell c1 id
  replace ti := F1.cell ti id
  replace tj := F1.cell tj id
  replace li := F1.cell li id
  replace lj := F1.cell lj id
  have FW := Lib.hid F1
  clear H hi hj ei ej hei hej tcell lcell hbi hbj hK hk sB F1 gt1 gt2 gl1 gl2
  have HX := Lib.hid hX
  clear hX
  go_enter Try.func34, Try.ntmps34
  go_wp2_with fail
  rw [← hW1, ← hsb]
  have Hsb := Lib.hid hsb
  clear hW1 hsb
  go_quiet (fail)
  have F2 : Fr F0 W1 (W1.drewN nq) := (Fr.refl _ _).drewN _
  replace s0 := F2.cell s0 id
  replace s1 := F2.cell s1 id
  replace s2 := F2.cell s2 id
  replace s3 := F2.cell s3 id
  replace s4 := F2.cell s4 id
  replace c0 := F2.cell c0 id
  replace c1 := F2.cell c1 id
  replace ti := F2.cell ti id
  replace tj := F2.cell tj id
  replace li := F2.cell li id
  replace lj := F2.cell lj id
  replace FW := Lib.hid (FW.out.trans0 F2)
  clear F2 ma mb ta tb m0 ca cb ca' cb' hik hjk
  generalize W1.drewN nq = WQ at *
  go_wp2_with fail
  go_quiet (fail)
  have F2 : Fr F0 WQ (WQ.drewN nq) := (Fr.refl _ _).drewN _
  replace s0 := F2.cell s0 id
  replace s1 := F2.cell s1 id
  replace s2 := F2.cell s2 id
  replace s3 := F2.cell s3 id
  replace s4 := F2.cell s4 id
  replace c0 := F2.cell c0 id
  replace c1 := F2.cell c1 id
  replace ti := F2.cell ti id
  replace tj := F2.cell tj id
  replace li := F2.cell li id
  replace lj := F2.cell lj id
  replace FW := Lib.hid (FW.out.trans0 F2)
  clear F2 i0 i1 ti li c0 c1 j0 j1 tj lj
  generalize WQ.drewN nq = W2 at *
  have Si := Lib.hid (show Tr.Small xi from Ei.out.s)
  have Ci := Lib.hid (show ni ≤ ci from Ei.out.c)
  have Ki := Lib.hid (show ni ≤ K from Ei.out.k)
  have Xl := Lib.hid (show xi.length = ni by have := Ei.out.r.now.len; simpa using this)
  have Ri := Lib.hid (fun (W : World) (f : Fr F0 w W) => show Rd W ai ni (ints xi) from Ei.out.r.now.fr0 f)
  have Ti := Lib.hid (fun (W : World) (f : Fr F0 w W) => show TK W xi (some ⟨bi, 0, none⟩) from Ei.out.t.now.fr0 f)
  have RSi := Lib.hid (show RdS _ w ai ni xi from Ei.out.r)
  have SK := Set_key (i := I) (Ti.out _ FW.out) HX.out
  have hky := Key_any X W2
  rw [HX.out] at hky
  go_wp2_with fail
  refine SK.mono ?_; rintro e w3 ⟨rfl, rfl⟩
  go_wp2_with fail
  refine hky.mono ?_; rintro e w3 ⟨rfl, rfl⟩
  go_wp2_with fail
  go_ret
  exact XPost.none HH.out FW.out
set_option maxRecDepth 100000 in
set_option maxHeartbeats 16000000 in
theorem do_set_rng {w : World} {bx K : Nat} {L : List Ent} {t : Option Addr} {ct : Nat} {l : Option Addr} {cl k : Nat} (H : XS w bx K L t ct l cl k) (hK : K ≤ 1000) (hk : k ≤ 1000) (hk0 : 0 < k) {I X : Int} {A B : Nat} (hA : A ≤ 255) (hB : B ≤ 255) (hX : keyB X = true) (h0 : ∀ e, L[A % k]? = some e → I < 0 ∨ (e.2.n : Int) ≤ I) :
    Calls Try.prog 34 #[.pointer (some ⟨bx, 0, none⟩), .agg #[.int .i64 4, .int .u8 A, .int .u8 B, .int .i64 I, .int .i64 X]] w (XPost w bx (K + 1) L t l (fun M => M.length ≤ 2)) := by
  obtain ⟨i, hi⟩ : ∃ i, i = A % k := ⟨_, rfl⟩
  obtain ⟨j, hj⟩ : ∃ i, i = B % k := ⟨_, rfl⟩
  have ma : (A : Int) % (k : Int) = (i : Int) := by rw [hi]; simp
  have mb : (B : Int) % (k : Int) = (j : Int) := by rw [hj]; simp
  have ta : Int.tmod (A : Int) (k : Int) = (i : Int) := by rw [Int.tmod_eq_emod_of_nonneg (by omega)]; exact ma
  have tb : Int.tmod (B : Int) (k : Int) = (j : Int) := by rw [Int.tmod_eq_emod_of_nonneg (by omega)]; exact mb
  have hik : i < k := by rw [hi]; exact Nat.mod_lt _ hk0
  have hjk : j < k := by rw [hj]; exact Nat.mod_lt _ hk0
  have m0 : ¬ ((k : Int) = 0) := by omega
  have ca : IntKind.i64.wrap (A : Int) = (A : Int) := wI2 (by omega) (by omega)
  have cb : IntKind.i64.wrap (B : Int) = (B : Int) := wI2 (by omega) (by omega)
  have ca' : IntKind.i64.wrap (i : Int) = (i : Int) := wI2 (by omega) (by omega)
  have cb' : IntKind.i64.wrap (j : Int) = (j : Int) := wI2 (by omega) (by omega)
  obtain ⟨gt, rfl, gt1, gt2, tcell, _⟩ := H.ot.at hk0
  obtain ⟨gl, rfl, gl1, gl2, lcell, _⟩ := H.ol.at hk0
  obtain ⟨⟨pi, ri⟩, hei⟩ : ∃ e, L[i]? = some e := ⟨_, List.getElem?_eq_getElem (by rw [H.len]; exact hik)⟩
  obtain ⟨⟨pj, rj⟩, hej⟩ : ∃ e, L[j]? = some e := ⟨_, List.getElem?_eq_getElem (by rw [H.len]; exact hjk)⟩
  have ei := H.all _ (List.mem_of_getElem? hei)
  have ej := H.all _ (List.mem_of_getElem? hej)
  obtain ⟨bi, hbi⟩ := ei.t.now.nn
  obtain ⟨bj, hbj⟩ := ej.t.now.nn
  have hbi' : pi = some ⟨bi, 0, none⟩ := hbi
  have hbj' : pj = some ⟨bj, 0, none⟩ := hbj
  subst hbi' hbj'
  obtain ⟨ai, ni, ci, xi⟩ := ri
  obtain ⟨aj, nj, cj, xj⟩ := rj
  have c0 : w.cell? ⟨bx, 0, none⟩ = some (.slice (some ⟨gt, 0, none⟩) k ct) := H.blk.cell rfl
  have c1 : w.cell? ⟨bx, 1, none⟩ = some (.slice (some ⟨gl, 0, none⟩) k cl) := H.blk.cell rfl
  have ti : w.cell? ⟨gt, i, none⟩ = some (.pointer (some ⟨bi, 0, none⟩)) := tcell i _ (by rw [List.getElem?_map, hei]; rfl)
  have tj : w.cell? ⟨gt, j, none⟩ = some (.pointer (some ⟨bj, 0, none⟩)) := tcell j _ (by rw [List.getElem?_map, hej]; rfl)
  have li : w.cell? ⟨gl, i, none⟩ = some (.slice ai ni ci) := lcell i _ (by rw [List.getElem?_map, hei]; rfl)
  have lj : w.cell? ⟨gl, j, none⟩ = some (.slice aj nj cj) := lcell j _ (by rw [List.getElem?_map, hej]; rfl)
  have HH := Lib.hid H
  have Ei := Lib.hid ei
  have Ej := Lib.hid ej
  have HK := Lib.hid (And.intro hK hk)
  have i0 : (0 : Int) ≤ (i : Int) := by omega
  have i1 : (i : Int) < (k : Int) := by omega
  have j0 : (0 : Int) ≤ (j : Int) := by omega
  have j1 : (j : Int) < (k : Int) := by omega
  obtain ⟨W1, hW1⟩ : ∃ W, W = w.alloc (.cells #[.int .i64 4, .int .u8 A, .int .u8 B, .int .i64 I, .int .i64 X] 59) := ⟨_, rfl⟩
  obtain ⟨sb, hsb⟩ : ∃ s, s = w.heap.size := ⟨_, rfl⟩
  have F1 : Fr F0 w W1 := by rw [hW1]; exact (Fr.refl _ _).alloc _
  have sB : Blk W1 sb 59 [.int .i64 4, .int .u8 A, .int .u8 B, .int .i64 I, .int .i64 X] := by rw [hW1, hsb]; exact Blk.new w 59 _
  have s0 : W1.cell? ⟨sb, 0, none⟩ = some (.int .i64 4) := sB.cell rfl
  have s1 : W1.cell? ⟨sb, 1, none⟩ = some (.int .u8 A) := sB.cell rfl
  have s2 : W1.cell? ⟨sb, 2, none⟩ = some (.int .u8 B) := sB.cell rfl
  have s3 : W1.cell? ⟨sb, 3, none⟩ = some (.int .i64 I) := sB.cell rfl
  have s4 : W1.cell? ⟨sb, 4, none⟩ = some (.int .i64 X) := sB.cell rfl
  replace c0 := F1.cell c0 id
  replace c1 := F1.cell c1 id
  replace ti := F1.cell ti id
  replace tj := F1.cell tj id
  replace li := F1.cell li id
  replace lj := F1.cell lj id
  have FW := Lib.hid F1
  have hr0 : I < 0 ∨ (ni : Int) ≤ I := h0 _ (hi ▸ hei)
  clear h0 H hi hj ei ej hei hej tcell lcell hbi hbj hK hk sB F1 gt1 gt2 gl1 gl2
  have Hr0 := Lib.hid hr0
  clear hr0
  have HX := Lib.hid hX
  clear hX
  go_enter Try.func34, Try.ntmps34
  go_wp2_with fail
  rw [← hW1, ← hsb]
  have Hsb := Lib.hid hsb
  clear hW1 hsb
  go_quiet (fail)
  have F2 : Fr F0 W1 (W1.drewN nq) := (Fr.refl _ _).drewN _
  replace s0 := F2.cell s0 id
  replace s1 := F2.cell s1 id
  replace s2 := F2.cell s2 id
  replace s3 := F2.cell s3 id
  replace s4 := F2.cell s4 id
  replace c0 := F2.cell c0 id
  replace c1 := F2.cell c1 id
  replace ti := F2.cell ti id
  replace tj := F2.cell tj id
  replace li := F2.cell li id
  replace lj := F2.cell lj id
  replace FW := Lib.hid (FW.out.trans0 F2)
  clear F2 ma mb ta tb m0 ca cb ca' cb' hik hjk
  generalize W1.drewN nq = WQ at *
  go_wp2_with fail
  go_quiet (fail)
  have F2 : Fr F0 WQ (WQ.drewN nq) := (Fr.refl _ _).drewN _
  replace s0 := F2.cell s0 id
  replace s1 := F2.cell s1 id
  replace s2 := F2.cell s2 id
  replace s3 := F2.cell s3 id
  replace s4 := F2.cell s4 id
  replace c0 := F2.cell c0 id
  replace c1 := F2.cell c1 id
  replace ti := F2.cell ti id
  replace tj := F2.cell tj id
  replace li := F2.cell li id
  replace lj := F2.cell lj id
  replace FW := Lib.hid (FW.out.trans0 F2)
  clear F2 i0 i1 ti li c0 c1 j0 j1 tj lj
  generalize WQ.drewN nq = W2 at *
  have Si := Lib.hid (show Tr.Small xi from Ei.out.s)
  have Ci := Lib.hid (show ni ≤ ci from Ei.out.c)
  have Ki := Lib.hid (show ni ≤ K from Ei.out.k)
  have Xl := Lib.hid (show xi.length = ni by have := Ei.out.r.now.len; simpa using this)
  have Ri := Lib.hid (fun (W : World) (f : Fr F0 w W) => show Rd W ai ni (ints xi) from Ei.out.r.now.fr0 f)
  have Ti := Lib.hid (fun (W : World) (f : Fr F0 w W) => show TK W xi (some ⟨bi, 0, none⟩) from Ei.out.t.now.fr0 f)
  have RSi := Lib.hid (show RdS _ w ai ni xi from Ei.out.r)
  have SK := Set_range (i := I) (Ti.out _ FW.out) HX.out (by have h := Hr0.out; rw [Xl.out]; exact h)
  have hky := Key_any X W2
  rw [HX.out] at hky
  by_cases hneg : I < 0
  · clear Hr0
    go_wp2_with fail
    refine SK.mono ?_; rintro e w3 ⟨rfl, rfl⟩
    go_wp2_with fail
    refine hky.mono ?_; rintro e w3 ⟨rfl, rfl⟩
    go_wp2_with fail
    go_ret
    exact XPost.none HH.out FW.out
  · have hge : (ni : Int) ≤ I := by have := Hr0.out; omega
    clear Hr0
    go_wp2_with fail
    refine SK.mono ?_; rintro e w3 ⟨rfl, rfl⟩
    go_wp2_with fail
    refine hky.mono ?_; rintro e w3 ⟨rfl, rfl⟩
    go_wp2_with fail
    go_ret
    exact XPost.none HH.out FW.out
set_option maxRecDepth 100000 in
set_option maxHeartbeats 16000000 in
theorem do_set_ok {w : World} {bx K : Nat} {L : List Ent} {t : Option Addr} {ct : Nat} {l : Option Addr} {cl k : Nat} (H : XS w bx K L t ct l cl k) (hK : K ≤ 1000) (hk : k ≤ 1000) (hk0 : 0 < k) {I X : Int} {A B : Nat} (hA : A ≤ 255) (hB : B ≤ 255) (hX : keyB X = true) {n : Nat} (hI : I = n) (h0 : ∀ e, L[A % k]? = some e → n < e.2.n) :
    Calls Try.prog 34 #[.pointer (some ⟨bx, 0, none⟩), .agg #[.int .i64 4, .int .u8 A, .int .u8 B, .int .i64 I, .int .i64 X]] w (XPost w bx (K + 1) L t l (fun M => M.length ≤ 2)) := by
  subst hI
  obtain ⟨i, hi⟩ : ∃ i, i = A % k := ⟨_, rfl⟩
  obtain ⟨j, hj⟩ : ∃ i, i = B % k := ⟨_, rfl⟩
  have ma : (A : Int) % (k : Int) = (i : Int) := by rw [hi]; simp
  have mb : (B : Int) % (k : Int) = (j : Int) := by rw [hj]; simp
  have ta : Int.tmod (A : Int) (k : Int) = (i : Int) := by rw [Int.tmod_eq_emod_of_nonneg (by omega)]; exact ma
  have tb : Int.tmod (B : Int) (k : Int) = (j : Int) := by rw [Int.tmod_eq_emod_of_nonneg (by omega)]; exact mb
  have hik : i < k := by rw [hi]; exact Nat.mod_lt _ hk0
  have hjk : j < k := by rw [hj]; exact Nat.mod_lt _ hk0
  have m0 : ¬ ((k : Int) = 0) := by omega
  have ca : IntKind.i64.wrap (A : Int) = (A : Int) := wI2 (by omega) (by omega)
  have cb : IntKind.i64.wrap (B : Int) = (B : Int) := wI2 (by omega) (by omega)
  have ca' : IntKind.i64.wrap (i : Int) = (i : Int) := wI2 (by omega) (by omega)
  have cb' : IntKind.i64.wrap (j : Int) = (j : Int) := wI2 (by omega) (by omega)
  obtain ⟨gt, rfl, gt1, gt2, tcell, _⟩ := H.ot.at hk0
  obtain ⟨gl, rfl, gl1, gl2, lcell, _⟩ := H.ol.at hk0
  obtain ⟨⟨pi, ri⟩, hei⟩ : ∃ e, L[i]? = some e := ⟨_, List.getElem?_eq_getElem (by rw [H.len]; exact hik)⟩
  obtain ⟨⟨pj, rj⟩, hej⟩ : ∃ e, L[j]? = some e := ⟨_, List.getElem?_eq_getElem (by rw [H.len]; exact hjk)⟩
  have ei := H.all _ (List.mem_of_getElem? hei)
  have ej := H.all _ (List.mem_of_getElem? hej)
  obtain ⟨bi, hbi⟩ := ei.t.now.nn
  obtain ⟨bj, hbj⟩ := ej.t.now.nn
  have hbi' : pi = some ⟨bi, 0, none⟩ := hbi
  have hbj' : pj = some ⟨bj, 0, none⟩ := hbj
  subst hbi' hbj'
  obtain ⟨ai, ni, ci, xi⟩ := ri
  obtain ⟨aj, nj, cj, xj⟩ := rj
  have c0 : w.cell? ⟨bx, 0, none⟩ = some (.slice (some ⟨gt, 0, none⟩) k ct) := H.blk.cell rfl
  have c1 : w.cell? ⟨bx, 1, none⟩ = some (.slice (some ⟨gl, 0, none⟩) k cl) := H.blk.cell rfl
  have ti : w.cell? ⟨gt, i, none⟩ = some (.pointer (some ⟨bi, 0, none⟩)) := tcell i _ (by rw [List.getElem?_map, hei]; rfl)
  have tj : w.cell? ⟨gt, j, none⟩ = some (.pointer (some ⟨bj, 0, none⟩)) := tcell j _ (by rw [List.getElem?_map, hej]; rfl)
  have li : w.cell? ⟨gl, i, none⟩ = some (.slice ai ni ci) := lcell i _ (by rw [List.getElem?_map, hei]; rfl)
  have lj : w.cell? ⟨gl, j, none⟩ = some (.slice aj nj cj) := lcell j _ (by rw [List.getElem?_map, hej]; rfl)
  have HH := Lib.hid H
  have Ei := Lib.hid ei
  have Ej := Lib.hid ej
  have HK := Lib.hid (And.intro hK hk)
  have i0 : (0 : Int) ≤ (i : Int) := by omega
  have i1 : (i : Int) < (k : Int) := by omega
  have j0 : (0 : Int) ≤ (j : Int) := by omega
  have j1 : (j : Int) < (k : Int) := by omega
  obtain ⟨W1, hW1⟩ : ∃ W, W = w.alloc (.cells #[.int .i64 4, .int .u8 A, .int .u8 B, .int .i64 (n : Int), .int .i64 X] 59) := ⟨_, rfl⟩
  obtain ⟨sb, hsb⟩ : ∃ s, s = w.heap.size := ⟨_, rfl⟩
  have F1 : Fr F0 w W1 := by rw [hW1]; exact (Fr.refl _ _).alloc _
  have sB : Blk W1 sb 59 [.int .i64 4, .int .u8 A, .int .u8 B, .int .i64 (n : Int), .int .i64 X] := by rw [hW1, hsb]; exact Blk.new w 59 _
  have s0 : W1.cell? ⟨sb, 0, none⟩ = some (.int .i64 4) := sB.cell rfl
  have s1 : W1.cell? ⟨sb, 1, none⟩ = some (.int .u8 A) := sB.cell rfl
  have s2 : W1.cell? ⟨sb, 2, none⟩ = some (.int .u8 B) := sB.cell rfl
  have s3 : W1.cell? ⟨sb, 3, none⟩ = some (.int .i64 (n : Int)) := sB.cell rfl
  have s4 : W1.cell? ⟨sb, 4, none⟩ = some (.int .i64 X) := sB.cell rfl
  replace c0 := F1.cell c0 id
  replace c1 := F1.cell c1 id
  replace ti := F1.cell ti id
  replace tj := F1.cell tj id
  replace li := F1.cell li id
  replace lj := F1.cell lj id
  have FW := Lib.hid F1
  have hr0 : n < ni := h0 _ (hi ▸ hei)
  clear h0 H hi hj ei ej hei hej tcell lcell hbi hbj hK hk sB F1 gt1 gt2 gl1 gl2
  have Hr0 := Lib.hid hr0
  clear hr0
  have HX := Lib.hid hX
  clear hX
  go_enter Try.func34, Try.ntmps34
  go_wp2_with fail
  rw [← hW1, ← hsb]
  have Hsb := Lib.hid hsb
  clear hW1 hsb
  go_quiet (fail)
  have F2 : Fr F0 W1 (W1.drewN nq) := (Fr.refl _ _).drewN _
  replace s0 := F2.cell s0 id
  replace s1 := F2.cell s1 id
  replace s2 := F2.cell s2 id
  replace s3 := F2.cell s3 id
  replace s4 := F2.cell s4 id
  replace c0 := F2.cell c0 id
  replace c1 := F2.cell c1 id
  replace ti := F2.cell ti id
  replace tj := F2.cell tj id
  replace li := F2.cell li id
  replace lj := F2.cell lj id
  replace FW := Lib.hid (FW.out.trans0 F2)
  clear F2 ma mb ta tb m0 ca cb ca' cb' hik hjk
  generalize W1.drewN nq = WQ at *
  go_wp2_with fail
  go_quiet (fail)
  have F2 : Fr F0 WQ (WQ.drewN nq) := (Fr.refl _ _).drewN _
  replace s0 := F2.cell s0 id
  replace s1 := F2.cell s1 id
  replace s2 := F2.cell s2 id
  replace s3 := F2.cell s3 id
  replace s4 := F2.cell s4 id
  replace c0 := F2.cell c0 id
  replace c1 := F2.cell c1 id
  replace ti := F2.cell ti id
  replace tj := F2.cell tj id
  replace li := F2.cell li id
  replace lj := F2.cell lj id
  replace FW := Lib.hid (FW.out.trans0 F2)
  clear F2 i0 i1 ti li c0 c1 j0 j1 tj lj
  generalize WQ.drewN nq = W2 at *
  have Si := Lib.hid (show Tr.Small xi from Ei.out.s)
  have Ci := Lib.hid (show ni ≤ ci from Ei.out.c)
  have Ki := Lib.hid (show ni ≤ K from Ei.out.k)
  have Xl := Lib.hid (show xi.length = ni by have := Ei.out.r.now.len; simpa using this)
  have Ri := Lib.hid (fun (W : World) (f : Fr F0 w W) => show Rd W ai ni (ints xi) from Ei.out.r.now.fr0 f)
  have Ti := Lib.hid (fun (W : World) (f : Fr F0 w W) => show TK W xi (some ⟨bi, 0, none⟩) from Ei.out.t.now.fr0 f)
  have RSi := Lib.hid (show RdS _ w ai ni xi from Ei.out.r)
  have SK := Lib.hid (Set_tk (i := n) (Ti.out _ FW.out) Si.out (by have := Xl.out; have := Ki.out; have := HK.out; omega) HX.out (by have := Hr0.out; have := Xl.out; omega))
  have n0 : (0 : Int) ≤ (n : Int) := by omega
  have n1 : decide ((n : Int) < 0) = false := by simp
  have n2 : decide (ni ≤ n) = false := by have := Hr0.out; simp; omega
  have n3 : (n : Int) < (ni : Int) := by have := Hr0.out; omega
  go_wp2_with fail
  refine SK.out.mono ?_
  rintro e w3 ⟨b1, rfl, T1, F⟩
  have T := Lib.hid T1
  replace FW := Lib.hid (FW.out.trans0 F)
  replace s0 := F.cell s0 id
  replace s1 := F.cell s1 id
  replace s2 := F.cell s2 id
  replace s3 := F.cell s3 id
  replace s4 := F.cell s4 id
  have hky := Key_any X w3
  rw [HX.out] at hky
  clear F T1 SK
  go_wp2_with fail
  refine hky.mono ?_; rintro e w4 ⟨rfl, rfl⟩
  go_wp2_with fail
  refine (Clone_all (Ri.out _ FW.out) (by have := Ki.out; have := HK.out; omega)).mono ?_
  rintro e w4 ⟨ac, cc, rfl, Oc, F⟩
  obtain ⟨g, rfl, hg1, hg2, gc, gf⟩ := Oc.at (by have := Hr0.out; omega)
  obtain ⟨u, hu⟩ : ∃ u, w4.cell? ⟨g, n, none⟩ = some u := ⟨_, gc n _ (List.getElem?_eq_getElem (by have := Hr0.out; have := Xl.out; simp; omega))⟩
  have hf := gf n
  have O2 : Hid (Own (w4.setCell ⟨g, n, none⟩ (.int .i64 X)) w3.heap.size 3 (some ⟨g, 0, none⟩) ni cc (ints (xi.set n X))) := Lib.hid (by have h := Oc.set (i := n) (.int .i64 X); simpa [ints, List.map_set] using h)
  have G : Fr F0 w3 (w4.setCell ⟨g, n, none⟩ (.int .i64 X)) := Fr.setCell (p := ⟨g, n, none⟩) F (fun h => by simp only at h; omega) _
  have T5 := Lib.hid (T.out.fr0 G)
  have FW5 := Lib.hid (FW.out.trans0 G)
  have hB := Lib.hid FW.out.size
  replace s0 := F.cell s0 id
  replace s1 := F.cell s1 id
  replace s2 := F.cell s2 id
  replace s3 := F.cell s3 id
  replace s4 := F.cell s4 id
  have hadd := Lib.hid (add_at (r := ⟨some ⟨g, 0, none⟩, ni, cc, xi.set n X⟩) HH.out FW5.out T5.out (EOk.new HH.out FW5.out T5.out O2.out hB.out (Small.set Si.out ((keyB_iff X).1 HX.out)) (by have := Ki.out; omega)) HK.out.1 HK.out.2)
  clear F Oc hg1 hg2 gc gf G T FW O2 T5 hB
  go_wp2_with fail
  refine hadd.out.mono ?_
  rintro e wZ ⟨rfl, R⟩
  replace R := Lib.hid R
  go_wp2_with fail
  go_ret
  exact ⟨rfl, R.out⟩
end Go.Proofs.Ytdihajeccjdhkaa
