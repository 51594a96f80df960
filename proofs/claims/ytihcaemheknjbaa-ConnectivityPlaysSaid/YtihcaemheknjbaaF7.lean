/- Undo. -/
import Derived.Test.YtihcaemheknjbaaF6
import Derived.Outline
namespace Go.Proofs.Ytihcaemheknjbaa
open Go.RowKit
attribute [local go_sem ↓] Go.wp_at_zero Go.wp_at_succ
theorem FoM.pop {w : World} {B f n : Nat} {S : FS} {K : List Chg} {c : Chg} {ap az al : Option Addr} {cp cz cl ck gk : Nat} (h : FoM w B f n S (K ++ [c]) ap az al (some ⟨gk, 0, none⟩) cp cz cl ck) :
    FoM (w.setCell ⟨f, 4, none⟩ (.slice (some ⟨gk, 0, none⟩) K.length ck)) B f n S K ap az al (some ⟨gk, 0, none⟩) cp cz cl ck := by
  have hK : (K ++ [c]).length = K.length + 1 := by simp
  have ok := h.ok
  rw [hK] at ok
  have o2 := ok.cutHi (k := K.length) (by omega)
  rw [chs_init] at o2
  refine { h with blk := h.blk.set 4 _, op := h.op.other (p := ⟨f, 4, none⟩) h.fp _, oz := h.oz.other (p := ⟨f, 4, none⟩) h.fz _, ol := h.ol.other (p := ⟨f, 4, none⟩) h.fl _, ok := o2.other (p := ⟨f, 4, none⟩) h.fk _ }
theorem Undo_empty {w : World} {B f n : Nat} {N : Nat → Prop} {S : FS} (h : Fo w B N f n S []) : Calls Try.prog 29 #[.pointer (some ⟨f, 0, none⟩)] w fun e w' => e = .returned (.int .i64 14) ∧ w = w' := by
  obtain ⟨ap, az, al, ak, cp, cz, cl, ck, h, _⟩ := h
  have x4 := h.blk.cell (i := 4) rfl
  simp only [List.length_nil] at x4
  clear h
  go_enter Try.func29, Try.ntmps29
  go_wp2_with fail
  go_ret
  exact ⟨rfl, rfl⟩
set_option maxRecDepth 100000 in
set_option maxHeartbeats 4000000 in
theorem Undo_none {w : World} {B f n : Nat} {N : Nat → Prop} {S : FS} {K : List Chg} (h : Fo w B N f n S (K ++ [none])) (hkl : K.length ≤ 100000) :
    Calls Try.prog 29 #[.pointer (some ⟨f, 0, none⟩)] w fun e w' => e = .returned (.int .i64 0) ∧ Fo w' B N f n S K ∧ Fr N w w' := by
  obtain ⟨ap, az, al, ak, cp, cz, cl, ck, hM, hN⟩ := h
  have hK : (K ++ [none]).length = K.length + 1 := by simp
  have ok := hM.ok
  rw [hK] at ok
  obtain ⟨gk, rfl, hgB, hgl, hkc, _⟩ := ok.at (by omega)
  have k0 := hkc (K.length * 2) (.int .i64 (-1)) (by rw [← Nat.add_zero (K.length * 2), chs_last _ _ 0 (by omega)]; rfl)
  have k1 := hkc (K.length * 2 + 1) (.int .i64 0) (by rw [chs_last _ _ 1 (by omega)]; rfl)
  have x4 := hM.blk.cell (i := 4) rfl
  rw [hK] at x4
  have HFl := Lib.hid hM.blk.lt
  have HM := Lib.hid hM
  have HN := Lib.hid hN
  obtain ⟨k, hk⟩ : ∃ k, k = K.length := ⟨_, rfl⟩
  rw [← hk] at k0 k1 x4
  have HK := Lib.hid hk
  have HKK := Lib.hid hK
  have hkm : k ≤ 100000 := by omega
  have hneg : ((k : Int) + 1 == 0) = false := by simp; omega
  clear hM hN hkc hk ok hK hkl
  go_enter Try.func29, Try.ntmps29
  go_wp2_with fail
  clear hneg
  refine wp_region_last 13 (fun w' : World => w'.cell? ⟨f, 4, none⟩ = some (.slice (some ⟨gk, 0, none⟩) (k + 1) ck) ∧ w'.cell? ⟨gk, k * 2, none⟩ = some (.int .i64 (-1)) ∧ w'.cell? ⟨gk, k * 2 + 1, none⟩ = some (.int .i64 0)) (by kernel_rfl) ?_
  obtain ⟨w1, hw1⟩ : ∃ wz, wz = w.drew := ⟨_, rfl⟩
  have M1 := Lib.hid (show FoM w1 B f n S (K ++ [none]) _ _ _ (some ⟨gk, 0, none⟩) cp cz cl ck by rw [hw1]; exact HM.out.drew)
  have G1 := Lib.hid (show Fr N w w1 by rw [hw1]; exact (Fr.refl N w).drew)
  have hHeld : (fun w' : World => w'.cell? ⟨f, 4, none⟩ = some (.slice (some ⟨gk, 0, none⟩) (k + 1) ck) ∧ w'.cell? ⟨gk, k * 2, none⟩ = some (.int .i64 (-1)) ∧ w'.cell? ⟨gk, k * 2 + 1, none⟩ = some (.int .i64 0)) w1 := by rw [hw1]; exact ⟨x4, k0, k1⟩
  rw [← hw1]
  clear hw1 x4 k0 k1
  have hww : IntKind.i64.wrap (k : Int) = (k : Int) := wI (by omega) (by omega)
  have hlt1 : (k : Int) < (k : Int) + 1 := by omega
  refine anyP_takeF 0 (v := ?_) rfl (by kernel_rfl) (fun _ _ _ h => h) (Or.inl ⟨by rfl, ?_⟩) (.inr hHeld) ?_
  rotate_left 1
  · (intro w0 hSw; (try dsimp only at hSw); go_simp; (try (with_reducible rfl)))
  (try simp only [Act.put, List.setIfInBounds_toArray])
  refine anyP_takeF 1 (v := ?_) rfl (by kernel_rfl) (fun _ _ _ h => h) (Or.inl ⟨by rfl, ?_⟩) (.inr hHeld) ?_
  rotate_left 1
  · (intro w0 hSw; (try dsimp only at hSw); go_simp; (try (with_reducible rfl)))
  (try simp only [Act.put])
  refine anyP_takeF 2 (v := ?_) rfl (by kernel_rfl) (fun _ _ _ h => h) (Or.inl ⟨by rfl, ?_⟩) (.inr hHeld) ?_
  rotate_left 1
  · (intro w0 hSw; (try dsimp only at hSw); go_simp; (try (with_reducible rfl)))
  (try simp only [Act.put])
  refine anyP_take 3 (v := ?_) rfl rfl (by kernel_rfl) (fun _ _ _ h => h) (Or.inl ⟨by rfl, ?_⟩) hHeld ?_
  rotate_left 1
  · (intro w0 hSw; (try dsimp only at hSw); go_simp; (try (with_reducible rfl)))
  (try simp only [Act.put])
  refine anyP_takeF 4 (v := ?_) rfl (by kernel_rfl) (fun _ _ _ h => h) (Or.inl ⟨by rfl, ?_⟩) (.inr hHeld) ?_
  rotate_left 1
  · (intro w0 hSw; (try dsimp only at hSw); go_simp; (try (with_reducible rfl)))
  (try simp only [Act.put])
  refine anyP_takeF 5 (v := ?_) rfl (by kernel_rfl) (fun _ _ _ h => h) (Or.inl ⟨by rfl, ?_⟩) (.inr hHeld) ?_
  rotate_left 1
  · (intro w0 hSw; (try dsimp only at hSw); go_simp; (try (with_reducible rfl)))
  (try simp only [Act.put])
  refine anyP_takeF 6 (v := ?_) rfl (by kernel_rfl) (fun _ _ _ h => h) (Or.inl ⟨by rfl, ?_⟩) (.inr hHeld) ?_
  rotate_left 1
  · (intro w0 hSw; (try dsimp only at hSw); go_simp; (try (with_reducible rfl)))
  (try simp only [Act.put])
  refine anyP_take 7 (v := ?_) rfl rfl (by kernel_rfl) (fun _ _ _ h => h) (Or.inl ⟨by rfl, ?_⟩) hHeld ?_
  rotate_left 1
  · (intro w0 hSw; (try dsimp only at hSw); go_simp; (try (with_reducible rfl)))
  (try simp only [Act.put])
  refine anyP_takeF 8 (v := ?_) rfl (by kernel_rfl) (fun _ _ _ h => h) (Or.inl ⟨by rfl, ?_⟩) (.inr hHeld) ?_
  rotate_left 1
  · (intro w0 hSw; (try dsimp only at hSw); go_simp; (try (with_reducible rfl)))
  (try simp only [Act.put])
  refine anyP_takeF 9 (v := ?_) rfl (by kernel_rfl) (fun _ _ _ h => h) (Or.inl ⟨by rfl, ?_⟩) (.inr hHeld) ?_
  rotate_left 1
  · (intro w0 hSw; (try dsimp only at hSw); go_simp; (try (with_reducible rfl)))
  (try simp only [Act.put])
  refine anyP_takeF 10 (v := ?_) rfl (by kernel_rfl) (fun _ _ _ h => h) (Or.inl ⟨by rfl, ?_⟩) (.inr hHeld) ?_
  rotate_left 1
  · (intro w0 hSw; (try dsimp only at hSw); go_simp; (try (with_reducible rfl)))
  (try simp only [Act.put])
  refine anyP_take 11 (v := ?_) rfl rfl (by kernel_rfl) (fun _ _ _ h => h) (Or.inl ⟨by rfl, ?_⟩) hHeld ?_
  rotate_left 1
  · (intro w0 hSw; (try dsimp only at hSw); go_simp; (try (with_reducible rfl)))
  (try simp only [Act.put])
  clear hww hlt1
  have F2 := (Fr.refl F0 w1).alloc (.cells #[.int .i64 0, .int .i64 0] 96)
  have sh : (fun w' : World => w'.cell? ⟨f, 4, none⟩ = some (.slice (some ⟨gk, 0, none⟩) (k + 1) ck) ∧ w'.cell? ⟨gk, k * 2, none⟩ = some (.int .i64 (-1)) ∧ w'.cell? ⟨gk, k * 2 + 1, none⟩ = some (.int .i64 0)) (w1.alloc (.cells #[.int .i64 0, .int .i64 0] 96)) := ⟨F2.cell hHeld.1 id, F2.cell hHeld.2.1 id, F2.cell hHeld.2.2 id⟩
  refine anyP_one 12 (by kernel_rfl) rfl (fun K hK => ?_)
  replace hK := Lib.hid hK
  go_simp
  refine hK.out _ _ (.inr sh) ?_
  clear hK K
  (try simp only [Act.put, List.setIfInBounds_toArray, List.set_cons_zero, List.set_cons_succ])
  clear sh F2
  refine anyP_one 13 (by kernel_rfl) rfl (fun K hK => ?_)
  replace hK := Lib.hid hK
  go_simp
  refine hK.out _ _ (.inl (by kernel_rfl)) ?_
  clear hK K
  (try simp only [Act.put, List.setIfInBounds_toArray, List.set_cons_zero, List.set_cons_succ])
  refine anyP_done (by kernel_rfl) ?_ _
  refine NoPanic.normal ?_
  go_wp2_with fail
  have M2 := Lib.hid (M1.out.fr ((Fr.refl F0 w1).alloc (.cells #[.int .i64 (-1), .int .i64 0] 96)) (fun _ _ h => h))
  have G2 := Lib.hid (G1.out.alloc (.cells #[.int .i64 (-1), .int .i64 0] 96))
  have BX := Blk.new w1 96 [.int .i64 (-1), .int .i64 0]
  have HB := Lib.hid (G1.out.size)
  obtain ⟨bx, hbx⟩ : ∃ b, b = w1.heap.size := ⟨_, rfl⟩
  obtain ⟨w2, hw2⟩ : ∃ wz, wz = w1.alloc (.cells #[.int .i64 (-1), .int .i64 0] 96) := ⟨_, rfl⟩
  change Blk (w1.alloc (.cells #[.int .i64 (-1), .int .i64 0] 96)) w1.heap.size 96 _ at BX
  rw [← hw2] at M2 G2 BX ⊢
  rw [← hbx] at BX HB ⊢
  replace BX := Lib.hid BX
  clear hw2 hbx hHeld M1 G1
  obtain ⟨w3, hw3⟩ : ∃ wz, wz = w2.drew := ⟨_, rfl⟩
  replace M2 := Lib.hid M2.out.drew; replace G2 := Lib.hid G2.out.drew; replace BX := Lib.hid BX.out.drew
  refine wp_region_last 14 (fun w' : World => w'.cell? ⟨f, 4, none⟩ = some (.slice (some ⟨gk, 0, none⟩) (k + 1) ck)) (by kernel_rfl) ?_
  rw [← hw3] at M2 G2 BX ⊢
  clear hw3
  have hHeld : (fun w' : World => w'.cell? ⟨f, 4, none⟩ = some (.slice (some ⟨gk, 0, none⟩) (k + 1) ck)) w3 := by have := M2.out.blk.cell (i := 4) rfl; rw [HKK.out, ← HK.out] at this; exact this
  have q1 := M2.out.blk.free 4
  have q2 : w3.cell? ⟨f, 4, none⟩ = some (.slice (some ⟨gk, 0, none⟩) (k + 1) ck) := hHeld
  have hww : IntKind.i64.wrap (k : Int) = (k : Int) := wI (by omega) (by omega)
  have hcap : k ≤ ck := by have := OwnZ.cap M2.out.ok; rw [HKK.out, ← HK.out] at this; omega
  have hcut : ∀ W : World, (Instr.sliceAt 92 (.slice (some ⟨gk, 0, none⟩) (k + 1) ck) none (some (.int .i64 (k : Int))) none).run Try.prog W = .ok (.slice (some ⟨gk, 0, none⟩) k ck) W := fun W => run_cutHiZ E96 W gk hcap rfl
  refine anyP_takeF 0 (v := ?_) rfl (by kernel_rfl) (fun _ _ _ h => h) (Or.inl ⟨by rfl, ?_⟩) (.inr hHeld) ?_
  rotate_left 1
  · (intro w0 hSw; (try dsimp only at hSw); go_simp; (try (with_reducible rfl)))
  (try simp only [Act.put, List.setIfInBounds_toArray])
  refine anyP_takeF 1 (v := ?_) rfl (by kernel_rfl) (fun _ _ _ h => h) (Or.inl ⟨by rfl, ?_⟩) (.inr hHeld) ?_
  rotate_left 1
  · (intro w0 hSw; (try dsimp only at hSw); go_simp; (try (with_reducible rfl)))
  (try simp only [Act.put])
  refine anyP_takeF 2 (v := ?_) rfl (by kernel_rfl) (fun _ _ _ h => h) (Or.inl ⟨by rfl, ?_⟩) (.inr hHeld) ?_
  rotate_left 1
  · (intro w0 hSw; (try dsimp only at hSw); go_simp; (try (with_reducible rfl)))
  (try simp only [Act.put])
  refine anyP_takeF 3 (v := ?_) rfl (by kernel_rfl) (fun _ _ _ h => h) (Or.inl ⟨by rfl, ?_⟩) (.inr hHeld) ?_
  rotate_left 1
  · (intro w0 hSw; (try dsimp only at hSw); go_simp; (try (with_reducible rfl)))
  (try simp only [Act.put])
  refine anyP_take 4 (v := ?_) rfl rfl (by kernel_rfl) (fun _ _ _ h => h) (Or.inl ⟨by rfl, ?_⟩) hHeld ?_
  rotate_left 1
  · (intro w0 hSw; (try dsimp only at hSw); go_simp; (try (with_reducible rfl)))
  (try simp only [Act.put])
  refine anyP_takeF 5 (v := ?_) rfl (by kernel_rfl) (fun _ _ _ h => h) (Or.inl ⟨by rfl, ?_⟩) (.inr hHeld) ?_
  rotate_left 1
  · (intro w0 hSw; (try dsimp only at hSw); go_simp; (try (with_reducible rfl)))
  (try simp only [Act.put])
  refine anyP_takeF 6 (v := ?_) rfl (by kernel_rfl) (fun _ _ _ h => h) (Or.inl ⟨by rfl, ?_⟩) (.inr hHeld) ?_
  rotate_left 1
  · (intro w0 hSw; (try dsimp only at hSw); go_simp; (try (with_reducible rfl)))
  (try simp only [Act.put])
  refine anyP_takeF 7 (v := ?_) rfl (by kernel_rfl) (fun _ _ _ h => h) (Or.inl ⟨by rfl, ?_⟩) (.inr hHeld) ?_
  rotate_left 1
  · (intro w0 hSw; (try dsimp only at hSw); go_simp; (try (with_reducible rfl)))
  (try simp only [Act.put])
  refine anyP_take 8 (v := ?_) rfl rfl (by kernel_rfl) (fun _ _ _ h => h) (Or.inl ⟨by rfl, ?_⟩) hHeld ?_
  rotate_left 1
  · (intro w0 hSw; (try dsimp only at hSw); go_simp; (try (with_reducible rfl)))
  (try simp only [Act.put])
  refine anyP_takeF 9 (v := ?_) rfl (by kernel_rfl) (fun _ _ _ h => h) (Or.inl ⟨by rfl, ?_⟩) (.inr hHeld) ?_
  rotate_left 1
  · (intro w0 hSw; (try dsimp only at hSw); go_simp; (try (with_reducible rfl)))
  (try simp only [Act.put])
  refine anyP_takeF 10 (v := ?_) rfl (by kernel_rfl) (fun _ _ _ h => h) (Or.inl ⟨by rfl, ?_⟩) (.inr hHeld) ?_
  rotate_left 1
  · (intro w0 hSw; (try dsimp only at hSw); go_simp; (try (with_reducible rfl)))
  (try simp only [Act.put])
  refine anyP_takeF 11 (v := ?_) rfl (by kernel_rfl) (fun _ _ _ h => h) (Or.inl ⟨by rfl, ?_⟩) (.inr hHeld) ?_
  rotate_left 1
  · (intro w0 hSw; (try dsimp only at hSw); go_simp; (try (with_reducible rfl)))
  (try simp only [Act.put])
  clear hww hcut hcap
  refine anyP_one 12 (by kernel_rfl) rfl (fun K hK => ?_)
  replace hK := Lib.hid hK
  go_simp
  refine hK.out _ _ (.inr hHeld) ?_
  clear hK K
  (try simp only [Act.put, List.setIfInBounds_toArray, List.set_cons_zero, List.set_cons_succ])
  refine anyP_one 13 (by kernel_rfl) rfl (fun K hK => ?_)
  replace hK := Lib.hid hK
  go_simp
  refine hK.out _ _ (.inr hHeld) ?_
  clear hK K
  (try simp only [Act.put, List.setIfInBounds_toArray, List.set_cons_zero, List.set_cons_succ])
  refine anyP_one 14 (by kernel_rfl) rfl (fun K hK => ?_)
  replace hK := Lib.hid hK
  go_simp
  refine hK.out _ _ (.inl (by kernel_rfl)) ?_
  clear hK K
  (try simp only [Act.put, List.setIfInBounds_toArray, List.set_cons_zero, List.set_cons_succ])
  refine anyP_done (by kernel_rfl) ?_ _
  refine NoPanic.normal ?_
  have M3 := Lib.hid M2.out.pop
  have G3 := Lib.hid (G2.out.setCell (p := ⟨f, 4, none⟩) (fun _ => HN.out f (.inl rfl)) (.slice (some ⟨gk, 0, none⟩) k ck))
  have hbf : bx ≠ f := by have := HB.out; have := HFl.out; omega
  have BX3 := Lib.hid (BX.out.other (p := ⟨f, 4, none⟩) hbf (.slice (some ⟨gk, 0, none⟩) k ck))
  rw [← HK.out] at M3
  obtain ⟨w4, hw4⟩ : ∃ wz, wz = w3.setCell ⟨f, 4, none⟩ (.slice (some ⟨gk, 0, none⟩) k ck) := ⟨_, rfl⟩
  rw [← hw4] at M3 G3 BX3 ⊢
  clear hw4 q1 q2 hHeld M2 G2 BX hbf
  have y0 := BX3.out.cell (i := 0) rfl
  go_wp2_with fail
  go_ret
  exact ⟨rfl, ⟨ap, az, al, some ⟨gk, 0, none⟩, cp, cz, cl, ck, M3.out, HN.out⟩, G3.out⟩
set_option maxRecDepth 100000 in
set_option maxHeartbeats 8000000 in
theorem Undo_some {w : World} {B f n : Nat} {N : Nat → Prop} {S : FS} {K : List Chg} {a b l za zb : Nat} (h : Fo w B N f n S (K ++ [some (b, l)])) (hkl : K.length ≤ 100000) (hn : n ≤ 1000) (ha : a < n) (hb : b < n)
    (hS : S.P[b]? = some a ∧ S.Z[a]? = some (za + zb) ∧ S.Z[b]? = some zb) (hz : za + zb ≤ 1000) (hc : S.c ≤ 1000) :
    Calls Try.prog 29 #[.pointer (some ⟨f, 0, none⟩)] w fun e w' => e = .returned (.int .i64 0) ∧ Fo w' B N f n ⟨S.P.set b b, S.Z.set a za, S.L.set a l, S.c + 1⟩ K ∧ Fr N w w' := by
  obtain ⟨ap, az, al, ak, cp, cz, cl, ck, hM, hN⟩ := h
  have hK : (K ++ [some (b, l)]).length = K.length + 1 := by simp
  have ok := hM.ok
  rw [hK] at ok
  obtain ⟨gk, rfl, hgB, hgl, hkc, _⟩ := ok.at (by omega)
  have k0 := hkc (K.length * 2) (.int .i64 (b : Int)) (by rw [← Nat.add_zero (K.length * 2), chs_last _ _ 0 (by omega)]; rfl)
  have k1 := hkc (K.length * 2 + 1) (.int .i64 (l : Int)) (by rw [chs_last _ _ 1 (by omega)]; rfl)
  have x4 := hM.blk.cell (i := 4) rfl
  rw [hK] at x4
  have HFl := Lib.hid hM.blk.lt
  obtain ⟨gp, rfl, _, hgp, _, _⟩ := hM.op.at (by omega)
  obtain ⟨gz, rfl, _, hgz, _, _⟩ := hM.oz.at (by omega)
  obtain ⟨gl, rfl, _, hgl', _, _⟩ := hM.ol.at (by omega)
  have HGl := Lib.hid (And.intro hgp (And.intro hgz hgl'))
  obtain ⟨la, hla⟩ : ∃ la, S.L[a]? = some la := ⟨_, List.getElem?_eq_getElem (by have := hM.ol.len; rw [nv_len] at this; omega)⟩
  have HL := Lib.hid hla
  have HS := Lib.hid hS
  have dneg : decide ((b : Int) < 0) = false := decide_eq_false (by omega)
  have HM := Lib.hid hM
  have HN := Lib.hid hN
  obtain ⟨k, hk⟩ : ∃ k, k = K.length := ⟨_, rfl⟩
  rw [← hk] at k0 k1 x4
  have HK := Lib.hid hk
  have HKK := Lib.hid hK
  have hkm : k ≤ 100000 := by omega
  have hneg : ((k : Int) + 1 == 0) = false := by simp; omega
  clear hS hla hM hN hkc hk ok hK hkl
  go_enter Try.func29, Try.ntmps29
  go_wp2_with fail
  clear hneg
  refine wp_region_last 13 (fun w' : World => w'.cell? ⟨f, 4, none⟩ = some (.slice (some ⟨gk, 0, none⟩) (k + 1) ck) ∧ w'.cell? ⟨gk, k * 2, none⟩ = some (.int .i64 (b : Int)) ∧ w'.cell? ⟨gk, k * 2 + 1, none⟩ = some (.int .i64 (l : Int))) (by kernel_rfl) ?_
  obtain ⟨w1, hw1⟩ : ∃ wz, wz = w.drew := ⟨_, rfl⟩
  have M1 := Lib.hid (show FoM w1 B f n S (K ++ [some (b, l)]) _ _ _ (some ⟨gk, 0, none⟩) cp cz cl ck by rw [hw1]; exact HM.out.drew)
  have G1 := Lib.hid (show Fr N w w1 by rw [hw1]; exact (Fr.refl N w).drew)
  have hHeld : (fun w' : World => w'.cell? ⟨f, 4, none⟩ = some (.slice (some ⟨gk, 0, none⟩) (k + 1) ck) ∧ w'.cell? ⟨gk, k * 2, none⟩ = some (.int .i64 (b : Int)) ∧ w'.cell? ⟨gk, k * 2 + 1, none⟩ = some (.int .i64 (l : Int))) w1 := by rw [hw1]; exact ⟨x4, k0, k1⟩
  rw [← hw1]
  clear hw1 x4 k0 k1
  have hww : IntKind.i64.wrap (k : Int) = (k : Int) := wI (by omega) (by omega)
  have hlt1 : (k : Int) < (k : Int) + 1 := by omega
  refine anyP_takeF 0 (v := ?_) rfl (by kernel_rfl) (fun _ _ _ h => h) (Or.inl ⟨by rfl, ?_⟩) (.inr hHeld) ?_
  rotate_left 1
  · (intro w0 hSw; (try dsimp only at hSw); go_simp; (try (with_reducible rfl)))
  (try simp only [Act.put, List.setIfInBounds_toArray])
  refine anyP_takeF 1 (v := ?_) rfl (by kernel_rfl) (fun _ _ _ h => h) (Or.inl ⟨by rfl, ?_⟩) (.inr hHeld) ?_
  rotate_left 1
  · (intro w0 hSw; (try dsimp only at hSw); go_simp; (try (with_reducible rfl)))
  (try simp only [Act.put])
  refine anyP_takeF 2 (v := ?_) rfl (by kernel_rfl) (fun _ _ _ h => h) (Or.inl ⟨by rfl, ?_⟩) (.inr hHeld) ?_
  rotate_left 1
  · (intro w0 hSw; (try dsimp only at hSw); go_simp; (try (with_reducible rfl)))
  (try simp only [Act.put])
  refine anyP_take 3 (v := ?_) rfl rfl (by kernel_rfl) (fun _ _ _ h => h) (Or.inl ⟨by rfl, ?_⟩) hHeld ?_
  rotate_left 1
  · (intro w0 hSw; (try dsimp only at hSw); go_simp; (try (with_reducible rfl)))
  (try simp only [Act.put])
  refine anyP_takeF 4 (v := ?_) rfl (by kernel_rfl) (fun _ _ _ h => h) (Or.inl ⟨by rfl, ?_⟩) (.inr hHeld) ?_
  rotate_left 1
  · (intro w0 hSw; (try dsimp only at hSw); go_simp; (try (with_reducible rfl)))
  (try simp only [Act.put])
  refine anyP_takeF 5 (v := ?_) rfl (by kernel_rfl) (fun _ _ _ h => h) (Or.inl ⟨by rfl, ?_⟩) (.inr hHeld) ?_
  rotate_left 1
  · (intro w0 hSw; (try dsimp only at hSw); go_simp; (try (with_reducible rfl)))
  (try simp only [Act.put])
  refine anyP_takeF 6 (v := ?_) rfl (by kernel_rfl) (fun _ _ _ h => h) (Or.inl ⟨by rfl, ?_⟩) (.inr hHeld) ?_
  rotate_left 1
  · (intro w0 hSw; (try dsimp only at hSw); go_simp; (try (with_reducible rfl)))
  (try simp only [Act.put])
  refine anyP_take 7 (v := ?_) rfl rfl (by kernel_rfl) (fun _ _ _ h => h) (Or.inl ⟨by rfl, ?_⟩) hHeld ?_
  rotate_left 1
  · (intro w0 hSw; (try dsimp only at hSw); go_simp; (try (with_reducible rfl)))
  (try simp only [Act.put])
  refine anyP_takeF 8 (v := ?_) rfl (by kernel_rfl) (fun _ _ _ h => h) (Or.inl ⟨by rfl, ?_⟩) (.inr hHeld) ?_
  rotate_left 1
  · (intro w0 hSw; (try dsimp only at hSw); go_simp; (try (with_reducible rfl)))
  (try simp only [Act.put])
  refine anyP_takeF 9 (v := ?_) rfl (by kernel_rfl) (fun _ _ _ h => h) (Or.inl ⟨by rfl, ?_⟩) (.inr hHeld) ?_
  rotate_left 1
  · (intro w0 hSw; (try dsimp only at hSw); go_simp; (try (with_reducible rfl)))
  (try simp only [Act.put])
  refine anyP_takeF 10 (v := ?_) rfl (by kernel_rfl) (fun _ _ _ h => h) (Or.inl ⟨by rfl, ?_⟩) (.inr hHeld) ?_
  rotate_left 1
  · (intro w0 hSw; (try dsimp only at hSw); go_simp; (try (with_reducible rfl)))
  (try simp only [Act.put])
  refine anyP_take 11 (v := ?_) rfl rfl (by kernel_rfl) (fun _ _ _ h => h) (Or.inl ⟨by rfl, ?_⟩) hHeld ?_
  rotate_left 1
  · (intro w0 hSw; (try dsimp only at hSw); go_simp; (try (with_reducible rfl)))
  (try simp only [Act.put])
  clear hww hlt1
  have F2 := (Fr.refl F0 w1).alloc (.cells #[.int .i64 0, .int .i64 0] 96)
  have sh : (fun w' : World => w'.cell? ⟨f, 4, none⟩ = some (.slice (some ⟨gk, 0, none⟩) (k + 1) ck) ∧ w'.cell? ⟨gk, k * 2, none⟩ = some (.int .i64 (b : Int)) ∧ w'.cell? ⟨gk, k * 2 + 1, none⟩ = some (.int .i64 (l : Int))) (w1.alloc (.cells #[.int .i64 0, .int .i64 0] 96)) := ⟨F2.cell hHeld.1 id, F2.cell hHeld.2.1 id, F2.cell hHeld.2.2 id⟩
  refine anyP_one 12 (by kernel_rfl) rfl (fun K hK => ?_)
  replace hK := Lib.hid hK
  go_simp
  refine hK.out _ _ (.inr sh) ?_
  clear hK K
  (try simp only [Act.put, List.setIfInBounds_toArray, List.set_cons_zero, List.set_cons_succ])
  clear sh F2
  refine anyP_one 13 (by kernel_rfl) rfl (fun K hK => ?_)
  replace hK := Lib.hid hK
  go_simp
  refine hK.out _ _ (.inl (by kernel_rfl)) ?_
  clear hK K
  (try simp only [Act.put, List.setIfInBounds_toArray, List.set_cons_zero, List.set_cons_succ])
  refine anyP_done (by kernel_rfl) ?_ _
  refine NoPanic.normal ?_
  go_wp2_with fail
  have M2 := Lib.hid (M1.out.fr ((Fr.refl F0 w1).alloc (.cells #[.int .i64 (b : Int), .int .i64 (l : Int)] 96)) (fun _ _ h => h))
  have G2 := Lib.hid (G1.out.alloc (.cells #[.int .i64 (b : Int), .int .i64 (l : Int)] 96))
  have BX := Blk.new w1 96 [.int .i64 (b : Int), .int .i64 (l : Int)]
  have HB := Lib.hid (G1.out.size)
  obtain ⟨bx, hbx⟩ : ∃ b, b = w1.heap.size := ⟨_, rfl⟩
  obtain ⟨w2, hw2⟩ : ∃ wz, wz = w1.alloc (.cells #[.int .i64 (b : Int), .int .i64 (l : Int)] 96) := ⟨_, rfl⟩
  change Blk (w1.alloc (.cells #[.int .i64 (b : Int), .int .i64 (l : Int)] 96)) w1.heap.size 96 _ at BX
  rw [← hw2] at M2 G2 BX ⊢
  rw [← hbx] at BX HB ⊢
  replace BX := Lib.hid BX
  clear hw2 hbx hHeld M1 G1
  obtain ⟨w3, hw3⟩ : ∃ wz, wz = w2.drew := ⟨_, rfl⟩
  replace M2 := Lib.hid M2.out.drew; replace G2 := Lib.hid G2.out.drew; replace BX := Lib.hid BX.out.drew
  refine wp_region_last 14 (fun w' : World => w'.cell? ⟨f, 4, none⟩ = some (.slice (some ⟨gk, 0, none⟩) (k + 1) ck)) (by kernel_rfl) ?_
  rw [← hw3] at M2 G2 BX ⊢
  clear hw3
  have hHeld : (fun w' : World => w'.cell? ⟨f, 4, none⟩ = some (.slice (some ⟨gk, 0, none⟩) (k + 1) ck)) w3 := by have := M2.out.blk.cell (i := 4) rfl; rw [HKK.out, ← HK.out] at this; exact this
  have q1 := M2.out.blk.free 4
  have q2 : w3.cell? ⟨f, 4, none⟩ = some (.slice (some ⟨gk, 0, none⟩) (k + 1) ck) := hHeld
  have hww : IntKind.i64.wrap (k : Int) = (k : Int) := wI (by omega) (by omega)
  have hcap : k ≤ ck := by have := OwnZ.cap M2.out.ok; rw [HKK.out, ← HK.out] at this; omega
  have hcut : ∀ W : World, (Instr.sliceAt 92 (.slice (some ⟨gk, 0, none⟩) (k + 1) ck) none (some (.int .i64 (k : Int))) none).run Try.prog W = .ok (.slice (some ⟨gk, 0, none⟩) k ck) W := fun W => run_cutHiZ E96 W gk hcap rfl
  refine anyP_takeF 0 (v := ?_) rfl (by kernel_rfl) (fun _ _ _ h => h) (Or.inl ⟨by rfl, ?_⟩) (.inr hHeld) ?_
  rotate_left 1
  · (intro w0 hSw; (try dsimp only at hSw); go_simp; (try (with_reducible rfl)))
  (try simp only [Act.put, List.setIfInBounds_toArray])
  refine anyP_takeF 1 (v := ?_) rfl (by kernel_rfl) (fun _ _ _ h => h) (Or.inl ⟨by rfl, ?_⟩) (.inr hHeld) ?_
  rotate_left 1
  · (intro w0 hSw; (try dsimp only at hSw); go_simp; (try (with_reducible rfl)))
  (try simp only [Act.put])
  refine anyP_takeF 2 (v := ?_) rfl (by kernel_rfl) (fun _ _ _ h => h) (Or.inl ⟨by rfl, ?_⟩) (.inr hHeld) ?_
  rotate_left 1
  · (intro w0 hSw; (try dsimp only at hSw); go_simp; (try (with_reducible rfl)))
  (try simp only [Act.put])
  refine anyP_takeF 3 (v := ?_) rfl (by kernel_rfl) (fun _ _ _ h => h) (Or.inl ⟨by rfl, ?_⟩) (.inr hHeld) ?_
  rotate_left 1
  · (intro w0 hSw; (try dsimp only at hSw); go_simp; (try (with_reducible rfl)))
  (try simp only [Act.put])
  refine anyP_take 4 (v := ?_) rfl rfl (by kernel_rfl) (fun _ _ _ h => h) (Or.inl ⟨by rfl, ?_⟩) hHeld ?_
  rotate_left 1
  · (intro w0 hSw; (try dsimp only at hSw); go_simp; (try (with_reducible rfl)))
  (try simp only [Act.put])
  refine anyP_takeF 5 (v := ?_) rfl (by kernel_rfl) (fun _ _ _ h => h) (Or.inl ⟨by rfl, ?_⟩) (.inr hHeld) ?_
  rotate_left 1
  · (intro w0 hSw; (try dsimp only at hSw); go_simp; (try (with_reducible rfl)))
  (try simp only [Act.put])
  refine anyP_takeF 6 (v := ?_) rfl (by kernel_rfl) (fun _ _ _ h => h) (Or.inl ⟨by rfl, ?_⟩) (.inr hHeld) ?_
  rotate_left 1
  · (intro w0 hSw; (try dsimp only at hSw); go_simp; (try (with_reducible rfl)))
  (try simp only [Act.put])
  refine anyP_takeF 7 (v := ?_) rfl (by kernel_rfl) (fun _ _ _ h => h) (Or.inl ⟨by rfl, ?_⟩) (.inr hHeld) ?_
  rotate_left 1
  · (intro w0 hSw; (try dsimp only at hSw); go_simp; (try (with_reducible rfl)))
  (try simp only [Act.put])
  refine anyP_take 8 (v := ?_) rfl rfl (by kernel_rfl) (fun _ _ _ h => h) (Or.inl ⟨by rfl, ?_⟩) hHeld ?_
  rotate_left 1
  · (intro w0 hSw; (try dsimp only at hSw); go_simp; (try (with_reducible rfl)))
  (try simp only [Act.put])
  refine anyP_takeF 9 (v := ?_) rfl (by kernel_rfl) (fun _ _ _ h => h) (Or.inl ⟨by rfl, ?_⟩) (.inr hHeld) ?_
  rotate_left 1
  · (intro w0 hSw; (try dsimp only at hSw); go_simp; (try (with_reducible rfl)))
  (try simp only [Act.put])
  refine anyP_takeF 10 (v := ?_) rfl (by kernel_rfl) (fun _ _ _ h => h) (Or.inl ⟨by rfl, ?_⟩) (.inr hHeld) ?_
  rotate_left 1
  · (intro w0 hSw; (try dsimp only at hSw); go_simp; (try (with_reducible rfl)))
  (try simp only [Act.put])
  refine anyP_takeF 11 (v := ?_) rfl (by kernel_rfl) (fun _ _ _ h => h) (Or.inl ⟨by rfl, ?_⟩) (.inr hHeld) ?_
  rotate_left 1
  · (intro w0 hSw; (try dsimp only at hSw); go_simp; (try (with_reducible rfl)))
  (try simp only [Act.put])
  clear hww hcut hcap
  refine anyP_one 12 (by kernel_rfl) rfl (fun K hK => ?_)
  replace hK := Lib.hid hK
  go_simp
  refine hK.out _ _ (.inr hHeld) ?_
  clear hK K
  (try simp only [Act.put, List.setIfInBounds_toArray, List.set_cons_zero, List.set_cons_succ])
  refine anyP_one 13 (by kernel_rfl) rfl (fun K hK => ?_)
  replace hK := Lib.hid hK
  go_simp
  refine hK.out _ _ (.inr hHeld) ?_
  clear hK K
  (try simp only [Act.put, List.setIfInBounds_toArray, List.set_cons_zero, List.set_cons_succ])
  refine anyP_one 14 (by kernel_rfl) rfl (fun K hK => ?_)
  replace hK := Lib.hid hK
  go_simp
  refine hK.out _ _ (.inl (by kernel_rfl)) ?_
  clear hK K
  (try simp only [Act.put, List.setIfInBounds_toArray, List.set_cons_zero, List.set_cons_succ])
  refine anyP_done (by kernel_rfl) ?_ _
  refine NoPanic.normal ?_
  have M3 := Lib.hid M2.out.pop
  have G3 := Lib.hid (G2.out.setCell (p := ⟨f, 4, none⟩) (fun _ => HN.out f (.inl rfl)) (.slice (some ⟨gk, 0, none⟩) k ck))
  have hbf : bx ≠ f := by have := HB.out; have := HFl.out; omega
  have BX3 := Lib.hid (BX.out.other (p := ⟨f, 4, none⟩) hbf (.slice (some ⟨gk, 0, none⟩) k ck))
  rw [← HK.out] at M3
  obtain ⟨w4, hw4⟩ : ∃ wz, wz = w3.setCell ⟨f, 4, none⟩ (.slice (some ⟨gk, 0, none⟩) k ck) := ⟨_, rfl⟩
  rw [← hw4] at M3 G3 BX3 ⊢
  clear hw4 q1 q2 hHeld M2 G2 BX hbf
  have y0 := BX3.out.cell (i := 0) rfl
  go_wp2_with fail
  have y1 := BX3.out.cell (i := 1) rfl
  have q0 := M3.out.blk.cell (i := 0) rfl
  have q1 := cellO M3.out.op HS.out.1
  go_quiet (fail)
  obtain ⟨w5, hw5⟩ : ∃ wz, wz = w4.drewN nq := ⟨_, rfl⟩
  replace M3 := Lib.hid (M3.out.drewN nq); replace G3 := Lib.hid (G3.out.drewN nq); replace BX3 := Lib.hid (show Blk (w4.drewN nq) _ _ _ from BX3.out)
  rw [← hw5] at M3 G3 BX3 ⊢
  clear hw5 q0 q1 y0 y1
  go_wp2_with fail
  obtain ⟨w6, hw6⟩ : ∃ wz, wz = w5.drew := ⟨_, rfl⟩
  replace M3 := Lib.hid M3.out.drew; replace G3 := Lib.hid G3.out.drew; replace BX3 := Lib.hid BX3.out.drew
  refine wp_region_last 9 (fun w' : World => w'.cell? ⟨f, 0, none⟩ = some (.slice (some ⟨gp, 0, none⟩) n cp) ∧ w'.cell? ⟨bx, 0, none⟩ = some (.int .i64 (b : Int))) (by kernel_rfl) ?_
  rw [← hw6] at M3 G3 BX3 ⊢
  clear hw6
  have hHeld : (fun w' : World => w'.cell? ⟨f, 0, none⟩ = some (.slice (some ⟨gp, 0, none⟩) n cp) ∧ w'.cell? ⟨bx, 0, none⟩ = some (.int .i64 (b : Int))) w6 := ⟨M3.out.blk.cell (i := 0) rfl, BX3.out.cell (i := 0) rfl⟩
  have q1 := cellO M3.out.op HS.out.1
  have q2 := freeO M3.out.op (by omega) b
  refine anyP_takeF 0 (v := ?_) rfl (by kernel_rfl) (fun _ _ _ h => h) (Or.inl ⟨by rfl, ?_⟩) (.inr hHeld) ?_
  rotate_left 1
  · (intro w0 hSw; (try dsimp only at hSw); go_simp; (try (with_reducible rfl)))
  (try simp only [Act.put, List.setIfInBounds_toArray])
  refine anyP_takeF 1 (v := ?_) rfl (by kernel_rfl) (fun _ _ _ h => h) (Or.inl ⟨by rfl, ?_⟩) (.inr hHeld) ?_
  rotate_left 1
  · (intro w0 hSw; (try dsimp only at hSw); go_simp; (try (with_reducible rfl)))
  (try simp only [Act.put])
  refine anyP_takeF 2 (v := ?_) rfl (by kernel_rfl) (fun _ _ _ h => h) (Or.inl ⟨by rfl, ?_⟩) (.inr hHeld) ?_
  rotate_left 1
  · (intro w0 hSw; (try dsimp only at hSw); go_simp; (try (with_reducible rfl)))
  (try simp only [Act.put])
  refine anyP_take 3 (v := ?_) rfl rfl (by kernel_rfl) (fun _ _ _ h => h) (Or.inl ⟨by rfl, ?_⟩) hHeld ?_
  rotate_left 1
  · (intro w0 hSw; (try dsimp only at hSw); go_simp; (try (with_reducible rfl)))
  (try simp only [Act.put])
  refine anyP_takeF 4 (v := ?_) rfl (by kernel_rfl) (fun _ _ _ h => h) (Or.inl ⟨by rfl, ?_⟩) (.inr hHeld) ?_
  rotate_left 1
  · (intro w0 hSw; (try dsimp only at hSw); go_simp; (try (with_reducible rfl)))
  (try simp only [Act.put])
  refine anyP_take 5 (v := ?_) rfl rfl (by kernel_rfl) (fun _ _ _ h => h) (Or.inl ⟨by rfl, ?_⟩) hHeld ?_
  rotate_left 1
  · (intro w0 hSw; (try dsimp only at hSw); go_simp; (try (with_reducible rfl)))
  (try simp only [Act.put])
  refine anyP_takeF 6 (v := ?_) rfl (by kernel_rfl) (fun _ _ _ h => h) (Or.inl ⟨by rfl, ?_⟩) (.inr hHeld) ?_
  rotate_left 1
  · (intro w0 hSw; (try dsimp only at hSw); go_simp; (try (with_reducible rfl)))
  (try simp only [Act.put])
  refine anyP_take 7 (v := ?_) rfl rfl (by kernel_rfl) (fun _ _ _ h => h) (Or.inl ⟨by rfl, ?_⟩) hHeld ?_
  rotate_left 1
  · (intro w0 hSw; (try dsimp only at hSw); go_simp; (try (with_reducible rfl)))
  (try simp only [Act.put])
  refine anyP_takeF 8 (v := ?_) rfl (by kernel_rfl) (fun _ _ _ h => h) (Or.inl ⟨by rfl, ?_⟩) (.inr hHeld) ?_
  rotate_left 1
  · (intro w0 hSw; (try dsimp only at hSw); go_simp; (try (with_reducible rfl)))
  (try simp only [Act.put])
  refine anyP_one 9 (by kernel_rfl) rfl (fun K hK => ?_)
  replace hK := Lib.hid hK
  go_simp
  refine hK.out _ _ (.inl (by kernel_rfl)) ?_
  clear hK K
  (try simp only [Act.put, List.setIfInBounds_toArray, List.set_cons_zero, List.set_cons_succ])
  refine anyP_done (by kernel_rfl) ?_ _
  refine NoPanic.normal ?_
  have M4 := Lib.hid (M3.out.setP (b := b) (x := b))
  have hbg : bx ≠ gp := by have h1 := HB.out; have h2 := HGl.out.1; omega
  have G4 := Lib.hid (G3.out.setCell (p := ⟨gp, b, none⟩) (fun _ => HN.out gp (.inr (.inl (on1 gp)))) (.int .i64 (b : Int)))
  have BX4 := Lib.hid (BX3.out.other (p := ⟨gp, b, none⟩) hbg (.int .i64 (b : Int)))
  obtain ⟨w7, hw7⟩ : ∃ wz, wz = w6.setCell ⟨gp, b, none⟩ (.int .i64 (b : Int)) := ⟨_, rfl⟩
  rw [← hw7] at M4 G4 BX4 ⊢
  clear hw7 q1 q2 hHeld hbg M3 G3 BX3
  go_wp2_with fail
  obtain ⟨w8, hw8⟩ : ∃ wz, wz = w7.drew := ⟨_, rfl⟩
  replace M4 := Lib.hid M4.out.drew; replace G4 := Lib.hid G4.out.drew; replace BX4 := Lib.hid BX4.out.drew
  refine wp_region_last 17 (fun w' : World => w'.cell? ⟨f, 1, none⟩ = some (.slice (some ⟨gz, 0, none⟩) n cz) ∧ w'.cell? ⟨bx, 0, none⟩ = some (.int .i64 (b : Int)) ∧ w'.cell? ⟨gz, a, none⟩ = some (.int .i64 ((za : Int) + (zb : Int))) ∧ w'.cell? ⟨gz, b, none⟩ = some (.int .i64 (zb : Int))) (by kernel_rfl) ?_
  rw [← hw8] at M4 G4 BX4 ⊢
  clear hw8
  have q1 : w8.cell? ⟨gz, a, none⟩ = some (.int .i64 ((za : Int) + (zb : Int))) := by have := cellO M4.out.oz HS.out.2.1; rwa [Int.natCast_add] at this
  have hHeld : (fun w' : World => w'.cell? ⟨f, 1, none⟩ = some (.slice (some ⟨gz, 0, none⟩) n cz) ∧ w'.cell? ⟨bx, 0, none⟩ = some (.int .i64 (b : Int)) ∧ w'.cell? ⟨gz, a, none⟩ = some (.int .i64 ((za : Int) + (zb : Int))) ∧ w'.cell? ⟨gz, b, none⟩ = some (.int .i64 (zb : Int))) w8 := ⟨M4.out.blk.cell (i := 1) rfl, BX4.out.cell (i := 0) rfl, q1, cellO M4.out.oz HS.out.2.2⟩
  have q2 := freeO M4.out.oz (by omega) a
  have hww : IntKind.i64.wrap ((za : Int) + (zb : Int) - (zb : Int)) = (za : Int) := by rw [wI (by omega) (by omega)]; omega
  have hww2 : IntKind.i64.wrap (za : Int) = (za : Int) := wI (by omega) (by omega)
  refine anyP_takeF 0 (v := ?_) rfl (by kernel_rfl) (fun _ _ _ h => h) (Or.inl ⟨by rfl, ?_⟩) (.inr hHeld) ?_
  rotate_left 1
  · (intro w0 hSw; (try dsimp only at hSw); go_simp; (try (with_reducible rfl)))
  (try simp only [Act.put, List.setIfInBounds_toArray])
  refine anyP_takeF 1 (v := ?_) rfl (by kernel_rfl) (fun _ _ _ h => h) (Or.inl ⟨by rfl, ?_⟩) (.inr hHeld) ?_
  rotate_left 1
  · (intro w0 hSw; (try dsimp only at hSw); go_simp; (try (with_reducible rfl)))
  (try simp only [Act.put])
  refine anyP_takeF 2 (v := ?_) rfl (by kernel_rfl) (fun _ _ _ h => h) (Or.inl ⟨by rfl, ?_⟩) (.inr hHeld) ?_
  rotate_left 1
  · (intro w0 hSw; (try dsimp only at hSw); go_simp; (try (with_reducible rfl)))
  (try simp only [Act.put])
  refine anyP_take 3 (v := ?_) rfl rfl (by kernel_rfl) (fun _ _ _ h => h) (Or.inl ⟨by rfl, ?_⟩) hHeld ?_
  rotate_left 1
  · (intro w0 hSw; (try dsimp only at hSw); go_simp; (try (with_reducible rfl)))
  (try simp only [Act.put])
  refine anyP_takeF 4 (v := ?_) rfl (by kernel_rfl) (fun _ _ _ h => h) (Or.inl ⟨by rfl, ?_⟩) (.inr hHeld) ?_
  rotate_left 1
  · (intro w0 hSw; (try dsimp only at hSw); go_simp; (try (with_reducible rfl)))
  (try simp only [Act.put])
  refine anyP_takeF 5 (v := ?_) rfl (by kernel_rfl) (fun _ _ _ h => h) (Or.inl ⟨by rfl, ?_⟩) (.inr hHeld) ?_
  rotate_left 1
  · (intro w0 hSw; (try dsimp only at hSw); go_simp; (try (with_reducible rfl)))
  (try simp only [Act.put])
  refine anyP_take 6 (v := ?_) rfl rfl (by kernel_rfl) (fun _ _ _ h => h) (Or.inl ⟨by rfl, ?_⟩) hHeld ?_
  rotate_left 1
  · (intro w0 hSw; (try dsimp only at hSw); go_simp; (try (with_reducible rfl)))
  (try simp only [Act.put])
  refine anyP_takeF 7 (v := ?_) rfl (by kernel_rfl) (fun _ _ _ h => h) (Or.inl ⟨by rfl, ?_⟩) (.inr hHeld) ?_
  rotate_left 1
  · (intro w0 hSw; (try dsimp only at hSw); go_simp; (try (with_reducible rfl)))
  (try simp only [Act.put])
  refine anyP_takeF 8 (v := ?_) rfl (by kernel_rfl) (fun _ _ _ h => h) (Or.inl ⟨by rfl, ?_⟩) (.inr hHeld) ?_
  rotate_left 1
  · (intro w0 hSw; (try dsimp only at hSw); go_simp; (try (with_reducible rfl)))
  (try simp only [Act.put])
  refine anyP_takeF 9 (v := ?_) rfl (by kernel_rfl) (fun _ _ _ h => h) (Or.inl ⟨by rfl, ?_⟩) (.inr hHeld) ?_
  rotate_left 1
  · (intro w0 hSw; (try dsimp only at hSw); go_simp; (try (with_reducible rfl)))
  (try simp only [Act.put])
  refine anyP_take 10 (v := ?_) rfl rfl (by kernel_rfl) (fun _ _ _ h => h) (Or.inl ⟨by rfl, ?_⟩) hHeld ?_
  rotate_left 1
  · (intro w0 hSw; (try dsimp only at hSw); go_simp; (try (with_reducible rfl)))
  (try simp only [Act.put])
  refine anyP_takeF 11 (v := ?_) rfl (by kernel_rfl) (fun _ _ _ h => h) (Or.inl ⟨by rfl, ?_⟩) (.inr hHeld) ?_
  rotate_left 1
  · (intro w0 hSw; (try dsimp only at hSw); go_simp; (try (with_reducible rfl)))
  (try simp only [Act.put])
  refine anyP_take 12 (v := ?_) rfl rfl (by kernel_rfl) (fun _ _ _ h => h) (Or.inl ⟨by rfl, ?_⟩) hHeld ?_
  rotate_left 1
  · (intro w0 hSw; (try dsimp only at hSw); go_simp; (try (with_reducible rfl)))
  (try simp only [Act.put])
  refine anyP_takeF 13 (v := ?_) rfl (by kernel_rfl) (fun _ _ _ h => h) (Or.inl ⟨by rfl, ?_⟩) (.inr hHeld) ?_
  rotate_left 1
  · (intro w0 hSw; (try dsimp only at hSw); go_simp; (try (with_reducible rfl)))
  (try simp only [Act.put])
  refine anyP_take 14 (v := ?_) rfl rfl (by kernel_rfl) (fun _ _ _ h => h) (Or.inl ⟨by rfl, ?_⟩) hHeld ?_
  rotate_left 1
  · (intro w0 hSw; (try dsimp only at hSw); go_simp; (try (with_reducible rfl)))
  (try simp only [Act.put])
  refine anyP_takeF 15 (v := ?_) rfl (by kernel_rfl) (fun _ _ _ h => h) (Or.inl ⟨by rfl, ?_⟩) (.inr hHeld) ?_
  rotate_left 1
  · (intro w0 hSw; (try dsimp only at hSw); go_simp; (try (with_reducible rfl)))
  (try simp only [Act.put])
  refine anyP_takeF 16 (v := ?_) rfl (by kernel_rfl) (fun _ _ _ h => h) (Or.inl ⟨by rfl, ?_⟩) (.inr hHeld) ?_
  rotate_left 1
  · (intro w0 hSw; (try dsimp only at hSw); go_simp; (try (with_reducible rfl)))
  (try simp only [Act.put])
  clear hww hww2
  refine anyP_one 17 (by kernel_rfl) rfl (fun K hK => ?_)
  replace hK := Lib.hid hK
  go_simp
  refine hK.out _ _ (.inl (by kernel_rfl)) ?_
  clear hK K
  (try simp only [Act.put, List.setIfInBounds_toArray, List.set_cons_zero, List.set_cons_succ])
  refine anyP_done (by kernel_rfl) ?_ _
  refine NoPanic.normal ?_
  have M5 := Lib.hid (M4.out.setZ (b := a) (x := za))
  have hbg : bx ≠ gz := by have h1 := HB.out; have h2 := HGl.out.2.1; omega
  have G5 := Lib.hid (G4.out.setCell (p := ⟨gz, a, none⟩) (fun _ => HN.out gz (.inr (.inr (.inl (on1 gz))))) (.int .i64 (za : Int)))
  have BX5 := Lib.hid (BX4.out.other (p := ⟨gz, a, none⟩) hbg (.int .i64 (za : Int)))
  obtain ⟨w9, hw9⟩ : ∃ wz, wz = w8.setCell ⟨gz, a, none⟩ (.int .i64 (za : Int)) := ⟨_, rfl⟩
  rw [← hw9] at M5 G5 BX5 ⊢
  clear hw9 q1 q2 hHeld hbg M4 G4 BX4
  go_wp2_with fail
  obtain ⟨w10, hw10⟩ : ∃ wz, wz = w9.drew := ⟨_, rfl⟩
  replace M5 := Lib.hid M5.out.drew; replace G5 := Lib.hid G5.out.drew; replace BX5 := Lib.hid BX5.out.drew
  refine wp_region_last 8 (fun w' : World => w'.cell? ⟨f, 2, none⟩ = some (.slice (some ⟨gl, 0, none⟩) n cl) ∧ w'.cell? ⟨bx, 1, none⟩ = some (.int .i64 (l : Int))) (by kernel_rfl) ?_
  rw [← hw10] at M5 G5 BX5 ⊢
  clear hw10
  have hHeld : (fun w' : World => w'.cell? ⟨f, 2, none⟩ = some (.slice (some ⟨gl, 0, none⟩) n cl) ∧ w'.cell? ⟨bx, 1, none⟩ = some (.int .i64 (l : Int))) w10 := ⟨M5.out.blk.cell (i := 2) rfl, BX5.out.cell (i := 1) rfl⟩
  have q1 := cellO M5.out.ol HL.out
  have q2 := freeO M5.out.ol (by omega) a
  refine anyP_takeF 0 (v := ?_) rfl (by kernel_rfl) (fun _ _ _ h => h) (Or.inl ⟨by rfl, ?_⟩) (.inr hHeld) ?_
  rotate_left 1
  · (intro w0 hSw; (try dsimp only at hSw); go_simp; (try (with_reducible rfl)))
  (try simp only [Act.put, List.setIfInBounds_toArray])
  refine anyP_takeF 1 (v := ?_) rfl (by kernel_rfl) (fun _ _ _ h => h) (Or.inl ⟨by rfl, ?_⟩) (.inr hHeld) ?_
  rotate_left 1
  · (intro w0 hSw; (try dsimp only at hSw); go_simp; (try (with_reducible rfl)))
  (try simp only [Act.put])
  refine anyP_takeF 2 (v := ?_) rfl (by kernel_rfl) (fun _ _ _ h => h) (Or.inl ⟨by rfl, ?_⟩) (.inr hHeld) ?_
  rotate_left 1
  · (intro w0 hSw; (try dsimp only at hSw); go_simp; (try (with_reducible rfl)))
  (try simp only [Act.put])
  refine anyP_take 3 (v := ?_) rfl rfl (by kernel_rfl) (fun _ _ _ h => h) (Or.inl ⟨by rfl, ?_⟩) hHeld ?_
  rotate_left 1
  · (intro w0 hSw; (try dsimp only at hSw); go_simp; (try (with_reducible rfl)))
  (try simp only [Act.put])
  refine anyP_takeF 4 (v := ?_) rfl (by kernel_rfl) (fun _ _ _ h => h) (Or.inl ⟨by rfl, ?_⟩) (.inr hHeld) ?_
  rotate_left 1
  · (intro w0 hSw; (try dsimp only at hSw); go_simp; (try (with_reducible rfl)))
  (try simp only [Act.put])
  refine anyP_takeF 5 (v := ?_) rfl (by kernel_rfl) (fun _ _ _ h => h) (Or.inl ⟨by rfl, ?_⟩) (.inr hHeld) ?_
  rotate_left 1
  · (intro w0 hSw; (try dsimp only at hSw); go_simp; (try (with_reducible rfl)))
  (try simp only [Act.put])
  refine anyP_take 6 (v := ?_) rfl rfl (by kernel_rfl) (fun _ _ _ h => h) (Or.inl ⟨by rfl, ?_⟩) hHeld ?_
  rotate_left 1
  · (intro w0 hSw; (try dsimp only at hSw); go_simp; (try (with_reducible rfl)))
  (try simp only [Act.put])
  refine anyP_takeF 7 (v := ?_) rfl (by kernel_rfl) (fun _ _ _ h => h) (Or.inl ⟨by rfl, ?_⟩) (.inr hHeld) ?_
  rotate_left 1
  · (intro w0 hSw; (try dsimp only at hSw); go_simp; (try (with_reducible rfl)))
  (try simp only [Act.put])
  refine anyP_one 8 (by kernel_rfl) rfl (fun K hK => ?_)
  replace hK := Lib.hid hK
  go_simp
  refine hK.out _ _ (.inl (by kernel_rfl)) ?_
  clear hK K
  (try simp only [Act.put, List.setIfInBounds_toArray, List.set_cons_zero, List.set_cons_succ])
  refine anyP_done (by kernel_rfl) ?_ _
  refine NoPanic.normal ?_
  have M6 := Lib.hid (M5.out.setL (b := a) (x := l))
  have G6 := Lib.hid (G5.out.setCell (p := ⟨gl, a, none⟩) (fun _ => HN.out gl (.inr (.inr (.inr (.inl (on1 gl)))))) (.int .i64 (l : Int)))
  obtain ⟨w11, hw11⟩ : ∃ wz, wz = w10.setCell ⟨gl, a, none⟩ (.int .i64 (l : Int)) := ⟨_, rfl⟩
  rw [← hw11] at M6 G6 ⊢
  clear hw11 q1 q2 hHeld M5 G5 BX5
  have q1 := M6.out.blk.cell (i := 3) rfl
  have q2 := M6.out.blk.free 3
  have M7 := Lib.hid (M6.out.setc (x := S.c + 1))
  have G7 := Lib.hid (G6.out.setCell (p := ⟨f, 3, none⟩) (fun _ => HN.out f (.inl rfl)) (.int .i64 ((S.c + 1 : Nat) : Int)))
  rw [show ((S.c + 1 : Nat) : Int) = (S.c : Int) + 1 from rfl] at M7 G7
  dsimp only at q1
  go_wp2_with fail
  go_ret
  exact ⟨rfl, ⟨some ⟨gp, 0, none⟩, some ⟨gz, 0, none⟩, some ⟨gl, 0, none⟩, some ⟨gk, 0, none⟩, cp, cz, cl, ck, M7.out, HN.out⟩, G7.out⟩
end Go.Proofs.Ytihcaemheknjbaa
