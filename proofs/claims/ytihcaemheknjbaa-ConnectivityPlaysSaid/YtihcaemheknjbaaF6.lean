/- Union. -/
import Derived.Test.YtihcaemheknjbaaF5
import Derived.Test.YtihcaemheknjbaaF3
import Derived.Test.YtihcaemheknjbaaComAll
import Derived.Lib.MinMax
namespace Go.Proofs.Ytihcaemheknjbaa
open Go.RowKit
attribute [local go_sem ↓] Go.wp_at_zero Go.wp_at_succ
theorem wI {x : Int} (h1 : -9223372036854775808 ≤ x) (h2 : x ≤ 9223372036854775807) : IntKind.i64.wrap x = x := IntWalk.i64_in _ ⟨h1, h2⟩
theorem nmin (a b : Nat) : ((min a b : Nat) : Int) = min (a : Int) (b : Int) := by omega
theorem E96 : ElemZ Try.prog 92 96 (.agg #[.int .i64 0, .int .i64 0]) 2 16 := ⟨by kernel_rfl, by kernel_rfl, rfl⟩
/-- The blocks N, and those that have come. -/
def ext (N : Nat → Prop) (w w' : World) (j : Nat) : Prop := N j ∨ (w.heap.size ≤ j ∧ j < w'.heap.size)
section
variable {w w' : World} {B f n : Nat} {S : FS} {K : List Chg} {ap az al ak : Option Addr} {cp cz cl ck : Nat} {g b x : Nat}
theorem FoM.drew (h : FoM w B f n S K ap az al ak cp cz cl ck) : FoM w.drew B f n S K ap az al ak cp cz cl ck := h.fr ((Fr.refl F0 w).drew) (fun _ _ h => h)
theorem FoM.drewN (h : FoM w B f n S K ap az al ak cp cz cl ck) (q : Nat) : FoM (w.drewN q) B f n S K ap az al ak cp cz cl ck := h.fr ((Fr.refl F0 w).drewN q) (fun _ _ h => h)
theorem on1 (g : Nat) : onBlk (some ⟨g, 0, none⟩) g := (onBlk_some _ _ _ _).2 rfl
theorem FoM.setP (h : FoM w B f n S K (some ⟨g, 0, none⟩) az al ak cp cz cl ck) : FoM (w.setCell ⟨g, b, none⟩ (.int .i64 (x : Int))) B f n { S with P := S.P.set b x } K (some ⟨g, 0, none⟩) az al ak cp cz cl ck :=
  { h with blk := h.blk.other (p := ⟨g, b, none⟩) (fun e => h.fp (e ▸ on1 g)) _, op := by have := h.op.set (i := b) (.int .i64 (x : Int)); rwa [nv_set] at this, oz := h.oz.other (p := ⟨g, b, none⟩) (h.pz g (on1 g)) _, ol := h.ol.other (p := ⟨g, b, none⟩) (h.pl g (on1 g)) _, ok := h.ok.other (p := ⟨g, b, none⟩) (h.pk g (on1 g)) _ }
theorem FoM.setZ (h : FoM w B f n S K ap (some ⟨g, 0, none⟩) al ak cp cz cl ck) : FoM (w.setCell ⟨g, b, none⟩ (.int .i64 (x : Int))) B f n { S with Z := S.Z.set b x } K ap (some ⟨g, 0, none⟩) al ak cp cz cl ck :=
  { h with blk := h.blk.other (p := ⟨g, b, none⟩) (fun e => h.fz (e ▸ on1 g)) _, oz := by have := h.oz.set (i := b) (.int .i64 (x : Int)); rwa [nv_set] at this, op := h.op.other (p := ⟨g, b, none⟩) (h.pz.symm g (on1 g)) _, ol := h.ol.other (p := ⟨g, b, none⟩) (h.zl g (on1 g)) _, ok := h.ok.other (p := ⟨g, b, none⟩) (h.zk g (on1 g)) _ }
theorem FoM.setL (h : FoM w B f n S K ap az (some ⟨g, 0, none⟩) ak cp cz cl ck) : FoM (w.setCell ⟨g, b, none⟩ (.int .i64 (x : Int))) B f n { S with L := S.L.set b x } K ap az (some ⟨g, 0, none⟩) ak cp cz cl ck :=
  { h with blk := h.blk.other (p := ⟨g, b, none⟩) (fun e => h.fl (e ▸ on1 g)) _, ol := by have := h.ol.set (i := b) (.int .i64 (x : Int)); rwa [nv_set] at this, op := h.op.other (p := ⟨g, b, none⟩) (h.pl.symm g (on1 g)) _, oz := h.oz.other (p := ⟨g, b, none⟩) (h.zl.symm g (on1 g)) _, ok := h.ok.other (p := ⟨g, b, none⟩) (h.lk g (on1 g)) _ }
theorem FoM.setc (h : FoM w B f n S K ap az al ak cp cz cl ck) : FoM (w.setCell ⟨f, 3, none⟩ (.int .i64 (x : Int))) B f n { S with c := x } K ap az al ak cp cz cl ck :=
  { h with blk := h.blk.set 3 _, op := h.op.other (p := ⟨f, 3, none⟩) h.fp _, oz := h.oz.other (p := ⟨f, 3, none⟩) h.fz _, ol := h.ol.other (p := ⟨f, 3, none⟩) h.fl _, ok := h.ok.other (p := ⟨f, 3, none⟩) h.fk _ }
theorem FoM.size (h : FoM w B f n S K ap az al ak cp cz cl ck) : B ≤ w.heap.size := by have := h.hB; have := h.blk.lt; omega
theorem FoM.push {ak' : Option Addr} {ck' : Nat} {c : Chg} (h : FoM w B f n S K ap az al ak cp cz cl ck) (own' : OwnZ w' B 96 2 ak' (K.length + 1) ck' (chs K ++ chv c)) (fr' : Fr (onBlk ak) w w') (at' : ∀ k, onBlk ak' k → onBlk ak k ∨ w.heap.size ≤ k) :
    FoM (w'.setCell ⟨f, 4, none⟩ (.slice ak' (K.length + 1) ck')) B f n S (K ++ [c]) ap az al ak' cp cz cl ck' := by
  have fk' : ¬ onBlk ak' f := fun hk => (at' f hk).elim h.fk (fun h1 => by have := h.blk.lt; omega)
  have hK : (K ++ [c]).length = K.length + 1 := by simp
  refine ⟨?_, (h.op.fr fr' h.pk).other (p := ⟨f, 4, none⟩) h.fp _, (h.oz.fr fr' h.zk).other (p := ⟨f, 4, none⟩) h.fz _, (h.ol.fr fr' h.lk).other (p := ⟨f, 4, none⟩) h.fl _, ?_, h.hB, h.fp, h.fz, h.fl, fk', h.pz, h.pl, ?_, h.zl, ?_, ?_⟩
  · rw [hK]; exact (h.blk.fr fr' h.fk).set 4 _
  · rw [hK, chs_snoc]; exact own'.other (p := ⟨f, 4, none⟩) fk' _
  · exact (Apart.app h.pk.symm at' (fun k hk => (h.op.blk k hk).2)).symm
  · exact (Apart.app h.zk.symm at' (fun k hk => (h.oz.blk k hk).2)).symm
  · exact (Apart.app h.lk.symm at' (fun k hk => (h.ol.blk k hk).2)).symm
theorem ext_new {N : Nat → Prop} {W : World} {ak' : Option Addr} (hN : ∀ j, Ft f ap az al ak j → N j) (at' : ∀ k, onBlk ak' k → onBlk ak k ∨ w.heap.size ≤ k) (hl : ∀ k, onBlk ak' k → k < W.heap.size) : ∀ j, Ft f ap az al ak' j → ext N w W j := by
  intro j hj
  rcases hj with rfl | hj | hj | hj | hj
  · exact .inl (hN _ (.inl rfl))
  · exact .inl (hN _ (.inr (.inl hj)))
  · exact .inl (hN _ (.inr (.inr (.inl hj))))
  · exact .inl (hN _ (.inr (.inr (.inr (.inl hj)))))
  · rcases at' j hj with h1 | h1
    · exact .inl (hN _ (.inr (.inr (.inr (.inr h1)))))
    · exact .inr ⟨h1, hl j hj⟩
end
theorem Union_out {w : World} {B f n : Nat} {N : Nat → Prop} {S : FS} {K : List Chg} {v u : Int} (h : Fo w B N f n S K) (hv : v < 0 ∨ (n : Int) ≤ v ∨ u < 0 ∨ (n : Int) ≤ u) :
    Calls Try.prog 23 #[.pointer (some ⟨f, 0, none⟩), .int .i64 v, .int .i64 u] w fun e w' => e = .returned (.tuple #[.bool false, .int .i64 2]) ∧ w = w' := by
  have U1 := Lib.hid (unknown_any v h)
  have U2 := Lib.hid (unknown_any u h)
  by_cases c : v < 0 ∨ (n : Int) ≤ v
  · have e1 : (decide (v < 0) || decide ((n : Int) ≤ v)) = true := by simpa using c
    rw [e1] at U1
    clear h hv c e1
    go_enter Try.func23, Try.ntmps23
    go_wp2_with (go_at_call 48; refine U1.out.mono ?_; rintro e w1 ⟨rfl, rfl⟩)
    go_ret2
    exact ⟨rfl, rfl⟩
  · have e1 : (decide (v < 0) || decide ((n : Int) ≤ v)) = false := by simp; omega
    have e2 : (decide (u < 0) || decide ((n : Int) ≤ u)) = true := by simp; omega
    rw [e1] at U1
    rw [e2] at U2
    clear h hv c e1 e2
    go_enter Try.func23, Try.ntmps23
    go_wp2_with fail
    refine U1.out.mono ?_
    rintro e w1 ⟨rfl, rfl⟩
    go_wp2_with fail
    refine U2.out.mono ?_
    rintro e w1 ⟨rfl, rfl⟩
    go_wp2_with fail
    go_ret2
    exact ⟨rfl, rfl⟩
set_option maxRecDepth 100000 in
set_option maxHeartbeats 1000000 in
theorem Union_same {w : World} {B f n : Nat} {N : Nat → Prop} {S : FS} {K : List Chg} {v u a : Nat} (h : Fo w B N f n S K) (hn : n ≤ 1000) (hP : S.P.length = n) (hk : K.length < 100000) (hv : Rt S.P v a) (hu : Rt S.P u a) :
    Calls Try.prog 23 #[.pointer (some ⟨f, 0, none⟩), .int .i64 v, .int .i64 u] w fun e w' => e = .returned (.tuple #[.bool false, .int .i64 0]) ∧ Fo w' B (ext N w w') f n S (K ++ [none]) ∧ Fr N w w' := by
  obtain ⟨ap, az, al, ak, cp, cz, cl, ck, hM, hN⟩ := h
  have HF : Hid (Fo w B N f n S K) := Lib.hid ⟨ap, az, al, ak, cp, cz, cl, ck, hM, hN⟩
  have hvl : v < n := by have := hv.lt; rwa [hP] at this
  have hul : u < n := by have := hu.lt; rwa [hP] at this
  have U1 := Lib.hid (unknown_any (v : Int) HF.out)
  have U2 := Lib.hid (unknown_any (u : Int) HF.out)
  have e1 : (decide ((v : Int) < 0) || decide ((n : Int) ≤ (v : Int))) = false := by simp; omega
  have e2 : (decide ((u : Int) < 0) || decide ((n : Int) ≤ (u : Int))) = false := by simp; omega
  rw [e1] at U1
  rw [e2] at U2
  have R1 := Lib.hid (root_any HF.out hn hv)
  have R2 := Lib.hid (root_any HF.out hn hu)
  have x4 := hM.blk.cell (i := 4) rfl
  have dk : decide ((100000 : Int) ≤ (K.length : Int)) = false := decide_eq_false (by omega)
  have HM := Lib.hid hM
  have HN := Lib.hid hN
  have HKl := Lib.hid hk
  have hkb : (K.length + 1) * 16 ≤ 140737488355328 := by omega
  clear e1 e2 hv hu hM hN hk hP
  go_enter Try.func23, Try.ntmps23
  go_wp2_with fail
  refine U1.out.mono ?_
  rintro e w1 ⟨rfl, rfl⟩
  go_wp2_with fail
  refine U2.out.mono ?_
  rintro e w1 ⟨rfl, rfl⟩
  go_wp2_with fail
  refine R1.out.mono ?_
  rintro e w1 ⟨rfl, rfl⟩
  go_wp2_with fail
  refine R2.out.mono ?_
  rintro e w1 ⟨rfl, rfl⟩
  go_wp2_with (refine wpAppZAt E96 (by decide) HM.out.ok (us := chv none) rfl (chv_one none) hkb (by omega) HM.out.size rfl rfl ?_; intro a' c' w2 own' fr' at'; have y4 := (HM.out.blk.fr fr' HM.out.fk).cell (i := 4) rfl; have z4 := (HM.out.blk.fr fr' HM.out.fk).free 4; have HO := Lib.hid own'; have HFr := Lib.hid fr'; have HA := Lib.hid at'; clear own' fr' at')
  go_ret2
  have hp := HM.out.push (c := none) HO.out HFr.out HA.out
  refine ⟨rfl, ⟨ap, az, al, a', cp, cz, cl, c', hp, ext_new HN.out HA.out (fun k hk => ?_)⟩, ?_⟩
  · exact (hp.ok.blk k hk).2
  · exact ((HFr.out.mono (fun k _ hk => HN.out k (.inr (.inr (.inr (.inr hk)))))).setCell (p := ⟨f, 4, none⟩) (fun _ => HN.out f (.inl rfl)) _)
theorem cellO {w : World} {B g n c i x : Nat} {l : List Nat} (h : Own w B 3 (some ⟨g, 0, none⟩) n c (nv l)) (hx : l[i]? = some x) : w.cell? ⟨g, i, none⟩ = some (.int .i64 (x : Int)) := by
  have hl := h.len
  rw [nv_len] at hl
  obtain ⟨g', hg, _, _, hc, _⟩ := h.at (by have := (List.getElem?_eq_some_iff.1 hx).1; omega)
  injection hg with hg
  injection hg with hg
  subst hg
  exact hc i _ (nv_get hx)
theorem freeO {w : World} {B g n c : Nat} {vs : List Value} (h : Own w B 3 (some ⟨g, 0, none⟩) n c vs) (hn : 0 < n) (i : Nat) : w.frozen? ⟨g, i, none⟩ = false := by
  obtain ⟨g', hg, _, _, _, hf⟩ := h.at hn
  injection hg with hg
  injection hg with hg
  subst hg
  exact hf i
theorem gd {l : List Nat} {i x : Nat} (h : l[i]? = some x) : l.getD i 0 = x := by rw [List.getD_eq_getElem?_getD, h]; rfl
/-- What a union that joins leaves. -/
def JnP (w : World) (B f n : Nat) (N : Nat → Prop) (S : FS) (K : List Chg) (a b : Nat) (e : Ending) (w' : World) : Prop := ∃ a' b', ((a' = a ∧ b' = b) ∨ (a' = b ∧ b' = a)) ∧ e = .returned (.tuple #[.bool true, .int .i64 0]) ∧ Fo w' B (ext N w w') f n (uni S a' b') (K ++ [some (b', S.L.getD a' 0)]) ∧ Fr N w w'
set_option maxRecDepth 100000 in
set_option maxHeartbeats 8000000 in
theorem Union_join1 {w : World} {B f n : Nat} {N : Nat → Prop} {S : FS} {K : List Chg} {v u a b za zb la lb : Nat} (h : Fo w B N f n S K) (hn : n ≤ 1000) (hP : S.P.length = n) (hk : K.length < 100000) (hv : Rt S.P v a) (hu : Rt S.P u b) (hab : a ≠ b)
    (hza : S.Z[a]? = some za) (hzb : S.Z[b]? = some zb) (hla : S.L[a]? = some la) (hlb : S.L[b]? = some lb) (hz : za + zb ≤ 1000) (hc : 1 ≤ S.c ∧ S.c ≤ 1000) (hzz : zb ≤ za) :
    Calls Try.prog 23 #[.pointer (some ⟨f, 0, none⟩), .int .i64 v, .int .i64 u] w (JnP w B f n N S K a b) := by
  obtain ⟨ap, az, al, ak, cp, cz, cl, ck, hM, hN⟩ := h
  have HF : Hid (Fo w B N f n S K) := Lib.hid ⟨ap, az, al, ak, cp, cz, cl, ck, hM, hN⟩
  have hvl : v < n := by have := hv.lt; rwa [hP] at this
  have hul : u < n := by have := hu.lt; rwa [hP] at this
  have U1 := Lib.hid (unknown_any (v : Int) HF.out)
  have U2 := Lib.hid (unknown_any (u : Int) HF.out)
  have e1 : (decide ((v : Int) < 0) || decide ((n : Int) ≤ (v : Int))) = false := by simp; omega
  have e2 : (decide ((u : Int) < 0) || decide ((n : Int) ≤ (u : Int))) = false := by simp; omega
  rw [e1] at U1
  rw [e2] at U2
  have R1 := Lib.hid (root_any HF.out hn hv)
  have R2 := Lib.hid (root_any HF.out hn hu)
  have x4 := hM.blk.cell (i := 4) rfl
  have dk : decide ((100000 : Int) ≤ (K.length : Int)) = false := decide_eq_false (by omega)
  have hal : a < n := by have := hv.ltr; rwa [hP] at this
  have hbl : b < n := by have := hu.ltr; rwa [hP] at this
  have HPa := Lib.hid hv.fix
  have HPb := Lib.hid hu.fix
  have Ha := Lib.hid (And.intro hza hla)
  have Hb := Lib.hid (And.intro hzb hlb)
  have ne : ((a : Int) == (b : Int)) = false := by simp; omega
  obtain ⟨gp, rfl, _, _, _, _⟩ := hM.op.at (by omega)
  obtain ⟨gz, rfl, _, _, _, _⟩ := hM.oz.at (by omega)
  obtain ⟨gl, rfl, _, _, _, _⟩ := hM.ol.at (by omega)
  have x1 := hM.blk.cell (i := 1) rfl
  have c1a := cellO hM.oz hza
  have c1b := cellO hM.oz hzb
  have hzn : decide (za < zb) = false := decide_eq_false (by omega)
  have HM := Lib.hid hM
  have HN := Lib.hid hN
  have HKl := Lib.hid hk
  have hkb : (K.length + 1) * 16 ≤ 140737488355328 := by omega
  have hc1 := Lib.hid hc
  clear e1 e2 hv hu hM hN hk hP hza hzb hla hlb hab hc
  go_enter Try.func23, Try.ntmps23
  go_wp2_with fail
  refine U1.out.mono ?_
  rintro e w1 ⟨rfl, rfl⟩
  go_wp2_with fail
  refine U2.out.mono ?_
  rintro e w1 ⟨rfl, rfl⟩
  go_wp2_with fail
  refine R1.out.mono ?_
  rintro e w1 ⟨rfl, rfl⟩
  go_wp2_with fail
  refine R2.out.mono ?_
  rintro e w1 ⟨rfl, rfl⟩
  go_wp2_with fail
  go_quiet (fail)
  clear hzz c1a c1b
  go_wp2_with fail
  obtain ⟨w1, hw1⟩ : ∃ wz, wz = w.drewN nq := ⟨_, rfl⟩
  rw [← hw1]
  have M1 : Hid (FoM w1 B f n S K (some ⟨gp, 0, none⟩) (some ⟨gz, 0, none⟩) (some ⟨gl, 0, none⟩) ak cp cz cl ck) := Lib.hid (by rw [hw1]; exact HM.out.drewN nq)
  have G1 : Hid (Fr N w w1) := Lib.hid (by rw [hw1]; exact (Fr.refl N w).drewN nq)
  clear hw1
  obtain ⟨w2, hw2⟩ : ∃ wz, wz = w1.drew := ⟨_, rfl⟩
  have M2 : Hid (FoM w2 B f n S K (some ⟨gp, 0, none⟩) (some ⟨gz, 0, none⟩) (some ⟨gl, 0, none⟩) ak cp cz cl ck) := Lib.hid (by rw [hw2]; exact M1.out.drew)
  have G2 : Hid (Fr N w w2) := Lib.hid (by rw [hw2]; exact G1.out.drew)
  have kL2 : ∀ W : World, FoM W B f n S K (some ⟨gp, 0, none⟩) (some ⟨gz, 0, none⟩) (some ⟨gl, 0, none⟩) ak cp cz cl ck → (fun w' : World => w'.cell? ⟨f, 4, none⟩ = some (.slice ak K.length ck) ∧ w'.cell? ⟨f, 2, none⟩ = some (.slice (some ⟨gl, 0, none⟩) n cl) ∧ w'.cell? ⟨gl, a, none⟩ = some (.int .i64 (la : Int))) W := fun W m => ⟨m.blk.cell (i := 4) rfl, m.blk.cell (i := 2) rfl, cellO m.ol Ha.out.2⟩
  replace kL2 := Lib.hid kL2
  refine wp_region_last 18 (fun w' : World => w'.cell? ⟨f, 4, none⟩ = some (.slice ak K.length ck) ∧ w'.cell? ⟨f, 2, none⟩ = some (.slice (some ⟨gl, 0, none⟩) n cl) ∧ w'.cell? ⟨gl, a, none⟩ = some (.int .i64 (la : Int))) (by kernel_rfl) ?_
  rw [← hw2]
  have hHeld := kL2.out w2 M2.out
  clear hw2
  refine anyP_takeF 0 (v := ?_) rfl (by kernel_rfl) (fun _ _ _ h => h) (Or.inl ⟨by rfl, ?_⟩) (.inr hHeld) ?_
  rotate_left 1
  · (intro w0 hSw; (try dsimp only at hSw); go_simp; (try (with_reducible rfl)))
  (try simp only [Act.put, List.setIfInBounds_toArray])
  refine anyP_takeF 1 (v := ?_) rfl (by kernel_rfl) (fun _ _ _ h => h) (Or.inl ⟨by rfl, ?_⟩) (.inr hHeld) ?_
  rotate_left 1
  · (intro w0 hSw; (try dsimp only at hSw); go_simp; (try (with_reducible rfl)))
  (try simp only [Act.put])
  refine anyP_takeF 2 (v := ?_) rfl (by kernel_rfl) (fun _ _ _ h => h) (Or.inl ⟨by rfl, ?_⟩) (.inr hHeld) ?_
  rotate_left 1
  · (intro w0 hSw; (try dsimp only at hSw); go_simp; (try (with_reducible rfl)))
  (try simp only [Act.put])
  refine anyP_takeF 3 (v := ?_) rfl (by kernel_rfl) (fun _ _ _ h => h) (Or.inl ⟨by rfl, ?_⟩) (.inr hHeld) ?_
  rotate_left 1
  · (intro w0 hSw; (try dsimp only at hSw); go_simp; (try (with_reducible rfl)))
  (try simp only [Act.put])
  refine anyP_take 4 (v := ?_) rfl rfl (by kernel_rfl) (fun _ _ _ h => h) (Or.inl ⟨by rfl, ?_⟩) hHeld ?_
  rotate_left 1
  · (intro w0 hSw; (try dsimp only at hSw); go_simp; (try (with_reducible rfl)))
  (try simp only [Act.put])
  refine anyP_takeF 5 (v := ?_) rfl (by kernel_rfl) (fun _ _ _ h => h) (Or.inl ⟨by rfl, ?_⟩) (.inr hHeld) ?_
  rotate_left 1
  · (intro w0 hSw; (try dsimp only at hSw); go_simp; (try (with_reducible rfl)))
  (try simp only [Act.put])
  refine anyP_takeF 6 (v := ?_) rfl (by kernel_rfl) (fun _ _ _ h => h) (Or.inl ⟨by rfl, ?_⟩) (.inr hHeld) ?_
  rotate_left 1
  · (intro w0 hSw; (try dsimp only at hSw); go_simp; (try (with_reducible rfl)))
  (try simp only [Act.put])
  refine anyP_takeF 7 (v := ?_) rfl (by kernel_rfl) (fun _ _ _ h => h) (Or.inl ⟨by rfl, ?_⟩) (.inr hHeld) ?_
  rotate_left 1
  · (intro w0 hSw; (try dsimp only at hSw); go_simp; (try (with_reducible rfl)))
  (try simp only [Act.put])
  refine anyP_takeF 8 (v := ?_) rfl (by kernel_rfl) (fun _ _ _ h => h) (Or.inl ⟨by rfl, ?_⟩) (.inr hHeld) ?_
  rotate_left 1
  · (intro w0 hSw; (try dsimp only at hSw); go_simp; (try (with_reducible rfl)))
  (try simp only [Act.put])
  refine anyP_take 9 (v := ?_) rfl rfl (by kernel_rfl) (fun _ _ _ h => h) (Or.inl ⟨by rfl, ?_⟩) hHeld ?_
  rotate_left 1
  · (intro w0 hSw; (try dsimp only at hSw); go_simp; (try (with_reducible rfl)))
  (try simp only [Act.put])
  refine anyP_takeF 10 (v := ?_) rfl (by kernel_rfl) (fun _ _ _ h => h) (Or.inl ⟨by rfl, ?_⟩) (.inr hHeld) ?_
  rotate_left 1
  · (intro w0 hSw; (try dsimp only at hSw); go_simp; (try (with_reducible rfl)))
  (try simp only [Act.put])
  refine anyP_takeF 11 (v := ?_) rfl (by kernel_rfl) (fun _ _ _ h => h) (Or.inl ⟨by rfl, ?_⟩) (.inr hHeld) ?_
  rotate_left 1
  · (intro w0 hSw; (try dsimp only at hSw); go_simp; (try (with_reducible rfl)))
  (try simp only [Act.put])
  refine anyP_take 12 (v := ?_) rfl rfl (by kernel_rfl) (fun _ _ _ h => h) (Or.inl ⟨by rfl, ?_⟩) hHeld ?_
  rotate_left 1
  · (intro w0 hSw; (try dsimp only at hSw); go_simp; (try (with_reducible rfl)))
  (try simp only [Act.put])
  refine anyP_takeF 13 (v := ?_) rfl (by kernel_rfl) (fun _ _ _ h => h) (Or.inl ⟨by rfl, ?_⟩) (.inr hHeld) ?_
  rotate_left 1
  · (intro w0 hSw; (try dsimp only at hSw); go_simp; (try (with_reducible rfl)))
  (try simp only [Act.put])
  refine anyP_one 14 (by kernel_rfl) rfl (fun K hK => ?_)
  replace hK := Lib.hid hK
  go_simp
  refine hK.out _ _ (.inr (kL2.out _ (M2.out.fr ((Fr.refl F0 w2).alloc _) (fun _ _ h => h)))) ?_
  clear hK K
  (try simp only [Act.put, List.setIfInBounds_toArray, List.set_cons_zero, List.set_cons_succ])
  have hlit := rdZ_new w2 96 (chv (some (b, la)))
  have M3 := M2.out.fr ((Fr.refl F0 w2).alloc (.cells (chv (some (b, la))).toArray 96)) (fun _ _ h => h)
  have G3 := Lib.hid (G2.out.alloc (.cells (chv (some (b, la))).toArray 96))
  obtain ⟨w3, hw3⟩ : ∃ wz, wz = w2.alloc (.cells (chv (some (b, la))).toArray 96) := ⟨_, rfl⟩
  obtain ⟨gx, hgx⟩ : ∃ g, g = w2.heap.size := ⟨_, rfl⟩
  change anyP _ _ _ _ _ _ _ _ _ (w2.alloc (.cells (chv (some (b, la))).toArray 96))
  rw [← hw3] at M3 G3 hlit ⊢
  rw [← hgx] at hlit ⊢
  have hs3 : w.heap.size ≤ w3.heap.size := G3.out.size
  have M3' := Lib.hid M3
  clear hw3 hgx M3
  refine anyP_one 15 (by kernel_rfl) rfl (fun KK hKK => ?_)
  replace hKK := Lib.hid hKK
  refine stepAppZ E96 (by decide) (by rfl) (by rfl) (by rfl) (by rfl) M3'.out.ok hlit (chv_one _) hkb (by omega) M3'.out.size (K.length + 1) rfl ?_
  intro ak' ck' w4 own' fr' at'
  have b4 := M3'.out.blk.fr fr' M3'.out.fk
  refine hKK.out _ _ (.inr ⟨b4.cell (i := 4) rfl, b4.cell (i := 2) rfl, cellO (M3'.out.ol.fr fr' M3'.out.lk) Ha.out.2⟩) ?_
  clear hKK KK
  (try simp only [Act.put, List.setIfInBounds_toArray])
  have y4 := b4.cell (i := 4) rfl
  have z4 := b4.free 4
  have HA := Lib.hid (show ∀ k, onBlk ak' k → onBlk ak k ∨ w.heap.size ≤ k from fun k hk => (at' k hk).imp id (fun h => Nat.le_trans hs3 h))
  have M5 := Lib.hid (M3'.out.push (c := some (b, la)) own' fr' at')
  have G5 := Lib.hid ((G3.out.trans (fr'.mono (fun k _ hk => HN.out k (.inr (.inr (.inr (.inr hk)))))) (fun _ _ h => h)).setCell (p := ⟨f, 4, none⟩) (fun _ => HN.out f (.inl rfl)) (.slice ak' (K.length + 1) ck'))
  replace hHeld := And.intro (b4.cell (i := 4) rfl) (And.intro (b4.cell (i := 2) rfl) (cellO (M3'.out.ol.fr fr' M3'.out.lk) Ha.out.2))
  clear own' fr' at' b4 M3' G3 hlit hs3
  refine anyP_one 16 (by kernel_rfl) rfl (fun K hK => ?_)
  replace hK := Lib.hid hK
  go_simp
  refine hK.out _ _ (.inr hHeld) ?_
  clear hK K
  (try simp only [Act.put, List.setIfInBounds_toArray, List.set_cons_zero, List.set_cons_succ])
  refine anyP_one 17 (by kernel_rfl) rfl (fun K hK => ?_)
  replace hK := Lib.hid hK
  go_simp
  refine hK.out _ _ (.inr hHeld) ?_
  clear hK K
  (try simp only [Act.put, List.setIfInBounds_toArray, List.set_cons_zero, List.set_cons_succ])
  refine anyP_one 18 (by kernel_rfl) rfl (fun K hK => ?_)
  replace hK := Lib.hid hK
  go_simp
  refine hK.out _ _ (.inl (by kernel_rfl)) ?_
  clear hK K
  (try simp only [Act.put, List.setIfInBounds_toArray, List.set_cons_zero, List.set_cons_succ])
  refine anyP_done (by kernel_rfl) ?_ _
  refine NoPanic.normal ?_
  obtain ⟨w5, hw5⟩ : ∃ wz, wz = w4.setCell ⟨f, 4, none⟩ (.slice ak' (K.length + 1) ck') := ⟨_, rfl⟩
  rw [← hw5] at M5 G5 ⊢
  clear hw5 y4 z4 hHeld kL2 M1 G1 M2 G2
  have q0 := M5.out.blk.cell (i := 0) rfl
  have q1 := cellO M5.out.op HPb.out
  have q2 := freeO M5.out.op (by omega) b
  have M6 := Lib.hid (M5.out.setP (b := b) (x := a))
  have G6 := Lib.hid (G5.out.setCell (p := ⟨gp, b, none⟩) (fun _ => HN.out gp (.inr (.inl (on1 gp)))) (.int .i64 (a : Int)))
  go_wp2_with fail
  obtain ⟨w6, hw6⟩ : ∃ wz, wz = w5.setCell ⟨gp, b, none⟩ (.int .i64 (a : Int)) := ⟨_, rfl⟩
  rw [← hw6] at M6 G6 ⊢
  clear hw6 q0 q1 q2 M5 G5
  obtain ⟨w7, hw7⟩ : ∃ wz, wz = w6.drew := ⟨_, rfl⟩
  replace M6 := Lib.hid M6.out.drew; replace G6 := Lib.hid G6.out.drew
  refine wp_region_last 16 (fun w' : World => w'.cell? ⟨f, 1, none⟩ = some (.slice (some ⟨gz, 0, none⟩) n cz) ∧ w'.cell? ⟨gz, a, none⟩ = some (.int .i64 (za : Int)) ∧ w'.cell? ⟨gz, b, none⟩ = some (.int .i64 (zb : Int))) (by kernel_rfl) ?_
  rw [← hw7] at M6 G6 ⊢
  clear hw7
  have hHeld : (fun w' : World => w'.cell? ⟨f, 1, none⟩ = some (.slice (some ⟨gz, 0, none⟩) n cz) ∧ w'.cell? ⟨gz, a, none⟩ = some (.int .i64 (za : Int)) ∧ w'.cell? ⟨gz, b, none⟩ = some (.int .i64 (zb : Int))) w7 := ⟨M6.out.blk.cell (i := 1) rfl, cellO M6.out.oz Ha.out.1, cellO M6.out.oz Hb.out.1⟩
  have q2 := freeO M6.out.oz (by omega) a
  have q1 := cellO M6.out.oz Ha.out.1
  have hww : IntKind.i64.wrap ((za : Int) + (zb : Int)) = (za : Int) + (zb : Int) := wI (by omega) (by omega)
  refine anyP_takeF 0 (v := ?_) rfl (by kernel_rfl) (fun _ _ _ h => h) (Or.inl ⟨by rfl, ?_⟩) (.inr hHeld) ?_
  rotate_left 1
  · (intro w0 hSw; (try dsimp only at hSw); go_simp; (try (with_reducible rfl)))
  (try simp only [Act.put, List.setIfInBounds_toArray])
  refine anyP_takeF 1 (v := ?_) rfl (by kernel_rfl) (fun _ _ _ h => h) (Or.inl ⟨by rfl, ?_⟩) (.inr hHeld) ?_
  rotate_left 1
  · (intro w0 hSw; (try dsimp only at hSw); go_simp; (try (with_reducible rfl)))
  (try simp only [Act.put])
  refine anyP_takeF 2 (v := ?_) rfl (by kernel_rfl) (fun _ _ _ h => h) (Or.inl ⟨by rfl, ?_⟩) (.inr hHeld) ?_
  rotate_left 1
  · (intro w0 hSw; (try dsimp only at hSw); go_simp; (try (with_reducible rfl)))
  (try simp only [Act.put])
  refine anyP_take 3 (v := ?_) rfl rfl (by kernel_rfl) (fun _ _ _ h => h) (Or.inl ⟨by rfl, ?_⟩) hHeld ?_
  rotate_left 1
  · (intro w0 hSw; (try dsimp only at hSw); go_simp; (try (with_reducible rfl)))
  (try simp only [Act.put])
  refine anyP_takeF 4 (v := ?_) rfl (by kernel_rfl) (fun _ _ _ h => h) (Or.inl ⟨by rfl, ?_⟩) (.inr hHeld) ?_
  rotate_left 1
  · (intro w0 hSw; (try dsimp only at hSw); go_simp; (try (with_reducible rfl)))
  (try simp only [Act.put])
  refine anyP_takeF 5 (v := ?_) rfl (by kernel_rfl) (fun _ _ _ h => h) (Or.inl ⟨by rfl, ?_⟩) (.inr hHeld) ?_
  rotate_left 1
  · (intro w0 hSw; (try dsimp only at hSw); go_simp; (try (with_reducible rfl)))
  (try simp only [Act.put])
  refine anyP_take 6 (v := ?_) rfl rfl (by kernel_rfl) (fun _ _ _ h => h) (Or.inl ⟨by rfl, ?_⟩) hHeld ?_
  rotate_left 1
  · (intro w0 hSw; (try dsimp only at hSw); go_simp; (try (with_reducible rfl)))
  (try simp only [Act.put])
  refine anyP_takeF 7 (v := ?_) rfl (by kernel_rfl) (fun _ _ _ h => h) (Or.inl ⟨by rfl, ?_⟩) (.inr hHeld) ?_
  rotate_left 1
  · (intro w0 hSw; (try dsimp only at hSw); go_simp; (try (with_reducible rfl)))
  (try simp only [Act.put])
  refine anyP_takeF 8 (v := ?_) rfl (by kernel_rfl) (fun _ _ _ h => h) (Or.inl ⟨by rfl, ?_⟩) (.inr hHeld) ?_
  rotate_left 1
  · (intro w0 hSw; (try dsimp only at hSw); go_simp; (try (with_reducible rfl)))
  (try simp only [Act.put])
  refine anyP_takeF 9 (v := ?_) rfl (by kernel_rfl) (fun _ _ _ h => h) (Or.inl ⟨by rfl, ?_⟩) (.inr hHeld) ?_
  rotate_left 1
  · (intro w0 hSw; (try dsimp only at hSw); go_simp; (try (with_reducible rfl)))
  (try simp only [Act.put])
  refine anyP_take 10 (v := ?_) rfl rfl (by kernel_rfl) (fun _ _ _ h => h) (Or.inl ⟨by rfl, ?_⟩) hHeld ?_
  rotate_left 1
  · (intro w0 hSw; (try dsimp only at hSw); go_simp; (try (with_reducible rfl)))
  (try simp only [Act.put])
  refine anyP_takeF 11 (v := ?_) rfl (by kernel_rfl) (fun _ _ _ h => h) (Or.inl ⟨by rfl, ?_⟩) (.inr hHeld) ?_
  rotate_left 1
  · (intro w0 hSw; (try dsimp only at hSw); go_simp; (try (with_reducible rfl)))
  (try simp only [Act.put])
  refine anyP_takeF 12 (v := ?_) rfl (by kernel_rfl) (fun _ _ _ h => h) (Or.inl ⟨by rfl, ?_⟩) (.inr hHeld) ?_
  rotate_left 1
  · (intro w0 hSw; (try dsimp only at hSw); go_simp; (try (with_reducible rfl)))
  (try simp only [Act.put])
  refine anyP_take 13 (v := ?_) rfl rfl (by kernel_rfl) (fun _ _ _ h => h) (Or.inl ⟨by rfl, ?_⟩) hHeld ?_
  rotate_left 1
  · (intro w0 hSw; (try dsimp only at hSw); go_simp; (try (with_reducible rfl)))
  (try simp only [Act.put])
  refine anyP_takeF 14 (v := ?_) rfl (by kernel_rfl) (fun _ _ _ h => h) (Or.inl ⟨by rfl, ?_⟩) (.inr hHeld) ?_
  rotate_left 1
  · (intro w0 hSw; (try dsimp only at hSw); go_simp; (try (with_reducible rfl)))
  (try simp only [Act.put])
  refine anyP_takeF 15 (v := ?_) rfl (by kernel_rfl) (fun _ _ _ h => h) (Or.inl ⟨by rfl, ?_⟩) (.inr hHeld) ?_
  rotate_left 1
  · (intro w0 hSw; (try dsimp only at hSw); go_simp; (try (with_reducible rfl)))
  (try simp only [Act.put])
  clear hww
  refine anyP_one 16 (by kernel_rfl) rfl (fun K hK => ?_)
  replace hK := Lib.hid hK
  go_simp
  refine hK.out _ _ (.inl (by kernel_rfl)) ?_
  clear hK K
  (try simp only [Act.put, List.setIfInBounds_toArray, List.set_cons_zero, List.set_cons_succ])
  refine anyP_done (by kernel_rfl) ?_ _
  refine NoPanic.normal ?_
  have M7 := Lib.hid (M6.out.setZ (b := a) (x := za + zb))
  have G7 := Lib.hid (G6.out.setCell (p := ⟨gz, a, none⟩) (fun _ => HN.out gz (.inr (.inr (.inl (on1 gz))))) (.int .i64 ((za + zb : Nat) : Int)))
  rw [Int.natCast_add] at M7 G7
  obtain ⟨w8, hw8⟩ : ∃ wz, wz = w7.setCell ⟨gz, a, none⟩ (.int .i64 ((za : Int) + (zb : Int))) := ⟨_, rfl⟩
  rw [← hw8] at M7 G7 ⊢
  clear hw8 q1 q2 hHeld M6 G6
  go_wp2_with fail
  obtain ⟨w9, hw9⟩ : ∃ wz, wz = w8.drew := ⟨_, rfl⟩
  replace M7 := Lib.hid M7.out.drew; replace G7 := Lib.hid G7.out.drew
  refine wp_region_last 21 (fun w' : World => w'.cell? ⟨f, 2, none⟩ = some (.slice (some ⟨gl, 0, none⟩) n cl) ∧ w'.cell? ⟨gl, a, none⟩ = some (.int .i64 (la : Int)) ∧ w'.cell? ⟨gl, b, none⟩ = some (.int .i64 (lb : Int))) (by kernel_rfl) ?_
  rw [← hw9] at M7 G7 ⊢
  clear hw9
  have hHeld : (fun w' : World => w'.cell? ⟨f, 2, none⟩ = some (.slice (some ⟨gl, 0, none⟩) n cl) ∧ w'.cell? ⟨gl, a, none⟩ = some (.int .i64 (la : Int)) ∧ w'.cell? ⟨gl, b, none⟩ = some (.int .i64 (lb : Int))) w9 := ⟨M7.out.blk.cell (i := 2) rfl, cellO M7.out.ol Ha.out.2, cellO M7.out.ol Hb.out.2⟩
  have q2 := freeO M7.out.ol (by omega) a
  have q1 := cellO M7.out.ol Ha.out.2
  refine anyP_takeF 0 (v := ?_) rfl (by kernel_rfl) (fun _ _ _ h => h) (Or.inl ⟨by rfl, ?_⟩) (.inr hHeld) ?_
  rotate_left 1
  · (intro w0 hSw; (try dsimp only at hSw); go_simp; (try (with_reducible rfl)))
  (try simp only [Act.put, List.setIfInBounds_toArray])
  refine anyP_takeF 1 (v := ?_) rfl (by kernel_rfl) (fun _ _ _ h => h) (Or.inl ⟨by rfl, ?_⟩) (.inr hHeld) ?_
  rotate_left 1
  · (intro w0 hSw; (try dsimp only at hSw); go_simp; (try (with_reducible rfl)))
  (try simp only [Act.put])
  refine anyP_takeF 2 (v := ?_) rfl (by kernel_rfl) (fun _ _ _ h => h) (Or.inl ⟨by rfl, ?_⟩) (.inr hHeld) ?_
  rotate_left 1
  · (intro w0 hSw; (try dsimp only at hSw); go_simp; (try (with_reducible rfl)))
  (try simp only [Act.put])
  refine anyP_take 3 (v := ?_) rfl rfl (by kernel_rfl) (fun _ _ _ h => h) (Or.inl ⟨by rfl, ?_⟩) hHeld ?_
  rotate_left 1
  · (intro w0 hSw; (try dsimp only at hSw); go_simp; (try (with_reducible rfl)))
  (try simp only [Act.put])
  refine anyP_takeF 4 (v := ?_) rfl (by kernel_rfl) (fun _ _ _ h => h) (Or.inl ⟨by rfl, ?_⟩) (.inr hHeld) ?_
  rotate_left 1
  · (intro w0 hSw; (try dsimp only at hSw); go_simp; (try (with_reducible rfl)))
  (try simp only [Act.put])
  refine anyP_takeF 5 (v := ?_) rfl (by kernel_rfl) (fun _ _ _ h => h) (Or.inl ⟨by rfl, ?_⟩) (.inr hHeld) ?_
  rotate_left 1
  · (intro w0 hSw; (try dsimp only at hSw); go_simp; (try (with_reducible rfl)))
  (try simp only [Act.put])
  refine anyP_takeF 6 (v := ?_) rfl (by kernel_rfl) (fun _ _ _ h => h) (Or.inl ⟨by rfl, ?_⟩) (.inr hHeld) ?_
  rotate_left 1
  · (intro w0 hSw; (try dsimp only at hSw); go_simp; (try (with_reducible rfl)))
  (try simp only [Act.put])
  refine anyP_takeF 7 (v := ?_) rfl (by kernel_rfl) (fun _ _ _ h => h) (Or.inl ⟨by rfl, ?_⟩) (.inr hHeld) ?_
  rotate_left 1
  · (intro w0 hSw; (try dsimp only at hSw); go_simp; (try (with_reducible rfl)))
  (try simp only [Act.put])
  refine anyP_take 8 (v := ?_) rfl rfl (by kernel_rfl) (fun _ _ _ h => h) (Or.inl ⟨by rfl, ?_⟩) hHeld ?_
  rotate_left 1
  · (intro w0 hSw; (try dsimp only at hSw); go_simp; (try (with_reducible rfl)))
  (try simp only [Act.put])
  refine anyP_takeF 9 (v := ?_) rfl (by kernel_rfl) (fun _ _ _ h => h) (Or.inl ⟨by rfl, ?_⟩) (.inr hHeld) ?_
  rotate_left 1
  · (intro w0 hSw; (try dsimp only at hSw); go_simp; (try (with_reducible rfl)))
  (try simp only [Act.put])
  refine anyP_takeF 10 (v := ?_) rfl (by kernel_rfl) (fun _ _ _ h => h) (Or.inl ⟨by rfl, ?_⟩) (.inr hHeld) ?_
  rotate_left 1
  · (intro w0 hSw; (try dsimp only at hSw); go_simp; (try (with_reducible rfl)))
  (try simp only [Act.put])
  refine anyP_take 11 (v := ?_) rfl rfl (by kernel_rfl) (fun _ _ _ h => h) (Or.inl ⟨by rfl, ?_⟩) hHeld ?_
  rotate_left 1
  · (intro w0 hSw; (try dsimp only at hSw); go_simp; (try (with_reducible rfl)))
  (try simp only [Act.put])
  refine anyP_takeF 12 (v := ?_) rfl (by kernel_rfl) (fun _ _ _ h => h) (Or.inl ⟨by rfl, ?_⟩) (.inr hHeld) ?_
  rotate_left 1
  · (intro w0 hSw; (try dsimp only at hSw); go_simp; (try (with_reducible rfl)))
  (try simp only [Act.put])
  refine anyP_takeF 13 (v := ?_) rfl (by kernel_rfl) (fun _ _ _ h => h) (Or.inl ⟨by rfl, ?_⟩) (.inr hHeld) ?_
  rotate_left 1
  · (intro w0 hSw; (try dsimp only at hSw); go_simp; (try (with_reducible rfl)))
  (try simp only [Act.put])
  refine anyP_takeF 14 (v := ?_) rfl (by kernel_rfl) (fun _ _ _ h => h) (Or.inl ⟨by rfl, ?_⟩) (.inr hHeld) ?_
  rotate_left 1
  · (intro w0 hSw; (try dsimp only at hSw); go_simp; (try (with_reducible rfl)))
  (try simp only [Act.put])
  refine anyP_take 15 (v := ?_) rfl rfl (by kernel_rfl) (fun _ _ _ h => h) (Or.inl ⟨by rfl, ?_⟩) hHeld ?_
  rotate_left 1
  · (intro w0 hSw; (try dsimp only at hSw); go_simp; (try (with_reducible rfl)))
  (try simp only [Act.put])
  refine anyP_takeF 16 (v := ?_) rfl (by kernel_rfl) (fun _ _ _ h => h) (Or.inl ⟨by rfl, ?_⟩) (.inr hHeld) ?_
  rotate_left 1
  · (intro w0 hSw; (try dsimp only at hSw); go_simp; (try (with_reducible rfl)))
  (try simp only [Act.put])
  refine anyP_takeF 17 (v := ?_) rfl (by kernel_rfl) (fun _ _ _ h => h) (Or.inl ⟨by rfl, ?_⟩) (.inr hHeld) ?_
  rotate_left 1
  · (intro w0 hSw; (try dsimp only at hSw); go_simp; (try (with_reducible rfl)))
  (try simp only [Act.put])
  refine anyP_take 18 (v := ?_) rfl rfl (by kernel_rfl) (fun _ _ _ h => h) (Or.inl ⟨by rfl, ?_⟩) hHeld ?_
  rotate_left 1
  · (intro w0 hSw; (try dsimp only at hSw); go_simp; (try (with_reducible rfl)))
  (try simp only [Act.put])
  refine anyP_takeF 19 (v := ?_) rfl (by kernel_rfl) (fun _ _ _ h => h) (Or.inl ⟨by rfl, ?_⟩) (.inr hHeld) ?_
  rotate_left 1
  · (intro w0 hSw; (try dsimp only at hSw); go_simp; (try (with_reducible rfl)))
  (try simp only [Act.put])
  refine anyP_takeF 20 (v := ?_) rfl (by kernel_rfl) (fun _ _ _ h => h) (Or.inl ⟨by rfl, ?_⟩) (.inr hHeld) ?_
  rotate_left 1
  · (intro w0 hSw; (try dsimp only at hSw); go_simp; (try (with_reducible rfl)))
  (try simp only [Act.put])
  refine anyP_one 21 (by kernel_rfl) rfl (fun K hK => ?_)
  replace hK := Lib.hid hK
  go_simp
  refine hK.out _ _ (.inl (by kernel_rfl)) ?_
  clear hK K
  (try simp only [Act.put, List.setIfInBounds_toArray, List.set_cons_zero, List.set_cons_succ])
  refine anyP_done (by kernel_rfl) ?_ _
  refine NoPanic.normal ?_
  have M8 := Lib.hid (M7.out.setL (b := a) (x := min la lb))
  have G8 := Lib.hid (G7.out.setCell (p := ⟨gl, a, none⟩) (fun _ => HN.out gl (.inr (.inr (.inr (.inl (on1 gl)))))) (.int .i64 ((min la lb : Nat) : Int)))
  rw [nmin] at M8 G8
  obtain ⟨w10, hw10⟩ : ∃ wz, wz = w9.setCell ⟨gl, a, none⟩ (.int .i64 (min (la : Int) (lb : Int))) := ⟨_, rfl⟩
  rw [← hw10] at M8 G8 ⊢
  clear hw10 q1 q2 hHeld M7 G7
  have q1 := M8.out.blk.cell (i := 3) rfl
  have q2 := M8.out.blk.free 3
  have hc1 := hc1.out
  have M9 := Lib.hid (M8.out.setc (x := S.c - 1))
  have G9 := Lib.hid (G8.out.setCell (p := ⟨f, 3, none⟩) (fun _ => HN.out f (.inl rfl)) (.int .i64 ((S.c - 1 : Nat) : Int)))
  rw [Int.natCast_sub hc1.1] at M9 G9
  replace M9 := Lib.hid M9.out
  dsimp only at q1
  have hcl : 1 ≤ (S.c : Int) := by omega
  have hch : (S.c : Int) ≤ 1000 := by omega
  clear hc1
  go_wp2_with fail
  go_ret2
  refine ⟨a, b, .inl ⟨rfl, rfl⟩, rfl, ?_⟩
  have eu : uni S a b = ⟨S.P.set b a, S.Z.set a (za + zb), S.L.set a (min la lb), S.c - 1⟩ := by
    unfold uni
    rw [gd Ha.out.1, gd Hb.out.1, gd Ha.out.2, gd Hb.out.2]
  rw [eu, gd Ha.out.2]
  refine ⟨⟨some ⟨gp, 0, none⟩, some ⟨gz, 0, none⟩, some ⟨gl, 0, none⟩, ak', cp, cz, cl, ck', M9.out, ext_new HN.out HA.out (fun k hk => (M9.out.ok.blk k hk).2)⟩, G9.out⟩
set_option maxRecDepth 100000 in
set_option maxHeartbeats 8000000 in
theorem Union_join2 {w : World} {B f n : Nat} {N : Nat → Prop} {S : FS} {K : List Chg} {v u a b za zb la lb : Nat} (h : Fo w B N f n S K) (hn : n ≤ 1000) (hP : S.P.length = n) (hk : K.length < 100000) (hv : Rt S.P v a) (hu : Rt S.P u b) (hab : a ≠ b)
    (hza : S.Z[a]? = some za) (hzb : S.Z[b]? = some zb) (hla : S.L[a]? = some la) (hlb : S.L[b]? = some lb) (hz : za + zb ≤ 1000) (hc : 1 ≤ S.c ∧ S.c ≤ 1000) (hzz : za < zb) :
    Calls Try.prog 23 #[.pointer (some ⟨f, 0, none⟩), .int .i64 v, .int .i64 u] w (JnP w B f n N S K a b) := by
  obtain ⟨ap, az, al, ak, cp, cz, cl, ck, hM, hN⟩ := h
  have HF : Hid (Fo w B N f n S K) := Lib.hid ⟨ap, az, al, ak, cp, cz, cl, ck, hM, hN⟩
  have hvl : v < n := by have := hv.lt; rwa [hP] at this
  have hul : u < n := by have := hu.lt; rwa [hP] at this
  have U1 := Lib.hid (unknown_any (v : Int) HF.out)
  have U2 := Lib.hid (unknown_any (u : Int) HF.out)
  have e1 : (decide ((v : Int) < 0) || decide ((n : Int) ≤ (v : Int))) = false := by simp; omega
  have e2 : (decide ((u : Int) < 0) || decide ((n : Int) ≤ (u : Int))) = false := by simp; omega
  rw [e1] at U1
  rw [e2] at U2
  have R1 := Lib.hid (root_any HF.out hn hv)
  have R2 := Lib.hid (root_any HF.out hn hu)
  have x4 := hM.blk.cell (i := 4) rfl
  have dk : decide ((100000 : Int) ≤ (K.length : Int)) = false := decide_eq_false (by omega)
  have hal : a < n := by have := hv.ltr; rwa [hP] at this
  have hbl : b < n := by have := hu.ltr; rwa [hP] at this
  have HPa := Lib.hid hv.fix
  have HPb := Lib.hid hu.fix
  have Ha := Lib.hid (And.intro hza hla)
  have Hb := Lib.hid (And.intro hzb hlb)
  have ne : ((a : Int) == (b : Int)) = false := by simp; omega
  obtain ⟨gp, rfl, _, _, _, _⟩ := hM.op.at (by omega)
  obtain ⟨gz, rfl, _, _, _, _⟩ := hM.oz.at (by omega)
  obtain ⟨gl, rfl, _, _, _, _⟩ := hM.ol.at (by omega)
  have x1 := hM.blk.cell (i := 1) rfl
  have c1a := cellO hM.oz hza
  have c1b := cellO hM.oz hzb
  have hzn : decide (za < zb) = true := decide_eq_true hzz
  have HM := Lib.hid hM
  have HN := Lib.hid hN
  have HKl := Lib.hid hk
  have hkb : (K.length + 1) * 16 ≤ 140737488355328 := by omega
  have hc1 := Lib.hid hc
  clear e1 e2 hv hu hM hN hk hP hza hzb hla hlb hab hc
  go_enter Try.func23, Try.ntmps23
  go_wp2_with fail
  refine U1.out.mono ?_
  rintro e w1 ⟨rfl, rfl⟩
  go_wp2_with fail
  refine U2.out.mono ?_
  rintro e w1 ⟨rfl, rfl⟩
  go_wp2_with fail
  refine R1.out.mono ?_
  rintro e w1 ⟨rfl, rfl⟩
  go_wp2_with fail
  refine R2.out.mono ?_
  rintro e w1 ⟨rfl, rfl⟩
  go_wp2_with fail
  go_quiet (fail)
  clear hzz c1a c1b
  go_wp2_with fail
  obtain ⟨w1, hw1⟩ : ∃ wz, wz = w.drewN nq := ⟨_, rfl⟩
  rw [← hw1]
  have M1 : Hid (FoM w1 B f n S K (some ⟨gp, 0, none⟩) (some ⟨gz, 0, none⟩) (some ⟨gl, 0, none⟩) ak cp cz cl ck) := Lib.hid (by rw [hw1]; exact HM.out.drewN nq)
  have G1 : Hid (Fr N w w1) := Lib.hid (by rw [hw1]; exact (Fr.refl N w).drewN nq)
  clear hw1
  obtain ⟨w2, hw2⟩ : ∃ wz, wz = w1.drew := ⟨_, rfl⟩
  have M2 : Hid (FoM w2 B f n S K (some ⟨gp, 0, none⟩) (some ⟨gz, 0, none⟩) (some ⟨gl, 0, none⟩) ak cp cz cl ck) := Lib.hid (by rw [hw2]; exact M1.out.drew)
  have G2 : Hid (Fr N w w2) := Lib.hid (by rw [hw2]; exact G1.out.drew)
  have kL2 : ∀ W : World, FoM W B f n S K (some ⟨gp, 0, none⟩) (some ⟨gz, 0, none⟩) (some ⟨gl, 0, none⟩) ak cp cz cl ck → (fun w' : World => w'.cell? ⟨f, 4, none⟩ = some (.slice ak K.length ck) ∧ w'.cell? ⟨f, 2, none⟩ = some (.slice (some ⟨gl, 0, none⟩) n cl) ∧ w'.cell? ⟨gl, b, none⟩ = some (.int .i64 (lb : Int))) W := fun W m => ⟨m.blk.cell (i := 4) rfl, m.blk.cell (i := 2) rfl, cellO m.ol Hb.out.2⟩
  replace kL2 := Lib.hid kL2
  refine wp_region_last 18 (fun w' : World => w'.cell? ⟨f, 4, none⟩ = some (.slice ak K.length ck) ∧ w'.cell? ⟨f, 2, none⟩ = some (.slice (some ⟨gl, 0, none⟩) n cl) ∧ w'.cell? ⟨gl, b, none⟩ = some (.int .i64 (lb : Int))) (by kernel_rfl) ?_
  rw [← hw2]
  have hHeld := kL2.out w2 M2.out
  clear hw2
  refine anyP_takeF 0 (v := ?_) rfl (by kernel_rfl) (fun _ _ _ h => h) (Or.inl ⟨by rfl, ?_⟩) (.inr hHeld) ?_
  rotate_left 1
  · (intro w0 hSw; (try dsimp only at hSw); go_simp; (try (with_reducible rfl)))
  (try simp only [Act.put, List.setIfInBounds_toArray])
  refine anyP_takeF 1 (v := ?_) rfl (by kernel_rfl) (fun _ _ _ h => h) (Or.inl ⟨by rfl, ?_⟩) (.inr hHeld) ?_
  rotate_left 1
  · (intro w0 hSw; (try dsimp only at hSw); go_simp; (try (with_reducible rfl)))
  (try simp only [Act.put])
  refine anyP_takeF 2 (v := ?_) rfl (by kernel_rfl) (fun _ _ _ h => h) (Or.inl ⟨by rfl, ?_⟩) (.inr hHeld) ?_
  rotate_left 1
  · (intro w0 hSw; (try dsimp only at hSw); go_simp; (try (with_reducible rfl)))
  (try simp only [Act.put])
  refine anyP_takeF 3 (v := ?_) rfl (by kernel_rfl) (fun _ _ _ h => h) (Or.inl ⟨by rfl, ?_⟩) (.inr hHeld) ?_
  rotate_left 1
  · (intro w0 hSw; (try dsimp only at hSw); go_simp; (try (with_reducible rfl)))
  (try simp only [Act.put])
  refine anyP_take 4 (v := ?_) rfl rfl (by kernel_rfl) (fun _ _ _ h => h) (Or.inl ⟨by rfl, ?_⟩) hHeld ?_
  rotate_left 1
  · (intro w0 hSw; (try dsimp only at hSw); go_simp; (try (with_reducible rfl)))
  (try simp only [Act.put])
  refine anyP_takeF 5 (v := ?_) rfl (by kernel_rfl) (fun _ _ _ h => h) (Or.inl ⟨by rfl, ?_⟩) (.inr hHeld) ?_
  rotate_left 1
  · (intro w0 hSw; (try dsimp only at hSw); go_simp; (try (with_reducible rfl)))
  (try simp only [Act.put])
  refine anyP_takeF 6 (v := ?_) rfl (by kernel_rfl) (fun _ _ _ h => h) (Or.inl ⟨by rfl, ?_⟩) (.inr hHeld) ?_
  rotate_left 1
  · (intro w0 hSw; (try dsimp only at hSw); go_simp; (try (with_reducible rfl)))
  (try simp only [Act.put])
  refine anyP_takeF 7 (v := ?_) rfl (by kernel_rfl) (fun _ _ _ h => h) (Or.inl ⟨by rfl, ?_⟩) (.inr hHeld) ?_
  rotate_left 1
  · (intro w0 hSw; (try dsimp only at hSw); go_simp; (try (with_reducible rfl)))
  (try simp only [Act.put])
  refine anyP_takeF 8 (v := ?_) rfl (by kernel_rfl) (fun _ _ _ h => h) (Or.inl ⟨by rfl, ?_⟩) (.inr hHeld) ?_
  rotate_left 1
  · (intro w0 hSw; (try dsimp only at hSw); go_simp; (try (with_reducible rfl)))
  (try simp only [Act.put])
  refine anyP_take 9 (v := ?_) rfl rfl (by kernel_rfl) (fun _ _ _ h => h) (Or.inl ⟨by rfl, ?_⟩) hHeld ?_
  rotate_left 1
  · (intro w0 hSw; (try dsimp only at hSw); go_simp; (try (with_reducible rfl)))
  (try simp only [Act.put])
  refine anyP_takeF 10 (v := ?_) rfl (by kernel_rfl) (fun _ _ _ h => h) (Or.inl ⟨by rfl, ?_⟩) (.inr hHeld) ?_
  rotate_left 1
  · (intro w0 hSw; (try dsimp only at hSw); go_simp; (try (with_reducible rfl)))
  (try simp only [Act.put])
  refine anyP_takeF 11 (v := ?_) rfl (by kernel_rfl) (fun _ _ _ h => h) (Or.inl ⟨by rfl, ?_⟩) (.inr hHeld) ?_
  rotate_left 1
  · (intro w0 hSw; (try dsimp only at hSw); go_simp; (try (with_reducible rfl)))
  (try simp only [Act.put])
  refine anyP_take 12 (v := ?_) rfl rfl (by kernel_rfl) (fun _ _ _ h => h) (Or.inl ⟨by rfl, ?_⟩) hHeld ?_
  rotate_left 1
  · (intro w0 hSw; (try dsimp only at hSw); go_simp; (try (with_reducible rfl)))
  (try simp only [Act.put])
  refine anyP_takeF 13 (v := ?_) rfl (by kernel_rfl) (fun _ _ _ h => h) (Or.inl ⟨by rfl, ?_⟩) (.inr hHeld) ?_
  rotate_left 1
  · (intro w0 hSw; (try dsimp only at hSw); go_simp; (try (with_reducible rfl)))
  (try simp only [Act.put])
  refine anyP_one 14 (by kernel_rfl) rfl (fun K hK => ?_)
  replace hK := Lib.hid hK
  go_simp
  refine hK.out _ _ (.inr (kL2.out _ (M2.out.fr ((Fr.refl F0 w2).alloc _) (fun _ _ h => h)))) ?_
  clear hK K
  (try simp only [Act.put, List.setIfInBounds_toArray, List.set_cons_zero, List.set_cons_succ])
  have hlit := rdZ_new w2 96 (chv (some (a, lb)))
  have M3 := M2.out.fr ((Fr.refl F0 w2).alloc (.cells (chv (some (a, lb))).toArray 96)) (fun _ _ h => h)
  have G3 := Lib.hid (G2.out.alloc (.cells (chv (some (a, lb))).toArray 96))
  obtain ⟨w3, hw3⟩ : ∃ wz, wz = w2.alloc (.cells (chv (some (a, lb))).toArray 96) := ⟨_, rfl⟩
  obtain ⟨gx, hgx⟩ : ∃ g, g = w2.heap.size := ⟨_, rfl⟩
  change anyP _ _ _ _ _ _ _ _ _ (w2.alloc (.cells (chv (some (a, lb))).toArray 96))
  rw [← hw3] at M3 G3 hlit ⊢
  rw [← hgx] at hlit ⊢
  have hs3 : w.heap.size ≤ w3.heap.size := G3.out.size
  have M3' := Lib.hid M3
  clear hw3 hgx M3
  refine anyP_one 15 (by kernel_rfl) rfl (fun KK hKK => ?_)
  replace hKK := Lib.hid hKK
  refine stepAppZ E96 (by decide) (by rfl) (by rfl) (by rfl) (by rfl) M3'.out.ok hlit (chv_one _) hkb (by omega) M3'.out.size (K.length + 1) rfl ?_
  intro ak' ck' w4 own' fr' at'
  have b4 := M3'.out.blk.fr fr' M3'.out.fk
  refine hKK.out _ _ (.inr ⟨b4.cell (i := 4) rfl, b4.cell (i := 2) rfl, cellO (M3'.out.ol.fr fr' M3'.out.lk) Hb.out.2⟩) ?_
  clear hKK KK
  (try simp only [Act.put, List.setIfInBounds_toArray])
  have y4 := b4.cell (i := 4) rfl
  have z4 := b4.free 4
  have HA := Lib.hid (show ∀ k, onBlk ak' k → onBlk ak k ∨ w.heap.size ≤ k from fun k hk => (at' k hk).imp id (fun h => Nat.le_trans hs3 h))
  have M5 := Lib.hid (M3'.out.push (c := some (a, lb)) own' fr' at')
  have G5 := Lib.hid ((G3.out.trans (fr'.mono (fun k _ hk => HN.out k (.inr (.inr (.inr (.inr hk)))))) (fun _ _ h => h)).setCell (p := ⟨f, 4, none⟩) (fun _ => HN.out f (.inl rfl)) (.slice ak' (K.length + 1) ck'))
  replace hHeld := And.intro (b4.cell (i := 4) rfl) (And.intro (b4.cell (i := 2) rfl) (cellO (M3'.out.ol.fr fr' M3'.out.lk) Hb.out.2))
  clear own' fr' at' b4 M3' G3 hlit hs3
  refine anyP_one 16 (by kernel_rfl) rfl (fun K hK => ?_)
  replace hK := Lib.hid hK
  go_simp
  refine hK.out _ _ (.inr hHeld) ?_
  clear hK K
  (try simp only [Act.put, List.setIfInBounds_toArray, List.set_cons_zero, List.set_cons_succ])
  refine anyP_one 17 (by kernel_rfl) rfl (fun K hK => ?_)
  replace hK := Lib.hid hK
  go_simp
  refine hK.out _ _ (.inr hHeld) ?_
  clear hK K
  (try simp only [Act.put, List.setIfInBounds_toArray, List.set_cons_zero, List.set_cons_succ])
  refine anyP_one 18 (by kernel_rfl) rfl (fun K hK => ?_)
  replace hK := Lib.hid hK
  go_simp
  refine hK.out _ _ (.inl (by kernel_rfl)) ?_
  clear hK K
  (try simp only [Act.put, List.setIfInBounds_toArray, List.set_cons_zero, List.set_cons_succ])
  refine anyP_done (by kernel_rfl) ?_ _
  refine NoPanic.normal ?_
  obtain ⟨w5, hw5⟩ : ∃ wz, wz = w4.setCell ⟨f, 4, none⟩ (.slice ak' (K.length + 1) ck') := ⟨_, rfl⟩
  rw [← hw5] at M5 G5 ⊢
  clear hw5 y4 z4 hHeld kL2 M1 G1 M2 G2
  have q0 := M5.out.blk.cell (i := 0) rfl
  have q1 := cellO M5.out.op HPa.out
  have q2 := freeO M5.out.op (by omega) a
  have M6 := Lib.hid (M5.out.setP (b := a) (x := b))
  have G6 := Lib.hid (G5.out.setCell (p := ⟨gp, a, none⟩) (fun _ => HN.out gp (.inr (.inl (on1 gp)))) (.int .i64 (b : Int)))
  go_wp2_with fail
  obtain ⟨w6, hw6⟩ : ∃ wz, wz = w5.setCell ⟨gp, a, none⟩ (.int .i64 (b : Int)) := ⟨_, rfl⟩
  rw [← hw6] at M6 G6 ⊢
  clear hw6 q0 q1 q2 M5 G5
  obtain ⟨w7, hw7⟩ : ∃ wz, wz = w6.drew := ⟨_, rfl⟩
  replace M6 := Lib.hid M6.out.drew; replace G6 := Lib.hid G6.out.drew
  refine wp_region_last 16 (fun w' : World => w'.cell? ⟨f, 1, none⟩ = some (.slice (some ⟨gz, 0, none⟩) n cz) ∧ w'.cell? ⟨gz, b, none⟩ = some (.int .i64 (zb : Int)) ∧ w'.cell? ⟨gz, a, none⟩ = some (.int .i64 (za : Int))) (by kernel_rfl) ?_
  rw [← hw7] at M6 G6 ⊢
  clear hw7
  have hHeld : (fun w' : World => w'.cell? ⟨f, 1, none⟩ = some (.slice (some ⟨gz, 0, none⟩) n cz) ∧ w'.cell? ⟨gz, b, none⟩ = some (.int .i64 (zb : Int)) ∧ w'.cell? ⟨gz, a, none⟩ = some (.int .i64 (za : Int))) w7 := ⟨M6.out.blk.cell (i := 1) rfl, cellO M6.out.oz Hb.out.1, cellO M6.out.oz Ha.out.1⟩
  have q2 := freeO M6.out.oz (by omega) b
  have q1 := cellO M6.out.oz Hb.out.1
  have hww : IntKind.i64.wrap ((zb : Int) + (za : Int)) = (zb : Int) + (za : Int) := wI (by omega) (by omega)
  refine anyP_takeF 0 (v := ?_) rfl (by kernel_rfl) (fun _ _ _ h => h) (Or.inl ⟨by rfl, ?_⟩) (.inr hHeld) ?_
  rotate_left 1
  · (intro w0 hSw; (try dsimp only at hSw); go_simp; (try (with_reducible rfl)))
  (try simp only [Act.put, List.setIfInBounds_toArray])
  refine anyP_takeF 1 (v := ?_) rfl (by kernel_rfl) (fun _ _ _ h => h) (Or.inl ⟨by rfl, ?_⟩) (.inr hHeld) ?_
  rotate_left 1
  · (intro w0 hSw; (try dsimp only at hSw); go_simp; (try (with_reducible rfl)))
  (try simp only [Act.put])
  refine anyP_takeF 2 (v := ?_) rfl (by kernel_rfl) (fun _ _ _ h => h) (Or.inl ⟨by rfl, ?_⟩) (.inr hHeld) ?_
  rotate_left 1
  · (intro w0 hSw; (try dsimp only at hSw); go_simp; (try (with_reducible rfl)))
  (try simp only [Act.put])
  refine anyP_take 3 (v := ?_) rfl rfl (by kernel_rfl) (fun _ _ _ h => h) (Or.inl ⟨by rfl, ?_⟩) hHeld ?_
  rotate_left 1
  · (intro w0 hSw; (try dsimp only at hSw); go_simp; (try (with_reducible rfl)))
  (try simp only [Act.put])
  refine anyP_takeF 4 (v := ?_) rfl (by kernel_rfl) (fun _ _ _ h => h) (Or.inl ⟨by rfl, ?_⟩) (.inr hHeld) ?_
  rotate_left 1
  · (intro w0 hSw; (try dsimp only at hSw); go_simp; (try (with_reducible rfl)))
  (try simp only [Act.put])
  refine anyP_takeF 5 (v := ?_) rfl (by kernel_rfl) (fun _ _ _ h => h) (Or.inl ⟨by rfl, ?_⟩) (.inr hHeld) ?_
  rotate_left 1
  · (intro w0 hSw; (try dsimp only at hSw); go_simp; (try (with_reducible rfl)))
  (try simp only [Act.put])
  refine anyP_take 6 (v := ?_) rfl rfl (by kernel_rfl) (fun _ _ _ h => h) (Or.inl ⟨by rfl, ?_⟩) hHeld ?_
  rotate_left 1
  · (intro w0 hSw; (try dsimp only at hSw); go_simp; (try (with_reducible rfl)))
  (try simp only [Act.put])
  refine anyP_takeF 7 (v := ?_) rfl (by kernel_rfl) (fun _ _ _ h => h) (Or.inl ⟨by rfl, ?_⟩) (.inr hHeld) ?_
  rotate_left 1
  · (intro w0 hSw; (try dsimp only at hSw); go_simp; (try (with_reducible rfl)))
  (try simp only [Act.put])
  refine anyP_takeF 8 (v := ?_) rfl (by kernel_rfl) (fun _ _ _ h => h) (Or.inl ⟨by rfl, ?_⟩) (.inr hHeld) ?_
  rotate_left 1
  · (intro w0 hSw; (try dsimp only at hSw); go_simp; (try (with_reducible rfl)))
  (try simp only [Act.put])
  refine anyP_takeF 9 (v := ?_) rfl (by kernel_rfl) (fun _ _ _ h => h) (Or.inl ⟨by rfl, ?_⟩) (.inr hHeld) ?_
  rotate_left 1
  · (intro w0 hSw; (try dsimp only at hSw); go_simp; (try (with_reducible rfl)))
  (try simp only [Act.put])
  refine anyP_take 10 (v := ?_) rfl rfl (by kernel_rfl) (fun _ _ _ h => h) (Or.inl ⟨by rfl, ?_⟩) hHeld ?_
  rotate_left 1
  · (intro w0 hSw; (try dsimp only at hSw); go_simp; (try (with_reducible rfl)))
  (try simp only [Act.put])
  refine anyP_takeF 11 (v := ?_) rfl (by kernel_rfl) (fun _ _ _ h => h) (Or.inl ⟨by rfl, ?_⟩) (.inr hHeld) ?_
  rotate_left 1
  · (intro w0 hSw; (try dsimp only at hSw); go_simp; (try (with_reducible rfl)))
  (try simp only [Act.put])
  refine anyP_takeF 12 (v := ?_) rfl (by kernel_rfl) (fun _ _ _ h => h) (Or.inl ⟨by rfl, ?_⟩) (.inr hHeld) ?_
  rotate_left 1
  · (intro w0 hSw; (try dsimp only at hSw); go_simp; (try (with_reducible rfl)))
  (try simp only [Act.put])
  refine anyP_take 13 (v := ?_) rfl rfl (by kernel_rfl) (fun _ _ _ h => h) (Or.inl ⟨by rfl, ?_⟩) hHeld ?_
  rotate_left 1
  · (intro w0 hSw; (try dsimp only at hSw); go_simp; (try (with_reducible rfl)))
  (try simp only [Act.put])
  refine anyP_takeF 14 (v := ?_) rfl (by kernel_rfl) (fun _ _ _ h => h) (Or.inl ⟨by rfl, ?_⟩) (.inr hHeld) ?_
  rotate_left 1
  · (intro w0 hSw; (try dsimp only at hSw); go_simp; (try (with_reducible rfl)))
  (try simp only [Act.put])
  refine anyP_takeF 15 (v := ?_) rfl (by kernel_rfl) (fun _ _ _ h => h) (Or.inl ⟨by rfl, ?_⟩) (.inr hHeld) ?_
  rotate_left 1
  · (intro w0 hSw; (try dsimp only at hSw); go_simp; (try (with_reducible rfl)))
  (try simp only [Act.put])
  clear hww
  refine anyP_one 16 (by kernel_rfl) rfl (fun K hK => ?_)
  replace hK := Lib.hid hK
  go_simp
  refine hK.out _ _ (.inl (by kernel_rfl)) ?_
  clear hK K
  (try simp only [Act.put, List.setIfInBounds_toArray, List.set_cons_zero, List.set_cons_succ])
  refine anyP_done (by kernel_rfl) ?_ _
  refine NoPanic.normal ?_
  have M7 := Lib.hid (M6.out.setZ (b := b) (x := zb + za))
  have G7 := Lib.hid (G6.out.setCell (p := ⟨gz, b, none⟩) (fun _ => HN.out gz (.inr (.inr (.inl (on1 gz))))) (.int .i64 ((zb + za : Nat) : Int)))
  rw [Int.natCast_add] at M7 G7
  obtain ⟨w8, hw8⟩ : ∃ wz, wz = w7.setCell ⟨gz, b, none⟩ (.int .i64 ((zb : Int) + (za : Int))) := ⟨_, rfl⟩
  rw [← hw8] at M7 G7 ⊢
  clear hw8 q1 q2 hHeld M6 G6
  go_wp2_with fail
  obtain ⟨w9, hw9⟩ : ∃ wz, wz = w8.drew := ⟨_, rfl⟩
  replace M7 := Lib.hid M7.out.drew; replace G7 := Lib.hid G7.out.drew
  refine wp_region_last 21 (fun w' : World => w'.cell? ⟨f, 2, none⟩ = some (.slice (some ⟨gl, 0, none⟩) n cl) ∧ w'.cell? ⟨gl, b, none⟩ = some (.int .i64 (lb : Int)) ∧ w'.cell? ⟨gl, a, none⟩ = some (.int .i64 (la : Int))) (by kernel_rfl) ?_
  rw [← hw9] at M7 G7 ⊢
  clear hw9
  have hHeld : (fun w' : World => w'.cell? ⟨f, 2, none⟩ = some (.slice (some ⟨gl, 0, none⟩) n cl) ∧ w'.cell? ⟨gl, b, none⟩ = some (.int .i64 (lb : Int)) ∧ w'.cell? ⟨gl, a, none⟩ = some (.int .i64 (la : Int))) w9 := ⟨M7.out.blk.cell (i := 2) rfl, cellO M7.out.ol Hb.out.2, cellO M7.out.ol Ha.out.2⟩
  have q2 := freeO M7.out.ol (by omega) b
  have q1 := cellO M7.out.ol Hb.out.2
  refine anyP_takeF 0 (v := ?_) rfl (by kernel_rfl) (fun _ _ _ h => h) (Or.inl ⟨by rfl, ?_⟩) (.inr hHeld) ?_
  rotate_left 1
  · (intro w0 hSw; (try dsimp only at hSw); go_simp; (try (with_reducible rfl)))
  (try simp only [Act.put, List.setIfInBounds_toArray])
  refine anyP_takeF 1 (v := ?_) rfl (by kernel_rfl) (fun _ _ _ h => h) (Or.inl ⟨by rfl, ?_⟩) (.inr hHeld) ?_
  rotate_left 1
  · (intro w0 hSw; (try dsimp only at hSw); go_simp; (try (with_reducible rfl)))
  (try simp only [Act.put])
  refine anyP_takeF 2 (v := ?_) rfl (by kernel_rfl) (fun _ _ _ h => h) (Or.inl ⟨by rfl, ?_⟩) (.inr hHeld) ?_
  rotate_left 1
  · (intro w0 hSw; (try dsimp only at hSw); go_simp; (try (with_reducible rfl)))
  (try simp only [Act.put])
  refine anyP_take 3 (v := ?_) rfl rfl (by kernel_rfl) (fun _ _ _ h => h) (Or.inl ⟨by rfl, ?_⟩) hHeld ?_
  rotate_left 1
  · (intro w0 hSw; (try dsimp only at hSw); go_simp; (try (with_reducible rfl)))
  (try simp only [Act.put])
  refine anyP_takeF 4 (v := ?_) rfl (by kernel_rfl) (fun _ _ _ h => h) (Or.inl ⟨by rfl, ?_⟩) (.inr hHeld) ?_
  rotate_left 1
  · (intro w0 hSw; (try dsimp only at hSw); go_simp; (try (with_reducible rfl)))
  (try simp only [Act.put])
  refine anyP_takeF 5 (v := ?_) rfl (by kernel_rfl) (fun _ _ _ h => h) (Or.inl ⟨by rfl, ?_⟩) (.inr hHeld) ?_
  rotate_left 1
  · (intro w0 hSw; (try dsimp only at hSw); go_simp; (try (with_reducible rfl)))
  (try simp only [Act.put])
  refine anyP_takeF 6 (v := ?_) rfl (by kernel_rfl) (fun _ _ _ h => h) (Or.inl ⟨by rfl, ?_⟩) (.inr hHeld) ?_
  rotate_left 1
  · (intro w0 hSw; (try dsimp only at hSw); go_simp; (try (with_reducible rfl)))
  (try simp only [Act.put])
  refine anyP_takeF 7 (v := ?_) rfl (by kernel_rfl) (fun _ _ _ h => h) (Or.inl ⟨by rfl, ?_⟩) (.inr hHeld) ?_
  rotate_left 1
  · (intro w0 hSw; (try dsimp only at hSw); go_simp; (try (with_reducible rfl)))
  (try simp only [Act.put])
  refine anyP_take 8 (v := ?_) rfl rfl (by kernel_rfl) (fun _ _ _ h => h) (Or.inl ⟨by rfl, ?_⟩) hHeld ?_
  rotate_left 1
  · (intro w0 hSw; (try dsimp only at hSw); go_simp; (try (with_reducible rfl)))
  (try simp only [Act.put])
  refine anyP_takeF 9 (v := ?_) rfl (by kernel_rfl) (fun _ _ _ h => h) (Or.inl ⟨by rfl, ?_⟩) (.inr hHeld) ?_
  rotate_left 1
  · (intro w0 hSw; (try dsimp only at hSw); go_simp; (try (with_reducible rfl)))
  (try simp only [Act.put])
  refine anyP_takeF 10 (v := ?_) rfl (by kernel_rfl) (fun _ _ _ h => h) (Or.inl ⟨by rfl, ?_⟩) (.inr hHeld) ?_
  rotate_left 1
  · (intro w0 hSw; (try dsimp only at hSw); go_simp; (try (with_reducible rfl)))
  (try simp only [Act.put])
  refine anyP_take 11 (v := ?_) rfl rfl (by kernel_rfl) (fun _ _ _ h => h) (Or.inl ⟨by rfl, ?_⟩) hHeld ?_
  rotate_left 1
  · (intro w0 hSw; (try dsimp only at hSw); go_simp; (try (with_reducible rfl)))
  (try simp only [Act.put])
  refine anyP_takeF 12 (v := ?_) rfl (by kernel_rfl) (fun _ _ _ h => h) (Or.inl ⟨by rfl, ?_⟩) (.inr hHeld) ?_
  rotate_left 1
  · (intro w0 hSw; (try dsimp only at hSw); go_simp; (try (with_reducible rfl)))
  (try simp only [Act.put])
  refine anyP_takeF 13 (v := ?_) rfl (by kernel_rfl) (fun _ _ _ h => h) (Or.inl ⟨by rfl, ?_⟩) (.inr hHeld) ?_
  rotate_left 1
  · (intro w0 hSw; (try dsimp only at hSw); go_simp; (try (with_reducible rfl)))
  (try simp only [Act.put])
  refine anyP_takeF 14 (v := ?_) rfl (by kernel_rfl) (fun _ _ _ h => h) (Or.inl ⟨by rfl, ?_⟩) (.inr hHeld) ?_
  rotate_left 1
  · (intro w0 hSw; (try dsimp only at hSw); go_simp; (try (with_reducible rfl)))
  (try simp only [Act.put])
  refine anyP_take 15 (v := ?_) rfl rfl (by kernel_rfl) (fun _ _ _ h => h) (Or.inl ⟨by rfl, ?_⟩) hHeld ?_
  rotate_left 1
  · (intro w0 hSw; (try dsimp only at hSw); go_simp; (try (with_reducible rfl)))
  (try simp only [Act.put])
  refine anyP_takeF 16 (v := ?_) rfl (by kernel_rfl) (fun _ _ _ h => h) (Or.inl ⟨by rfl, ?_⟩) (.inr hHeld) ?_
  rotate_left 1
  · (intro w0 hSw; (try dsimp only at hSw); go_simp; (try (with_reducible rfl)))
  (try simp only [Act.put])
  refine anyP_takeF 17 (v := ?_) rfl (by kernel_rfl) (fun _ _ _ h => h) (Or.inl ⟨by rfl, ?_⟩) (.inr hHeld) ?_
  rotate_left 1
  · (intro w0 hSw; (try dsimp only at hSw); go_simp; (try (with_reducible rfl)))
  (try simp only [Act.put])
  refine anyP_take 18 (v := ?_) rfl rfl (by kernel_rfl) (fun _ _ _ h => h) (Or.inl ⟨by rfl, ?_⟩) hHeld ?_
  rotate_left 1
  · (intro w0 hSw; (try dsimp only at hSw); go_simp; (try (with_reducible rfl)))
  (try simp only [Act.put])
  refine anyP_takeF 19 (v := ?_) rfl (by kernel_rfl) (fun _ _ _ h => h) (Or.inl ⟨by rfl, ?_⟩) (.inr hHeld) ?_
  rotate_left 1
  · (intro w0 hSw; (try dsimp only at hSw); go_simp; (try (with_reducible rfl)))
  (try simp only [Act.put])
  refine anyP_takeF 20 (v := ?_) rfl (by kernel_rfl) (fun _ _ _ h => h) (Or.inl ⟨by rfl, ?_⟩) (.inr hHeld) ?_
  rotate_left 1
  · (intro w0 hSw; (try dsimp only at hSw); go_simp; (try (with_reducible rfl)))
  (try simp only [Act.put])
  refine anyP_one 21 (by kernel_rfl) rfl (fun K hK => ?_)
  replace hK := Lib.hid hK
  go_simp
  refine hK.out _ _ (.inl (by kernel_rfl)) ?_
  clear hK K
  (try simp only [Act.put, List.setIfInBounds_toArray, List.set_cons_zero, List.set_cons_succ])
  refine anyP_done (by kernel_rfl) ?_ _
  refine NoPanic.normal ?_
  have M8 := Lib.hid (M7.out.setL (b := b) (x := min lb la))
  have G8 := Lib.hid (G7.out.setCell (p := ⟨gl, b, none⟩) (fun _ => HN.out gl (.inr (.inr (.inr (.inl (on1 gl)))))) (.int .i64 ((min lb la : Nat) : Int)))
  rw [nmin] at M8 G8
  obtain ⟨w10, hw10⟩ : ∃ wz, wz = w9.setCell ⟨gl, b, none⟩ (.int .i64 (min (lb : Int) (la : Int))) := ⟨_, rfl⟩
  rw [← hw10] at M8 G8 ⊢
  clear hw10 q1 q2 hHeld M7 G7
  have q1 := M8.out.blk.cell (i := 3) rfl
  have q2 := M8.out.blk.free 3
  have hc1 := hc1.out
  have M9 := Lib.hid (M8.out.setc (x := S.c - 1))
  have G9 := Lib.hid (G8.out.setCell (p := ⟨f, 3, none⟩) (fun _ => HN.out f (.inl rfl)) (.int .i64 ((S.c - 1 : Nat) : Int)))
  rw [Int.natCast_sub hc1.1] at M9 G9
  replace M9 := Lib.hid M9.out
  dsimp only at q1
  have hcl : 1 ≤ (S.c : Int) := by omega
  have hch : (S.c : Int) ≤ 1000 := by omega
  clear hc1
  go_wp2_with fail
  go_ret2
  refine ⟨b, a, .inr ⟨rfl, rfl⟩, rfl, ?_⟩
  have eu : uni S b a = ⟨S.P.set a b, S.Z.set b (zb + za), S.L.set b (min lb la), S.c - 1⟩ := by
    unfold uni
    rw [gd Hb.out.1, gd Ha.out.1, gd Hb.out.2, gd Ha.out.2]
  rw [eu, gd Hb.out.2]
  refine ⟨⟨some ⟨gp, 0, none⟩, some ⟨gz, 0, none⟩, some ⟨gl, 0, none⟩, ak', cp, cz, cl, ck', M9.out, ext_new HN.out HA.out (fun k hk => (M9.out.ok.blk k hk).2)⟩, G9.out⟩
end Go.Proofs.Ytihcaemheknjbaa
