/- Buffer trees: spill of the reference. -/
import Derived.Test.YtkmnnfflibamnaaR1
import Derived.Test.YtkmnnfflibamnaaH568
namespace Go.Proofs.Ytkmnnfflibamnaa
open Go.RowKit
attribute [local go_sem ↓] Go.wp_at_zero Go.wp_at_succ
/-- A tree of the reference, as a value. -/
def TrS (w : World) (P : Nat → Prop) (B M : Nat) (t : RT) (buf : List En) (v : Value) : Prop :=
  ∃ ba bc ra rc rv, v = rtv B M t.bl ba buf.length bc ra rv.length rc ∧ rsO rv = t.rs ∧ RefS w P ra rc rv ∧ RdZ w 3 ba buf.length (ents buf) ∧ buf.length ≤ bc ∧ ∀ k, onBlk ba k → P k
theorem TrS.fr {S P : Nat → Prop} {w w' : World} {B M : Nat} {t : RT} {buf : List En} {v : Value} (h : TrS w P B M t buf v) (f : Fr S w w') (hS : ∀ k, P k → ¬ S k) : TrS w' P B M t buf v := by
  obtain ⟨ba, bc, ra, rc, rv, h1, h2, h3, h4, h5, h6⟩ := h
  exact ⟨ba, bc, ra, rc, rv, h1, h2, h3.fr f hS, h4.fr f (fun k hk => hS k (h6 k hk)), h5, h6⟩
theorem TrS.mono {P P' : Nat → Prop} {w : World} {B M : Nat} {t : RT} {buf : List En} {v : Value} (h : TrS w P B M t buf v) (hP : ∀ k, P k → P' k) : TrS w P' B M t buf v := by
  obtain ⟨ba, bc, ra, rc, rv, h1, h2, h3, h4, h5, h6⟩ := h
  exact ⟨ba, bc, ra, rc, rv, h1, h2, h3.mono hP, h4, h5, fun k hk => hP k (h6 k hk)⟩
theorem fullI_some {F : Nat} {rs : Rs} {z : Int} (h : z = fullI F rs) (hz : 0 ≤ z) : ∃ i : Nat, z = (i : Int) ∧ fullR F rs = some i := by
  unfold fullI at h
  cases hf : fullR F rs with
  | none => rw [hf] at h; dsimp only at h; omega
  | some i => rw [hf] at h; exact ⟨i, h, rfl⟩
theorem fullI_neg {F : Nat} {rs : Rs} {z : Int} (h : z = fullI F rs) (hz : ¬ 0 ≤ z) : fullR F rs = none := by
  unfold fullI at h
  cases hf : fullR F rs with
  | none => rfl
  | some i => rw [hf] at h; dsimp only at h; omega
/-- The number of runs in a cell. -/
def rnOf (o : Option Value) : Nat := match o with | some (.slice _ n _) => n | _ => 0
/-- Blocks of P, and those made since, two left out. -/
def PX (P : Nat → Prop) (w w' : World) (k : Nat) : Prop := P k ∨ (w.heap.size + 2 ≤ k ∧ k < w'.heap.size)
/-- What lies in memory in the loop of a spill. -/
structure SL (w wr : World) (P : Nat → Prop) (B M : Nat) (T : RT) (b' : Nat) (ra : Option Addr) (rc : Nat) (rv : List RunV) (b2 c2 : Nat) : Prop where
  bx : Blk wr w.heap.size 51 (tcs B M b' none 0 0 ra rv.length rc)
  rb : Blk wr (w.heap.size + 1) 51 tcz
  fr : Fr F0 w wr
  sz : w.heap.size + 2 ≤ wr.heap.size
  rf : RefS wr (PX P w wr) ra rc rv
  pr : PR ⟨rsO rv, b'⟩ 400 b2 c2
  en : endR B (fanN B M) ⟨rsO rv, b'⟩ = T
theorem SL.fr0 {w wr w' : World} {P : Nat → Prop} {B M : Nat} {T : RT} {b' : Nat} {ra : Option Addr} {rc : Nat} {rv : List RunV} {b2 c2 : Nat} (h : SL w wr P B M T b' ra rc rv b2 c2) (f : Fr F0 wr w') : SL w w' P B M T b' ra rc rv b2 c2 :=
  ⟨h.bx.fr f id, h.rb.fr f id, h.fr.trans0 f, Nat.le_trans h.sz f.size, (h.rf.fr0 f).mono (fun k hk => hk.imp id (fun hk => ⟨hk.1, Nat.lt_of_lt_of_le hk.2 f.size⟩)), h.pr, h.en⟩
theorem Fr.set5 (w : World) (b : Nat) (v0 v1 v2 v3 v4 : Value) : Fr (fun k => k = b) w (((((w.setCell ⟨b, 0, none⟩ v0).setCell ⟨b, 1, none⟩ v1).setCell ⟨b, 2, none⟩ v2).setCell ⟨b, 3, none⟩ v3).setCell ⟨b, 4, none⟩ v4) :=
  Fr.setCell (S := fun k => k = b) (Fr.setCell (S := fun k => k = b) (Fr.setCell (S := fun k => k = b) (Fr.setCell (S := fun k => k = b) (Fr.setCell (S := fun k => k = b) (Fr.refl _ w) (fun _ => rfl) v0) (fun _ => rfl) v1) (fun _ => rfl) v2) (fun _ => rfl) v3) (fun _ => rfl) v4
theorem MSz.c34 {w W : World} {zs : List Value} {B M bl : Nat} {ba : Option Addr} {bn bc : Nat} {ra : Option Addr} {n rc : Nat} {a : Option Addr} {c : Nat} {O : List En} {a2 : Option Addr} {c2 : Nat} {R : List RunV} (h : MSz w W zs (tcs B M bl ba bn bc ra n rc) a c O a2 c2 R) : W.cell? ⟨w.heap.size, 3, none⟩ = some (.slice ba bn bc) ∧ W.cell? ⟨w.heap.size, 4, none⟩ = some (.slice ra n rc) := ⟨h.bx.cell rfl, h.bx.cell rfl⟩
/-- A level was merged, and the tree written back. -/
theorem SL.put {w wr w2 : World} {P : Nat → Prop} {B M : Nat} {T : RT} {b' : Nat} {ra : Option Addr} {rc : Nat} {rv : List RunV} {b2 c2 i : Nat} (h : SL w wr P B M T b' ra rc rv b2 c2) (hP : ∀ k, P k → k < w.heap.size) (hB : 1 ≤ B) (hf : fullR (fanN B M) (rsO rv) = some i)
    {bl3 : Nat} {ra3 : Option Addr} {rc3 : Nat} {rv3 : List RunV} (e : (⟨rsO rv3, bl3⟩ : RT) = mergeR B ⟨rsO rv, b'⟩ i) (rf3 : RefS w2 (PN (PX P w wr) wr w2) ra3 rc3 rv3) (f : Fr F0 wr w2) :
    SL w (((((w2.setCell ⟨w.heap.size, 0, none⟩ (.int .i64 (B : Int))).setCell ⟨w.heap.size, 1, none⟩ (.int .i64 (M : Int))).setCell ⟨w.heap.size, 2, none⟩ (.int .i64 (bl3 : Int))).setCell ⟨w.heap.size, 3, none⟩ (.slice none 0 0)).setCell ⟨w.heap.size, 4, none⟩ (.slice ra3 rv3.length rc3)) P B M T bl3 ra3 rc3 rv3 b2 c2 ∧ rv3.length < rv.length := by
  have hF : 2 ≤ fanN B M := Nat.le_max_left _ _
  have hl := fullR_len hf
  have pm := h.pr.merge hB (Nat.le_refl _) (i := i) (by show 2 ≤ (lvl (rsO rv) i).length; omega)
  rw [← e] at pm
  have X0 := h.bx.fr f id
  have X1 := ((((X0.set 0 (.int .i64 (B : Int))).set 1 (.int .i64 (M : Int))).set 2 (.int .i64 (bl3 : Int))).set 3 (.slice none 0 0)).set 4 (.slice ra3 rv3.length rc3)
  have hR := Fr.set5 w2 w.heap.size (.int .i64 (B : Int)) (.int .i64 (M : Int)) (.int .i64 (bl3 : Int)) (.slice none 0 0) (.slice ra3 rv3.length rc3)
  have hsz := h.sz
  have hs2 := f.size
  have hs3 := hR.size
  have hlen : ∀ rv : List RunV, (rsO rv).length = rv.length := fun rv => by unfold rsO; rw [List.length_map]
  refine ⟨⟨X1, (h.rb.fr f id).fr hR (by show ¬ w.heap.size + 1 = w.heap.size; omega), (h.fr.trans0 f).trans hR (fun k hk hs => by rw [hs] at hk; omega), by omega, ?_, pm.1, ?_⟩, ?_⟩
  · refine (rf3.fr hR (fun k hk hs => ?_)).mono (fun k hk => ?_)
    · rcases hk with (hk | hk) | hk
      · have := hP k hk; omega
      · omega
      · omega
    · rcases hk with (hk | hk) | hk
      · exact .inl hk
      · exact .inr ⟨hk.1, by omega⟩
      · exact .inr ⟨by omega, by omega⟩
  · rw [e, ← endR_some hF hf]; exact h.en
  · have := pm.2
    rw [hlen] at this
    show rv3.length < rv.length
    have h2 : (RT.mk (rsO rv) b').rs.length = rv.length := hlen rv
    omega
theorem SL.small {w wr : World} {P : Nat → Prop} {B M : Nat} {T : RT} {b' : Nat} {ra : Option Addr} {rc : Nat} {rv : List RunV} {b2 c2 : Nat} (h : SL w wr P B M T b' ra rc rv b2 c2) (hb2 : b2 ≤ 20000) (hc2 : c2 ≤ 1000000000) : rv.length ≤ 20000 ∧ high (rsO rv) ≤ 20000 ∧ b' ≤ 1000000000 ∧ totR (rsO rv) ≤ 400 := by
  have h1 := h.pr.len; have h2 := h.pr.bl; have h3 := h.pr.tot
  have hlen : (rsO rv).length = rv.length := by unfold rsO; rw [List.length_map]
  have h4 := (high_spec (rsO rv)).2.2
  dsimp only at h1 h2 h3
  rw [hlen] at h1 h2
  exact ⟨by omega, by omega, by omega, h3⟩
theorem SL.full {w wr : World} {P : Nat → Prop} {B M : Nat} {T : RT} {b' : Nat} {ra : Option Addr} {rc : Nat} {rv : List RunV} {b2 c2 : Nat} (h : SL w wr P B M T b' ra rc rv b2 c2) (hb2 : b2 ≤ 20000) (hc2 : c2 ≤ 1000000000) (hB : 1 ≤ B ∧ B ≤ 64) (hM : 2 * B ≤ M ∧ M ≤ 1000) :
    Calls Try.prog 102 #[.agg #[.int .i64 (B : Int), .int .i64 (M : Int), .int .i64 (b' : Int), .slice none 0 0, .slice ra rv.length rc]] wr fun e w' => e = .returned (.int .i64 (fullI (fanN B M) (rsO rv))) ∧ Fr F0 wr w' := by
  obtain ⟨h1, h2, h3, h4⟩ := h.small hb2 hc2
  exact full_any B M b' none 0 0 h.rf (by omega) hB hM (by omega)
theorem SL.mrg {w wr : World} {P : Nat → Prop} {B M : Nat} {T : RT} {b' : Nat} {ra : Option Addr} {rc : Nat} {rv : List RunV} {b2 c2 i : Nat} (h : SL w wr P B M T b' ra rc rv b2 c2) (hb2 : b2 ≤ 20000) (hc2 : c2 ≤ 1000000000) (hB : 1 ≤ B ∧ B ≤ 64) (hf : fullR (fanN B M) (rsO rv) = some i) :
    Calls Try.prog 103 #[.agg #[.int .i64 (B : Int), .int .i64 (M : Int), .int .i64 (b' : Int), .slice none 0 0, .slice ra rv.length rc], .int .i64 (i : Int)] wr (MgR wr (PX P w wr) B M none 0 0 (mergeR B ⟨rsO rv, b'⟩ i)) := by
  obtain ⟨h1, h2, h3, h4⟩ := h.small hb2 hc2
  have hF : 2 ≤ fanN B M := Nat.le_max_left _ _
  have hl := fullR_len hf
  have hi := high_lvl (rs := rsO rv) (i := i) (by omega)
  exact rmerge_any B M b' none 0 0 i h.rf (by omega) hB h3 (by omega) (by omega)
theorem MSz.appR {w wr w' : World} {zs vs : List Value} {a : Option Addr} {c : Nat} {O : List En} {a2 : Option Addr} {c2 : Nat} {R : List RunV} (h : MSz w wr zs vs a c O a2 c2 R) {a3 : Option Addr} {c3 : Nat} (R' : List RunV) (own' : OwnZ w' w.heap.size 122 2 a3 R'.length c3 (rcs R')) (f : Fr (onBlk a2) wr w') : MSz w w' zs vs a c O a3 c3 R' := by
  have hd : ∀ k, onBlk a k → ¬ onBlk a2 k := fun k h1 h2 => by
    obtain ⟨c1, e1⟩ := h.own.ty h1
    obtain ⟨c2, e2⟩ := h.rst.ty h2
    rw [e1] at e2; injection e2 with e2; injection e2 with _ e2; cases e2
  have hb : ∀ b vs, Blk wr b 51 vs → ¬ onBlk a2 b := fun b vs h1 h2 => by
    obtain ⟨c2, e2⟩ := h.rst.ty h2
    have h1 : wr.heap[b]? = _ := h1
    rw [h1] at e2; injection e2 with e2; injection e2 with _ e2; cases e2
  exact ⟨h.own.fr f hd, own', h.bx.fr f (hb _ _ h.bx), h.rb.fr f (hb _ _ h.rb), h.fr.trans f (fun k hk hs => by have := (h.rst.blk k hs).1; omega)⟩
theorem MSz.lit {w wr : World} {zs vs : List Value} {a : Option Addr} {c : Nat} {O : List En} {a2 : Option Addr} {c2 : Nat} {R : List RunV} (h : MSz w wr zs vs a c O a2 c2 R) : MSz w (wr.alloc (.cells #[] 122)) zs vs a c O (some ⟨wr.heap.size, 0, none⟩) 0 [] := by
  have h1 := h.fr0 ((Fr.refl F0 wr).alloc (.cells #[] 122))
  exact ⟨h1.own, OwnZ.lit (B := w.heap.size) (T := 122) (s := 2) [] 0 rfl h.fr.size (by omega), h1.bx, h1.rb, h1.fr⟩
theorem MSz.spill {w wr : World} {P : Nat → Prop} {zs vs : List Value} {a2 : Option Addr} {c2 : Nat} {rv : List RunV} {buf : List En} {ba : Option Addr} {bc : Nat} {ra : Option Addr} {rc : Nat} (h : MSz w wr zs vs none 0 [] a2 c2 (rv ++ [⟨0, buf, ba, bc⟩])) (hr : RefS wr P ra rc rv) (hb : RdZ wr 3 ba buf.length (ents buf)) (hbn : buf.length ≤ bc) (hbP : ∀ k, onBlk ba k → P k) : RefS wr (PX P w wr) a2 c2 (rv ++ [⟨0, buf, ba, bc⟩]) := by
  have hne : ∀ b vs, Blk wr b 51 vs → ¬ onBlk a2 b := fun b vs h1 h2 => by
    obtain ⟨c2, e2⟩ := h.rst.ty h2
    have h1 : wr.heap[b]? = _ := h1
    rw [h1] at e2; injection e2 with e2; injection e2 with _ e2; cases e2
  refine ⟨h.rst.rd, fun k hk => .inr ?_, OwnZ.cap h.rst, fun r hm => ?_⟩
  · have h1 := h.rst.blk k hk
    have h2 : k ≠ w.heap.size := fun e => by subst e; exact hne _ _ h.bx hk
    have h3 : k ≠ w.heap.size + 1 := fun e => by subst e; exact hne _ _ h.rb hk
    omega
  · rcases List.mem_append.1 hm with hm | hm
    · obtain ⟨h1, h2, h3⟩ := hr.run r hm
      exact ⟨h1, h2, fun k hk => .inl (h3 k hk)⟩
    · rw [List.mem_singleton] at hm; subst hm
      exact ⟨hb, hbn, fun k hk => .inl (hbP k hk)⟩
set_option maxRecDepth 100000 in
set_option maxHeartbeats 4000000 in
theorem rspill_any {P : Nat → Prop} {w : World} {ra : Option Addr} {rc : Nat} {rv : List RunV} {B M bl : Nat} {ba : Option Addr} {bn bc : Nat} {buf : List En} {b2 c2 : Nat} (h : RefS w P ra rc rv) (hP : ∀ k, P k → k < w.heap.size) (hbf : RdZ w 3 ba bn (ents buf)) (hbn : bn ≤ bc) (hbP : ∀ k, onBlk ba k → P k) (hB : 1 ≤ B ∧ B ≤ 64) (hM : 2 * B ≤ M ∧ M ≤ 1000) (hp : PR ⟨rsO rv, bl⟩ (400 - buf.length) b2 c2) (hb4 : buf.length ≤ 400) (hb2 : b2 ≤ 10000) (hc2 : c2 ≤ 900000000) :
    Calls Try.prog 77 #[rtv B M bl ba bn bc ra rv.length rc] w fun e w' => ∃ v, e = .returned v ∧ TrS w' (PN P w w') B M (splR B (fanN B M) ⟨rsO rv, bl⟩ buf) [] v ∧ Fr F0 w w' := by
  have hbl : buf.length = bn := by have := hbf.len; rw [ents_len] at this; omega
  have hn : rv.length ≤ 10000 := by
    have := hp.len
    have h2 : (RT.mk (rsO rv) bl).rs.length = rv.length := by show (rsO rv).length = _; unfold rsO; rw [List.length_map]
    have h3 := (high_spec (rsO rv)).2.2
    have h4 : (RT.mk (rsO rv) bl).rs = rsO rv := rfl
    rw [h2, h4] at this
    omega
  have hblx : bl ≤ 900000000 := by have := hp.bl; have h4 : (RT.mk (rsO rv) bl).bl = bl := rfl; rw [h4] at this; omega
  have F1 : Fr F0 w ((w.alloc (.cells (tcs B M bl ba bn bc ra rv.length rc).toArray 51)).alloc (.cells tcz.toArray 51)) := ((Fr.refl F0 w).alloc _).alloc _
  have HX : Hid (MS w _ (tcs B M bl ba bn bc ra rv.length rc) none 0 [] none 0 []) := Lib.hid ⟨OwnZ.nil _ _ _ _, OwnZ.nil _ _ _ _, (Blk.new w 51 (tcs B M bl ba bn bc ra rv.length rc)).alloc _, by have := Blk.new (w.alloc (.cells (tcs B M bl ba bn bc ra rv.length rc).toArray 51)) 51 tcz; rw [size_alloc] at this; exact this, F1⟩
  have HR : Hid (∀ W, Fr F0 w W → RefS W P ra rc rv) := Lib.hid (fun W F => h.fr0 F)
  have Hrow : Hid (∀ W, Fr F0 w W → RdZ W 2 ra rv.length (rcs rv)) := Lib.hid (fun W F => (h.fr0 F).row)
  have HBf : Hid (∀ W, Fr F0 w W → RdZ W 3 ba bn (ents buf)) := Lib.hid (fun W F => hbf.fr0 F)
  have HP := Lib.hid (And.intro hP hbP)
  have HC := Lib.hid (fun n W (hn : n ≤ 1000000) => Count_still (W := W) hB hn)
  have HPR := Lib.hid hp
  have HB := Lib.hid (And.intro hB hM)
  obtain ⟨n, hN⟩ : ∃ n, n = rv.length := ⟨_, rfl⟩
  unfold rtv
  rw [← hN] at HX hn Hrow ⊢
  have Hl := Lib.hid (And.intro hN hbl)
  have hbn4 : bn ≤ 400 := by omega
  clear h hN F1 hB hM hp hbf hbP hP hbl hb4
  go_enter Try.func77, Try.ntmps77
  go_wp2_with fail
  generalize hW0 : World.alloc (World.alloc w _) _ = W0
  have HX1 : Hid (MS w W0 (tcs B M bl ba bn bc ra n rc) none 0 [] none 0 []) := Lib.hid (by rw [← hW0]; exact HX.out)
  clear HX hW0
  have hC2 := HC.out bn (World.drew W0) (by omega)
  obtain ⟨cm, hcm⟩ : ∃ cm, cm = cnt B bn := ⟨_, rfl⟩
  rw [← hcm] at hC2
  have hcm2 : cm ≤ 400 := by rw [hcm]; exact Nat.le_trans (cnt_le HB.out.1.1 bn) hbn4
  have Hcm := Lib.hid hcm
  clear hcm
  obtain ⟨wz, hwz⟩ : ∃ wz, wz = World.drew W0 := ⟨_, rfl⟩
  have H3 : Hid (MS w wz (tcs B M bl ba bn bc ra n rc) none 0 [] none 0 []) := Lib.hid (by rw [hwz]; exact HX1.out.fr0 ((Fr.refl F0 W0).drewN 1))
  have g0 := H3.out.bx.cell (i := 0) rfl
  have g2 := H3.out.bx.cell (i := 2) rfl
  have g3 := H3.out.bx.cell (i := 3) rfl
  have q0 := H3.out.bx.free
  rw [← hwz] at hC2
  refine wp_region_still_tail 10 (by kernel_rfl) (by kernel_rfl) ?_
  change wpStill _ _ (World.drew W0) (fun a' => wpList _ _ _ _ a' (World.drew W0)) _ _
  rw [← hwz]
  replace hwz := Lib.hid hwz
  simp only [List.take_succ_cons, List.take_zero, List.drop_succ_cons, List.drop_zero]
  repeat (first | still_step | still_call (hC2))
  refine wpStill_nil ?_
  have H4 : Hid (MS w (wz.setCell ⟨w.heap.size, 2, none⟩ (.int .i64 ((bl : Int) + (cm : Int)))) (tcs B M (bl + cm) ba bn bc ra n rc) none 0 [] none 0 []) := Lib.hid (by have := H3.out.set 2 (.int .i64 ((bl : Int) + (cm : Int))); exact this)
  go_upto_region 2 with fail
  generalize World.setCell wz { block := w.heap.size, off := 2 } (.int .i64 ((bl : Int) + (cm : Int))) = w1 at *
  clear g0 g2 g3 q0 hC2 hwz
  refine wp_region_last 10 (fun w' : World => w'.cell? ⟨w.heap.size, 3, none⟩ = some (.slice ba bn bc) ∧ w'.cell? ⟨w.heap.size, 4, none⟩ = some (.slice ra n rc)) (by kernel_rfl) ?_
  obtain ⟨w2, hw2⟩ : ∃ w2, w2 = World.drew w1 := ⟨_, rfl⟩
  rw [← hw2]
  have H5 : Hid (MS w w2 (tcs B M (bl + cm) ba bn bc ra n rc) none 0 [] none 0 []) := Lib.hid (by rw [hw2]; exact H4.out.fr0 ((Fr.refl F0 w1).drewN 1))
  clear hw2 H4
  have hHeld : (fun w' : World => w'.cell? ⟨w.heap.size, 3, none⟩ = some (.slice ba bn bc) ∧ w'.cell? ⟨w.heap.size, 4, none⟩ = some (.slice ra n rc)) w2 := H5.out.c34
  refine anyP_takeF 1 (v := ?_) rfl (by kernel_rfl) (fun _ _ _ h => h) (Or.inl ⟨by rfl, ?_⟩) (.inr hHeld) ?_
  rotate_left 1
  · (intro w0 hSw; (try dsimp only at hSw); go_simp; (try (with_reducible rfl)))
  (try simp only [Act.put, List.setIfInBounds_toArray])
  refine anyP_take 2 (v := ?_) rfl rfl (by kernel_rfl) (fun _ _ _ h => h) (Or.inl ⟨by rfl, ?_⟩) hHeld ?_
  rotate_left 1
  · (intro w0 hSw; (try dsimp only at hSw); go_simp; (try (with_reducible rfl)))
  (try simp only [Act.put])
  refine anyP_takeF 4 (v := ?_) rfl (by kernel_rfl) (fun _ _ _ h => h) (Or.inl ⟨by rfl, ?_⟩) (.inr hHeld) ?_
  rotate_left 1
  · (intro w0 hSw; (try dsimp only at hSw); go_simp; (try (with_reducible rfl)))
  (try simp only [Act.put])
  refine anyP_take 5 (v := ?_) rfl rfl (by kernel_rfl) (fun _ _ _ h => h) (Or.inl ⟨by rfl, ?_⟩) hHeld ?_
  rotate_left 1
  · (intro w0 hSw; (try dsimp only at hSw); go_simp; (try (with_reducible rfl)))
  (try simp only [Act.put])
  refine anyP_takeF 6 (v := ?_) rfl (by kernel_rfl) (fun _ _ _ h => h) (Or.inl ⟨by rfl, ?_⟩) (.inr hHeld) ?_
  rotate_left 1
  · (intro w0 hSw; (try dsimp only at hSw); go_simp; (try (with_reducible rfl)))
  (try simp only [Act.put])
  refine with_tail (fun ops Q S => ∀ (l' : Array Bool), l' = #[true, true, true, true, true, true, true, true, false, false, false] → ∀ (g0 g7 : Nat) (a2 : Option Addr) (c2 : Nat) (wc : World), Hid (MS w wc (tcs B M (bl + cm) ba bn bc ra n rc) none 0 [] a2 c2 rv ∧ RdZ wc 2 (some ⟨g7, 0, none⟩) 1 [.int .i64 (0 : Int), .slice ba bn bc]) → anyP Try.prog .any ops Q S 10 3 l' { tmps := #[.agg #[.int .i64 (B : Int), .int .i64 (M : Int), .int .i64 (bl : Int), .slice ba bn bc, .slice ra n rc], .pointer (some ⟨w.heap.size, 0, none⟩), .pointer (some ⟨w.heap.size + 1, 0, none⟩), undef, .pointer (some ⟨w.heap.size, 2, none⟩), .int .i64 (bl : Int), .pointer (some ⟨w.heap.size, 3, none⟩), .slice ba bn bc, .int .i64 (bn : Int), .pointer (some ⟨w.heap.size, 0, none⟩), .int .i64 (B : Int), .int .i64 (cm : Int), .int .i64 (IntKind.i64.wrap ((bl : Int) + (cm : Int))), .pointer (some ⟨w.heap.size, 2, none⟩), .slice (some ⟨g0, 0, none⟩) 0 0, .pointer (some ⟨w.heap.size, 4, none⟩), .slice ra n rc, .slice a2 n c2, .pointer (some ⟨w.heap.size, 3, none⟩), .slice ba bn bc, .agg #[.int .i64 0, .slice ba bn bc], .slice (some ⟨g7, 0, none⟩) 1 1, undef, undef, undef, undef, undef, undef, undef, undef, undef, undef, undef, undef, undef], defers := [] } wc) ?_ ?_
  · intro l' hl g0 g7 a2 c9 wc hA
    subst hl
    refine anyP_more [8] (by kernel_rfl) (by decide) ?_
    intro j hj
    simp only [List.mem_cons, List.not_mem_nil, or_false] at hj
    subst hj
    refine ⟨_, rfl, fun K' hK' => ?_⟩
    replace hK' := Lib.hid hK'
    have hO : Hid (OwnZ wc w.heap.size 122 2 a2 n c9 (rcs rv)) := Lib.hid (by rw [Hl.out.1]; exact hA.out.1.rst)
    refine stepAppZ E122 (by omega) (by rfl) (by rfl) (by rfl) (by rfl) hO.out hA.out.2 (fun u hu => by simp at hu; rcases hu with rfl | rfl <;> rfl) (by omega) (by omega) hA.out.1.fr.size (n + 1) rfl ?_
    intro a3 c3 w3 own' fr' at'
    have X6 : Hid (MS w w3 (tcs B M (bl + cm) ba bn bc ra n rc) none 0 [] a3 c3 (rv ++ [⟨0, buf, ba, bc⟩])) := Lib.hid (hA.out.1.app ⟨0, buf, ba, bc⟩ (by have h1 := own'; rw [Hl.out.1] at h1; show OwnZ w3 w.heap.size 122 2 a3 (rv.length + 1) c3 (rcs rv ++ [.int .i64 (0 : Int), .slice ba buf.length bc]); rw [Hl.out.2]; exact h1) fr')
    refine hK'.out _ _ (.inr X6.out.c34) ?_
    clear hK' K' own' fr' at' hO
    (try simp only [Act.put, List.setIfInBounds_toArray, List.set_cons_zero, List.set_cons_succ])
    have q0 := X6.out.bx.free
    have q4 := X6.out.bx.cell (i := 4) rfl
    have hHeld2 := X6.out.c34
    refine anyP_one 9 (by kernel_rfl) rfl (fun K' hK' => ?_)
    replace hK' := Lib.hid hK'
    go_simp
    refine hK'.out _ _ (.inr hHeld2) ?_
    clear hK' K'
    (try simp only [List.setIfInBounds_toArray, List.set_cons_zero, List.set_cons_succ])
    refine anyP_one 10 (by kernel_rfl) rfl (fun K' hK' => ?_)
    replace hK' := Lib.hid hK'
    go_simp
    refine hK'.out _ _ (.inl (by kernel_rfl)) ?_
    clear hK' K'
    (try simp only [List.setIfInBounds_toArray, List.set_cons_zero, List.set_cons_succ])
    refine anyP_done (by kernel_rfl) ?_ _
    refine NoPanic.normal ?_
    have X7 := Lib.hid (X6.out.set 4 (.slice a3 (n + 1) c3))
    clear X6 q0 q4 hHeld2
    generalize World.setCell w3 { block := w.heap.size, off := 4 } (.slice a3 (n + 1) c3) = w4 at *
    have q0 := X7.out.bx.free
    have q3 := X7.out.bx.cell (i := 3) rfl
    go_upto_region 4 with fail
    have X8 := Lib.hid (X7.out.set 3 (.slice none 0 0))
    clear X7 q0 q3
    generalize World.setCell w4 { block := w.heap.size, off := 3 } (.slice none 0 0) = w5 at *
    have T0 : Hid (SL w w5 P B M (splR B (fanN B M) ⟨rsO rv, bl⟩ buf) (bl + cm) a3 c3 (rv ++ [⟨0, buf, ba, bc⟩]) (b2 + 2) (c2 + 1200)) := Lib.hid (by
      have e1 : (⟨rsO (rv ++ [⟨0, buf, ba, bc⟩]), bl + cm⟩ : RT) = addR B ⟨rsO rv, bl⟩ buf := by
        rw [Hcm.out, ← Hl.out.2]; unfold addR rsO; rw [List.map_append]; rfl
      have hl9 : (rv ++ [⟨0, buf, ba, bc⟩] : List RunV).length = n + 1 := by rw [List.length_append, List.length_singleton, Hl.out.1]
      refine ⟨by have := X8.out.bx; rw [hl9]; exact this, X8.out.rb, X8.out.fr, ?_, X8.out.spill (HR.out _ X8.out.fr) (by rw [Hl.out.2]; exact HBf.out _ X8.out.fr) (by rw [Hl.out.2]; exact hbn) HP.out.2, ?_, ?_⟩
      · have := X8.out.rb.lt; omega
      · rw [e1]; exact (HPR.out.add HB.out.1.1).mono (by have := Hl.out.2; omega) (Nat.le_refl _) (by have := Hl.out.2; omega)
      · rw [e1]; rfl)
    have hl9 : (rv ++ [⟨0, buf, ba, bc⟩] : List RunV).length = n + 1 := by rw [List.length_append, List.length_singleton, Hl.out.1]
    obtain ⟨rv9, hrv9⟩ : ∃ rv9, rv9 = (rv ++ [⟨0, buf, ba, bc⟩] : List RunV) := ⟨_, rfl⟩
    rw [← hrv9] at T0 hl9
    rw [← hl9]
    clear hl9 hrv9 X8 hA HR HBf HPR HC
    obtain ⟨b9, hb9⟩ : ∃ b9, b9 = bl + cm := ⟨_, rfl⟩
    rw [← hb9] at T0
    have g0 := T0.out.bx.cell (i := 0) rfl
    have g1 := T0.out.bx.cell (i := 1) rfl
    have g2 := T0.out.bx.cell (i := 2) rfl
    have g3 := T0.out.bx.cell (i := 3) rfl
    have g4 := T0.out.bx.cell (i := 4) rfl
    have Hf := Lib.hid (T0.out.full (by omega) (by omega) HB.out.1 HB.out.2)
    clear hb9
    go_wp2_with (go_at_call 102; refine Hf.out.mono ?_; rintro e w6 ⟨rfl, F6⟩; have T1 := Lib.hid (T0.out.fr0 F6); clear F6)
    clear g0 g1 g2 g3 g4 Hf T0
    obtain ⟨z9, hz9⟩ : ∃ z9, z9 = fullI (fanN B M) (rsO rv9) := ⟨_, rfl⟩
    rw [← hz9]
    have Z9 := Lib.hid hz9
    clear hz9
    go_loopw [3] (fun s3 wr => ∃ (z : Int) (b' : Nat) (ra' : Option Addr) (rc' : Nat) (rv' : List RunV), s3 = .int .i64 z ∧ Hid (z = fullI (fanN B M) (rsO rv') ∧ SL w wr P B M (splR B (fanN B M) ⟨rsO rv, bl⟩ buf) b' ra' rc' rv' (b2 + 2) (c2 + 1200))) (fun _ wr => rnOf (wr.cell? ⟨w.heap.size, 4, none⟩))
    case atStart => exact ⟨z9, b9, a3, c3, rv9, rfl, Lib.hid ⟨Z9.out, T1.out⟩⟩
    case round =>
      obtain ⟨z, b', ra', rc', rv', rfl, H⟩ := hrel
      have g0 := H.out.2.bx.cell (i := 0) rfl
      have g1 := H.out.2.bx.cell (i := 1) rfl
      have g2 := H.out.2.bx.cell (i := 2) rfl
      have g3 := H.out.2.bx.cell (i := 3) rfl
      have g4 := H.out.2.bx.cell (i := 4) rfl
      by_cases hz : 0 ≤ z
      · obtain ⟨i, hzi, hfi⟩ := fullI_some H.out.1 hz
        subst hzi
        have Hm := Lib.hid (H.out.2.mrg (by omega) (by omega) HB.out.1 hfi)
        have Hfi := Lib.hid hfi
        obtain ⟨t3, ht3⟩ : ∃ t3, t3 = mergeR B ⟨rsO rv', b'⟩ i := ⟨_, rfl⟩
        rw [← ht3] at Hm
        have Ht3 := Lib.hid ht3
        have hmz : rnOf (wr.cell? ⟨w.heap.size, 4, none⟩) = rv'.length := by rw [g4]; rfl
        have Hmz := Lib.hid hmz
        clear hfi ht3 hmz
        go_wp2_with (first | (go_at_call 103; refine Hm.out.mono ?_; rintro e w7 ⟨ra3, rc3, rv3, rfl, hrs, rf3, F7⟩; unfold rtv; have X9 := Lib.hid (H.out.2.put HP.out.1 HB.out.1.1 Hfi.out (bl3 := t3.bl) (by rw [hrs]; exact Ht3.out) rf3 F7); have q0 := (H.out.2.bx.fr F7 id).free; have u0 := F7.cell g0 id; have u1 := F7.cell g1 id; have u2 := F7.cell g2 id; have u3 := F7.cell g3 id; have u4 := F7.cell g4 id; clear hrs rf3 F7; have p0 := X9.out.1.bx.cell (i := 0) rfl; have p1 := X9.out.1.bx.cell (i := 1) rfl; have p2 := X9.out.1.bx.cell (i := 2) rfl; have p3 := X9.out.1.bx.cell (i := 3) rfl; have p4 := X9.out.1.bx.cell (i := 4) rfl) | (go_at_call 102; refine (X9.out.1.full (by omega) (by omega) HB.out.1 HB.out.2).mono ?_; rintro e w8 ⟨rfl, F8⟩; have X10 := Lib.hid (X9.out.1.fr0 F8); have p4 := F8.cell p4 id; clear F8))
        go_roundw
        case rel => exact ⟨_, t3.bl, ra3, rc3, rv3, rfl, Lib.hid ⟨rfl, X10.out⟩⟩
        case measure => rw [p4, Hmz.out]; exact X9.out.2
      · have hfn := fullI_neg H.out.1 hz
        have HF := Lib.hid (endR_none (B := B) (t := ⟨rsO rv', b'⟩) hfn)
        have q1 := H.out.2.rb.free
        have p0 := H.out.2.rb.cell (i := 0) rfl
        have p1 := H.out.2.rb.cell (i := 1) rfl
        have p2 := H.out.2.rb.cell (i := 2) rfl
        have p3 := H.out.2.rb.cell (i := 3) rfl
        have p4 := H.out.2.rb.cell (i := 4) rfl
        clear hfn
        go_wp2_with fail
        have Y := (((((H.out.2.rb.set 0 (.int .i64 (B : Int))).set 1 (.int .i64 (M : Int))).set 2 (.int .i64 (b' : Int))).set 3 (.slice none 0 0)).set 4 (.slice ra' rv'.length rc'))
        have F5 := Fr.set5 wr (w.heap.size + 1) (.int .i64 (B : Int)) (.int .i64 (M : Int)) (.int .i64 (b' : Int)) (.slice none 0 0) (.slice ra' rv'.length rc')
        refine bodyPost_ret (results_c1 rfl rfl Y rfl) rfl ?_
        have e : (⟨rsO rv', b'⟩ : RT) = splR B (fanN B M) ⟨rsO rv, bl⟩ buf := by rw [← HF.out]; exact H.out.2.en
        rw [← e]
        have hsz := H.out.2.sz
        refine ⟨_, rfl, ⟨none, 0, ra', rc', rv', rfl, rfl, ?_, RdZ.none _, Nat.le_refl _, fun k hk => absurd hk (onBlk_none k)⟩, H.out.2.fr.trans F5 (fun k hk hs => by rw [hs] at hk; omega)⟩
        refine (H.out.2.rf.fr F5 (fun k hk hs => ?_)).mono (fun k hk => ?_)
        · rcases hk with hk | hk
          · have := HP.out.1 k hk; omega
          · omega
        · rcases hk with hk | hk
          · exact .inl hk
          · exact .inr ⟨by omega, by have := F5.size; omega⟩
  · intro tail
    refine anyP_more [0, 7] (by kernel_rfl) (by decide) ?_
    intro j hj
    simp only [List.mem_cons, List.not_mem_nil, or_false] at hj
    rcases hj with rfl | rfl
    · refine ⟨_, rfl, fun K' hK' => ?_⟩
      replace hK' := Lib.hid hK'
      go_simp
      have hq := (H5.out.fr0 ((Fr.refl F0 w2).alloc (.cells #[] 122))).c34
      refine hK'.out _ _ (.inr hq) ?_
      clear hK' K' hq
      (try simp only [Act.put, List.setIfInBounds_toArray, List.set_cons_zero, List.set_cons_succ])
      have X1 := Lib.hid H5.out.lit
      have z1 : Hid (w2.heap.size < (w2.alloc (.cells #[] 122)).heap.size) := Lib.hid (by rw [size_alloc]; omega)
      obtain ⟨wy1, hwy⟩ : ∃ wz, wz = World.alloc w2 (.cells #[] 122) := ⟨_, rfl⟩
      obtain ⟨gx1, hgx⟩ : ∃ g, g = w2.heap.size := ⟨_, rfl⟩
      rw [← hwy] at X1 z1 ⊢
      rw [← hgx] at X1 z1 ⊢
      clear hwy hgx
      refine anyP_more [3, 7] (by kernel_rfl) (by decide) ?_
      intro j hj
      simp only [List.mem_cons, List.not_mem_nil, or_false] at hj
      rcases hj with rfl | rfl
      · refine ⟨_, rfl, fun K' hK' => ?_⟩
        replace hK' := Lib.hid hK'
        refine stepAppZ (n := 0) E122 (by omega) (by rfl) (by rfl) (by rfl) (by rfl) X1.out.rst (Hrow.out _ X1.out.fr) (rcs_one rv) (by omega) (by omega) X1.out.fr.size n (by show 0 + n = n; omega) ?_
        intro a22 c22 wy2 own' fr' at'
        have X2 := Lib.hid (X1.out.appR rv (by have h1 := own'; rw [Hl.out.1] at h1; exact h1) fr')
        refine hK'.out _ _ (.inr X2.out.c34) ?_
        clear hK' K' own' fr' at'
        (try simp only [Act.put, List.setIfInBounds_toArray])
        refine anyP_more [7] (by kernel_rfl) (by decide) ?_
        intro j hj
        simp only [List.mem_cons, List.not_mem_nil, or_false] at hj
        subst hj
        refine ⟨_, rfl, fun K' hK' => ?_⟩
        replace hK' := Lib.hid hK'
        go_simp
        have hq := (X2.out.fr0 ((Fr.refl F0 wy2).alloc (.cells #[.int .i64 0, .slice ba bn bc] 122))).c34
        refine hK'.out _ _ (.inr hq) ?_
        clear hK' K' hq
        (try simp only [Act.put, List.setIfInBounds_toArray, List.set_cons_zero, List.set_cons_succ])
        have X3 := Lib.hid (X2.out.fr0 ((Fr.refl F0 wy2).alloc (.cells #[.int .i64 0, .slice ba bn bc] 122)))
        have L3 := Lib.hid (rdZ_new wy2 122 [.int .i64 (0 : Int), .slice ba bn bc])
        have z3 : Hid (wy2.heap.size < (wy2.alloc (.cells #[.int .i64 0, .slice ba bn bc] 122)).heap.size) := Lib.hid (by rw [size_alloc]; omega)
        obtain ⟨wy3, hwy⟩ : ∃ wz, wz = World.alloc wy2 (.cells #[.int .i64 0, .slice ba bn bc] 122) := ⟨_, rfl⟩
        obtain ⟨gx3, hgx⟩ : ∃ g, g = wy2.heap.size := ⟨_, rfl⟩
        rw [← hwy] at X3 z3 L3 ⊢
        rw [← hgx] at L3 z3 ⊢
        clear hwy hgx
        exact tail _ (by kernel_rfl) _ _ _ _ _ (Lib.hid ⟨X3.out, L3.out⟩)
      · refine ⟨_, rfl, fun K' hK' => ?_⟩
        replace hK' := Lib.hid hK'
        go_simp
        have hq := (X1.out.fr0 ((Fr.refl F0 wy1).alloc (.cells #[.int .i64 0, .slice ba bn bc] 122))).c34
        refine hK'.out _ _ (.inr hq) ?_
        clear hK' K' hq
        (try simp only [Act.put, List.setIfInBounds_toArray, List.set_cons_zero, List.set_cons_succ])
        have X4 := Lib.hid (X1.out.fr0 ((Fr.refl F0 wy1).alloc (.cells #[.int .i64 0, .slice ba bn bc] 122)))
        have L4 := Lib.hid (rdZ_new wy1 122 [.int .i64 (0 : Int), .slice ba bn bc])
        have z4 : Hid (wy1.heap.size < (wy1.alloc (.cells #[.int .i64 0, .slice ba bn bc] 122)).heap.size) := Lib.hid (by rw [size_alloc]; omega)
        obtain ⟨wy4, hwy⟩ : ∃ wz, wz = World.alloc wy1 (.cells #[.int .i64 0, .slice ba bn bc] 122) := ⟨_, rfl⟩
        obtain ⟨gx4, hgx⟩ : ∃ g, g = wy1.heap.size := ⟨_, rfl⟩
        rw [← hwy] at X4 z4 L4 ⊢
        rw [← hgx] at L4 z4 ⊢
        have ne4 : Hid (gx1 < gx4) := Lib.hid (by have := z1.out; omega)
        clear hwy hgx
        refine anyP_more [3] (by kernel_rfl) (by decide) ?_
        intro j hj
        simp only [List.mem_cons, List.not_mem_nil, or_false] at hj
        subst hj
        refine ⟨_, rfl, fun K' hK' => ?_⟩
        replace hK' := Lib.hid hK'
        refine stepAppZ (n := 0) E122 (by omega) (by rfl) (by rfl) (by rfl) (by rfl) X4.out.rst (Hrow.out _ X4.out.fr) (rcs_one rv) (by omega) (by omega) X4.out.fr.size n (by show 0 + n = n; omega) ?_
        intro a25 c25 wy5 own' fr' at'
        have X5 := Lib.hid (X4.out.appR rv (by have h1 := own'; rw [Hl.out.1] at h1; exact h1) fr')
        have L5 := Lib.hid (L4.out.fr fr' (fun k h1 h2 => by have h3 := (onBlk_some _ _ _ _).1 h1; have h4 := (onBlk_some _ _ _ _).1 h2; have := ne4.out; omega))
        refine hK'.out _ _ (.inr X5.out.c34) ?_
        clear hK' K' own' fr' at'
        (try simp only [Act.put, List.setIfInBounds_toArray])
        exact tail _ (by kernel_rfl) _ _ _ _ _ (Lib.hid ⟨X5.out, L5.out⟩)
    · refine ⟨_, rfl, fun K' hK' => ?_⟩
      replace hK' := Lib.hid hK'
      go_simp
      have hq := (H5.out.fr0 ((Fr.refl F0 w2).alloc (.cells #[.int .i64 0, .slice ba bn bc] 122))).c34
      refine hK'.out _ _ (.inr hq) ?_
      clear hK' K' hq
      (try simp only [Act.put, List.setIfInBounds_toArray, List.set_cons_zero, List.set_cons_succ])
      have X6 := Lib.hid (H5.out.fr0 ((Fr.refl F0 w2).alloc (.cells #[.int .i64 0, .slice ba bn bc] 122)))
      have L6 := Lib.hid (rdZ_new w2 122 [.int .i64 (0 : Int), .slice ba bn bc])
      have z6 : Hid (w2.heap.size < (w2.alloc (.cells #[.int .i64 0, .slice ba bn bc] 122)).heap.size) := Lib.hid (by rw [size_alloc]; omega)
      obtain ⟨wy6, hwy⟩ : ∃ wz, wz = World.alloc w2 (.cells #[.int .i64 0, .slice ba bn bc] 122) := ⟨_, rfl⟩
      obtain ⟨gx6, hgx⟩ : ∃ g, g = w2.heap.size := ⟨_, rfl⟩
      rw [← hwy] at X6 z6 L6 ⊢
      rw [← hgx] at L6 z6 ⊢
      clear hwy hgx
      refine anyP_more [0] (by kernel_rfl) (by decide) ?_
      intro j hj
      simp only [List.mem_cons, List.not_mem_nil, or_false] at hj
      subst hj
      refine ⟨_, rfl, fun K' hK' => ?_⟩
      replace hK' := Lib.hid hK'
      go_simp
      have hq := (X6.out.fr0 ((Fr.refl F0 wy6).alloc (.cells #[] 122))).c34
      refine hK'.out _ _ (.inr hq) ?_
      clear hK' K' hq
      (try simp only [Act.put, List.setIfInBounds_toArray, List.set_cons_zero, List.set_cons_succ])
      have X7 := Lib.hid X6.out.lit
      have L7 := Lib.hid (L6.out.fr0 ((Fr.refl F0 wy6).alloc (.cells #[] 122)))
      have z7 : Hid (wy6.heap.size < (wy6.alloc (.cells #[] 122)).heap.size) := Lib.hid (by rw [size_alloc]; omega)
      obtain ⟨wy7, hwy⟩ : ∃ wz, wz = World.alloc wy6 (.cells #[] 122) := ⟨_, rfl⟩
      obtain ⟨gx7, hgx⟩ : ∃ g, g = wy6.heap.size := ⟨_, rfl⟩
      rw [← hwy] at X7 z7 L7 ⊢
      rw [← hgx] at X7 z7 ⊢
      have ne7 : Hid (gx6 < gx7) := Lib.hid (by have := z6.out; omega)
      clear hwy hgx
      refine anyP_more [3] (by kernel_rfl) (by decide) ?_
      intro j hj
      simp only [List.mem_cons, List.not_mem_nil, or_false] at hj
      subst hj
      refine ⟨_, rfl, fun K' hK' => ?_⟩
      replace hK' := Lib.hid hK'
      refine stepAppZ (n := 0) E122 (by omega) (by rfl) (by rfl) (by rfl) (by rfl) X7.out.rst (Hrow.out _ X7.out.fr) (rcs_one rv) (by omega) (by omega) X7.out.fr.size n (by show 0 + n = n; omega) ?_
      intro a28 c28 wy8 own' fr' at'
      have X8 := Lib.hid (X7.out.appR rv (by have h1 := own'; rw [Hl.out.1] at h1; exact h1) fr')
      have L8 := Lib.hid (L7.out.fr fr' (fun k h1 h2 => by have h3 := (onBlk_some _ _ _ _).1 h1; have h4 := (onBlk_some _ _ _ _).1 h2; have := ne7.out; omega))
      refine hK'.out _ _ (.inr X8.out.c34) ?_
      clear hK' K' own' fr' at'
      (try simp only [Act.put, List.setIfInBounds_toArray])
      exact tail _ (by kernel_rfl) _ _ _ _ _ (Lib.hid ⟨X8.out, L8.out⟩)
end Go.Proofs.Ytkmnnfflibamnaa
