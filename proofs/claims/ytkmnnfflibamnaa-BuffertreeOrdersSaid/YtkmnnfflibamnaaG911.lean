/- Common texts of this seat, one behind another. -/
import Derived.Test.YtkmnnfflibamnaaG78
import Derived.Test.YtkmnnfflibamnaaHs
import Derived.StillTailTactics
import Derived.Deep.RegionHeld3
/- Buffer trees: put of the reference. -/
namespace Go.Proofs.Ytkmnnfflibamnaa
open Go.RowKit
attribute [local go_sem ↓] Go.wp_at_zero Go.wp_at_succ
theorem RdZ.cut {w : World} {s : Nat} {a : Option Addr} {n c : Nat} {vs : List Value} (h : RdZ w s a n vs) (hc : n ≤ c) {k r : Nat} (hk : n = k + r) : RdZ w s (cutZ s a c k) r (vs.drop (k * s)) := by
  have hr : r = n - k := by omega
  subst hr
  refine ⟨by rw [List.length_drop, h.len, ← Nat.sub_mul], by have := h.max; omega, fun hn => ?_⟩
  obtain ⟨b, o, rfl, hcell⟩ := h.cells (by omega)
  rw [cutZ_some, if_neg (by omega)]
  refine ⟨b, o + k * s, rfl, fun i u hu => ?_⟩
  rw [List.getElem?_drop] at hu
  rw [Nat.add_assoc]
  exact hcell (k * s + i) u hu
theorem RdZ.take {w : World} {s : Nat} {a : Option Addr} {n : Nat} {vs : List Value} (h : RdZ w s a n vs) {k : Nat} (hk : k ≤ n) : RdZ w s a k (vs.take (k * s)) :=
  ⟨by rw [List.length_take, h.len]; exact Nat.min_eq_left (Nat.mul_le_mul_right _ hk), by have := h.max; omega, fun h0 => by
    obtain ⟨b, o, ha, hc⟩ := h.cells (by omega)
    refine ⟨b, o, ha, fun i u hu => hc i u ?_⟩
    rw [List.getElem?_take] at hu
    split at hu
    · exact hu
    · cases hu⟩
theorem run_cutHiZ2 {P : Program} {t T : TypeId} {z : Value} {s bytes : Nat} (E : ElemZ P t T z s bytes) (w : World) (a : Option Addr) {n c k : Nat} (hk : k ≤ c) {x : Int} (hx : x = (k : Int)) :
    (Instr.sliceAt t (.slice a n c) none (some (.int .i64 x)) none).run P w = .ok (.slice (cutZ s a c 0) k c) w := by
  obtain ⟨E1, E2, _⟩ := E
  obtain ⟨i0, hi, _, hz1, _⟩ := info_parts E2
  subst hx
  have ht : P.underlying t = some (.slice (P.elem t)) := by simp [Program.elem, E1]
  have hel : P.elem t = T := by simp [Program.elem, E1]
  have hsz : (sizeOf T).run P w = .ok s w := by simp [sizeOf, typeInfo, hi, hz1]
  rw [run_sliceAt_slice _ _ _ _ _ _ ht, run_slice_h w t a n c ht .i64 k (by omega) (by omega), hel, hsz]
  simp [Result.andThen, sliced, cutZ]
theorem RdZ.cutHi {w : World} {s : Nat} {a : Option Addr} {n c : Nat} {vs : List Value} (h : RdZ w s a n vs) (hc : n ≤ c) {k : Nat} (hk : k ≤ n) : RdZ w s (cutZ s a c 0) k (vs.take (k * s)) := by
  have h1 := (h.cut hc (k := 0) (r := n) (by omega)).take hk
  simpa using h1
theorem ents_drop (l : List En) (i : Nat) : ents (l.drop i) = (ents l).drop (i * 3) := by
  have h : ents l = ents (l.take i) ++ ents (l.drop i) := by rw [← ents_app, List.take_append_drop]
  by_cases hi : i ≤ l.length
  · have hl : (ents (l.take i)).length = i * 3 := by rw [ents_len, List.length_take]; omega
    rw [h, ← hl, List.drop_left]
  · rw [List.drop_of_length_le (by omega), List.drop_of_length_le (by rw [ents_len]; omega)]; rfl
/-- What lies in memory while put runs. -/
structure QP (w wr : World) (g : Nat) (a : Option Addr) (n : Nat) (l : List En) (e : En) : Prop where
  rd : RdZ wr 3 a n (ents l)
  bx : Blk wr g 58 (en3 e)
  fr : Fr F0 w wr
  lt : ∀ k, 0 < n → onBlk a k → k < w.heap.size
theorem QP.more {w wr w' : World} {g : Nat} {a : Option Addr} {n : Nat} {l : List En} {e : En} {S : Nat → Prop} (h : QP w wr g a n l e) (f : Fr S wr w') (hS : ∀ k, S k → g < k) (hg : w.heap.size ≤ g) : QP w w' g a n l e :=
  ⟨by
    rcases Nat.eq_zero_or_pos n with h0 | h0
    · subst h0; exact ⟨h.rd.len, h.rd.max, fun h => absurd h (by omega)⟩
    · exact h.rd.fr f (fun k hk hs => by have := h.lt k h0 hk; have := hS k hs; omega), h.bx.fr f (fun hs => by have := hS _ hs; omega), h.fr.trans f (fun k hk hs => by have := hS _ hs; omega), h.lt⟩
theorem blk_gt {a a' : Option Addr} {m s : Nat} (h : ∀ k, onBlk a' k → onBlk a k ∨ s ≤ k) (h1 : ∀ k, onBlk a k → m < k) (hs : m < s) : ∀ k, onBlk a' k → m < k := fun k hk => by
  rcases h k hk with c | c
  · exact h1 k c
  · omega
theorem QP.app2 {w wr w' : World} {a : Option Addr} {n : Nat} {l : List En} {e : En} {a1 a2 : Option Addr} (h : QP w wr w.heap.size a n l e) (h1 : ∀ k, onBlk a1 k → w.heap.size < k) (hs : w.heap.size < wr.heap.size) (f : Fr (onBlk a1) wr w') (at2 : ∀ k, onBlk a2 k → onBlk a1 k ∨ wr.heap.size ≤ k) :
    QP w w' w.heap.size a n l e ∧ (∀ k, onBlk a2 k → w.heap.size < k) ∧ w.heap.size < w'.heap.size :=
  ⟨h.more f h1 (Nat.le_refl _), blk_gt at2 h1 hs, Nat.lt_of_lt_of_le hs f.size⟩
theorem QP.app1 {w wr w' : World} {a : Option Addr} {n : Nat} {l : List En} {e : En} {a1 : Option Addr} {o : Obj} (h : QP w wr w.heap.size a n l e) (f : Fr (onBlk (some ⟨wr.heap.size, 0, none⟩)) (wr.alloc o) w') (at1 : ∀ k, onBlk a1 k → onBlk (some ⟨wr.heap.size, 0, none⟩) k ∨ (wr.alloc o).heap.size ≤ k) :
    QP w w' w.heap.size a n l e ∧ (∀ k, onBlk a1 k → w.heap.size < k) ∧ w.heap.size < w'.heap.size :=
  QP.app2 (a1 := some ⟨wr.heap.size, 0, none⟩) (h.more ((Fr.refl F0 _).alloc o) (fun _ h => h.elim) (Nat.le_refl _)) (fun k hk => by have h1 := (onBlk_some _ _ _ _).1 hk; have h2 := h.bx.lt; omega) (by have h2 := h.bx.lt; simp; omega) f at1
theorem ins_len {l : List En} (e : En) : (ins l e).length ≤ l.length + 1 := by
  induction l with
  | nil => exact Nat.le_refl _
  | cons x l ih =>
    unfold ins
    split
    · simp; exact ih
    · split <;> simp
set_option maxRecDepth 100000 in
set_option maxHeartbeats 8000000 in
theorem put_any {w : World} {a : Option Addr} {n c : Nat} {l : List En} (e : En) (h : RdZ w 3 a n (ents l)) (hc : n ≤ c) (hn : n ≤ 100000000) :
    Calls Try.prog 53 #[.slice a n c, .agg #[.int .i64 e.1, .int .i64 e.2.1, .bool e.2.2]] w (EnR w (ins l e)) := by
  have hl : l.length = n := by have := h.len; rw [ents_len] at this; omega
  have hlt0 : ∀ k, 0 < n → onBlk a k → k < w.heap.size := fun k h0 hk => by
    obtain ⟨b, o, rfl, hcell⟩ := h.cells h0
    have hk' := (onBlk_some _ _ _ _).1 hk
    subst hk'
    have h1 := hcell 0 _ (List.getElem?_eq_getElem (by rw [ents_len]; omega))
    exact World.block_lt_of_cell? _ _ h1
  obtain ⟨k0, v0, r0⟩ := e
  have HQ0 : Hid (QP w (w.alloc (.cells #[.int .i64 k0, .int .i64 v0, .bool r0] 58)) w.heap.size a n l (k0, v0, r0)) := Lib.hid ⟨h.fr0 ((Fr.refl _ _).alloc _), Blk.new w 58 [.int .i64 k0, .int .i64 v0, .bool r0], (Fr.refl _ _).alloc _, hlt0⟩
  have Hl := Lib.hid hl
  clear h hl hlt0
  go_enter Try.func53, Try.ntmps53
  go_wp2_with fail
  go_loopw [5] (fun s5 wr => ∃ i : Nat, i ≤ n ∧ s5 = .int .i64 (i : Int) ∧ Hid ((∀ j y, j < i → l[j]? = some y → y.1 < k0) ∧ QP w wr w.heap.size a n l (k0, v0, r0))) (fun s5 _ => n - (intOf s5).toNat)
  case atStart => exact ⟨0, Nat.zero_le _, rfl, Lib.hid ⟨fun j y h => absurd h (Nat.not_lt_zero _), HQ0.out⟩⟩
  case round =>
    obtain ⟨i, hi, rfl, H⟩ := hrel
    have hd3 := H.out.2.bx.cell (i := 0) rfl
    have hd4 := H.out.2.bx.cell (i := 1) rfl
    have hd5 := H.out.2.bx.cell (i := 2) rfl
    dsimp only at hd3 hd4 hd5
    by_cases hlt : i < n
    · have hlt' : (i : Int) < (n : Int) := by omega
      obtain ⟨x, hx⟩ : ∃ x, l[i]? = some x := ⟨_, List.getElem?_eq_getElem (by have := Hl.out; omega)⟩
      obtain ⟨b, o, rfl, d0, d1, d2⟩ := H.out.2.rd.ent hx
      have HX := Lib.hid hx
      obtain ⟨x1, x2, x3⟩ := x
      dsimp only at d0 d1 d2
      clear hx
      by_cases hk : x1 < k0
      · go_wp2_with fail
        go_quiet (fail)
        go_wp2_with fail
        go_roundw
        case rel => exact ⟨i + 1, by omega, by go_num, Lib.hid ⟨fun j y hj hy => by
          rcases Nat.lt_or_ge j i with c | c
          · exact H.out.1 j y c hy
          · have : j = i := by omega
            subst this
            have h1 := HX.out
            rw [hy] at h1; injection h1 with h1; subst h1; exact hk, H.out.2.more ((Fr.refl F0 _).drewN _) (fun _ h => h.elim) (Nat.le_refl _)⟩⟩
        case measure => simp [intOf]; omega
      · by_cases he : x1 = k0
        · have hins : ins l (k0, v0, r0) = l.take i ++ [(k0, v0, r0)] ++ l.drop (i + 1) := by
            rw [ins_split (k := i) (by have := Hl.out; omega) H.out.1 (fun y hy => by have h1 := HX.out; rw [hy] at h1; injection h1 with h1; subst h1; show ¬ x1 < k0; omega), HX.out]
            dsimp only
            rw [if_pos he]
          have HI := Lib.hid hins
          have hb : (x1 == k0) = true := by simpa using he
          clear hins he
          have h1a : ∀ W : World, (Instr.sliceAt 48 (.slice (some ⟨b, o, none⟩) n c) none (some (.int .i64 (i : Int))) none).run Try.prog W = .ok (.slice (cutZ 3 (some ⟨b, o, none⟩) c 0) i c) W := fun W => run_cutHiZ2 E58 W _ (by omega) rfl
          have h1b : ∀ W : World, (Instr.sliceAt 48 (.slice (some ⟨b, o, none⟩) n c) (some (.int .i64 (((i : Int) + 1)))) none none).run Try.prog W = .ok (.slice (cutZ 3 (some ⟨b, o, none⟩) c (i + 1)) (n - (i + 1)) (c - (i + 1))) W := fun W => run_cutLoZ E58 W _ (by omega) (by omega)
          go_wp2_with fail
          go_quiet (fail)
          have HQ := Lib.hid (H.out.2.more ((Fr.refl F0 _).drewN nq) (fun _ h => h.elim) (Nat.le_refl _))
          have d0 := HQ.out.bx.cell (i := 0) rfl
          have d1 := HQ.out.bx.cell (i := 1) rfl
          have d2 := HQ.out.bx.cell (i := 2) rfl
          generalize World.drewN wr nq = wq at *
          go_wp2_with (first | (at_builtin; refine wpAppZRd E58 (by omega) (OwnZ.lit (B := w.heap.size + 1) (T := 58) (s := 3) [] 0 rfl (by have := HQ.out.bx.lt; omega) (by omega)) ((HQ.out.rd.cutHi hc (k := i) (by omega)).fr0 ((Fr.refl F0 _).alloc _)) (fun u hu => ents_one l u (List.mem_of_mem_take hu)) (by omega) (by omega) (by have := HQ.out.bx.lt; simp; omega) i (by omega) (by rfl) (by rfl) ?_; intro a1 c1 w1 own1 fr1 at1; have X1 := Lib.hid (And.intro own1 (HQ.out.app1 fr1 at1)); have d0 := X1.out.2.1.bx.cell (i := 0) rfl; have d1 := X1.out.2.1.bx.cell (i := 1) rfl; have d2 := X1.out.2.1.bx.cell (i := 2) rfl; clear own1 fr1 at1) | (at_builtin; refine wpAppZAt E58 (by omega) X1.out.1 (us := [.int .i64 k0, .int .i64 v0, .bool r0]) rfl (fun u hu => by simp at hu; rcases hu with rfl | rfl | rfl <;> rfl) (by omega) (by omega) X1.out.2.2.2 (by rfl) (by rfl) ?_; intro a2 c2 w2 own2 fr2 at2; have X2 := Lib.hid (And.intro own2 (X1.out.2.1.app2 X1.out.2.2.1 X1.out.2.2.2 fr2 at2)); clear own2 fr2 at2))
          obtain ⟨b2, o2, e2, f0, f1, f2⟩ := X2.out.2.1.rd.ent HX.out
          injection e2 with e2
          injection e2 with e2 e3
          subst e2 e3
          dsimp only at f0 f1 f2
          have d0 := X2.out.2.1.bx.cell (i := 0) rfl
          have d1 := X2.out.2.1.bx.cell (i := 1) rfl
          have d2 := X2.out.2.1.bx.cell (i := 2) rfl
          dsimp only at d0 d1 d2
          go_quiet (fail)
          have X3 : Hid (OwnZ (World.drewN w2 nq) (w.heap.size + 1) 58 3 a2 (i + 1) c2 (([] ++ (ents l).take (i * 3)) ++ [.int .i64 k0, .int .i64 v0, .bool r0]) ∧ QP w (World.drewN w2 nq) w.heap.size (some ⟨b, o, none⟩) n l (k0, v0, r0) ∧ (∀ k, onBlk a2 k → w.heap.size < k) ∧ w.heap.size < (World.drewN w2 nq).heap.size) := Lib.hid ⟨X2.out.1.fr0 ((Fr.refl F0 _).drewN nq), X2.out.2.1.more ((Fr.refl F0 _).drewN nq) (fun _ h => h.elim) (Nat.le_refl _), X2.out.2.2.1, X2.out.2.2.2⟩
          generalize World.drewN w2 nq = wz at *
          have hlen : (i + 1) + (n - (i + 1)) = (ins l (k0, v0, r0)).length := by
            rw [HI.out]
            have := Hl.out
            simp; omega
          have HLN := Lib.hid hlen
          clear hlen
          go_wp2_with (at_builtin; refine wpAppZRd E58 (by omega) X3.out.1 (X3.out.2.1.rd.cut hc (k := i + 1) (r := n - (i + 1)) (by omega)) (fun u hu => ents_one l u (List.mem_of_mem_drop hu)) (by omega) (by omega) X3.out.2.2.2 (ins l (k0, v0, r0)).length HLN.out (by rfl) (by rfl) ?_; intro a3 c3 w3 own3 fr3 at3; have X4 := Lib.hid (And.intro own3 (X3.out.2.1.app2 X3.out.2.2.1 X3.out.2.2.2 fr3 at3)); clear own3 fr3 at3)
          go_ret
          have X5 := X4.out.1.mono (B' := w.heap.size) (by omega)
          refine ⟨a3, c3, rfl, ?_, X4.out.2.1.fr⟩
          have e9 : (([] ++ (ents l).take (i * 3)) ++ [.int .i64 k0, .int .i64 v0, .bool r0]) ++ (ents l).drop ((i + 1) * 3) = ents (ins l (k0, v0, r0)) := by
            rw [HI.out, ents_app, ents_app, ents_takeDrop, ents_drop, List.nil_append]; rfl
          rw [← e9]; exact X5
        · have hins : ins l (k0, v0, r0) = l.take i ++ [(k0, v0, r0)] ++ l.drop i := by
            rw [ins_split (k := i) (by have := Hl.out; omega) H.out.1 (fun y hy => by have h1 := HX.out; rw [hy] at h1; injection h1 with h1; subst h1; show ¬ x1 < k0; omega), HX.out]
            dsimp only
            rw [if_neg he]
          have HI := Lib.hid hins
          have hb : (x1 == k0) = false := by simpa using he
          clear hins
          have h1a : ∀ W : World, (Instr.sliceAt 48 (.slice (some ⟨b, o, none⟩) n c) none (some (.int .i64 (i : Int))) none).run Try.prog W = .ok (.slice (cutZ 3 (some ⟨b, o, none⟩) c 0) i c) W := fun W => run_cutHiZ2 E58 W _ (by omega) rfl
          have h1b : ∀ W : World, (Instr.sliceAt 48 (.slice (some ⟨b, o, none⟩) n c) (some (.int .i64 ((i : Int)))) none none).run Try.prog W = .ok (.slice (cutZ 3 (some ⟨b, o, none⟩) c (i)) (n - (i)) (c - (i))) W := fun W => run_cutLoZ E58 W _ (by omega) (by omega)
          go_wp2_with fail
          go_quiet (fail)
          have HQ := Lib.hid (H.out.2.more ((Fr.refl F0 _).drewN nq) (fun _ h => h.elim) (Nat.le_refl _))
          have d0 := HQ.out.bx.cell (i := 0) rfl
          have d1 := HQ.out.bx.cell (i := 1) rfl
          have d2 := HQ.out.bx.cell (i := 2) rfl
          generalize World.drewN wr nq = wq at *
          go_wp2_with (first | (at_builtin; refine wpAppZRd E58 (by omega) (OwnZ.lit (B := w.heap.size + 1) (T := 58) (s := 3) [] 0 rfl (by have := HQ.out.bx.lt; omega) (by omega)) ((HQ.out.rd.cutHi hc (k := i) (by omega)).fr0 ((Fr.refl F0 _).alloc _)) (fun u hu => ents_one l u (List.mem_of_mem_take hu)) (by omega) (by omega) (by have := HQ.out.bx.lt; simp; omega) i (by omega) (by rfl) (by rfl) ?_; intro a1 c1 w1 own1 fr1 at1; have X1 := Lib.hid (And.intro own1 (HQ.out.app1 fr1 at1)); have d0 := X1.out.2.1.bx.cell (i := 0) rfl; have d1 := X1.out.2.1.bx.cell (i := 1) rfl; have d2 := X1.out.2.1.bx.cell (i := 2) rfl; clear own1 fr1 at1) | (at_builtin; refine wpAppZAt E58 (by omega) X1.out.1 (us := [.int .i64 k0, .int .i64 v0, .bool r0]) rfl (fun u hu => by simp at hu; rcases hu with rfl | rfl | rfl <;> rfl) (by omega) (by omega) X1.out.2.2.2 (by rfl) (by rfl) ?_; intro a2 c2 w2 own2 fr2 at2; have X2 := Lib.hid (And.intro own2 (X1.out.2.1.app2 X1.out.2.2.1 X1.out.2.2.2 fr2 at2)); clear own2 fr2 at2))
          obtain ⟨b2, o2, e2, f0, f1, f2⟩ := X2.out.2.1.rd.ent HX.out
          injection e2 with e2
          injection e2 with e2 e3
          subst e2 e3
          dsimp only at f0 f1 f2
          have d0 := X2.out.2.1.bx.cell (i := 0) rfl
          have d1 := X2.out.2.1.bx.cell (i := 1) rfl
          have d2 := X2.out.2.1.bx.cell (i := 2) rfl
          dsimp only at d0 d1 d2
          go_quiet (fail)
          have X3 : Hid (OwnZ (World.drewN w2 nq) (w.heap.size + 1) 58 3 a2 (i + 1) c2 (([] ++ (ents l).take (i * 3)) ++ [.int .i64 k0, .int .i64 v0, .bool r0]) ∧ QP w (World.drewN w2 nq) w.heap.size (some ⟨b, o, none⟩) n l (k0, v0, r0) ∧ (∀ k, onBlk a2 k → w.heap.size < k) ∧ w.heap.size < (World.drewN w2 nq).heap.size) := Lib.hid ⟨X2.out.1.fr0 ((Fr.refl F0 _).drewN nq), X2.out.2.1.more ((Fr.refl F0 _).drewN nq) (fun _ h => h.elim) (Nat.le_refl _), X2.out.2.2.1, X2.out.2.2.2⟩
          generalize World.drewN w2 nq = wz at *
          have hlen : (i + 1) + (n - (i)) = (ins l (k0, v0, r0)).length := by
            rw [HI.out]
            have := Hl.out
            simp; omega
          have HLN := Lib.hid hlen
          clear hlen
          go_wp2_with (at_builtin; refine wpAppZRd E58 (by omega) X3.out.1 (X3.out.2.1.rd.cut hc (k := i) (r := n - (i)) (by omega)) (fun u hu => ents_one l u (List.mem_of_mem_drop hu)) (by omega) (by omega) X3.out.2.2.2 (ins l (k0, v0, r0)).length HLN.out (by rfl) (by rfl) ?_; intro a3 c3 w3 own3 fr3 at3; have X4 := Lib.hid (And.intro own3 (X3.out.2.1.app2 X3.out.2.2.1 X3.out.2.2.2 fr3 at3)); clear own3 fr3 at3)
          go_ret
          have X5 := X4.out.1.mono (B' := w.heap.size) (by omega)
          refine ⟨a3, c3, rfl, ?_, X4.out.2.1.fr⟩
          have e9 : (([] ++ (ents l).take (i * 3)) ++ [.int .i64 k0, .int .i64 v0, .bool r0]) ++ (ents l).drop ((i) * 3) = ents (ins l (k0, v0, r0)) := by
            rw [HI.out, ents_app, ents_app, ents_takeDrop, ents_drop, List.nil_append]; rfl
          rw [← e9]; exact X5
    · obtain rfl : n = i := by omega
      have hins : ins l (k0, v0, r0) = l.take n ++ [(k0, v0, r0)] ++ l.drop n := by
        have hnone : l[n]? = none := List.getElem?_eq_none (by have := Hl.out; omega)
        rw [ins_split (k := n) (by have := Hl.out; omega) H.out.1 (fun y hy => by rw [hnone] at hy; cases hy), hnone, List.drop_of_length_le (by have := Hl.out; omega)]
        have := Hl.out
        simp; omega
      have HI := Lib.hid hins
      have hd : decide ((n : Int) < (n : Int)) = false := by simp
      clear hins
      have h1a : ∀ W : World, (Instr.sliceAt 48 (.slice a n c) none (some (.int .i64 (n : Int))) none).run Try.prog W = .ok (.slice (cutZ 3 a c 0) n c) W := fun W => run_cutHiZ2 E58 W _ (by omega) rfl
      have h1b : ∀ W : World, (Instr.sliceAt 48 (.slice a n c) (some (.int .i64 ((n : Int)))) none none).run Try.prog W = .ok (.slice (cutZ 3 a c (n)) (0) (c - (n))) W := fun W => run_cutLoZ E58 W _ (by omega) (by omega)
      go_wp2_with fail
      go_quiet (fail)
      have HQ := Lib.hid (H.out.2.more ((Fr.refl F0 _).drewN nq) (fun _ h => h.elim) (Nat.le_refl _))
      have d0 := HQ.out.bx.cell (i := 0) rfl
      have d1 := HQ.out.bx.cell (i := 1) rfl
      have d2 := HQ.out.bx.cell (i := 2) rfl
      generalize World.drewN wr nq = wq at *
      go_wp2_with (first | (at_builtin; refine wpAppZRd E58 (by omega) (OwnZ.lit (B := w.heap.size + 1) (T := 58) (s := 3) [] 0 rfl (by have := HQ.out.bx.lt; omega) (by omega)) ((HQ.out.rd.cutHi hc (k := n) (by omega)).fr0 ((Fr.refl F0 _).alloc _)) (fun u hu => ents_one l u (List.mem_of_mem_take hu)) (by omega) (by omega) (by have := HQ.out.bx.lt; simp; omega) n (by omega) (by rfl) (by rfl) ?_; intro a1 c1 w1 own1 fr1 at1; have X1 := Lib.hid (And.intro own1 (HQ.out.app1 fr1 at1)); have d0 := X1.out.2.1.bx.cell (i := 0) rfl; have d1 := X1.out.2.1.bx.cell (i := 1) rfl; have d2 := X1.out.2.1.bx.cell (i := 2) rfl; clear own1 fr1 at1) | (at_builtin; refine wpAppZAt E58 (by omega) X1.out.1 (us := [.int .i64 k0, .int .i64 v0, .bool r0]) rfl (fun u hu => by simp at hu; rcases hu with rfl | rfl | rfl <;> rfl) (by omega) (by omega) X1.out.2.2.2 (by rfl) (by rfl) ?_; intro a2 c2 w2 own2 fr2 at2; have X2 := Lib.hid (And.intro own2 (X1.out.2.1.app2 X1.out.2.2.1 X1.out.2.2.2 fr2 at2)); clear own2 fr2 at2))
      have d0 := X2.out.2.1.bx.cell (i := 0) rfl
      have d1 := X2.out.2.1.bx.cell (i := 1) rfl
      have d2 := X2.out.2.1.bx.cell (i := 2) rfl
      dsimp only at d0 d1 d2
      go_quiet (fail)
      have X3 : Hid (OwnZ (World.drewN w2 nq) (w.heap.size + 1) 58 3 a2 (n + 1) c2 (([] ++ (ents l).take (n * 3)) ++ [.int .i64 k0, .int .i64 v0, .bool r0]) ∧ QP w (World.drewN w2 nq) w.heap.size a n l (k0, v0, r0) ∧ (∀ k, onBlk a2 k → w.heap.size < k) ∧ w.heap.size < (World.drewN w2 nq).heap.size) := Lib.hid ⟨X2.out.1.fr0 ((Fr.refl F0 _).drewN nq), X2.out.2.1.more ((Fr.refl F0 _).drewN nq) (fun _ h => h.elim) (Nat.le_refl _), X2.out.2.2.1, X2.out.2.2.2⟩
      generalize World.drewN w2 nq = wz at *
      have hlen : (n + 1) + (0) = (ins l (k0, v0, r0)).length := by
        rw [HI.out]
        have := Hl.out
        simp; omega
      have HLN := Lib.hid hlen
      clear hlen
      go_wp2_with (at_builtin; refine wpAppZRd E58 (by omega) X3.out.1 (X3.out.2.1.rd.cut hc (k := n) (r := 0) (by omega)) (fun u hu => ents_one l u (List.mem_of_mem_drop hu)) (by omega) (by omega) X3.out.2.2.2 (ins l (k0, v0, r0)).length HLN.out (by rfl) (by rfl) ?_; intro a3 c3 w3 own3 fr3 at3; have X4 := Lib.hid (And.intro own3 (X3.out.2.1.app2 X3.out.2.2.1 X3.out.2.2.2 fr3 at3)); clear own3 fr3 at3)
      go_ret
      have X5 := X4.out.1.mono (B' := w.heap.size) (by omega)
      refine ⟨a3, c3, rfl, ?_, X4.out.2.1.fr⟩
      have e9 : (([] ++ (ents l).take (n * 3)) ++ [.int .i64 k0, .int .i64 v0, .bool r0]) ++ (ents l).drop ((n) * 3) = ents (ins l (k0, v0, r0)) := by
        rw [HI.out, ents_app, ents_app, ents_takeDrop, ents_drop, List.nil_append]; rfl
      rw [← e9]; exact X5
end Go.Proofs.Ytkmnnfflibamnaa
/- Buffer trees: the reference's tree in memory; highest, at, Entries, full. -/
namespace Go.Proofs.Ytkmnnfflibamnaa
open Go.RowKit
attribute [local go_sem ↓] Go.wp_at_zero Go.wp_at_succ
/-- A run in memory: level, entries, address, capacity. -/
structure RunV where
  lv : Nat
  l : List En
  a : Option Addr
  c : Nat
def RunV.cells (r : RunV) : List Value := [.int .i64 (r.lv : Int), .slice r.a r.l.length r.c]
def rcs (rv : List RunV) : List Value := rv.flatMap RunV.cells
def rsO (rv : List RunV) : Rs := rv.map (fun r => (r.lv, r.l))
theorem rcs_len : ∀ rv : List RunV, (rcs rv).length = rv.length * 2
  | [] => rfl
  | x :: l => by
    have := rcs_len l
    unfold rcs at this ⊢
    rw [List.flatMap_cons, List.length_append, this, List.length_cons]; show 2 + _ = _; omega
theorem rcs_app (l m : List RunV) : rcs (l ++ m) = rcs l ++ rcs m := by unfold rcs; rw [List.flatMap_append]
theorem rcs_one (l : List RunV) : ∀ u ∈ rcs l, u.oneCell' = true := by
  intro u hu
  unfold rcs at hu
  rw [List.mem_flatMap] at hu
  obtain ⟨e, _, hu⟩ := hu
  simp [RunV.cells] at hu
  rcases hu with rfl | rfl <;> rfl
theorem rcs_get : ∀ {l : List RunV} {i : Nat} {x : RunV}, l[i]? = some x → ∀ j, j < 2 → (rcs l)[i * 2 + j]? = (x.cells)[j]?
  | y :: l, 0, x, h, j, hj => by
    simp at h; subst h
    unfold rcs
    rw [List.flatMap_cons, List.getElem?_append_left (by show _ < 2; omega), Nat.zero_mul, Nat.zero_add]
  | y :: l, i + 1, x, h, j, hj => by
    have ih := rcs_get (l := l) (i := i) (x := x) (by simpa using h) j hj
    unfold rcs at ih ⊢
    rw [List.flatMap_cons, List.getElem?_append_right (by show 2 ≤ _; omega), ← ih]
    congr 1
    show (i + 1) * 2 + j - 2 = _
    omega
/-- The runs of the reference's tree, in blocks of P. -/
structure RefS (w : World) (P : Nat → Prop) (ra : Option Addr) (rc : Nat) (rv : List RunV) : Prop where
  row : RdZ w 2 ra rv.length (rcs rv)
  rP : ∀ k, onBlk ra k → P k
  cap : rv.length ≤ rc
  run : ∀ r ∈ rv, RdZ w 3 r.a r.l.length (ents r.l) ∧ r.l.length ≤ r.c ∧ ∀ k, onBlk r.a k → P k
theorem RefS.fr {S P : Nat → Prop} {w w' : World} {ra : Option Addr} {rc : Nat} {rv : List RunV} (h : RefS w P ra rc rv) (f : Fr S w w') (hS : ∀ k, P k → ¬ S k) : RefS w' P ra rc rv :=
  ⟨h.row.fr f (fun k hk => hS k (h.rP k hk)), h.rP, h.cap, fun r hr => by
    obtain ⟨h1, h2, h3⟩ := h.run r hr
    exact ⟨h1.fr f (fun k hk => hS k (h3 k hk)), h2, h3⟩⟩
theorem RefS.fr0 {P : Nat → Prop} {w w' : World} {ra : Option Addr} {rc : Nat} {rv : List RunV} (h : RefS w P ra rc rv) (f : Fr F0 w w') : RefS w' P ra rc rv := h.fr f (fun _ _ => id)
theorem RefS.mono {P P' : Nat → Prop} {w : World} {ra : Option Addr} {rc : Nat} {rv : List RunV} (h : RefS w P ra rc rv) (hP : ∀ k, P k → P' k) : RefS w P' ra rc rv :=
  ⟨h.row, fun k hk => hP k (h.rP k hk), h.cap, fun r hr => by
    obtain ⟨h1, h2, h3⟩ := h.run r hr
    exact ⟨h1, h2, fun k hk => hP k (h3 k hk)⟩⟩
/-- The cells of a run. -/
theorem RefS.at {P : Nat → Prop} {w : World} {ra : Option Addr} {rc : Nat} {rv : List RunV} (h : RefS w P ra rc rv) {i : Nat} {r : RunV} (hr : rv[i]? = some r) :
    ∃ b o, ra = some ⟨b, o, none⟩ ∧ w.cell? ⟨b, o + i * 2, none⟩ = some (.int .i64 (r.lv : Int)) ∧ w.cell? ⟨b, o + i * 2 + 1, none⟩ = some (.slice r.a r.l.length r.c) ∧ RdZ w 3 r.a r.l.length (ents r.l) ∧ r.l.length ≤ r.c := by
  have hi := (List.getElem?_eq_some_iff.1 hr).1
  obtain ⟨b, o, ha, hc⟩ := h.row.cells (by omega)
  refine ⟨b, o, ha, ?_, ?_, (h.run r (List.mem_of_getElem? hr)).1, (h.run r (List.mem_of_getElem? hr)).2.1⟩
  · have := hc _ (.int .i64 (r.lv : Int)) (by rw [rcs_get hr 0 (by omega)]; rfl); simpa using this
  · have := hc _ (.slice r.a r.l.length r.c) (by rw [rcs_get hr 1 (by omega)]; rfl); rw [Nat.add_assoc]; exact this
/-- A tree of the reference as a value. -/
def rtv (B M bl : Nat) (ba : Option Addr) (bn bc : Nat) (ra : Option Addr) (rn rc : Nat) : Value := .agg #[.int .i64 (B : Int), .int .i64 (M : Int), .int .i64 (bl : Int), .slice ba bn bc, .slice ra rn rc]
theorem rsO_take (rv : List RunV) (i : Nat) {r : RunV} (h : rv[i]? = some r) : rsO (rv.take (i + 1)) = rsO (rv.take i) ++ [(r.lv, r.l)] := by
  unfold rsO
  rw [List.take_add_one, h, List.map_append]; rfl
theorem highest_any {P : Nat → Prop} {w : World} {ra : Option Addr} {rc : Nat} {rv : List RunV} (B M bl : Nat) (ba : Option Addr) (bn bc : Nat) (h : RefS w P ra rc rv) (hn : rv.length ≤ 100000) :
    Calls Try.prog 78 #[rtv B M bl ba bn bc ra rv.length rc] w fun e w' => e = .returned (.int .i64 (high (rsO rv))) ∧ Fr F0 w w' := by
  have HB0 := Blk.new w 51 [.int .i64 (B : Int), .int .i64 (M : Int), .int .i64 (bl : Int), .slice ba bn bc, .slice ra rv.length rc]
  have x4 := HB0.cell (i := 4) rfl
  have HR := Lib.hid (h.fr0 ((Fr.refl F0 _).alloc (.cells #[.int .i64 (B : Int), .int .i64 (M : Int), .int .i64 (bl : Int), .slice ba bn bc, .slice ra rv.length rc] 51)))
  have FB : Hid (Fr F0 w _) := Lib.hid ((Fr.refl F0 w).alloc (.cells #[.int .i64 (B : Int), .int .i64 (M : Int), .int .i64 (bl : Int), .slice ba bn bc, .slice ra rv.length rc] 51))
  clear h HB0
  obtain ⟨n, hN⟩ : ∃ n, n = rv.length := ⟨_, rfl⟩
  rw [← hN] at x4 HR FB hn
  unfold rtv
  rw [← hN]
  have Hl := Lib.hid hN
  clear hN
  go_enter Try.func78, Try.ntmps78
  go_wp2_with fail
  go_loop [3, 4] (fun s3 s4 => ∃ (i : Nat) (z : Int), i ≤ n ∧ s4 = .int .i64 (i : Int) ∧ s3 = .int .i64 z ∧ Hid (z = high (rsO (rv.take i)))) (fun _ s4 => n - (intOf s4).toNat)
  case atStart => exact ⟨0, -1, Nat.zero_le _, rfl, rfl, Lib.hid rfl⟩
  case round =>
    obtain ⟨i, z, hi, rfl, rfl, H⟩ := hrel
    by_cases hlt : i < n
    · have hlt' : (i : Int) < (n : Int) := by omega
      obtain ⟨r, hr⟩ : ∃ r, rv[i]? = some r := ⟨_, List.getElem?_eq_getElem (by have := Hl.out; omega)⟩
      obtain ⟨b, o, rfl, d0, d1, _⟩ := HR.out.at hr
      have hs : high (rsO (rv.take (i + 1))) = if z < (r.lv : Int) then (r.lv : Int) else z := by rw [rsO_take _ _ hr, high_snoc, H.out]
      by_cases hk : z < (r.lv : Int)
      · rw [if_pos hk] at hs
        have HS := Lib.hid hs
        clear hs hr
        go_wp2_with fail
        go_round
        case rel => exact ⟨i + 1, _, by omega, by go_num, rfl, Lib.hid HS.out.symm⟩
        case measure => simp [intOf]; omega
      · rw [if_neg hk] at hs
        have HS := Lib.hid hs
        clear hs hr
        go_wp2_with fail
        go_round
        case rel => exact ⟨i + 1, _, by omega, by go_num, rfl, Lib.hid HS.out.symm⟩
        case measure => simp [intOf]; omega
    · obtain rfl : n = i := by omega
      go_wp2_with fail
      go_ret
      refine ⟨?_, FB.out⟩
      rw [H.out, List.take_of_length_le (by rw [Hl.out]; exact Nat.le_refl _)]
      rfl
theorem at_any {P : Nat → Prop} {w : World} {ra : Option Addr} {rc : Nat} {rv : List RunV} (B M bl : Nat) (ba : Option Addr) (bn bc : Nat) (lev : Nat) (h : RefS w P ra rc rv) (hn : rv.length ≤ 100000) :
    Calls Try.prog 114 #[rtv B M bl ba bn bc ra rv.length rc, .int .i64 (lev : Int)] w fun e w' => e = .returned (.int .i64 ((lvl (rsO rv) lev).length : Int)) ∧ Fr F0 w w' := by
  have HB0 := Blk.new w 51 [.int .i64 (B : Int), .int .i64 (M : Int), .int .i64 (bl : Int), .slice ba bn bc, .slice ra rv.length rc]
  have x4 := HB0.cell (i := 4) rfl
  have HR := Lib.hid (h.fr0 ((Fr.refl F0 _).alloc (.cells #[.int .i64 (B : Int), .int .i64 (M : Int), .int .i64 (bl : Int), .slice ba bn bc, .slice ra rv.length rc] 51)))
  have FB : Hid (Fr F0 w _) := Lib.hid ((Fr.refl F0 w).alloc (.cells #[.int .i64 (B : Int), .int .i64 (M : Int), .int .i64 (bl : Int), .slice ba bn bc, .slice ra rv.length rc] 51))
  clear h HB0
  obtain ⟨n, hN⟩ : ∃ n, n = rv.length := ⟨_, rfl⟩
  rw [← hN] at x4 HR FB hn
  unfold rtv
  rw [← hN]
  have Hl := Lib.hid hN
  clear hN
  go_enter Try.func114, Try.ntmps114
  go_wp2_with fail
  go_loop [5, 6] (fun s5 s6 => ∃ (i k : Nat), i ≤ n ∧ k ≤ i ∧ s6 = .int .i64 (i : Int) ∧ s5 = .int .i64 (k : Int) ∧ Hid (k = (lvl (rsO (rv.take i)) lev).length)) (fun _ s6 => n - (intOf s6).toNat)
  case atStart => exact ⟨0, 0, Nat.zero_le _, Nat.le_refl _, rfl, rfl, Lib.hid rfl⟩
  case round =>
    obtain ⟨i, k, hi, hki, rfl, rfl, H⟩ := hrel
    by_cases hlt : i < n
    · have hlt' : (i : Int) < (n : Int) := by omega
      obtain ⟨r, hr⟩ : ∃ r, rv[i]? = some r := ⟨_, List.getElem?_eq_getElem (by have := Hl.out; omega)⟩
      obtain ⟨b, o, rfl, d0, d1, _⟩ := HR.out.at hr
      have hs : (lvl (rsO (rv.take (i + 1))) lev).length = k + if lev = r.lv then 1 else 0 := by
        rw [rsO_take _ _ hr, lvl_app, List.length_append, ← H.out, lvl_one]
        split <;> rfl
      by_cases hk : lev = r.lv
      · rw [if_pos hk] at hs
        have HS := Lib.hid hs
        have hb : ((r.lv : Int) == (lev : Int)) = true := by simp [hk]
        have hb2 : (r.lv == lev) = true := by simp [hk]
        have HK := Lib.hid hk
        clear hs hr hk
        go_wp2_with fail
        go_round
        case rel => exact ⟨i + 1, k + 1, by omega, by omega, by go_num, by go_num, Lib.hid HS.out.symm⟩
        case measure => simp [intOf]; omega
      · rw [if_neg hk] at hs
        have HS := Lib.hid hs
        have hb : ((r.lv : Int) == (lev : Int)) = false := by simp; omega
        have hb2 : (r.lv == lev) = false := by simp; omega
        clear hs hr
        go_wp2_with fail
        go_round
        case rel => exact ⟨i + 1, k, by omega, by omega, by go_num, rfl, Lib.hid HS.out.symm⟩
        case measure => simp [intOf]; omega
    · obtain rfl : n = i := by omega
      go_wp2_with fail
      go_ret
      refine ⟨?_, FB.out⟩
      rw [H.out, List.take_of_length_le (by rw [Hl.out]; exact Nat.le_refl _)]
      rfl
end Go.Proofs.Ytkmnnfflibamnaa
/- Buffer trees: Entries, full. -/
namespace Go.Proofs.Ytkmnnfflibamnaa
open Go.RowKit
attribute [local go_sem ↓] Go.wp_at_zero Go.wp_at_succ
def totR (rs : Rs) : Nat := (rs.map (fun r => r.2.length)).sum
theorem totR_app (a b : Rs) : totR (a ++ b) = totR a + totR b := by unfold totR; rw [List.map_append, List.sum_append]
theorem totR_one (k : Nat) (l : List En) : totR [(k, l)] = l.length := by show l.length + 0 = _; omega
theorem Entries_any {P : Nat → Prop} {w : World} {ra : Option Addr} {rc : Nat} {rv : List RunV} (B M bl : Nat) (ba : Option Addr) (bn bc : Nat) (h : RefS w P ra rc rv) (hn : rv.length ≤ 100000) (hbn : bn ≤ 100000) (ht : totR (rsO rv) ≤ 1000000) :
    Calls Try.prog 76 #[rtv B M bl ba bn bc ra rv.length rc] w fun e w' => e = .returned (.int .i64 ((bn + totR (rsO rv) : Nat) : Int)) ∧ Fr F0 w w' := by
  have HB0 := Blk.new w 51 [.int .i64 (B : Int), .int .i64 (M : Int), .int .i64 (bl : Int), .slice ba bn bc, .slice ra rv.length rc]
  have x4 := HB0.cell (i := 4) rfl
  have x3 := HB0.cell (i := 3) rfl
  have HR := Lib.hid (h.fr0 ((Fr.refl F0 _).alloc (.cells #[.int .i64 (B : Int), .int .i64 (M : Int), .int .i64 (bl : Int), .slice ba bn bc, .slice ra rv.length rc] 51)))
  have FB : Hid (Fr F0 w _) := Lib.hid ((Fr.refl F0 w).alloc (.cells #[.int .i64 (B : Int), .int .i64 (M : Int), .int .i64 (bl : Int), .slice ba bn bc, .slice ra rv.length rc] 51))
  clear h HB0
  obtain ⟨n, hN⟩ : ∃ n, n = rv.length := ⟨_, rfl⟩
  rw [← hN] at x3 x4 HR FB hn
  unfold rtv
  rw [← hN]
  have Hl := Lib.hid hN
  have Ht := Lib.hid ht
  clear hN ht
  go_enter Try.func76, Try.ntmps76
  go_wp2_with fail
  go_loop [3, 4] (fun s3 s4 => ∃ (i k : Nat), i ≤ n ∧ s4 = .int .i64 (i : Int) ∧ s3 = .int .i64 (k : Int) ∧ Hid (k = bn + totR (rsO (rv.take i)))) (fun _ s4 => n - (intOf s4).toNat)
  case atStart => exact ⟨0, bn, Nat.zero_le _, rfl, rfl, Lib.hid rfl⟩
  case round =>
    obtain ⟨i, k, hi, rfl, rfl, H⟩ := hrel
    by_cases hlt : i < n
    · have hlt' : (i : Int) < (n : Int) := by omega
      obtain ⟨r, hr⟩ : ∃ r, rv[i]? = some r := ⟨_, List.getElem?_eq_getElem (by have := Hl.out; omega)⟩
      obtain ⟨b, o, rfl, d0, d1, _⟩ := HR.out.at hr
      have hs : bn + totR (rsO (rv.take (i + 1))) = k + r.l.length := by
        rw [rsO_take _ _ hr, totR_app, totR_one, H.out]; omega
      have hle : k + r.l.length ≤ 1100000 := by
        have e : totR (rsO rv) = totR (rsO (rv.take (i + 1))) + totR (rsO (rv.drop (i + 1))) := by
          rw [← totR_app]; unfold rsO; rw [← List.map_append, List.take_append_drop]
        have := Ht.out
        omega
      have HS := Lib.hid hs
      obtain ⟨m, hm⟩ : ∃ m, m = r.l.length := ⟨_, rfl⟩
      rw [← hm] at d1 hle HS
      clear hs hr hm
      go_wp2_with fail
      go_round
      case rel => exact ⟨i + 1, k + m, by omega, by go_num, by go_num, Lib.hid HS.out.symm⟩
      case measure => simp [intOf]; omega
    · obtain rfl : n = i := by omega
      go_wp2_with fail
      go_ret
      refine ⟨?_, FB.out⟩
      rw [H.out, List.take_of_length_le (by rw [Hl.out]; exact Nat.le_refl _)]
      rfl
def fullI (F : Nat) (rs : Rs) : Int := match fullR F rs with | some i => (i : Int) | none => -1
theorem fullI_hit {F : Nat} {rs : Rs} {i : Nat} (hF : 0 < F) (hi : F ≤ (lvl rs i).length) (hlo : ∀ j, j < i → (lvl rs j).length < F) : fullI F rs = (i : Int) := by
  have hh := high_lvl (rs := rs) (i := i) (by omega)
  unfold fullI fullR
  rcases find_range (p := fun i => decide (F ≤ (lvl rs i).length)) (high rs + 1).toNat with ⟨e, hn⟩ | ⟨k, e, k1, k2, k3⟩
  · have := hn i (by omega)
    simp at this; omega
  · rw [e]
    show (k : Int) = _
    congr 1
    rcases Nat.lt_trichotomy i k with c | c | c
    · have := k3 i c; simp at this; omega
    · exact c.symm
    · have := hlo k c
      simp at k2; omega
theorem fullI_none {F : Nat} {rs : Rs} (hlo : ∀ j : Nat, (j : Int) ≤ high rs → (lvl rs j).length < F) : fullI F rs = -1 := by
  unfold fullI fullR
  rcases find_range (p := fun i => decide (F ≤ (lvl rs i).length)) (high rs + 1).toNat with ⟨e, hn⟩ | ⟨k, e, k1, k2, k3⟩
  · rw [e]
  · have := hlo k (by omega)
    simp at k2; omega
theorem full_any {P : Nat → Prop} {w : World} {ra : Option Addr} {rc : Nat} {rv : List RunV} (B M bl : Nat) (ba : Option Addr) (bn bc : Nat) (h : RefS w P ra rc rv) (hn : rv.length ≤ 100000) (hb : 1 ≤ B ∧ B ≤ 64) (hm : 2 * B ≤ M ∧ M ≤ 1000) (hh : high (rsO rv) ≤ 100000) :
    Calls Try.prog 102 #[rtv B M bl ba bn bc ra rv.length rc] w fun e w' => e = .returned (.int .i64 (fullI (fanN B M) (rsO rv))) ∧ Fr F0 w w' := by
  have HB0 := Blk.new w 51 [.int .i64 (B : Int), .int .i64 (M : Int), .int .i64 (bl : Int), .slice ba bn bc, .slice ra rv.length rc]
  have HX := Lib.hid HB0
  have x0 := HB0.cell (i := 0) rfl
  have x1 := HB0.cell (i := 1) rfl
  have x2 := HB0.cell (i := 2) rfl
  have x3 := HB0.cell (i := 3) rfl
  have x4 := HB0.cell (i := 4) rfl
  have FB : Hid (Fr F0 w _) := Lib.hid ((Fr.refl F0 w).alloc (.cells #[.int .i64 (B : Int), .int .i64 (M : Int), .int .i64 (bl : Int), .slice ba bn bc, .slice ra rv.length rc] 51))
  have HH : Hid (∀ W, Fr F0 w W → _) := Lib.hid (fun W F => highest_any (w := W) B M bl ba bn bc (h.fr0 F) hn)
  have HA : Hid (∀ W (lev : Nat), Fr F0 w W → _) := Lib.hid (fun W lev F => at_any (w := W) B M bl ba bn bc lev (h.fr0 F) hn)
  have HF := Lib.hid (fun W => Fan_any B M W hb hm)
  have hFan : 2 ≤ fanN B M := Nat.le_max_left _ _
  clear h HB0
  obtain ⟨F, hFd⟩ : ∃ F, F = fanN B M := ⟨_, rfl⟩
  rw [← hFd] at HF hFan
  rw [← hFd]
  clear hFd
  obtain ⟨rs, hrs⟩ : ∃ rs, rs = rsO rv := ⟨_, rfl⟩
  rw [← hrs] at HH HA hh
  rw [← hrs]
  clear hrs
  obtain ⟨z, hz⟩ : ∃ z, z = high rs := ⟨_, rfl⟩
  rw [← hz] at HH hh
  have Hz := Lib.hid hz
  have hz1 : -1 ≤ z := by rw [hz]; exact (high_spec rs).2.2
  clear hz
  obtain ⟨n, hN⟩ : ∃ n, n = rv.length := ⟨_, rfl⟩
  unfold rtv at HH HA ⊢
  rw [← hN] at x0 x1 x2 x3 x4 HH HA FB HX ⊢
  clear hN
  go_enter Try.func102, Try.ntmps102
  go_wp2_with (go_at_call 78; refine (HH.out _ FB.out).mono ?_; rintro e w2 ⟨rfl, F2⟩; have X2 := Lib.hid (And.intro (HX.out.fr F2 id) (FB.out.trans0 F2)); clear F2)
  go_loopw [4] (fun s4 wr => ∃ j : Nat, (j : Int) ≤ z + 1 ∧ s4 = .int .i64 (j : Int) ∧ Hid ((∀ i, i < j → (lvl rs i).length < F) ∧ Blk wr w.heap.size 51 [.int .i64 (B : Int), .int .i64 (M : Int), .int .i64 (bl : Int), .slice ba bn bc, .slice ra n rc] ∧ Fr F0 w wr)) (fun s4 _ => (z + 1 - intOf s4).toNat)
  case atStart => exact ⟨0, by omega, rfl, Lib.hid ⟨fun i h => absurd h (Nat.not_lt_zero _), X2.out⟩⟩
  case round =>
    obtain ⟨j, hj, rfl, H⟩ := hrel
    by_cases hlt : (j : Int) ≤ z
    · have y0 := H.out.2.1.cell (i := 0) rfl
      have y1 := H.out.2.1.cell (i := 1) rfl
      have y2 := H.out.2.1.cell (i := 2) rfl
      have y3 := H.out.2.1.cell (i := 3) rfl
      have y4 := H.out.2.1.cell (i := 4) rfl
      clear x0 x1 x2 x3 x4
      obtain ⟨k, hk⟩ : ∃ k, k = (lvl rs j).length := ⟨_, rfl⟩
      have HA2 : Hid (∀ W, Fr F0 w W → Calls Try.prog 114 #[.agg #[.int .i64 (B : Int), .int .i64 (M : Int), .int .i64 (bl : Int), .slice ba bn bc, .slice ra n rc], .int .i64 (j : Int)] W fun e w' => e = .returned (.int .i64 (k : Int)) ∧ Fr F0 W w') := Lib.hid (fun W FW => by rw [hk]; exact HA.out W j FW)
      have Hk := Lib.hid hk
      clear hk HA
      by_cases hFk : F ≤ k
      · have hFk' : (F : Int) ≤ (k : Int) := by omega
        go_wp2_with fail
        go_region_held3 (fun w' => w'.cell? ⟨w.heap.size, 0, none⟩ = some (.int .i64 (B : Int)) ∧ w'.cell? ⟨w.heap.size, 1, none⟩ = some (.int .i64 (M : Int)) ∧ w'.cell? ⟨w.heap.size, 2, none⟩ = some (.int .i64 (bl : Int)) ∧ w'.cell? ⟨w.heap.size, 3, none⟩ = some (.slice ba bn bc) ∧ w'.cell? ⟨w.heap.size, 4, none⟩ = some (.slice ra n rc)) (first | exact ⟨z0, z1, z2, z3, z4⟩ | go_keep)
          (first | (go_at_call 114; refine (HA2.out _ H.out.2.2.drew).mono ?_; rintro e w2 ⟨rfl, F2⟩; have z0 := F2.cell y0 id; have z1 := F2.cell y1 id; have z2 := F2.cell y2 id; have z3 := F2.cell y3 id; have z4 := F2.cell y4 id; have X3 := Lib.hid (And.intro (H.out.2.1.drew.fr F2 id) (H.out.2.2.drew.trans0 F2)); clear F2) | (go_at_call 46; refine (HF.out _).mono ?_; rintro e w3 ⟨rfl, rfl⟩) | fail)
        all_goals (
          go_wp2_with fail
          go_ret
          refine ⟨?_, X3.out.2⟩
          rw [fullI_hit (by omega) (by rw [← Hk.out]; exact hFk) H.out.1]
          rfl)
      · have hFk' : ¬ (F : Int) ≤ (k : Int) := by omega
        go_wp2_with fail
        go_region_held3 (fun w' => w'.cell? ⟨w.heap.size, 0, none⟩ = some (.int .i64 (B : Int)) ∧ w'.cell? ⟨w.heap.size, 1, none⟩ = some (.int .i64 (M : Int)) ∧ w'.cell? ⟨w.heap.size, 2, none⟩ = some (.int .i64 (bl : Int)) ∧ w'.cell? ⟨w.heap.size, 3, none⟩ = some (.slice ba bn bc) ∧ w'.cell? ⟨w.heap.size, 4, none⟩ = some (.slice ra n rc)) (first | exact ⟨z0, z1, z2, z3, z4⟩ | go_keep)
          (first | (go_at_call 114; refine (HA2.out _ H.out.2.2.drew).mono ?_; rintro e w2 ⟨rfl, F2⟩; have z0 := F2.cell y0 id; have z1 := F2.cell y1 id; have z2 := F2.cell y2 id; have z3 := F2.cell y3 id; have z4 := F2.cell y4 id; have X3 := Lib.hid (And.intro (H.out.2.1.drew.fr F2 id) (H.out.2.2.drew.trans0 F2)); clear F2) | (go_at_call 46; refine (HF.out _).mono ?_; rintro e w3 ⟨rfl, rfl⟩) | fail)
        all_goals (
          go_wp2_with fail
          go_roundw
          case rel => exact ⟨j + 1, by omega, by go_num, Lib.hid ⟨fun i hi => by
            rcases Nat.lt_or_ge i j with c | c
            · exact H.out.1 i c
            · have : i = j := by omega
              subst this
              rw [← Hk.out]; omega, X3.out⟩⟩
          case measure => simp [intOf]; omega)
    · have hlt' : ¬ (j : Int) ≤ z := hlt
      go_wp2_with fail
      go_ret
      refine ⟨?_, H.out.2.2⟩
      rw [fullI_none (fun i hi => H.out.1 i (by have := Hz.out; omega))]
      rfl
end Go.Proofs.Ytkmnnfflibamnaa
