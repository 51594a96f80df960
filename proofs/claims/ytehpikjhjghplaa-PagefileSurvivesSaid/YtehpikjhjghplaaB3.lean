/- Contains; cutting; the program's parse. -/
import Derived.Test.YtehpikjhjghplaaB2
import Derived.Test.YtehpikjhjghplaaSlIndex
import Derived.Test.YtehpikjhjghplaaCom10

namespace Go.Proofs.Ytehpikjhjghplaa
open Go.RowKit
attribute [local go_sem ↓] Go.wp_at_zero Go.wp_at_succ

section
variable {P : Program} {t T : TypeId} {z : Value} {bytes : Nat}
theorem run_cutLH (E : Elem1 P t T z bytes) (w : World) (a : Option Addr) {n c k h : Nat} (hk : k ≤ h) (hc : h ≤ c) {x y : Int} (hx : x = (k : Int)) (hy : y = (h : Int)) :
    (Instr.sliceAt t (.slice a n c) (some (.int .i64 x)) (some (.int .i64 y)) none).run P w = .ok (.slice (cutA a c k) (h - k) (c - k)) w := by
  obtain ⟨E1, E2, _⟩ := E
  obtain ⟨i0, hi, _, hz1, _⟩ := info_parts E2
  subst hx
  subst hy
  have ht : P.underlying t = some (.slice (P.elem t)) := by simp [Program.elem, E1]
  have hel : P.elem t = T := by simp [Program.elem, E1]
  have hsz : (sizeOf T).run P w = .ok 1 w := by simp [sizeOf, typeInfo, hi, hz1]
  rw [run_sliceAt_slice _ _ _ _ _ _ ht, run_slice_lh w t a n c ht .i64 .i64 k h (by omega) (by omega) (by omega), hel, hsz]
  simp [Result.andThen, sliced, cutA]
end
theorem Rd.cutLH {w : World} {a : Option Addr} {n c : Nat} {vs : List Value} (h : Rd w a n vs) (hc : n ≤ c) {k m : Nat} (hm : k + m ≤ n) : Rd w (cutA a c k) m ((vs.drop k).take m) :=
  (h.cut hc (k := k) (r := n - k) (by omega)).take (by omega)
theorem byt_drop (bs : List UInt8) (k : Nat) : (byt bs).drop k = byt (bs.drop k) := by simp [byt]
theorem byt_take (bs : List UInt8) (k : Nat) : (byt bs).take k = byt (bs.take k) := by simp [byt]
theorem Contains_any (a : Option Addr) (m c : Nat) (ps : List Int) (x : Int) (w : World) (hp : Rd w a m (ints ps)) :
    Calls Try.prog 78 #[.slice a m c, .int .i64 x] w fun e w' => e = .returned (.bool (ps.any (· == x))) ∧ w = w' := by
  have h := Index_any a m c ps x w hp
  cases hb : ps.any (· == x) with
  | true =>
    have e : idxI ps x = ((ps.findIdx (· == x) : Nat) : Int) := by unfold idxI; rw [if_pos hb]
    rw [e] at h
    generalize ps.findIdx (· == x) = j at *
    clear hb e
    go_enter Try.func78, Try.ntmps78
    go_wp2_with (refine h.mono ?_; rintro e w' ⟨rfl, rfl⟩)
    go_ret
    exact ⟨rfl, rfl⟩
  | false =>
    have e : idxI ps x = -1 := by unfold idxI; rw [if_neg (by rw [hb]; decide)]
    rw [e] at h
    clear hb e
    go_enter Try.func78, Try.ntmps78
    go_wp2_with (refine h.mono ?_; rintro e w' ⟨rfl, rfl⟩)
    go_ret
    exact ⟨rfl, rfl⟩
theorem qsame {P : Program} {f : FuncId} {args : Array Value} {w : World} {n : Nat} {v : Value} (h : Calls P f args (w.drewN n) fun e w' => e = .returned v ∧ w.drewN n = w') :
    Calls P f args (w.drewN n) fun e w'' => e = .returned v ∧ ∃ m, w'' = w.drewN m := h.mono fun _ _ ⟨he, hm⟩ => ⟨he, n, hm.symm⟩
def PYes (bs : List UInt8) (x page : Nat) (a : Option Addr) (w : World) (e : Ending) (w' : World) : Prop :=
  ∃ v0 v1, e = .returned (.tuple #[.agg #[v0, v1, .int .i64 (recAt bs x page).fin], .bool true]) ∧ RecM w' (fun k => k < w'.heap.size ∧ (onBlk a k ∨ w.heap.size ≤ k)) (v0, v1) (recAt bs x page) ∧ Fr F0 w w'
def PNo (w : World) (e : Ending) (w' : World) : Prop := ∃ a0 n0 c0 a1 n1 c1 z, e = .returned (.tuple #[.agg #[.slice a0 n0 c0, .slice a1 n1 c1, .int .i64 z], .bool false]) ∧ Fr F0 w w'
set_option maxHeartbeats 4000000 in
theorem parse_short (a : Option Addr) (n c x page : Nat) (w : World) (hx : x ≤ n) (h8 : n < x + 8) :
    Calls Try.prog 70 #[.slice a n c, .int .i64 x, .int .i64 page] w (PNo w) := by
  have s1 : ∀ w, (Instr.sliceAt 22 (.slice a n c) (some (.int .i64 (x : Int))) none none).run Try.prog w = .ok (.slice (cutA a c x) (n - x) (c - x)) w := fun w => run_cutLo E5 w a (by omega) rfl
  have d1 : decide (((n - x : Nat) : Int) < 8) = true := by simp; omega
  go_enter Try.func70, Try.ntmps70
  go_wp2_with fail
  refine bodyPost_ret (v := .tuple #[.agg #[.slice none 0 0, .slice none 0 0, .int .i64 0], .bool false]) (by simp [results, Try.results70, go_sem]) rfl ?_
  refine ⟨_, _, _, _, _, _, _, rfl, ?_⟩
  repeat (first | exact Fr.refl _ _ | refine Fr.alloc ?_ _ | refine Fr.drew ?_ | refine Fr.setCell ?_ (fun h => absurd h (by simp)) _)
theorem Fr.set0 {w w1 : World} {p : Addr} (h : Fr F0 w w1) (hp : w.heap.size ≤ p.block) (u : Value) : Fr F0 w (w1.setCell p u) := Fr.setCell h (fun h0 => absurd h0 (by omega)) u
def PPost (bs : List UInt8) (x page : Nat) (a : Option Addr) (w : World) (e : Ending) (w' : World) : Prop := (recOk bs x page = true ∧ PYes bs x page a w e w') ∨ (recOk bs x page = false ∧ PNo w e w')
theorem u32_id {x : Nat} (h : x < 4294967296) : IntKind.u32.wrap (x : Int) = (x : Int) := by rw [IntKind.wrap_u32]; omega
set_option maxRecDepth 100000 in
set_option maxHeartbeats 4000000 in
theorem parse_any (a : Option Addr) (n c x page : Nat) (bs : List UInt8) (w : World) (hr : Rd w a n (byt bs)) (hc : n ≤ c) (h8 : x + 8 ≤ n) (hn : n ≤ 2000000) (hp : page ≤ 256) :
    Calls Try.prog 70 #[.slice a n c, .int .i64 x, .int .i64 page] w (PPost bs x page a w) := by
  have hbl : bs.length = n := by simpa using hr.len
  obtain ⟨r, hrn⟩ : ∃ r, n = x + r := ⟨n - x, by omega⟩
  have s1 : ∀ w, (Instr.sliceAt 22 (.slice a n c) (some (.int .i64 (x : Int))) none none).run Try.prog w = .ok (.slice (cutA a c x) r (c - x)) w := fun w => run_cutLo E5 w a hrn rfl
  have hR : Rd w (cutA a c x) r (byt (bs.drop x)) := by have h := hr.cut hc hrn; rwa [byt_drop] at h
  have hal : 0 < n → ∀ k, onBlk a k → k < w.heap.size := fun h => hr.lt h
  obtain ⟨m, hm⟩ : ∃ m, m = wd bs x := ⟨_, rfl⟩
  have hm32 : m < 4294967296 := by rw [hm]; exact wd_lt _ _
  have hnum := fun (W : World) (h : Rd W (cutA a c x) r (byt (bs.drop x))) => number_any (cutA a c x) r (c - x) (bs.drop x) W h (by omega)
  rw [wd_drop, Nat.add_zero, ← hm] at hnum
  obtain ⟨y, hy⟩ : ∃ y, y = m * (4 + page) := ⟨_, rfl⟩
  have hy1 : y ≤ 1116691496700 := by rw [hy]; have h := Nat.mul_le_mul (show m ≤ 4294967295 by omega) (show 4 + page ≤ 260 by omega); omega
  have hz : recSz bs x page = 4 + y := by unfold recSz; rw [← hm, hy]
  have hfit : fitB bs x page = (decide (m ≤ 1000) && decide (y + 8 ≤ r)) := by
    unfold fitB
    rw [hz, ← hm, hbl, Bool.eq_iff_iff]
    simp only [Bool.and_eq_true, decide_eq_true_eq]
    omega
  have hr8 : 8 ≤ r := by omega
  have hr9 : r ≤ 2000000 := by omega
  have hx9 : x ≤ 2000000 := by omega
  have Wy : Hid (wrap64 ((m : Int) * (4 + (page : Int))) = (y : Int)) := Lib.hid (by
    have e : (m : Int) * (4 + (page : Int)) = (y : Int) := by rw [hy]; simp
    rw [e]; exact IntWalk.wrap64_in _ (by omega))
  have Hr := Lib.hid hr
  have HR := Lib.hid hR
  have Hnum := Lib.hid hnum
  have Hal := Lib.hid hal
  have Hm := Lib.hid hm
  have Hy := Lib.hid hy
  have Hz := Lib.hid hz
  have Hbl := Lib.hid hbl
  have Hrn := Lib.hid hrn
  have Hc := Lib.hid hc
  have cfit : fitB bs x page = false → recOk bs x page = false := fun h => by unfold recOk; rw [h]; rfl
  clear hr hR hnum hal hm hy hz hbl hrn hc h8 hn
  have d1 : decide ((r : Int) < 8) = false := by simp; omega
  have F1 : Fr F0 w ((w.alloc (.cells #[.slice none 0 0, .slice none 0 0, .int .i64 0] 98)).alloc (.cells #[.slice none 0 0, .slice none 0 0, .int .i64 0] 98)) := ((Fr.refl _ _).alloc _).alloc _
  have F1' := Lib.hid F1
  by_cases hm1 : 1000 < m
  · have hno : Hid (recOk bs x page = false) := Lib.hid (cfit (by rw [hfit]; simp; omega))
    have d2 : decide ((1000 : Int) < (m : Int)) = true := by simp; omega
    clear hfit cfit F1
    have wy := Wy.out
    go_enter Try.func70, Try.ntmps70
    go_wp2_with fail
    refine (Hnum.out _ (HR.out.fr0 F1'.out)).mono ?_; rintro e w1 ⟨rfl, rfl⟩
    go_wp2_with fail
    go_quiet (fail)
    go_wp2_with fail
    refine bodyPost_ret (v := .tuple #[.agg #[.slice none 0 0, .slice none 0 0, .int .i64 0], .bool false]) (by simp [results, Try.results70, go_sem]) rfl (.inr ⟨hno.out, _, _, _, _, _, _, _, rfl, ?_⟩)
    exact (((F1'.out.drewN _).set0 (p := ⟨w.heap.size, 0, none⟩) (Nat.le_refl _) _).set0 (p := ⟨w.heap.size, 1, none⟩) (Nat.le_refl _) _).set0 (p := ⟨w.heap.size, 2, none⟩) (Nat.le_refl _) _
  have d2 : decide ((1000 : Int) < (m : Int)) = false := by simp; omega
  have hm2 : m ≤ 1000 := by omega
  clear hm1
  have hy2 : y ≤ 260000 := by rw [Hy.out]; have h := Nat.mul_le_mul hm2 (show 4 + page ≤ 260 by omega); omega
  have v1 : IntKind.i64.wrap (4 + (y : Int) + 4) = 4 + (y : Int) + 4 := wI (by omega) (by omega)
  by_cases hf : y + 8 ≤ r
  · have d3 : decide ((r : Int) < 4 + (y : Int) + 4) = false := by simp; omega
    have Hfit : Hid (fitB bs x page = true) := Lib.hid (by rw [hfit]; simp; omega)
    have HRa : Hid (Rd w (cutA (cutA a c x) (c - x) 0) (4 + y) (byt ((bs.drop x).take (4 + y)))) := Lib.hid (by have h := HR.out.cutHi (c := c - x) (by have := Hc.out; have := Hrn.out; omega) (k := 4 + y) (by omega); rwa [byt_take] at h)
    have HRb : Hid (Rd w (cutA (cutA a c x) (c - x) (4 + y)) (r - (4 + y)) (byt ((bs.drop x).drop (4 + y)))) := Lib.hid (by have h := HR.out.cut (c := c - x) (by have := Hc.out; have := Hrn.out; omega) (k := 4 + y) (r := r - (4 + y)) (by omega); rwa [byt_drop] at h)
    have s2 : ∀ w, (Instr.sliceAt 22 (.slice (cutA a c x) r (c - x)) none (some (.int .i64 (4 + (y : Int)))) none).run Try.prog w = .ok (.slice (cutA (cutA a c x) (c - x) 0) (4 + y) (c - x)) w := fun w => run_cutHi E5 w _ (by have := Hc.out; have := Hrn.out; omega) (by omega)
    have s3 : ∀ w, (Instr.sliceAt 22 (.slice (cutA a c x) r (c - x)) (some (.int .i64 (4 + (y : Int)))) none none).run Try.prog w = .ok (.slice (cutA (cutA a c x) (c - x) (4 + y)) (r - (4 + y)) (c - x - (4 + y))) w := fun w => run_cutLo E5 w _ (by omega) (by omega)
    obtain ⟨U, hU⟩ : ∃ U, U = fnv ((bs.drop x).take (4 + y)) := ⟨_, rfl⟩
    obtain ⟨V, hV⟩ : ∃ V, V = wd bs (x + (4 + y)) := ⟨_, rfl⟩
    have hsum := fun (W : World) (h : Rd W (cutA (cutA a c x) (c - x) 0) (4 + y) (byt ((bs.drop x).take (4 + y)))) => sum_any (cutA (cutA a c x) (c - x) 0) (4 + y) (c - x) _ W h
    rw [← hU] at hsum
    have hnum2 := fun (W : World) (h : Rd W (cutA (cutA a c x) (c - x) (4 + y)) (r - (4 + y)) (byt ((bs.drop x).drop (4 + y)))) => number_any (cutA (cutA a c x) (c - x) (4 + y)) (r - (4 + y)) (c - x - (4 + y)) _ W h (by omega)
    rw [wd_drop, wd_drop, Nat.add_zero, ← hV] at hnum2
    have u1 : IntKind.u32.wrap (V : Int) = (V : Int) := u32_id (by rw [hV]; exact wd_lt _ _)
    have hsb : sumB bs x page = decide (U = V) := by unfold sumB; rw [Hz.out, ← hU, show x + (4 + y) = x + (4 + y) from rfl, ← hV]
    have Hsum := Lib.hid hsum
    have Hnum2 := Lib.hid hnum2
    have Hsb := Lib.hid hsb
    clear hsum hnum2 hsb hU hV cfit hfit F1
    have wy := Wy.out
    by_cases hUV : U = V
    · have d4 : ((U : Int) != (V : Int)) = false := by simp; omega
      have Hsum2 : Hid (sumB bs x page = true) := Lib.hid (by rw [Hsb.out]; simp [hUV])
      obtain ⟨ps, hps⟩ : ∃ ps, ps = recPs bs x page := ⟨_, rfl⟩
      obtain ⟨ds, hds⟩ : ∃ ds, ds = recDs bs x page := ⟨_, rfl⟩
      have hok : Hid (recOk bs x page = pgsB ps) := Lib.hid (by unfold recOk; rw [Hfit.out, Hsum2.out, hps]; simp)
      have psl : Hid (ps.length = m) := Lib.hid (by rw [hps]; unfold recPs; simp [Hm.out])
      have dsl : Hid (ds.length = m) := Lib.hid (by rw [hds]; unfold recDs; simp [Hm.out])
      have hpg : Hid (∀ k, k < m → ps[k]? = some (wd bs (x + (4 + k * (4 + page))))) := Lib.hid (fun k hk => by rw [hps]; unfold recPs; rw [List.getElem?_map, List.getElem?_range (by rw [← Hm.out]; exact hk)]; simp [Nat.add_assoc])
      have hdg : Hid (∀ k, k < m → ds[k]? = some ((bs.drop (x + (4 + k * (4 + page) + 4))).take page)) := Lib.hid (fun k hk => by rw [hds]; unfold recDs; rw [List.getElem?_map, List.getElem?_range (by rw [← Hm.out]; exact hk)]; simp only [Option.map_some]; rw [show x + 8 + k * (4 + page) = x + (4 + k * (4 + page) + 4) by omega])
      have hrec : Hid (recAt bs x page = ⟨ps, ds, x + (4 + y) + 4⟩) := Lib.hid (by unfold recAt; rw [← hps, ← hds, Hz.out])
      have B1 : Hid (Blk ((w.alloc (.cells #[.slice none 0 0, .slice none 0 0, .int .i64 0] 98)).alloc (.cells #[.slice none 0 0, .slice none 0 0, .int .i64 0] 98)) (w.heap.size + 1) 98 [.slice none 0 0, .slice none 0 0, .int .i64 0]) := Lib.hid (by
        have h := Blk.new (w.alloc (.cells #[.slice none 0 0, .slice none 0 0, .int .i64 0] 98)) 98 [.slice none 0 0, .slice none 0 0, .int .i64 0]
        rwa [size_alloc] at h)
      have B2 : Hid (Blk ((w.alloc (.cells #[.slice none 0 0, .slice none 0 0, .int .i64 0] 98)).alloc (.cells #[.slice none 0 0, .slice none 0 0, .int .i64 0] 98)) w.heap.size 98 [.slice none 0 0, .slice none 0 0, .int .i64 0]) := Lib.hid ((Blk.new w 98 [.slice none 0 0, .slice none 0 0, .int .i64 0]).alloc _)
      clear hps hds hUV
      have hw2 : Hid (((w.alloc (.cells #[.slice none 0 0, .slice none 0 0, .int .i64 0] 98)).alloc (.cells #[.slice none 0 0, .slice none 0 0, .int .i64 0] 98)).heap.size = w.heap.size + 2) := Lib.hid (by simp)
      go_enter Try.func70, Try.ntmps70
      go_wp2_with fail
      refine (Hnum.out _ (HR.out.fr0 F1'.out)).mono ?_; rintro e w1 ⟨rfl, rfl⟩
      go_wp2_with fail
      go_quiet (first | (go_at_call 68; exact qsame (Hsum.out _ (HRa.out.fr0 (F1'.out.drewN _)))) | (go_at_call 77; exact qsame (Hnum2.out _ (HRb.out.fr0 (F1'.out.drewN _)))))
      rw [Wy.out]
      clear d1 d2 d3 d4 u1 v1 s1 s2 s3 wy
      have F2 := Lib.hid (F1'.out.drewN nq)
      replace B1 : Hid (Blk _ _ _ _) := Lib.hid (B1.out.fr ((Fr.refl F0 _).drewN nq) id)
      replace B2 : Hid (Blk _ _ _ _) := Lib.hid (B2.out.fr ((Fr.refl F0 _).drewN nq) id)
      have hsz2 : Hid ((((w.alloc (.cells #[.slice none 0 0, .slice none 0 0, .int .i64 0] 98)).alloc (.cells #[.slice none 0 0, .slice none 0 0, .int .i64 0] 98)).drewN nq).heap.size = w.heap.size + 2) := Lib.hid hw2.out
      generalize (((w.alloc (.cells #[.slice none 0 0, .slice none 0 0, .int .i64 0] 98)).alloc (.cells #[.slice none 0 0, .slice none 0 0, .int .i64 0] 98)).drewN nq) = wq at *
      obtain ⟨bR, hbR⟩ : ∃ b, b = w.heap.size := ⟨_, rfl⟩
      obtain ⟨bq, hbq⟩ : ∃ b, b = w.heap.size + 1 := ⟨_, rfl⟩
      rw [← hbq] at B1
      rw [← hbR] at B2
      rw [← hbq, ← hbR]
      have Hbb : Hid (bR = w.heap.size ∧ bq = w.heap.size + 1) := Lib.hid ⟨hbR, hbq⟩
      clear hbR hbq F1' hw2
      go_wp2_with fail
      go_loopw [12, 13, 14, 53] (fun _ _ _ s53 wr => ∃ (k c1 c2 : Nat) (a1 a2 : Option Addr) (vs : List Value), k ≤ m ∧ s53 = .int .i64 k ∧ Hid (Blk wr bq 98 [.slice a1 k c1, .slice a2 k c2, .int .i64 0]) ∧ Hid (Own wr (w.heap.size + 2) 3 a1 k c1 (ints (nats (ps.take k)))) ∧ Hid (Own wr (w.heap.size + 2) 22 a2 k c2 vs) ∧ Hid (RowsM wr (onBlk a) vs (ds.take k)) ∧ Hid (pgsB (ps.take k) = true) ∧ Hid (Apart a1 a2) ∧ Hid (Blk wr bR 98 [.slice none 0 0, .slice none 0 0, .int .i64 0]) ∧ Hid (w.heap.size + 2 ≤ wr.heap.size) ∧ Hid (Fr F0 w wr)) (fun _ _ _ s53 _ => m - (intOf s53).toNat)
      case atStart => exact ⟨0, 0, 0, none, none, [], by omega, rfl, B1, Lib.hid (Own.nil _ _ _), Lib.hid (Own.nil _ _ _), Lib.hid (RowsM.nil _ _), Lib.hid (by rw [List.take_zero]; rfl), Lib.hid (apart_none _), B2, Lib.hid (by have := hsz2.out; omega), F2⟩
      case round =>
        clear B1 B2 F2 hsz2
        obtain ⟨k, c1, c2, a1, a2, vs, hk, rfl, hB, hO1, hO2, hRw, hpgs, hap, hBR, hsz, hF⟩ := hrel
        have hHR := Lib.hid (HR.out.fr0 hF.out)
        by_cases hlt : k < m
        · obtain ⟨q, hq⟩ : ∃ q, q = k * (4 + page) := ⟨_, rfl⟩
          have hqy : q + (4 + page) ≤ y := by
            rw [hq, Hy.out]
            have h := Nat.mul_le_mul_right (4 + page) (show k + 1 ≤ m by omega)
            rw [Nat.add_mul] at h
            omega
          obtain ⟨p, hp'⟩ : ∃ p, p = wd bs (x + (4 + q)) := ⟨_, rfl⟩
          have hpk := hpg.out k hlt
          have hdk := hdg.out k hlt
          rw [← hq] at hpk hdk
          rw [← hp'] at hpk
          have hp32 : p < 4294967296 := by rw [hp']; exact wd_lt _ _
          have HRk : Hid (Rd wr (cutA (cutA a c x) (c - x) (4 + q)) (r - (4 + q)) (byt ((bs.drop x).drop (4 + q)))) := Lib.hid (by have h := hHR.out.cut (c := c - x) (by have := Hc.out; have := Hrn.out; omega) (k := 4 + q) (r := r - (4 + q)) (by omega); rwa [byt_drop] at h)
          have s3 : ∀ w, (Instr.sliceAt 22 (.slice (cutA a c x) r (c - x)) (some (.int .i64 (4 + (q : Int)))) none none).run Try.prog w = .ok (.slice (cutA (cutA a c x) (c - x) (4 + q)) (r - (4 + q)) (c - x - (4 + q))) w := fun w => run_cutLo E5 w _ (by omega) (by omega)
          have hnumk := number_any (cutA (cutA a c x) (c - x) (4 + q)) (r - (4 + q)) (c - x - (4 + q)) _ wr HRk.out (by omega)
          rw [wd_drop, wd_drop, Nat.add_zero, ← hp'] at hnumk
          have Hq := Lib.hid hq
          have wq' : Hid (wrap64 ((k : Int) * (4 + (page : Int))) = (q : Int)) := Lib.hid (by
            have e : (k : Int) * (4 + (page : Int)) = (q : Int) := by rw [Hq.out]; simp
            rw [e]; exact IntWalk.wrap64_in _ (by omega))
          have hpl : Hid ((ps.take (k + 1)) = ps.take k ++ [p]) := Lib.hid (by rw [List.take_add_one, hpk]; rfl)
          have hdl : Hid ((ds.take (k + 1)) = ds.take k ++ [(bs.drop (x + (4 + q + 4))).take page]) := Lib.hid (by rw [List.take_add_one, hdk]; rfl)
          have hpm : Hid (p ∈ ps) := Lib.hid (List.mem_of_getElem? hpk)
          have hcon := Contains_any a1 k c1 (nats (ps.take k)) p
          have hmem : Hid ((nats (ps.take k)).any (· == (p : Int)) = decide (p ∈ ps.take k)) := Lib.hid (by
            rw [Bool.eq_iff_iff, List.any_eq_true, decide_eq_true_eq]
            constructor
            · rintro ⟨u, hu, e⟩
              obtain ⟨v, hv, rfl⟩ := List.mem_map.1 hu
              have e2 : v = p := by simp at e; omega
              rw [← e2]; exact hv
            · intro h
              exact ⟨_, List.mem_map_of_mem (f := fun (p : Nat) => (p : Int)) h, by simp⟩)
          have Hcon := Lib.hid hcon
          have z0 := hB.out.cell (i := 0) rfl
          have z1 := hB.out.cell (i := 1) rfl
          have z2 := hB.out.cell (i := 2) rfl
          have y0 := hBR.out.cell (i := 0) rfl
          have y1 := hBR.out.cell (i := 1) rfl
          have y2 := hBR.out.cell (i := 2) rfl
          have f0 := hBR.out.free 0
          have f1 := hBR.out.free 1
          have f2 := hBR.out.free 2
          have FRn : ∀ v0 v1 v2 : Value, Hid (Fr F0 w (((wr.setCell ⟨bR, 0, none⟩ v0).setCell ⟨bR, 1, none⟩ v1).setCell ⟨bR, 2, none⟩ v2)) := fun v0 v1 v2 => Lib.hid (((hF.out.set0 (p := ⟨bR, 0, none⟩) (by have := Hbb.out; exact Nat.le_of_eq this.1.symm) _).set0 (p := ⟨bR, 1, none⟩) (by have := Hbb.out; exact Nat.le_of_eq this.1.symm) _).set0 (p := ⟨bR, 2, none⟩) (by have := Hbb.out; exact Nat.le_of_eq this.1.symm) _)
          have BRn : ∀ v0 v1 v2 : Value, Hid (Blk (((wr.setCell ⟨bR, 0, none⟩ v0).setCell ⟨bR, 1, none⟩ v1).setCell ⟨bR, 2, none⟩ v2) bR 98 [v0, v1, v2]) := fun v0 v1 v2 => Lib.hid (((hBR.out.set 0 v0).set 1 v1).set 2 v2)
          clear hp' hpk hdk hq hcon hHR
          by_cases hbig : 1000 ≤ p
          · have dp : decide ((1000 : Int) ≤ (p : Int)) = true := by simp; omega
            have hno : Hid (recOk bs x page = false) := Lib.hid (by
              rw [hok.out, Bool.eq_false_iff]
              intro h
              unfold pgsB at h
              rw [Bool.and_eq_true, List.all_eq_true] at h
              have := h.1 p hpm.out
              simp at this; omega)
            have wqq := wq'.out
            go_wp2_with fail
            refine hnumk.mono ?_; rintro e w1 ⟨rfl, rfl⟩
            go_wp2_with fail
            (have g := (BRn (.slice a1 k c1) (.slice a2 k c2) (.int .i64 0)).out; have g0 := g.cell (i := 0) rfl; have g1 := g.cell (i := 1) rfl; have g2 := g.cell (i := 2) rfl); refine bodyPost_ret (v := .tuple #[.agg #[.slice a1 k c1, .slice a2 k c2, .int .i64 0], .bool false]) (by simp [results, Try.results70, go_sem, g0, g1, g2]) rfl (.inr ⟨hno.out, _, _, _, _, _, _, _, rfl, ?_⟩)
            exact (FRn _ _ _).out
          · have dp : decide ((1000 : Int) ≤ (p : Int)) = false := by simp; omega
            by_cases hin : p ∈ ps.take k
            · have hno : Hid (recOk bs x page = false) := Lib.hid (by
                rw [hok.out, Bool.eq_false_iff]
                intro h
                unfold pgsB at h
                rw [Bool.and_eq_true, decide_eq_true_eq] at h
                have h2 := h.2.sublist (List.take_sublist (k + 1) ps)
                rw [hpl.out, List.nodup_append] at h2
                exact h2.2.2 p hin p (by simp) rfl)
              have hcall := Hcon.out wr hO1.out.rd
              rw [hmem.out, decide_eq_true hin] at hcall
              have wqq := wq'.out
              replace hin := Lib.hid hin
              go_wp2_with fail
              refine hnumk.mono ?_; rintro e w1 ⟨rfl, rfl⟩
              go_wp2_with fail
              refine hcall.mono ?_; rintro e w1 ⟨rfl, rfl⟩
              go_wp2_with fail
              (have g := (BRn (.slice a1 k c1) (.slice a2 k c2) (.int .i64 0)).out; have g0 := g.cell (i := 0) rfl; have g1 := g.cell (i := 1) rfl; have g2 := g.cell (i := 2) rfl); refine bodyPost_ret (v := .tuple #[.agg #[.slice a1 k c1, .slice a2 k c2, .int .i64 0], .bool false]) (by simp [results, Try.results70, go_sem, g0, g1, g2]) rfl (.inr ⟨hno.out, _, _, _, _, _, _, _, rfl, ?_⟩)
              exact (FRn _ _ _).out
            · have hcall := Hcon.out wr hO1.out.rd
              rw [hmem.out, decide_eq_false hin] at hcall
              have hpgs2 : Hid (pgsB (ps.take (k + 1)) = true) := Lib.hid (by
                have h := hpgs.out
                unfold pgsB at h ⊢
                rw [hpl.out]
                rw [Bool.and_eq_true, decide_eq_true_eq] at h ⊢
                refine ⟨by rw [List.all_append, h.1]; simp; omega, ?_⟩
                rw [List.nodup_append]
                refine ⟨h.2, by simp, fun u hu v hv => ?_⟩
                simp at hv
                subst hv
                intro e
                subst e
                exact hin hu)
              have wqq := wq'.out
              have hne1 : Hid (¬ onBlk a1 bq) := Lib.hid (fun h => by have := (hO1.out.blk _ h).1; have := Hbb.out; omega)
              have hne2 : Hid (¬ onBlk a1 bR) := Lib.hid (fun h => by have := (hO1.out.blk _ h).1; have := Hbb.out; omega)
              have hne3 : Hid (¬ onBlk a2 bq) := Lib.hid (fun h => by have := (hO2.out.blk _ h).1; have := Hbb.out; omega)
              have hne4 : Hid (¬ onBlk a2 bR) := Lib.hid (fun h => by have := (hO2.out.blk _ h).1; have := Hbb.out; omega)
              have hszl := hsz.out
              replace hin := Lib.hid hin
              replace hbig := Lib.hid hbig
              clear FRn BRn y0 y1 y2 f0 f1 f2
              go_wp2_with fail
              refine hnumk.mono ?_; rintro e w1 ⟨rfl, rfl⟩
              go_wp2_with fail
              refine hcall.mono ?_; rintro e w1 ⟨rfl, rfl⟩
              go_wp2_with (at_builtin; refine wpAppAt E3 hO1.out (by omega) (by omega) (by omega) (u := .int .i64 p) rfl rfl rfl ?_; intro a5 c5 w5 own5 fr5 at5; have hB5 := Lib.hid (hB.out.fr fr5 hne1.out); have x0 := hB5.out.cell (i := 0) rfl; have xf := hB5.out.free 0)
              have S1 := Lib.hid hpgs2.out
              have hB6 : Hid (Blk (w5.setCell ⟨bq, 0, none⟩ (.slice a5 (k + 1) c5)) bq 98 [.slice a5 (k + 1) c5, .slice a2 k c2, .int .i64 0]) := Lib.hid (by simpa using hB5.out.set 0 (.slice a5 (k + 1) c5))
              have hne5 : Hid (¬ onBlk a5 bq) := Lib.hid (fun h => (at5 _ h).elim hne1.out (fun h1 => by have := hB.out.lt; omega))
              have O16 : Hid (Own (w5.setCell ⟨bq, 0, none⟩ (.slice a5 (k + 1) c5)) (w.heap.size + 2) 3 a5 (k + 1) c5 (ints (nats (ps.take (k + 1))))) := Lib.hid (by
                have h := own5.other (p := ⟨bq, 0, none⟩) hne5.out (.slice a5 (k + 1) c5)
                rw [hpl.out]
                simpa [ints, nats] using h)
              have G6 : Fr (fun j => onBlk a1 j ∨ j = bq) wr (w5.setCell ⟨bq, 0, none⟩ (.slice a5 (k + 1) c5)) := Fr.setCell (fr5.mono (fun _ _ h => .inl h)) (fun _ => .inr rfl) _
              have O26 : Hid (Own (w5.setCell ⟨bq, 0, none⟩ (.slice a5 (k + 1) c5)) (w.heap.size + 2) 22 a2 k c2 vs) := Lib.hid (hO2.out.fr G6 (fun j h1 h2 => h2.elim (fun h => hap.out j h h1) (fun h => hne3.out (h ▸ h1))))
              have hal2 : ∀ j, onBlk a j → j < w.heap.size := Hal.out (by have := Hrn.out; omega)
              have R6 : Hid (RowsM (w5.setCell ⟨bq, 0, none⟩ (.slice a5 (k + 1) c5)) (onBlk a) vs (ds.take k)) := Lib.hid (hRw.out.fr G6 (fun j h1 h2 => by
                have h3 := hal2 j h1
                rcases h2 with h | h
                · have := (hO1.out.blk j h).1; omega
                · have := Hbb.out; omega))
              have BR6 : Hid (Blk (w5.setCell ⟨bq, 0, none⟩ (.slice a5 (k + 1) c5)) bR 98 [.slice none 0 0, .slice none 0 0, .int .i64 0]) := Lib.hid (hBR.out.fr G6 (fun h => h.elim hne2.out (fun h => by have := Hbb.out; omega)))
              have F6 : Hid (Fr F0 w (w5.setCell ⟨bq, 0, none⟩ (.slice a5 (k + 1) c5))) := Lib.hid (hF.out.trans G6 (fun j h1 h2 => by
                rcases h2 with h | h
                · have := (hO1.out.blk j h).1; omega
                · have := Hbb.out; omega))
              have ap6 : Hid (Apart a5 a2) := Lib.hid (hap.out.app at5 (fun j h => (hO2.out.blk j h).2))
              have sz6 : Hid (w.heap.size + 2 ≤ (w5.setCell ⟨bq, 0, none⟩ (.slice a5 (k + 1) c5)).heap.size) := Lib.hid (by have := G6.size; omega)
              have x1 := hB6.out.cell (i := 1) rfl
              clear G6 fr5 at5 own5 hB5 hB hO1 hO2 hRw hBR hF hap hsz hpgs hnumk hcall x0 xf z0 z1 z2 hal2
              generalize (w5.setCell ⟨bq, 0, none⟩ (.slice a5 (k + 1) c5)) = w6 at *
              have t1 : IntKind.i64.wrap (4 + (q : Int) + 4) = 4 + (q : Int) + 4 := wI (by omega) (by omega)
              have t2 : IntKind.i64.wrap (4 + (q : Int) + 4 + (page : Int)) = 4 + (q : Int) + 4 + (page : Int) := wI (by omega) (by omega)
              have s4 : ∀ w, (Instr.sliceAt 22 (.slice (cutA a c x) r (c - x)) (some (.int .i64 (4 + (q : Int) + 4))) (some (.int .i64 (4 + (q : Int) + 4 + (page : Int)))) none).run Try.prog w = .ok (.slice (cutA (cutA a c x) (c - x) (4 + q + 4)) page (c - x - (4 + q + 4))) w := fun w => by
                have h := run_cutLH E5 w (cutA a c x) (n := r) (c := c - x) (k := 4 + q + 4) (h := 4 + q + 4 + page) (by omega) (by have := Hc.out; have := Hrn.out; omega) (x := 4 + (q : Int) + 4) (y := 4 + (q : Int) + 4 + (page : Int)) (by omega) (by omega)
                rw [show 4 + q + 4 + page - (4 + q + 4) = page by omega] at h
                exact h
              have hHeld : (fun w' : World => w'.cell? ⟨bq, 1, none⟩ = some (.slice a2 k c2)) w6.drew := x1
              refine wp_region_last 13 (fun w' : World => w'.cell? ⟨bq, 1, none⟩ = some (.slice a2 k c2)) (by kernel_rfl) ?_
              refine anyP_take 0 (v := ?_) rfl rfl (by kernel_rfl) (fun _ _ _ h => h) (Or.inl ⟨by rfl, ?_⟩) hHeld ?_
              rotate_left 1
              · (intro w0 hSw; (try dsimp only at hSw); go_simp; (try (with_reducible rfl)))
              simp only [Act.put, List.setIfInBounds_toArray]
              refine anyP_take 1 (v := ?_) rfl rfl (by kernel_rfl) (fun _ _ _ h => h) (Or.inl ⟨by rfl, ?_⟩) hHeld ?_
              rotate_left 1
              · (intro w0 hSw; (try dsimp only at hSw); go_simp; (try (with_reducible rfl)))
              simp only [Act.put]
              refine anyP_take 2 (v := ?_) rfl rfl (by kernel_rfl) (fun _ _ _ h => h) (Or.inl ⟨by rfl, ?_⟩) hHeld ?_
              rotate_left 1
              · (intro w0 hSw; (try dsimp only at hSw); go_simp; (try (with_reducible rfl)))
              simp only [Act.put]
              refine anyP_take 3 (v := ?_) rfl rfl (by kernel_rfl) (fun _ _ _ h => h) (Or.inl ⟨by rfl, ?_⟩) hHeld ?_
              rotate_left 1
              · (intro w0 hSw; (try dsimp only at hSw); go_simp; (try (with_reducible rfl)))
              simp only [Act.put]
              refine anyP_take 4 (v := ?_) rfl rfl (by kernel_rfl) (fun _ _ _ h => h) (Or.inl ⟨by rfl, ?_⟩) hHeld ?_
              rotate_left 1
              · (intro w0 hSw; (try dsimp only at hSw); go_simp; (try (with_reducible rfl)))
              simp only [Act.put]
              refine anyP_take 5 (v := ?_) rfl rfl (by kernel_rfl) (fun _ _ _ h => h) (Or.inl ⟨by rfl, ?_⟩) hHeld ?_
              rotate_left 1
              · (intro w0 hSw; (try dsimp only at hSw); go_simp; (try (with_reducible rfl)))
              simp only [Act.put]
              refine anyP_take 6 (v := ?_) rfl rfl (by kernel_rfl) (fun _ _ _ h => h) (Or.inl ⟨by rfl, ?_⟩) hHeld ?_
              rotate_left 1
              · (intro w0 hSw; (try dsimp only at hSw); go_simp; (try (with_reducible rfl)))
              simp only [Act.put]
              refine anyP_take 7 (v := ?_) rfl rfl (by kernel_rfl) (fun _ _ _ h => h) (Or.inl ⟨by rfl, ?_⟩) hHeld ?_
              rotate_left 1
              · (intro w0 hSw; (try dsimp only at hSw); go_simp; (try (with_reducible rfl)))
              simp only [Act.put]
              refine anyP_take 8 (v := ?_) rfl rfl (by kernel_rfl) (fun _ _ _ h => h) (Or.inl ⟨by rfl, ?_⟩) hHeld ?_
              rotate_left 1
              · (intro w0 hSw; (try dsimp only at hSw); go_simp; (try (with_reducible rfl)))
              simp only [Act.put]
              refine anyP_take 9 (v := ?_) rfl rfl (by kernel_rfl) (fun _ _ _ h => h) (Or.inl ⟨by rfl, ?_⟩) hHeld ?_
              rotate_left 1
              · (intro w0 hSw; (try dsimp only at hSw); go_simp; (try (with_reducible rfl)))
              simp only [Act.put]
              refine anyP_one 10 (by kernel_rfl) rfl (fun K hK => ?_)
              replace hK := Lib.hid hK
              go_simp
              have hHeld2 : (fun w' : World => w'.cell? ⟨bq, 1, none⟩ = some (.slice a2 k c2)) (w6.alloc (Obj.cells #[Value.slice (cutA (cutA a c x) (c - x) (4 + q + 4)) page (c - x - (4 + q + 4))] 22)).drew := ((Fr.refl F0 w6).alloc _).cell x1 id
              refine hK.out _ _ (.inr hHeld2) ?_
              clear hK K
              have A7 : Fr F0 w6 (w6.alloc (Obj.cells #[Value.slice (cutA (cutA a c x) (c - x) (4 + q + 4)) page (c - x - (4 + q + 4))] 22)).drew := ((Fr.refl F0 w6).alloc _).drew
              have O27 := Lib.hid (O26.out.fr0 A7)
              have L7 : Hid (Rd (w6.alloc (Obj.cells #[Value.slice (cutA (cutA a c x) (c - x) (4 + q + 4)) page (c - x - (4 + q + 4))] 22)).drew (some ⟨w6.heap.size, 0, none⟩) 1 [Value.slice (cutA (cutA a c x) (c - x) (4 + q + 4)) page (c - x - (4 + q + 4))]) := Lib.hid ((Own.lit (B := w6.heap.size) [Value.slice (cutA (cutA a c x) (c - x) (4 + q + 4)) page (c - x - (4 + q + 4))] 1 rfl (Nat.le_refl _) (by omega)).rd.fr0 ((Fr.refl _ _).drew))
              have x7 : (w6.alloc (Obj.cells #[Value.slice (cutA (cutA a c x) (c - x) (4 + q + 4)) page (c - x - (4 + q + 4))] 22)).drew.cell? ⟨bq, 1, none⟩ = some (.slice a2 k c2) := hHeld2
              have hB7 := Lib.hid (hB6.out.fr A7 id)
              have sz7 : Hid (w.heap.size + 2 ≤ (w6.alloc (Obj.cells #[Value.slice (cutA (cutA a c x) (c - x) (4 + q + 4)) page (c - x - (4 + q + 4))] 22)).drew.heap.size) := Lib.hid (by have := A7.size; have := sz6.out; omega)
              replace A7 := Lib.hid A7
              try simp only [Act.put, List.setIfInBounds_toArray, List.set_cons_zero, List.set_cons_succ]
              clear hHeld2 hHeld x1
              generalize (w6.alloc (Obj.cells #[Value.slice (cutA (cutA a c x) (c - x) (4 + q + 4)) page (c - x - (4 + q + 4))] 22)).drew = w7 at *
              refine anyP_one 11 (by kernel_rfl) rfl (fun K hK => ?_)
              replace hK := Lib.hid hK
              refine stepAppRd ER (by rfl) (by rfl) (by rfl) (by rfl) O27.out L7.out (fun u hu => by simp at hu; subst hu; rfl) (by omega) (by omega) sz7.out (k + 1) rfl ?_
              intro a8 c8 w8 own8 fr8 at8
              have hB8 := Lib.hid (hB7.out.fr fr8 hne3.out)
              have hHeld3 : (fun w' : World => w'.cell? ⟨bq, 1, none⟩ = some (.slice a2 k c2)) w8 := hB8.out.cell (i := 1) rfl
              refine hK.out _ _ (.inr hHeld3) ?_
              clear hK K
              try simp only [Act.put, List.setIfInBounds_toArray]
              refine anyP_one 12 (by kernel_rfl) rfl (fun K hK => ?_)
              replace hK := Lib.hid hK
              go_simp
              refine hK.out _ _ (.inr hHeld3) ?_
              clear hK K
              try simp only [Act.put, List.setIfInBounds_toArray, List.set_cons_zero, List.set_cons_succ]
              refine anyP_one 13 (by kernel_rfl) rfl (fun K hK => ?_)
              replace hK := Lib.hid hK
              have hz1 := hHeld3
              have hz2 := hB8.out.free 1
              dsimp only at hz1
              go_simp
              refine hK.out _ _ (.inl (by kernel_rfl)) ?_
              refine anyP_done (by kernel_rfl) ?_ _
              refine NoPanic.normal ?_
              clear hK K
              try simp only [Act.put, List.setIfInBounds_toArray, List.set_cons_zero, List.set_cons_succ]
              clear hz1 hz2 hHeld3 s4 x7
              go_wp2_with fail
              go_roundw
              case rel =>
                have hba8 : ¬ onBlk a8 bq := fun h => (at8 _ h).elim hne3.out (fun h1 => by have := hB7.out.lt; omega)
                have G8 : Fr (fun j => onBlk a2 j ∨ j = bq) w6 (w8.setCell ⟨bq, 1, none⟩ (.slice a8 (k + 1) c8)) :=
                  Fr.setCell ((A7.out.mono (fun _ _ h => h.elim) : Fr (fun j => onBlk a2 j ∨ j = bq) w6 w7).trans fr8 (fun _ _ h => .inl h)) (fun _ => .inr rfl) _
                have F9 := F6.out.trans G8 (fun j h1 h2 => by
                  rcases h2 with h | h
                  · have := (O26.out.blk j h).1; omega
                  · have := Hbb.out; omega)
                have hal2 : ∀ j, onBlk a j → j < w.heap.size := Hal.out (by have := Hrn.out; omega)
                have hRow : RowM (w8.setCell ⟨bq, 1, none⟩ (.slice a8 (k + 1) c8)) (onBlk a) (.slice (cutA (cutA a c x) (c - x) (4 + q + 4)) page (c - x - (4 + q + 4))) ((bs.drop (x + (4 + q + 4))).take page) := by
                  have hl : ((bs.drop (x + (4 + q + 4))).take page).length = page := by
                    rw [List.length_take, List.length_drop, Hbl.out]
                    have := Hrn.out
                    omega
                  refine ⟨_, _, by rw [hl], ?_, ?_, fun _ j h => onBlk_cut (onBlk_cut h)⟩
                  · rw [hl]; have := Hc.out; have := Hrn.out; omega
                  · rw [hl]
                    have h := HR.out.cutLH (c := c - x) (by have := Hc.out; have := Hrn.out; omega) (k := 4 + q + 4) (m := page) (by omega)
                    rw [byt_drop, byt_take, List.drop_drop] at h
                    exact h.fr0 F9
                exact ⟨k + 1, c5, c8, a5, a8, vs ++ [.slice (cutA (cutA a c x) (c - x) (4 + q + 4)) page (c - x - (4 + q + 4))], by omega, by go_num,
                  Lib.hid (by simpa using hB8.out.set 1 (.slice a8 (k + 1) c8)),
                  Lib.hid (((O16.out.fr0 A7.out).fr fr8 ap6.out).other (p := ⟨bq, 1, none⟩) hne5.out _),
                  Lib.hid (own8.other (p := ⟨bq, 1, none⟩) hba8 _),
                  Lib.hid (by rw [hdl.out]; exact (R6.out.fr G8 (fun j h1 h2 => by
                    have h3 := hal2 j h1
                    rcases h2 with h | h
                    · have := (O26.out.blk j h).1; omega
                    · have := Hbb.out; omega)).snoc hRow),
                  hpgs2, Lib.hid ((ap6.out.symm.app at8 (fun j h => (((O16.out.fr0 A7.out).blk j h).2))).symm),
                  Lib.hid (BR6.out.fr G8 (fun h => h.elim hne4.out (fun h => by have := Hbb.out; omega))),
                  Lib.hid (by have := G8.size; have := sz6.out; omega), Lib.hid F9⟩
              case measure => simp [intOf]; omega
        · obtain rfl : k = m := by omega
          have hyes : Hid (recOk bs x page = true) := Lib.hid (by rw [hok.out]; have h := hpgs.out; rwa [List.take_of_length_le (by have := psl.out; omega)] at h)
          have z0 := hB.out.cell (i := 0) rfl
          have z1 := hB.out.cell (i := 1) rfl
          have z2 := hB.out.cell (i := 2) rfl
          have zf := hB.out.free 2
          have y0 := hBR.out.cell (i := 0) rfl
          have y1 := hBR.out.cell (i := 1) rfl
          have y2 := hBR.out.cell (i := 2) rfl
          have f0 := hBR.out.free 0
          have f1 := hBR.out.free 1
          have f2 := hBR.out.free 2
          have nqR : bq ≠ bR := by have := Hbb.out; omega
          have nRq : bR ≠ bq := by have := Hbb.out; omega
          go_wp2_with fail
          clear z0 z1 z2 zf y0 y1 y2 f0 f1 f2
          have ev : ((x : Int) + (4 + (y : Int)) + 4) = ((x + (4 + y) + 4 : Nat) : Int) := by omega
          have G : Hid (Fr (fun j => j = bq ∨ j = bR) wr ((((wr.setCell ⟨bq, 2, none⟩ (.int .i64 ((x : Int) + (4 + (y : Int)) + 4))).setCell ⟨bR, 0, none⟩ (.slice a1 k c1)).setCell ⟨bR, 1, none⟩ (.slice a2 k c2)).setCell ⟨bR, 2, none⟩ (.int .i64 ((x : Int) + (4 + (y : Int)) + 4)))) := Lib.hid
            (Fr.setCell (p := ⟨bR, 2, none⟩) (Fr.setCell (p := ⟨bR, 1, none⟩) (Fr.setCell (p := ⟨bR, 0, none⟩) (Fr.setCell (p := ⟨bq, 2, none⟩) (Fr.refl _ _) (fun _ => .inl rfl) _) (fun _ => .inr rfl) _) (fun _ => .inr rfl) _) (fun _ => .inr rfl) _)
          have g : Blk ((((wr.setCell ⟨bq, 2, none⟩ (.int .i64 ((x : Int) + (4 + (y : Int)) + 4))).setCell ⟨bR, 0, none⟩ (.slice a1 k c1)).setCell ⟨bR, 1, none⟩ (.slice a2 k c2)).setCell ⟨bR, 2, none⟩ (.int .i64 ((x : Int) + (4 + (y : Int)) + 4))) bR 98 [.slice a1 k c1, .slice a2 k c2, .int .i64 ((x : Int) + (4 + (y : Int)) + 4)] :=
            (((hBR.out.other (p := ⟨bq, 2, none⟩) nRq _).set 0 _).set 1 _).set 2 _
          have g0 := g.cell (i := 0) rfl
          have g1 := g.cell (i := 1) rfl
          have g2 := g.cell (i := 2) rfl
          have hF9 : Hid (Fr F0 w ((((wr.setCell ⟨bq, 2, none⟩ (.int .i64 ((x : Int) + (4 + (y : Int)) + 4))).setCell ⟨bR, 0, none⟩ (.slice a1 k c1)).setCell ⟨bR, 1, none⟩ (.slice a2 k c2)).setCell ⟨bR, 2, none⟩ (.int .i64 ((x : Int) + (4 + (y : Int)) + 4)))) := Lib.hid (hF.out.trans G.out (fun j h1 h2 => by have := Hbb.out; omega))
          have hal2 : ∀ j, onBlk a j → j < w.heap.size := Hal.out (by have := Hrn.out; omega)
          clear g
          refine bodyPost_ret (v := .tuple #[.agg #[.slice a1 k c1, .slice a2 k c2, .int .i64 ((x : Int) + (4 + (y : Int)) + 4)], .bool true]) ?_ rfl ?_
          · simp [results, Try.results70, go_sem, g0, g1, g2]
          refine Or.inl ⟨hyes.out, .slice a1 k c1, .slice a2 k c2, ?_, ?_, hF9.out⟩
          · rw [hrec.out, ev]
          · rw [hrec.out]
            have n1 : ∀ j, onBlk a1 j → ¬ (j = bq ∨ j = bR) := fun j h h2 => by have := (hO1.out.blk j h).1; have := Hbb.out; omega
            have n2 : ∀ j, onBlk a2 j → ¬ (j = bq ∨ j = bR) := fun j h h2 => by have := (hO2.out.blk j h).1; have := Hbb.out; omega
            have hO1' := hO1.out.fr G.out n1
            have hO2' := hO2.out.fr G.out n2
            have hRw' := hRw.out.fr G.out (fun j h h2 => by have := hal2 j h; have := Hbb.out; omega)
            rw [List.take_of_length_le (by have := psl.out; omega)] at hO1'
            rw [List.take_of_length_le (by have := dsl.out; omega)] at hRw'
            have el := psl.out
            have hsz9 := hF9.out.size
            refine ⟨a1, c1, a2, c2, vs, ?_, ?_, ?_, ?_, hRw'.mono (fun j h => ⟨by have := hal2 j h; omega, .inl h⟩), fun _ j h => ⟨(hO1'.blk j h).2, .inr ?_⟩, fun _ j h => ⟨(hO2'.blk j h).2, .inr ?_⟩⟩
            · rw [el]
            · rw [dsl.out, el]
            · simp only [el]; exact hO1'.rd
            · simp only [el]; exact hO2'.rd
            · have := (hO1'.blk j h).1; omega
            · have := (hO2'.blk j h).1; omega
    · have d4 : ((U : Int) != (V : Int)) = true := by simp; omega
      have hno : Hid (recOk bs x page = false) := Lib.hid (by unfold recOk; rw [Hfit.out, Hsb.out]; simp [hUV])
      replace hUV := Lib.hid hUV
      go_enter Try.func70, Try.ntmps70
      go_wp2_with fail
      refine (Hnum.out _ (HR.out.fr0 F1'.out)).mono ?_; rintro e w1 ⟨rfl, rfl⟩
      go_wp2_with fail
      go_quiet (first | (go_at_call 68; exact qsame (Hsum.out _ (HRa.out.fr0 (F1'.out.drewN _)))) | (go_at_call 77; exact qsame (Hnum2.out _ (HRb.out.fr0 (F1'.out.drewN _)))))
      go_wp2_with fail
      refine bodyPost_ret (v := .tuple #[.agg #[.slice none 0 0, .slice none 0 0, .int .i64 0], .bool false]) (by simp [results, Try.results70, go_sem]) rfl (.inr ⟨hno.out, _, _, _, _, _, _, _, rfl, ?_⟩)
      exact (((F1'.out.drewN _).set0 (p := ⟨w.heap.size, 0, none⟩) (Nat.le_refl _) _).set0 (p := ⟨w.heap.size, 1, none⟩) (Nat.le_refl _) _).set0 (p := ⟨w.heap.size, 2, none⟩) (Nat.le_refl _) _
  · have d3 : decide ((r : Int) < 4 + (y : Int) + 4) = true := by simp; omega
    have hno : Hid (recOk bs x page = false) := Lib.hid (cfit (by rw [hfit]; simp; omega))
    clear hfit cfit F1
    have wy := Wy.out
    go_enter Try.func70, Try.ntmps70
    go_wp2_with fail
    refine (Hnum.out _ (HR.out.fr0 F1'.out)).mono ?_; rintro e w1 ⟨rfl, rfl⟩
    go_wp2_with fail
    go_quiet (fail)
    go_wp2_with fail
    refine bodyPost_ret (v := .tuple #[.agg #[.slice none 0 0, .slice none 0 0, .int .i64 0], .bool false]) (by simp [results, Try.results70, go_sem]) rfl (.inr ⟨hno.out, _, _, _, _, _, _, _, rfl, ?_⟩)
    exact (((F1'.out.drewN _).set0 (p := ⟨w.heap.size, 0, none⟩) (Nat.le_refl _) _).set0 (p := ⟨w.heap.size, 1, none⟩) (Nat.le_refl _) _).set0 (p := ⟨w.heap.size, 2, none⟩) (Nat.le_refl _) _
end Go.Proofs.Ytehpikjhjghplaa
