/- LRU; the examples. -/
import Derived.Test.YtnlgjpcnnnilpaaR7
namespace Go.Proofs.Ytnlgjpcnnnilpaa
open Go.RowKit
attribute [local go_sem ↓] Go.wp_at_zero Go.wp_at_succ

theorem CX.ge {w : World} {B x m mi s : Nat} {K : List Int} {bm gb gn gp cb cn cp : Nat} {BL : List Int} {NX PV : List Nat} {f : Int → Option Value} {S : List Nat} (h : CX w B x m mi s K bm gb gn gp cb cn cp BL NX PV f S) {k : Nat} (hk : on5 x bm gb gn gp k) : B ≤ k := by
  have n1 : ∀ g, onBlk (some ⟨g, 0, none⟩) g := fun g => (onBlk_some _ _ _ _).2 rfl
  rcases hk with rfl | rfl | rfl | rfl | rfl
  · exact h.cl.bx
  · exact h.bb
  · exact (h.cl.ob.blk _ (n1 _)).1
  · exact (h.cl.on.blk _ (n1 _)).1
  · exact (h.cl.op.blk _ (n1 _)).1
/-- Behind k references. -/
def LR (wr : World) (B x m : Nat) (l : List Int) (k mi : Nat) : Prop :=
  ∃ s K bm gb gn gp cb cn cp BL NX PV f S, CX wr B x m mi s K bm gb gn gp cb cn cp BL NX PV f S ∧ (l.take k).foldl (lruF m) ([], 0) = (K, mi)
theorem LR.cell {wr : World} {B x m : Nat} {l : List Int} {k mi : Nat} (h : LR wr B x m l k mi) : wr.cell? ⟨x, 1, none⟩ = some (.int .i64 mi) := by
  obtain ⟨s, K, bm, gb, gn, gp, cb, cn, cp, BL, NX, PV, f, S, h, _⟩ := h
  exact (six_cells h.cl.kx).2.1
theorem LR.touch {wr : World} {B x m : Nat} {l : List Int} {k mi : Nat} (h : LR wr B x m l k mi) {b : Int} (hb : l[k]? = some b) (hb0 : 0 ≤ b) (hb1 : b ≤ 1048576) (hmi : mi ≤ 1000000) :
    Calls Try.prog 17 #[.pointer (some ⟨x, 0, none⟩), .int .i64 b] wr fun e w' => ∃ r mi', e = .returned (.tuple #[.bool r, .int .i64 0]) ∧ LR w' B x m l (k + 1) mi' ∧ mi' ≤ mi + 1 ∧ Fr (fun k => B ≤ k) wr w' := by
  obtain ⟨s, K, bm, gb, gn, gp, cb, cn, cp, BL, NX, PV, f, S, h, hf⟩ := h
  refine (Touch_any h b hb0 hb1 hmi).mono ?_
  rintro e w' ⟨s', gb', gn', gp', cb', cn', cp', BL', NX', PV', f', S', rfl, h', F, _⟩
  refine ⟨_, _, rfl, ⟨s', _, bm, gb', gn', gp', cb', cn', cp', BL', NX', PV', f', S', h', ?_⟩, by split <;> omega, F.mono (fun k _ hk => h.ge hk)⟩
  rw [fold_take hb, hf]
  rfl
theorem LRU_bad (a : Option Addr) (n c : Nat) (l : List Int) (m : Int) (w : World) (hr : Rd w a n (ints l)) (hz : ¬ chk l m = 0) :
    Calls Try.prog 9 #[.slice a n c, .int .i64 m] w fun e w' => e = .returned (.tuple #[.int .i64 0, .int .i64 (chk l m)]) ∧ w = w' := by
  have hck := check_any a n c l m w hr
  obtain ⟨z, hzz⟩ : ∃ z, z = chk l m := ⟨_, rfl⟩
  rw [← hzz] at hck ⊢
  have e0 : (z != 0) = true := by rw [hzz]; simpa using hz
  clear hz hzz
  go_enter Try.func9, Try.ntmps9
  go_wp2_with (refine hck.mono ?_; rintro e w' ⟨rfl, rfl⟩)
  go_ret2
  exact ⟨rfl, rfl⟩
set_option maxHeartbeats 2000000 in
theorem LRU_any (a : Option Addr) (n c m : Nat) (l : List Int) (w : World) (hr : Rd w a n (ints l)) (hz : chk l m = 0) :
    Calls Try.prog 9 #[.slice a n c, .int .i64 m] w fun e w' => e = .returned (.tuple #[.int .i64 (lruN l m), .int .i64 0]) ∧ Fr F0 w w' := by
  have hck := check_any a n c l m w hr
  rw [hz] at hck
  obtain ⟨hlb, hm, hm2, hn⟩ := chk_ok hz
  have hll : l.length = n := by simpa using hr.len
  have hm0 : 1 ≤ m := by omega
  have hm1 : m ≤ 1000 := by omega
  have hn0 : n ≤ 65536 := by omega
  have Hr := Lib.hid hr
  have Hll := Lib.hid hll
  have Hlb := Lib.hid hlb
  clear hz hlb hm hm2 hn hll hr
  go_enter Try.func9, Try.ntmps9
  go_wp2_with (first | (refine hck.mono ?_; rintro e w' ⟨rfl, rfl⟩))
  refine (New_any m w hm0 hm1).mono ?_; rintro e w1 ⟨x, bm, gb, gn, gp, rfl, hX, F1⟩
  have hL : Hid (LR w1 w.heap.size x m l 0 0) := Lib.hid ⟨0, [], bm, gb, gn, gp, 1, 1, 1, _, _, _, _, _, hX, rfl⟩
  clear hX hck
  go_wp2_with fail
  go_loopw [10, 24] (fun _ s24 wr => ∃ (k mi : Nat), k ≤ n ∧ s24 = .int .i64 k ∧ mi ≤ k ∧ Hid (LR wr w.heap.size x m l k mi) ∧ Fr F0 w wr) (fun _ s24 _ => n - (intOf s24).toNat)
  case atStart => exact ⟨0, 0, by omega, rfl, by omega, hL, F1⟩
  case round =>
    clear F1 hL
    obtain ⟨k, mi, hk, rfl, hmi, hR, hF⟩ := hrel
    by_cases hlt : k < n
    · obtain ⟨b, o, y, hb, hy, d⟩ := (Hr.out.fr0 hF).ix hlt
      have hyb := Hlb.out y (List.mem_of_getElem? hy)
      have hcall := hR.out.touch hy hyb.1 hyb.2 (by omega)
      subst hb
      clear hy hyb
      go_wp2_with (refine hcall.mono ?_; rintro e w2 ⟨r, mi2, rfl, hR2, hmi2, F2⟩; replace hR2 := Lib.hid hR2; have hF2 := hF.trans F2 (fun k hk h => by have h' : w.heap.size ≤ k := h; omega); clear F2 hcall)
      go_roundw
      case rel => exact ⟨k + 1, mi2, by omega, by go_num, by omega, hR2, hF2⟩
      case measure => simp [intOf]; omega
    · obtain rfl : k = n := by omega
      have E : Hid (lruN l m = mi) := Lib.hid (by
        obtain ⟨s, K, bm, gb, gn, gp, cb, cn, cp, BL, NX, PV, f, S, _, h⟩ := hR.out
        rw [List.take_of_length_le (by have := Hll.out; omega)] at h
        unfold lruN; rw [h])
      have c1 := hR.out.cell
      go_wp2_with fail
      go_ret2
      exact ⟨by rw [E.out]; rfl, hF⟩
abbrev exA : List Int := [1, 2, 3, 1, 2, 4, 1, 2, 3, 4]
theorem exA_chk : chk exA (3 : Nat) = 0 := by decide +kernel
theorem exA_lru : lruN exA 3 = 6 := by decide +kernel
theorem exA_fifo : fifoN exA 3 = 8 := by decide +kernel
theorem exA_opt : optN exA 3 = 5 := by decide +kernel
set_option maxHeartbeats 1000000 in
theorem awake_any (w : World) : Calls Try.prog 7 #[] w fun e w' => e = .returned (.bool true) ∧ Fr F0 w w' := by
  have hR : Rd (w.alloc (.cells #[.int .i64 1, .int .i64 2, .int .i64 3, .int .i64 1, .int .i64 2, .int .i64 4, .int .i64 1, .int .i64 2, .int .i64 3, .int .i64 4] 3)) (some ⟨w.heap.size, 0, none⟩) 10 (ints exA) :=
    Own.rd (Own.lit (w := w) (B := w.heap.size) (T := 3) (ints exA) 10 rfl (by omega) (by omega))
  have F1 : Fr F0 w (w.alloc (.cells #[.int .i64 1, .int .i64 2, .int .i64 3, .int .i64 1, .int .i64 2, .int .i64 4, .int .i64 1, .int .i64 2, .int .i64 3, .int .i64 4] 3)) := (Fr.refl _ _).alloc _
  have h1 : ∀ w1, Fr F0 (w.alloc (.cells #[.int .i64 1, .int .i64 2, .int .i64 3, .int .i64 1, .int .i64 2, .int .i64 4, .int .i64 1, .int .i64 2, .int .i64 3, .int .i64 4] 3)) w1 → Calls Try.prog 9 #[.slice (some ⟨w.heap.size, 0, none⟩) 10 10, .int .i64 3] w1 fun e w' => e = .returned (.tuple #[.int .i64 6, .int .i64 0]) ∧ Fr F0 w1 w' := fun w1 f => by
    have := LRU_any _ 10 10 3 exA w1 (hR.fr0 f) exA_chk
    rw [exA_lru] at this; exact this
  have h2 : ∀ w1, Fr F0 (w.alloc (.cells #[.int .i64 1, .int .i64 2, .int .i64 3, .int .i64 1, .int .i64 2, .int .i64 4, .int .i64 1, .int .i64 2, .int .i64 3, .int .i64 4] 3)) w1 → Calls Try.prog 10 #[.slice (some ⟨w.heap.size, 0, none⟩) 10 10, .int .i64 3] w1 fun e w' => e = .returned (.tuple #[.int .i64 8, .int .i64 0]) ∧ Fr F0 w1 w' := fun w1 f => by
    have := FIFO_any _ 10 10 3 exA w1 (hR.fr0 f) exA_chk
    rw [exA_fifo] at this; exact this
  have h3 : ∀ w1, Fr F0 (w.alloc (.cells #[.int .i64 1, .int .i64 2, .int .i64 3, .int .i64 1, .int .i64 2, .int .i64 4, .int .i64 1, .int .i64 2, .int .i64 3, .int .i64 4] 3)) w1 → Calls Try.prog 11 #[.slice (some ⟨w.heap.size, 0, none⟩) 10 10, .int .i64 3] w1 fun e w' => e = .returned (.tuple #[.int .i64 5, .int .i64 0]) ∧ Fr F0 w1 w' := fun w1 f => by
    have := Optimal_any _ 10 10 3 exA w1 (hR.fr0 f) exA_chk
    rw [exA_opt] at this; exact this
  have H1 := Lib.hid h1
  have H2 := Lib.hid h2
  have H3 := Lib.hid h3
  replace F1 := Lib.hid F1
  clear h1 h2 h3 hR
  go_enter Try.func7, Try.ntmps7
  go_wp2_with (first | (refine (H1.out _ (Fr.refl _ _)).mono ?_; rintro e w1 ⟨rfl, G1⟩) | (refine (H2.out _ G1).mono ?_; rintro e w2 ⟨rfl, G2⟩; replace G2 := G1.trans0 G2) | (refine (H3.out _ G2).mono ?_; rintro e w3 ⟨rfl, G3⟩; replace G3 := G2.trans0 G3))
  go_ret
  exact ⟨rfl, F1.out.trans0 G3⟩
end Go.Proofs.Ytnlgjpcnnnilpaa
