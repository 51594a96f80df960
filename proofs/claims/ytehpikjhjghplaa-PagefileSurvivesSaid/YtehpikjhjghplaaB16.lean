/- awake. -/
import Derived.Test.YtehpikjhjghplaaB15
import Derived.Lib.SlBytesConst
namespace Go.Proofs.Ytehpikjhjghplaa
open Go.RowKit
attribute [local go_sem ↓] Go.wp_at_zero Go.wp_at_succ
def abc : List UInt8 := [97, 98, 99, 100, 101, 102, 103, 104]
def awR : Dk × Int := commitS 8 [] 0 20 [0] [abc]
theorem aw1 : awR.1.pg = 8 ∧ awR.1.sy = 20 ∧ awR.1.af = 0 ∧ awR.2 = 0 ∧ awR.1.bs.length = 20 := by
  refine ⟨?_, ?_, ?_, ?_, ?_⟩ <;> kernel_rfl
theorem aw2 : ctS 8 awR.1.bs 20 0 = (1, 0) := by kernel_rfl
theorem aw3 : fnv [97] = 3826002220 := by kernel_rfl
theorem Rd.of_new (w : World) (vs : List Value) (T : Nat) (f : Nat × Nat) (k : Nat) (hk : w.heap.size = k) (hm : vs.length ≤ 9223372036854775807) : Rd (w.alloc (.cells vs.toArray T f)) (some ⟨k, 0, none⟩) vs.length vs := by
  subst hk
  have h : (w.alloc (.cells vs.toArray T f)).heap[w.heap.size]? = some (.cells vs.toArray T f) := heap_alloc_new _ _
  refine ⟨rfl, hm, fun _ => ⟨_, 0, rfl, fun i u hu => ?_⟩⟩
  rw [Nat.zero_add, cell_of_row _ _ i _ T f h]
  simpa using hu
set_option maxRecDepth 100000 in
set_option maxHeartbeats 4000000 in
theorem awake_any (w : World) : Calls Try.prog 10 #[] w fun e w' => e = .returned (.bool true) ∧ Fr F0 w w' := by
  have hfm := fun (W : World) => Format_ok 8 20 W (by omega) (by omega) (by omega) (by omega)
  have hcv : ∀ (W : World) (C : Array Value) (n c k : Nat), W.heap.size = k → (convert 22 22 (.slice (some ⟨k, 0, none⟩) n c)).run Try.prog (W.alloc (.cells C 5)) = .ok (.slice (some ⟨k, 0, none⟩) n c) (W.alloc (.cells C 5 (C.size, C.size + 1))) := fun W C n c k hk => by
    subst hk
    exact Lib.run_convert_bytes_const (P := Try.prog) W 22 5 C n c Try.underlying22 Try.underlying5
  have Hfm := Lib.hid hfm
  clear hfm
  go_enter Try.func10, Try.ntmps10
  go_wp2_with fail
  refine (Hfm.out w).mono ?_
  rintro e w1 ⟨rfl, F1⟩
  replace F1 := Lib.hid F1
  have K : Hid (∀ (Wa Wb Wc Wd : World), Wa = w1.alloc (.cells #[.int .i64 8, .slice none 0 0, .int .i64 0, .int .i64 20] 24) → Wb = Wa.alloc (.cells #[.int .i64 0] 3) →
      Wc = Wb.alloc (.cells #[.int .u8 97, .int .u8 98, .int .u8 99, .int .u8 100, .int .u8 101, .int .u8 102, .int .u8 103, .int .u8 104] 5 (8, 9)) → Wd = Wc.alloc (.cells #[.slice (some ⟨w1.heap.size + 1 + 1, 0, none⟩) 8 8] 22) →
      Fr F0 w1 Wd ∧ Wd.heap.size = w1.heap.size + 4 ∧ Blk Wd w1.heap.size 24 [.int .i64 8, .slice none 0 0, .int .i64 0, .int .i64 20] ∧
      Calls Try.prog 13 #[.agg (dskI 8 none 0 0 0 20), .slice (some ⟨w1.heap.size + 1, 0, none⟩) 1 1, .slice (some ⟨w1.heap.size + 1 + 1 + 1, 0, none⟩) 1 1] Wd (KPost awR Wd)) := Lib.hid (by
    intro Wa Wb Wc Wd ha hb hc hd
    have fa : Fr F0 w1 Wa := ha ▸ (Fr.refl _ _).alloc _
    have fb : Fr F0 Wa Wb := hb ▸ (Fr.refl _ _).alloc _
    have fc : Fr F0 Wb Wc := hc ▸ (Fr.refl _ _).alloc _
    have fd : Fr F0 Wc Wd := hd ▸ (Fr.refl _ _).alloc _
    have sa : Wa.heap.size = w1.heap.size + 1 := by rw [ha, size_alloc]
    have sb : Wb.heap.size = w1.heap.size + 1 + 1 := by rw [hb, size_alloc, sa]
    have sc : Wc.heap.size = w1.heap.size + 1 + 1 + 1 := by rw [hc, size_alloc, sb]
    have sd : Wd.heap.size = w1.heap.size + 4 := by rw [hd, size_alloc, sc]
    have r1 : Rd Wb (some ⟨w1.heap.size + 1, 0, none⟩) 1 (ints [0]) := hb ▸ Rd.of_new Wa (ints [0]) 3 (0, 0) _ sa (by simp)
    have r2 : Rd Wc (some ⟨w1.heap.size + 1 + 1, 0, none⟩) 8 (byt abc) := hc ▸ Rd.of_new Wb (byt abc) 5 (8, 9) _ sb (by simp [abc])
    have r3 : Rd Wd (some ⟨w1.heap.size + 1 + 1 + 1, 0, none⟩) 1 [.slice (some ⟨w1.heap.size + 1 + 1, 0, none⟩) 8 8] := hd ▸ Rd.of_new Wc [.slice (some ⟨w1.heap.size + 1 + 1, 0, none⟩) 8 8] 22 (0, 0) _ sc (by simp)
    have rows : RowsM Wd (fun j => j = w1.heap.size + 1 + 1) [.slice (some ⟨w1.heap.size + 1 + 1, 0, none⟩) 8 8] [abc] :=
      (RowsM.nil Wd _).snoc ⟨some ⟨w1.heap.size + 1 + 1, 0, none⟩, 8, rfl, by simp [abc], r2.fr0 fd, fun _ j h => (onBlk_some _ _ _ _).1 h⟩
    have bd : Blk Wd w1.heap.size 24 [.int .i64 8, .slice none 0 0, .int .i64 0, .int .i64 20] := by
      have h0 : Blk Wa w1.heap.size 24 [.int .i64 8, .slice none 0 0, .int .i64 0, .int .i64 20] := ha ▸ Blk.new w1 24 _
      exact ((h0.fr fb id).fr fc id).fr fd id
    exact ⟨((fa.trans0 fb).trans0 fc).trans0 fd, sd, bd, Commit_any none 0 0 8 0 20 [] _ 1 1 [0] _ 1 1 _ [abc] _ Wd (Rd.nil _ _) (Nat.le_refl _) ((r1.fr0 fc).fr0 fd) r3 rows (fun j h => by omega)⟩)
  go_wp2_with fail
  obtain ⟨FK, hsz, bd, hcall⟩ := K.out _ _ _ _ rfl rfl rfl rfl
  refine hcall.mono ?_
  rintro e w2 ⟨a9, m9, c9, hm9, rfl, O9, F9⟩
  obtain ⟨e1, e2, e3, e4, e5⟩ := aw1
  have e6 := aw2
  rw [e1, e2, e3, e4]
  rw [e5] at hm9
  subst hm9
  obtain ⟨b9, hb9⟩ : ∃ b9, b9 = awR.1.bs := ⟨_, rfl⟩
  rw [← hb9] at O9 e6
  have hb20 : (20 : Nat) ≤ c9 := O9.cap
  have R9 := O9.rd
  have hnt : Hid (¬ onBlk a9 w1.heap.size) := Lib.hid (fun h => by have := (O9.blk _ h).1; omega)
  have B9 := bd.fr F9 id
  have FF := Lib.hid ((F1.out.trans0 FK).trans0 F9)
  replace R9 := Lib.hid R9
  replace B9 := Lib.hid B9
  have E6 := Lib.hid e6
  clear e1 e2 e3 e4 e5 e6 hb9 O9 F9 bd FK K Hfm hcall
  obtain ⟨bt, hbt⟩ : ∃ b, b = w1.heap.size := ⟨_, rfl⟩
  rw [← hbt] at B9 hnt
  have hsw : Hid (w.heap.size ≤ bt) := Lib.hid (by have := F1.out.size; omega)
  rw [← hbt]
  clear hbt hsz
  have y0 := B9.out.cell (i := 0) rfl
  have y1 := B9.out.cell (i := 1) rfl
  have y2 := B9.out.cell (i := 2) rfl
  have y3 := B9.out.cell (i := 3) rfl
  have f0 := B9.out.free 0
  have f1 := B9.out.free 1
  have f2 := B9.out.free 2
  have f3 := B9.out.free 3
  go_wp2_with fail
  have C9 := (((B9.out.set 0 (.int .i64 8)).set 1 (.slice a9 20 c9)).set 2 (.int .i64 20)).set 3 (.int .i64 0)
  have G : Fr (fun j => j = bt) w2 ((((w2.setCell ⟨bt, 0, none⟩ (.int .i64 8)).setCell ⟨bt, 1, none⟩ (.slice a9 20 c9)).setCell ⟨bt, 2, none⟩ (.int .i64 20)).setCell ⟨bt, 3, none⟩ (.int .i64 0)) := by
    refine Fr.setCell (p := ⟨bt, 3, none⟩) (Fr.setCell (p := ⟨bt, 2, none⟩) (Fr.setCell (p := ⟨bt, 1, none⟩) (Fr.setCell (p := ⟨bt, 0, none⟩) (Fr.refl _ _) ?_ _) ?_ _) ?_ _) ?_ _
    all_goals exact fun _ => rfl
  have R10 := Lib.hid (R9.out.fr G (fun j h e => hnt.out (e ▸ h)))
  have FG := Lib.hid (FF.out.trans G (fun j h e => by have := hsw.out; omega))
  have hct := Commits_any a9 20 c9 8 20 0 b9 _ R10.out hb20
  rw [E6.out] at hct
  refine hct.mono ?_
  rintro e w3 ⟨rfl, F3⟩
  have C10 := C9.fr F3 id
  have z1 := C10.cell (i := 1) rfl
  have z3 := C10.cell (i := 3) rfl
  have FH := Lib.hid (FG.out.trans0 F3)
  clear C9 C10 G F3 y0 y1 y2 y3 f0 f1 f2 f3 hct
  go_wp2_with fail
  have h3 : (w3.alloc (.cells #[.int .u8 97] 5 (1, 2))).heap.size = w3.heap.size + 1 := size_alloc _ _
  have hr3 := Rd.of_new w3 (byt [97]) 5 (1, 2) _ rfl (by simp)
  have hsum := Sum_ok (some ⟨w3.heap.size, 0, none⟩) 1 1 [97] _ hr3 (by omega)
  rw [aw3] at hsum
  refine hsum.mono ?_
  rintro e w4 ⟨rfl, rfl⟩
  have FI := Lib.hid (FH.out.alloc (.cells (byt [97]).toArray 5 (1, 2)))
  have A5 := (Fr.refl F0 w3).alloc (.cells (byt [97]).toArray 5 (1, 2))
  replace z1 := A5.cell z1 id
  replace z3 := A5.cell z3 id
  clear A5 hsum hr3 h3
  generalize w3.alloc (.cells (byt [97]).toArray 5 (1, 2)) = w5 at *
  go_wp2_with fail
  go_ret
  exact ⟨rfl, FI.out⟩
end Go.Proofs.Ytehpikjhjghplaa
