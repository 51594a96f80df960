/- slices.Repeat of one Errno, seven times. -/
import Derived.Test.YtohblajdeicfeaaE28
import Derived.Laws.CopyOwn
import Derived.Test.YtohblajdeicfeaaCom9
namespace Go.Proofs.Ytohblajdeicfeaa
open Go.RowKit
attribute [local go_sem ↓] Go.wp_at_zero Go.wp_at_succ
theorem E50 : Elem1 Try.prog 50 28 (.int .i64 0) 8 := ⟨by kernel_rfl, by kernel_rfl, rfl⟩
theorem Mul_small (w : World) : Calls Try.prog 46 #[.int .u64 1, .int .u64 7] w fun e w' => e = .returned (.tuple #[.int .u64 0, .int .u64 7]) ∧ w = w' := by
  go_enter Try.func46, Try.ntmps46
  go_wp2_with (go_at_call 56; refine (Mul64_small _).mono ?_; rintro e w1 ⟨rfl, rfl⟩)
  go_ret2
  exact ⟨rfl, rfl⟩
theorem copyE {w : World} {g o : Nat} {a : Addr} {dLen dCap sLen sCap : Nat} (cur cs : List Value) (hg : Blk w g 28 cur) (hn : cs.length = Nat.min sLen dLen) (hsrc : ∀ j v, cs[j]? = some v → w.cell? (a.add j) = some v) (hfit : o + cs.length ≤ cur.length) (h1 : ∀ v ∈ cs, v.oneCell' = true) :
    ∃ W, (Builtin.copy_ #[50, 50] 3 #[.slice (some ⟨g, o, none⟩) dLen dCap, .slice (some a) sLen sCap]).run Try.prog w = .ok (goInt cs.length) W ∧ Blk W g 28 (cur.take o ++ cs ++ cur.drop (o + cs.length)) ∧ Fr (onB g) w W := by
  refine ⟨_, run_copy_row (P := Try.prog) w 50 50 3 28 g o dLen dCap a sLen sCap cur.toArray 28 cs (by kernel_rfl) (by kernel_rfl) hg hn hsrc (by simpa using hfit) h1, ?_, ?_⟩
  · have hlt := lt_of_block hg
    simp [World.setRow, Blk, Array.getElem?_modify, hg]
  · exact ⟨rfl, rfl, rfl, by simp [World.setRow], fun q _ hq => setRow_other w g q _ (fun e => hq e)⟩
/-- The slice as far as it is filled. -/
def ones (i : Nat) : List Value := List.replicate i (.int .i64 1) ++ List.replicate (7 - i) (.int .i64 0)
theorem cut_lo (g n r : Nat) (h : 7 = n + r) (w : World) : (Instr.sliceAt 50 (.slice (some ⟨g, 0, none⟩) 7 7) (some (.int .i64 n)) none none).run Try.prog w = .ok (.slice (cutA (some ⟨g, 0, none⟩) 7 n) r (7 - n)) w := run_cutLo E50 w _ h rfl
theorem cut_hi (g n : Nat) (h : n ≤ 7) (w : World) : (Instr.sliceAt 50 (.slice (some ⟨g, 0, none⟩) 7 7) none (some (.int .i64 n)) none).run Try.prog w = .ok (.slice (cutA (some ⟨g, 0, none⟩) 7 0) n 7) w := run_cutHi E50 w _ h rfl
def RepP (w : World) (e : Ending) (w' : World) : Prop := ∃ g, e = .returned (.slice (some ⟨g, 0, none⟩) 7 7) ∧ Blk w' g 28 (ones 7) ∧ w.heap.size ≤ g ∧ Fr F0 w w'
set_option maxHeartbeats 2000000 in
theorem Repeat_any {w : World} {b o c : Nat} (h1 : w.cell? ⟨b, o, none⟩ = some (.int .i64 1)) : Calls Try.prog 33 #[.slice (some ⟨b, o, none⟩) 1 c, .int .i64 7] w (RepP w) := by
  have mk : ∀ w, (Instr.makeSlice 50 (.int .i64 7) (.int .i64 7)).run Try.prog w = .ok (.slice (some ⟨w.heap.size, 0, none⟩) 7 7) (w.alloc (.cells (Array.replicate 7 (.int .i64 0)) 28)) := run_mk E50 rfl 7 (by omega) (by omega)
  have hsz0 : (w.alloc (.cells (Array.replicate 7 (.int .i64 0)) 28)).heap.size = w.heap.size + 1 := size_alloc _ _
  have hB1 : Blk (w.alloc (.cells (Array.replicate 7 (.int .i64 0)) 28)) w.heap.size 28 (ones 0) := Blk.new w 28 (ones 0)
  have hF1 : Fr F0 w (w.alloc (.cells (Array.replicate 7 (.int .i64 0)) 28)) := (Fr.refl _ _).alloc _
  obtain ⟨W2, run2, B2, F2⟩ := copyE (a := ⟨b, o, none⟩) (o := 0) (dLen := 7) (dCap := 7) (sLen := 1) (sCap := c) (ones 0) [.int .i64 1] hB1 rfl (fun j v hv => by
    match j, hv with
    | 0, hv => simp at hv; subst hv; simpa [Addr.add] using hF1.cell h1 id) (by decide) (by intro v hv; simp at hv; subst hv; rfl)
  have run2' : (Builtin.copy_ #[50, 50] 3 #[.slice (some ⟨w.heap.size, 0, none⟩) 7 7, .slice (some ⟨b, o, none⟩) 1 c]).run Try.prog (w.alloc (.cells (Array.replicate 7 (.int .i64 0)) 28)) = .ok (.int .i64 1) W2 := run2
  clear run2
  have HB2 := Lib.hid B2
  have HF2 : Hid (Fr F0 w W2) := Lib.hid (hF1.trans F2 (fun q hq (e : q = w.heap.size) => by omega))
  have hg : Hid (w.heap.size ≤ w.heap.size) := Lib.hid (Nat.le_refl _)
  clear hB1 hF1 B2 F2 hsz0
  go_enter Try.func33, Try.ntmps33
  go_wp2_with (first
    | (go_at_call 46; refine (Mul_small _).mono ?_; rintro e w1 ⟨rfl, rfl⟩))
  generalize hgg : w.heap.size = g at *
  clear mk run2'
  go_loopw [8] (fun s8 wr => ∃ n : Nat, (n = 1 ∨ n = 2 ∨ n = 4 ∨ n = 7) ∧ s8 = .int .i64 n ∧ Hid (Blk wr g 28 (ones n)) ∧ Hid (Fr F0 w wr)) (fun s8 _ => 7 - (intOf s8).toNat)
  case atStart => exact ⟨1, by omega, rfl, HB2, HF2⟩
  case round =>
    obtain ⟨n, hn, rfl, HB, HF⟩ := hrel
    clear HB2 HF2
    rcases hn with rfl | rfl | rfl | rfl
    · obtain ⟨W3, run3, B3, F3⟩ := copyE (w := wr.drew) (a := ⟨g, 0, none⟩) (o := 1) (dLen := 6) (dCap := 6) (sLen := 1) (sCap := 7) (ones 1) (List.replicate 1 (.int .i64 1)) HB.out rfl (fun j v hv => by
        have hv' := List.eq_of_mem_replicate (List.mem_of_getElem? hv)
        have hj := (List.getElem?_eq_some_iff.1 hv).1
        subst hv'
        have hj' : j < 1 := by simpa using hj
        rw [show Addr.add ⟨g, 0, none⟩ j = ⟨g, j, none⟩ by simp [Addr.add] <;> omega]
        refine HB.out.cell (w := wr) ?_
        rcases (show j = 0 by omega) with rfl <;> rfl) (by decide) (by intro v hv; rw [List.eq_of_mem_replicate hv]; rfl)
      have run3' : (Builtin.copy_ #[50, 50] 3 #[.slice (some ⟨g, 1, none⟩) 6 6, .slice (some ⟨g, 0, none⟩) 1 7]).run Try.prog wr.drew = .ok (.int .i64 1) W3 := run3
      have HB3 : Hid (Blk W3 g 28 (ones 2)) := Lib.hid B3
      have HF3 : Hid (Fr F0 w W3) := Lib.hid (HF.out.drew.trans F3 (fun q hq (e : q = g) => by omega))
      have cl : ∀ w, (Instr.sliceAt 50 (.slice (some ⟨g, 0, none⟩) 7 7) (some (.int .i64 1)) none none).run Try.prog w = .ok (.slice (some ⟨g, 1, none⟩) 6 6) w := fun w => cut_lo g 1 6 rfl w
      have ch : ∀ w, (Instr.sliceAt 50 (.slice (some ⟨g, 0, none⟩) 7 7) none (some (.int .i64 1)) none).run Try.prog w = .ok (.slice (some ⟨g, 0, none⟩) 1 7) w := fun w => cut_hi g 1 (by omega) w
      clear run3 B3 F3
      go_wp2_with fail
      go_region
      all_goals
        go_wp2_with fail
        go_roundw
        case rel => exact ⟨2, by omega, rfl, HB3, HF3⟩
        case measure => simp [intOf]
    · obtain ⟨W3, run3, B3, F3⟩ := copyE (w := wr.drew) (a := ⟨g, 0, none⟩) (o := 2) (dLen := 5) (dCap := 5) (sLen := 2) (sCap := 7) (ones 2) (List.replicate 2 (.int .i64 1)) HB.out rfl (fun j v hv => by
        have hv' := List.eq_of_mem_replicate (List.mem_of_getElem? hv)
        have hj := (List.getElem?_eq_some_iff.1 hv).1
        subst hv'
        have hj' : j < 2 := by simpa using hj
        rw [show Addr.add ⟨g, 0, none⟩ j = ⟨g, j, none⟩ by simp [Addr.add] <;> omega]
        refine HB.out.cell (w := wr) ?_
        rcases (show j = 0 ∨ j = 1 by omega) with rfl | rfl <;> rfl) (by decide) (by intro v hv; rw [List.eq_of_mem_replicate hv]; rfl)
      have run3' : (Builtin.copy_ #[50, 50] 3 #[.slice (some ⟨g, 2, none⟩) 5 5, .slice (some ⟨g, 0, none⟩) 2 7]).run Try.prog wr.drew = .ok (.int .i64 2) W3 := run3
      have HB3 : Hid (Blk W3 g 28 (ones 4)) := Lib.hid B3
      have HF3 : Hid (Fr F0 w W3) := Lib.hid (HF.out.drew.trans F3 (fun q hq (e : q = g) => by omega))
      have cl : ∀ w, (Instr.sliceAt 50 (.slice (some ⟨g, 0, none⟩) 7 7) (some (.int .i64 2)) none none).run Try.prog w = .ok (.slice (some ⟨g, 2, none⟩) 5 5) w := fun w => cut_lo g 2 5 rfl w
      have ch : ∀ w, (Instr.sliceAt 50 (.slice (some ⟨g, 0, none⟩) 7 7) none (some (.int .i64 2)) none).run Try.prog w = .ok (.slice (some ⟨g, 0, none⟩) 2 7) w := fun w => cut_hi g 2 (by omega) w
      clear run3 B3 F3
      go_wp2_with fail
      go_region
      all_goals
        go_wp2_with fail
        go_roundw
        case rel => exact ⟨4, by omega, rfl, HB3, HF3⟩
        case measure => simp [intOf]
    · obtain ⟨W3, run3, B3, F3⟩ := copyE (w := wr.drew) (a := ⟨g, 0, none⟩) (o := 4) (dLen := 3) (dCap := 3) (sLen := 4) (sCap := 7) (ones 4) (List.replicate 3 (.int .i64 1)) HB.out rfl (fun j v hv => by
        have hv' := List.eq_of_mem_replicate (List.mem_of_getElem? hv)
        have hj := (List.getElem?_eq_some_iff.1 hv).1
        subst hv'
        have hj' : j < 3 := by simpa using hj
        rw [show Addr.add ⟨g, 0, none⟩ j = ⟨g, j, none⟩ by simp [Addr.add] <;> omega]
        refine HB.out.cell (w := wr) ?_
        rcases (show j = 0 ∨ j = 1 ∨ j = 2 by omega) with rfl | rfl | rfl <;> rfl) (by decide) (by intro v hv; rw [List.eq_of_mem_replicate hv]; rfl)
      have run3' : (Builtin.copy_ #[50, 50] 3 #[.slice (some ⟨g, 4, none⟩) 3 3, .slice (some ⟨g, 0, none⟩) 4 7]).run Try.prog wr.drew = .ok (.int .i64 3) W3 := run3
      have HB3 : Hid (Blk W3 g 28 (ones 7)) := Lib.hid B3
      have HF3 : Hid (Fr F0 w W3) := Lib.hid (HF.out.drew.trans F3 (fun q hq (e : q = g) => by omega))
      have cl : ∀ w, (Instr.sliceAt 50 (.slice (some ⟨g, 0, none⟩) 7 7) (some (.int .i64 4)) none none).run Try.prog w = .ok (.slice (some ⟨g, 4, none⟩) 3 3) w := fun w => cut_lo g 4 3 rfl w
      have ch : ∀ w, (Instr.sliceAt 50 (.slice (some ⟨g, 0, none⟩) 7 7) none (some (.int .i64 4)) none).run Try.prog w = .ok (.slice (some ⟨g, 0, none⟩) 4 7) w := fun w => cut_hi g 4 (by omega) w
      clear run3 B3 F3
      go_wp2_with fail
      go_region
      all_goals
        go_wp2_with fail
        go_roundw
        case rel => exact ⟨7, by omega, rfl, HB3, HF3⟩
        case measure => simp [intOf]
    · go_wp2_with fail
      go_ret
      exact ⟨g, rfl, HB.out, by omega, HF.out⟩
end Go.Proofs.Ytohblajdeicfeaa
