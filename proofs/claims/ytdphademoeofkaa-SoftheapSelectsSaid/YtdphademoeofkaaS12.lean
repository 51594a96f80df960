/- Meld refused; methods of a nil heap. -/
import Derived.Test.YtdphademoeofkaaS11
import Derived.LaidEqlPtr
namespace Go.Proofs.Ytdphademoeofkaa
open Go.RowKit
attribute [local go_sem ↓] Go.wp_at_zero Go.wp_at_succ
theorem info59 : ∃ j, Try.prog.info? 59 = some j ∧ j.size ≠ 0 := by
  have h : (Try.prog.info? 59).map (fun i => i.size) = some 5 := by kernel_rfl
  cases hj : Try.prog.info? 59 with
  | none => rw [hj] at h; cases h
  | some j =>
    rw [hj] at h
    injection h with h
    have h' : j.size = 5 := h
    exact ⟨j, rfl, fun e => by rw [h'] at e; cases e⟩
theorem eql_same (hb : Nat) (w : World) : (binOp .eql 24 (.pointer (some ⟨hb, 0, none⟩)) (.pointer (some ⟨hb, 0, none⟩))).run Try.prog w = .ok (.bool true) w := by
  obtain ⟨j, hj, _⟩ := info59
  exact run_eql_ptr_same w _ (by kernel_rfl) hj
theorem eql_other {ha hb : Nat} {w : World} {va vb : List Value} (hA : Blk w ha 59 va) (hB : Blk w hb 59 vb) (hne : ha ≠ hb) : (binOp .eql 24 (.pointer (some ⟨ha, 0, none⟩)) (.pointer (some ⟨hb, 0, none⟩))).run Try.prog w = .ok (.bool false) w := by
  obtain ⟨j, hj, hs⟩ := info59
  exact run_eql_ptr_other w (by kernel_rfl) hj hs (fun e => hne (by injection e)) hA hB
def MeP (w : World) (er : Int) (e : Ending) (w' : World) : Prop := e = .returned (.tuple #[.slice none 0 0, .int .i64 er]) ∧ ∃ q, w' = w.drewN q
set_option maxRecDepth 100000 in
theorem Meld_nil (w : World) (hb : Nat) : Calls Try.prog 12 #[.pointer (some ⟨hb, 0, none⟩), .pointer none] w (MeP w 1) := by
  go_enter Try.func12, Try.ntmps12
  go_wp2_with fail
  go_ret2
  exact ⟨rfl, 0, rfl⟩
set_option maxRecDepth 100000 in
theorem Meld_same (w : World) (hb : Nat) : Calls Try.prog 12 #[.pointer (some ⟨hb, 0, none⟩), .pointer (some ⟨hb, 0, none⟩)] w (MeP w 1) := by
  have he := eql_same hb w
  go_enter Try.func12, Try.ntmps12
  go_wp2_with fail
  go_ret2
  exact ⟨rfl, 0, rfl⟩
set_option maxRecDepth 100000 in
theorem Meld_none (w : World) (p : Option Addr) : Calls Try.prog 12 #[.pointer none, .pointer p] w (MeP w 1) := by
  go_enter Try.func12, Try.ntmps12
  go_wp2_with fail
  go_ret2
  exact ⟨rfl, 0, rfl⟩
set_option maxRecDepth 100000 in
theorem Meld_rate {w : World} {ha hb ra rb : Nat} {tsA tsB : List Tr} {ownA ownB : List Int} {IA IB : List (Option Nat)} {TA TB : Nat → Prop} (hA : Hp w ha ra tsA ownA IA TA) (hB : Hp w hb rb tsB ownB IB TB) (hne : ha ≠ hb) (hr : ra ≠ rb) :
    Calls Try.prog 12 #[.pointer (some ⟨ha, 0, none⟩), .pointer (some ⟨hb, 0, none⟩)] w (MeP w 30) := by
  obtain ⟨_, _, _, _, _, _, _, h1, _⟩ := hA
  obtain ⟨_, _, _, _, _, _, _, h2, _⟩ := hB
  have a0 := h1.blk.cell (i := 0) rfl
  have b0 := h2.blk.cell (i := 0) rfl
  have hne' : ((ra : Int) == (rb : Int)) = false := by simp; omega
  have he := eql_other h1.blk h2.blk hne
  clear h1 h2
  go_enter Try.func12, Try.ntmps12
  go_wp2_with fail
  go_quiet (fail)
  go_wp2_with fail
  go_ret2
  exact ⟨rfl, _, rfl⟩
theorem Insert_nil (w : World) (x : Int) : Calls Try.prog 9 #[.pointer none, .int .i64 x] w fun e w' => e = .returned (.tuple #[.int .i64 0, .int .i64 1]) ∧ w = w' := by
  go_enter Try.func9, Try.ntmps9
  go_wp2_with fail
  go_ret2
  exact ⟨rfl, rfl⟩
set_option maxRecDepth 100000 in
theorem DeleteMin_nil (w : World) : Calls Try.prog 13 #[.pointer none] w fun e w' => e = .returned (.tuple #[.int .i64 0, .int .i64 0, .int .i64 1]) ∧ w = w' := by
  go_enter Try.func13, Try.ntmps13
  go_wp2_with fail
  go_ret3
  exact ⟨rfl, rfl⟩
theorem Current_nil (w : World) (x : Int) : Calls Try.prog 14 #[.pointer none, .int .i64 x] w fun e w' => e = .returned (.tuple #[.int .i64 0, .int .i64 1]) ∧ w = w' := by
  go_enter Try.func14, Try.ntmps14
  go_wp2_with fail
  go_ret2
  exact ⟨rfl, rfl⟩
theorem Len_nil (w : World) : Calls Try.prog 11 #[.pointer none] w fun e w' => e = .returned (.int .i64 0) ∧ w = w' := by
  go_enter Try.func11, Try.ntmps11
  go_wp2_with fail
  go_ret
  exact ⟨rfl, rfl⟩
theorem Inserted_nil (w : World) : Calls Try.prog 15 #[.pointer none] w fun e w' => e = .returned (.int .i64 0) ∧ w = w' := by
  go_enter Try.func15, Try.ntmps15
  go_wp2_with fail
  go_ret
  exact ⟨rfl, rfl⟩
theorem Items_nil (w : World) : Calls Try.prog 17 #[.pointer none] w fun e w' => e = .returned (.slice none 0 0) ∧ w = w' := by
  go_enter Try.func17, Try.ntmps17
  go_wp2_with fail
  go_ret
  exact ⟨rfl, rfl⟩
theorem Corrupted_nil (w : World) : Calls Try.prog 16 #[.pointer none] w fun e w' => e = .returned (.int .i64 0) ∧ w = w' := by
  go_enter Try.func16, Try.ntmps16
  go_wp2_with (go_at_call 17; refine (Items_nil _).mono ?_; rintro e w1 ⟨rfl, rfl⟩)
  go_loopw [3, 9] (fun s3 s9 wr => s3 = .int .i64 0 ∧ s9 = .int .i64 0 ∧ w = wr) (fun _ _ _ => 0)
  case atStart => exact ⟨rfl, rfl, rfl⟩
  case round =>
    obtain ⟨rfl, rfl, rfl⟩ := hrel
    go_wp2_with fail
    go_ret
    exact ⟨rfl, rfl⟩
theorem key_any (w : World) (k : Int) : Calls Try.prog 10 #[.int .i64 k] w fun e w' => e = .returned (.bool (decide (-1048576 ≤ k ∧ k ≤ 1048576))) ∧ w = w' := by
  by_cases h : -1048576 ≤ k
  · go_enter Try.func10, Try.ntmps10
    go_wp2_with fail
    go_ret
    exact ⟨ret_bool (by simp [h]), rfl⟩
  · go_enter Try.func10, Try.ntmps10
    go_wp2_with fail
    go_ret
    exact ⟨ret_bool (by simp; omega), rfl⟩
end Go.Proofs.Ytdphademoeofkaa
