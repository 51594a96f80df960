/- CascadingSearches: the walk. -/
import Derived.Test.YtglonedhcljdoaaN1
namespace Go.Proofs.Ytglonedhcljdoaa
open Go.RowKit
attribute [local go_sem ↓] Go.wp_at_zero Go.wp_at_succ

set_option maxHeartbeats 4000000 in
theorem Searches_walk (a : Option Addr) (n c : Nat) (R : List RowV) (key : Int) (w : World) (hr : ArgRows w a n c R) : Calls Try.prog 3 #[.slice a n c, .int .i64 key] w fun e w' => e = .returned (.bool true) ∧ Fr F0 w w' := by
  obtain ⟨L, hL⟩ : ∃ L, L = catL R := ⟨_, rfl⟩
  have hcl : L.length = n := by rw [hL]; simpa [catL] using hr.len
  have hsm := fun w1 (f : Fr F0 w w1) => small_any a n c R w1 (hr.fr0 f)
  have hmk := fun w1 (f : Fr F0 w w1) => Make_any a n c R w1 (hr.fr0 f)
  have hck := fun w1 (f : Fr F0 w w1) => refCheck_any a n c R w1 (hr.fr0 f)
  rw [← hL] at hsm hmk hck
  have Hsm := Lib.hid hsm
  have Hmk := Lib.hid hmk
  have Hck := Lib.hid hck
  have Hr := Lib.hid hr
  have HL := Lib.hid hL
  have Hcl := Lib.hid hcl
  clear hsm hmk hck hr hL hcl
  cases hs : smallB L with
  | false =>
    rw [hs] at Hsm
    clear hs
    go_enter Try.func3, Try.ntmps3
    go_wp2_with fail
    refine (awake_any _).mono ?_; rintro e w1 ⟨rfl, F1⟩
    go_wp2_with fail
    refine (Hsm.out _ F1).mono ?_; rintro e w2 ⟨rfl, rfl⟩
    go_wp2_with fail
    go_ret
    exact ⟨rfl, F1⟩
  | true =>
    rw [hs] at Hsm
    clear hs
    by_cases hz : checkC L = 0
    · obtain ⟨h32, hn0, hlen, hasc⟩ := check_ok hz
      rw [Hcl.out] at h32 hn0
      have Hz := Lib.hid hz
      have Hlen := Lib.hid hlen
      have Hasc := Lib.hid hasc
      clear hz hlen hasc
      go_enter Try.func3, Try.ntmps3
      go_wp2_with fail
      refine (awake_any _).mono ?_; rintro e w1 ⟨rfl, F1⟩
      go_wp2_with fail
      refine (Hsm.out _ F1).mono ?_; rintro e w2 ⟨rfl, rfl⟩
      go_wp2_with fail
      refine (Hmk.out _ F1).mono ?_; rintro e w2 ⟨F2, hp⟩
      rcases hp with ⟨hne, _⟩ | ⟨_, x, g, hs, rfl, hI⟩
      · exact absurd Hz.out hne
      have hxw : Hid (w.heap.size ≤ x) := Lib.hid (Nat.le_trans F1.size hI.bx)
      replace F1 := F1.trans0 F2
      replace hI := Lib.hid hI
      clear F2
      go_wp2_with fail
      refine (Hck.out _ F1).mono ?_; rintro e w3 ⟨rfl, F3⟩
      rw [Hz.out]
      replace F1 := F1.trans0 F3
      replace hI := Lib.hid (hI.out.fr F3)
      clear F3
      go_wp2_with (refine (Len_any hI.out).mono ?_; rintro e w4 ⟨rfl, rfl⟩; rw [Hcl.out])
      refine (Search_any hI.out (by rw [Hcl.out]; exact h32) (by rw [Hcl.out]; exact hn0) Hlen.out Hasc.out key).mono ?_
      rintro e w5 ⟨a2, c2, cmp, rfl, hR0, _, _, _, _, F5⟩
      rw [Hcl.out] at hR0 ⊢
      have hR := Lib.hid hR0
      replace F1 := F1.trans F5 (fun k hk h => by have e : k = x := h; have := hxw.out; omega)
      have hnm := Hr.out.rd.max
      clear F5 hR0
      go_wp2_with fail
      go_loopw [10, 11, 63] (fun _ _ i wr => ∃ k : Nat, k ≤ n ∧ i = .int .i64 k ∧ Fr F0 w wr ∧ Fr F0 w5 wr) (fun _ _ i _ => n - (intOf i).toNat)
      case atStart => exact ⟨0, by omega, rfl, F1, Fr.refl _ _⟩
      case round =>
        obtain ⟨k, hk, rfl, hF, hF5⟩ := hrel
        by_cases hlt : k < n
        · obtain ⟨b, o, r, hb, hrk, d⟩ := (Hr.out.fr0 hF).ix hlt
          have hrr := (Hr.out.fr0 hF).row k r hrk
          have hx : L[k]? = some r.xs := by rw [HL.out]; simp [catL, hrk]
          obtain ⟨b2, o2, hb2, hc2⟩ := (hR.out.fr0 hF5).cells (by omega)
          have d2 := hc2 k (.int .i64 (rk r.xs key)) (by simp [hx])
          obtain ⟨ra, rn, rc, rxs⟩ := r
          simp only [RowV.val] at *
          obtain ⟨z, hz⟩ : ∃ z : Nat, z = rk rxs key := ⟨_, rfl⟩
          rw [← hz] at d2
          have hcall : ∀ q, Calls Try.prog 13 #[.slice ra rn rc, .int .i64 key] (wr.drewN q) fun e w' => e = .returned (.int .i64 z) ∧ ∃ m, w' = wr.drewN m := by
            intro q
            rw [hz]
            exact (Rank_any ra rn rc rxs key _ (hrr.fr0 ((Fr.refl _ _).drewN q))).mono fun _ _ h => ⟨h.1, q, h.2.symm⟩
          have hcall' := Lib.hid hcall
          subst hb
          subst hb2
          have i0 : (0 : Int) ≤ (k : Int) := by omega
          have i1 : (k : Int) < (n : Int) := by omega
          clear hx hrk hrr hc2 hz hcall
          go_wp2_with fail
          go_quiet ((go_at_call 13; exact hcall'.out _))
          go_wp2_with fail
          go_roundw
          case rel => exact ⟨k + 1, by omega, by go_num, hF.drewN _, hF5.drewN _⟩
          case measure => simp [intOf]; omega
        · go_wp2_with fail
          go_ret
          exact ⟨rfl, hF⟩
    · obtain ⟨z, hzz⟩ : ∃ z, z = checkC L := ⟨_, rfl⟩
      have e0 : (z != 0) = true := by rw [hzz]; simpa using hz
      have Hz := Lib.hid hz
      have Hzz := Lib.hid hzz
      clear hz hzz
      go_enter Try.func3, Try.ntmps3
      go_wp2_with fail
      refine (awake_any _).mono ?_; rintro e w1 ⟨rfl, F1⟩
      go_wp2_with fail
      refine (Hsm.out _ F1).mono ?_; rintro e w2 ⟨rfl, rfl⟩
      go_wp2_with fail
      refine (Hmk.out _ F1).mono ?_; rintro e w2 ⟨F2, hp⟩
      rcases hp with ⟨_, rfl⟩ | ⟨he, _⟩
      rotate_left
      · exact absurd he Hz.out
      replace F1 := F1.trans0 F2
      rw [← Hzz.out]
      clear F2
      go_wp2_with fail
      refine (Hck.out _ F1).mono ?_; rintro e w3 ⟨rfl, F3⟩
      rw [← Hzz.out]
      replace F1 := Lib.hid (F1.trans0 F3)
      clear F3
      go_wp2_with fail
      go_ret
      exact ⟨rfl, F1.out⟩
end Go.Proofs.Ytglonedhcljdoaa
