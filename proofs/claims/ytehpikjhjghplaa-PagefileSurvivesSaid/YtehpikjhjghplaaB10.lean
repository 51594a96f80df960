/- Copies of bytes and of disks; whether two disks are equal. -/
import Derived.Test.YtehpikjhjghplaaB9
namespace Go.Proofs.Ytehpikjhjghplaa
open Go.RowKit
attribute [local go_sem ↓] Go.wp_at_zero Go.wp_at_succ
theorem Clone_any (a : Option Addr) (n c : Nat) (bs : List UInt8) (w : World) (hr : Rd w a n (byt bs)) (hn2 : n ≤ 2000000) :
    Calls Try.prog 18 #[.slice a n c] w fun e w' => ∃ a' c', e = .returned (.slice a' n c') ∧ Own w' w.heap.size 5 a' n c' (byt bs) ∧ Fr F0 w w' := by
  have hnil := fun (w : World) (a : Option Addr) (l c : Nat) => Lib.run_eql_slice_nil (P := Try.prog) w 22 5 a l c 0 0 Try.underlying22
  cases a with
  | none =>
    obtain rfl : n = 0 := by
      rcases Nat.eq_zero_or_pos n with h | h
      · exact h
      · obtain ⟨_, _, h2, _⟩ := hr.cells h; cases h2
    have hb : bs = [] := by have := hr.len; simpa using this
    subst hb
    clear hr
    go_enter Try.func18, Try.ntmps18
    go_wp2_with fail
    go_ret
    exact ⟨none, 0, rfl, Own.nil _ _ _, Fr.refl _ _⟩
  | some ad =>
    have hO : Own (w.alloc (.cells (#[] : Array Value) 5)) w.heap.size 5 (some ⟨w.heap.size, 0, none⟩) 0 0 (byt []) := Own.lit [] 0 rfl (by omega) (by omega)
    have hF : Fr F0 w (w.alloc (.cells (#[] : Array Value) 5)) := (Fr.refl _ _).alloc _
    have hR := hr.fr0 hF
    replace hO := Lib.hid hO
    replace hF := Lib.hid hF
    replace hR := Lib.hid hR
    clear hr
    go_enter Try.func18, Try.ntmps18
    go_wp2_with (at_builtin; refine wpAppRd E5 hO.out hR.out (oneCell_byt bs) (by omega) (by omega) (by simp) n (by omega) rfl rfl ?_; intro a' c' w' own' fr' at')
    go_ret
    exact ⟨a', c', rfl, by simpa [byt] using own', hF.out.trans fr' (fun k hk hs => by have := (hO.out.blk k hs).1; omega)⟩
theorem refcopied_any (a : Option Addr) (n c : Nat) (bs : List UInt8) (w : World) (hr : Rd w a n (byt bs)) (hn2 : n ≤ 2000000) :
    Calls Try.prog 53 #[.slice a n c] w fun e w' => ∃ a' c', e = .returned (.slice a' n c') ∧ Own w' w.heap.size 5 a' n c' (byt bs) ∧ Fr F0 w w' := by
  have hO : Own (w.alloc (.cells (#[] : Array Value) 5)) w.heap.size 5 (some ⟨w.heap.size, 0, none⟩) 0 0 (byt []) := Own.lit [] 0 rfl (by omega) (by omega)
  have hF : Fr F0 w (w.alloc (.cells (#[] : Array Value) 5)) := (Fr.refl _ _).alloc _
  have hR := hr.fr0 hF
  replace hO := Lib.hid hO
  replace hF := Lib.hid hF
  replace hR := Lib.hid hR
  clear hr
  go_enter Try.func53, Try.ntmps53
  go_wp2_with (at_builtin; refine wpAppRd E5 hO.out hR.out (oneCell_byt bs) (by omega) (by omega) (by simp) n (by omega) rfl rfl ?_; intro a' c' w' own' fr' at')
  go_ret
  exact ⟨a', c', rfl, by simpa [byt] using own', hF.out.trans fr' (fun k hk hs => by have := (hO.out.blk k hs).1; omega)⟩
theorem copied_any (pg sy af : Int) (a : Option Addr) (n c : Nat) (a2 : Option Addr) (n2 c2 : Nat) (bs : List UInt8) (w : World) (hr : Rd w a2 n2 (byt bs)) (hn2 : n2 ≤ 2000000) :
    Calls Try.prog 59 #[.agg (dskI pg a n c sy af), .slice a2 n2 c2] w fun e w' => ∃ a' c', e = .returned (.agg (dskI pg a' n2 c' sy af)) ∧ Own w' w.heap.size 5 a' n2 c' (byt bs) ∧ Fr F0 w w' := by
  have FA : Fr F0 w ((w.alloc (.cells (dskI pg a n c sy af) 24)).alloc (.cells (dskI 0 none 0 0 0 0) 24)) := ((Fr.refl _ _).alloc _).alloc _
  have B0 : Blk ((w.alloc (.cells (dskI pg a n c sy af) 24)).alloc (.cells (dskI 0 none 0 0 0 0) 24)) w.heap.size 24 [.int .i64 pg, .slice a n c, .int .i64 sy, .int .i64 af] := (Blk.new w 24 [.int .i64 pg, .slice a n c, .int .i64 sy, .int .i64 af]).alloc _
  have B1 : Blk ((w.alloc (.cells (dskI pg a n c sy af) 24)).alloc (.cells (dskI 0 none 0 0 0 0) 24)) (w.heap.size + 1) 24 [.int .i64 0, .slice none 0 0, .int .i64 0, .int .i64 0] := by
    have h := Blk.new (w.alloc (.cells (dskI pg a n c sy af) 24)) 24 [.int .i64 0, .slice none 0 0, .int .i64 0, .int .i64 0]
    rwa [size_alloc] at h
  have hsz : ((w.alloc (.cells (dskI pg a n c sy af) 24)).alloc (.cells (dskI 0 none 0 0 0 0) 24)).heap.size = w.heap.size + 2 := by rw [size_alloc, size_alloc]
  have Hr := Lib.hid (hr.fr0 FA)
  replace FA := Lib.hid FA
  replace B0 := Lib.hid B0
  replace B1 := Lib.hid B1
  replace hsz := Lib.hid hsz
  clear hr
  go_enter Try.func59, Try.ntmps59
  go_wp2_with fail
  refine (Clone_any a2 n2 c2 bs _ Hr.out hn2).mono ?_
  rintro e w1 ⟨a', c', rfl, O1, F1⟩
  have C0 := Lib.hid (B0.out.fr F1 id)
  have C1 := Lib.hid (B1.out.fr F1 id)
  have F2 := Lib.hid (FA.out.trans0 F1)
  have hO : Hid (Own w1 (w.heap.size + 2) 5 a' n2 c' (byt bs)) := Lib.hid (by rw [← hsz.out]; exact O1)
  clear O1 F1 FA B0 B1 Hr hsz
  obtain ⟨bA, hbA⟩ : ∃ b, b = w.heap.size := ⟨_, rfl⟩
  obtain ⟨bB, hbB⟩ : ∃ b, b = w.heap.size + 1 := ⟨_, rfl⟩
  rw [← hbA] at C0
  rw [← hbB] at C1
  have Hbb : Hid (bA = w.heap.size ∧ bB = w.heap.size + 1) := Lib.hid ⟨hbA, hbB⟩
  rw [← hbB, ← hbA]
  clear hbA hbB
  have z0 := C0.out.cell (i := 0) rfl
  have z1 := C0.out.cell (i := 1) rfl
  have z2 := C0.out.cell (i := 2) rfl
  have z3 := C0.out.cell (i := 3) rfl
  have zf := C0.out.free 1
  have y0 := C1.out.cell (i := 0) rfl
  have y1 := C1.out.cell (i := 1) rfl
  have y2 := C1.out.cell (i := 2) rfl
  have y3 := C1.out.cell (i := 3) rfl
  have f0 := C1.out.free 0
  have f1 := C1.out.free 1
  have f2 := C1.out.free 2
  have f3 := C1.out.free 3
  have nAB : bA ≠ bB := by have := Hbb.out; omega
  have nBA : bB ≠ bA := by have := Hbb.out; omega
  go_wp2_with fail
  clear z0 z1 z2 z3 zf y0 y1 y2 y3 f0 f1 f2 f3
  have g := (((((C1.out.other (p := ⟨bA, 1, none⟩) nBA (.slice a' n2 c')).set 0 (.int .i64 pg)).set 1 (.slice a' n2 c')).set 2 (.int .i64 sy)).set 3 (.int .i64 af))
  have g0 := g.cell (i := 0) rfl
  have g1 := g.cell (i := 1) rfl
  have g2 := g.cell (i := 2) rfl
  have g3 := g.cell (i := 3) rfl
  have G : Fr (fun j => j = bA ∨ j = bB) w1 (((((w1.setCell ⟨bA, 1, none⟩ (.slice a' n2 c')).setCell ⟨bB, 0, none⟩ (.int .i64 pg)).setCell ⟨bB, 1, none⟩ (.slice a' n2 c')).setCell ⟨bB, 2, none⟩ (.int .i64 sy)).setCell ⟨bB, 3, none⟩ (.int .i64 af)) := by
    refine Fr.setCell (p := ⟨bB, 3, none⟩) (Fr.setCell (p := ⟨bB, 2, none⟩) (Fr.setCell (p := ⟨bB, 1, none⟩) (Fr.setCell (p := ⟨bB, 0, none⟩) (Fr.setCell (p := ⟨bA, 1, none⟩) (Fr.refl _ _) ?_ _) ?_ _) ?_ _) ?_ _) ?_ _
    · exact fun _ => .inl rfl
    all_goals exact fun _ => .inr rfl
  have nO : ∀ j, onBlk a' j → ¬ (j = bA ∨ j = bB) := fun j h h2 => by have := (hO.out.blk j h).1; have := Hbb.out; omega
  refine bodyPost_ret (v := .agg #[.int .i64 pg, .slice a' n2 c', .int .i64 sy, .int .i64 af]) ?_ rfl ?_
  · simp [results, Try.results59, go_sem, g0, g1, g2, g3]
  exact ⟨a', c', rfl, (hO.out.fr G nO).mono (by omega), F2.out.trans G (fun j h1 h2 => by have := Hbb.out; omega)⟩
set_option maxHeartbeats 1000000 in
theorem SameBytes_any (a1 a2 : Option Addr) (n c1 c2 : Nat) (bs : List UInt8) (w : World) (h1 : Rd w a1 n (byt bs)) (h2 : Rd w a2 n (byt bs)) :
    Calls Try.prog 55 #[.slice a1 n c1, .slice a2 n c2] w fun e w' => e = .returned (.bool true) ∧ ∃ q, w' = w.drewN q := by
  have hmax := h1.max
  go_enter Try.func55, Try.ntmps55
  go_wp2_with fail
  go_loopw [5] (fun s5 wr => ∃ k : Nat, k ≤ n ∧ s5 = .int .i64 k ∧ Hid (∃ q, wr = w.drewN q)) (fun s5 _ => n - (intOf s5).toNat)
  case atStart => exact ⟨0, by omega, rfl, Lib.hid ⟨0, rfl⟩⟩
  case round =>
    obtain ⟨k, hk, rfl, hq⟩ := hrel
    by_cases hlt : k < n
    · obtain ⟨q, hq⟩ := hq.out
      obtain ⟨b1, o1, x, hb1, hx1, d1⟩ := h1.bx hlt
      obtain ⟨b2, o2, y, hb2, hx2, d2⟩ := h2.bx hlt
      obtain rfl : x = y := by rw [hx1] at hx2; injection hx2
      have F := (Fr.refl F0 w).drewN q
      rw [← hq] at F
      replace d1 := F.cell d1 id
      replace d2 := F.cell d2 id
      obtain ⟨z, hz⟩ : ∃ z : Int, z = (x.toNat : Int) := ⟨_, rfl⟩
      unfold bv at d1 d2
      rw [← hz] at d1 d2
      have Hq := Lib.hid hq
      have i0 : (0 : Int) ≤ (k : Int) := by omega
      have i1 : (k : Int) < (n : Int) := by omega
      clear hx1 hx2 hq F hz
      subst hb1
      subst hb2
      go_wp2_with fail
      go_quiet (fail)
      go_wp2_with fail
      go_roundw
      case rel => exact ⟨k + 1, by omega, by go_num, Lib.hid ⟨q + nq, by rw [Hq.out, World.drewN_drewN]⟩⟩
      case measure => simp [intOf]; omega
    · obtain rfl : k = n := by omega
      go_wp2_with fail
      go_ret
      exact ⟨rfl, hq.out⟩
set_option maxHeartbeats 1000000 in
theorem Same_any (pg sy af : Int) (a1 a2 : Option Addr) (n c1 c2 : Nat) (bs : List UInt8) (w : World) (h1 : Rd w a1 n (byt bs)) (h2 : Rd w a2 n (byt bs)) :
    Calls Try.prog 15 #[.agg (dskI pg a1 n c1 sy af), .agg (dskI pg a2 n c2 sy af)] w fun e w' => e = .returned (.bool true) ∧ Fr F0 w w' := by
  have FA : Fr F0 w ((w.alloc (.cells (dskI pg a1 n c1 sy af) 24)).alloc (.cells (dskI pg a2 n c2 sy af) 24)) := ((Fr.refl _ _).alloc _).alloc _
  have r1 := Lib.hid (h1.fr0 FA)
  have r2 := Lib.hid (h2.fr0 FA)
  replace FA := Lib.hid FA
  clear h1 h2
  go_enter Try.func15, Try.ntmps15
  go_wp2_with fail
  refine (SameBytes_any a1 a2 n c1 c2 bs _ r1.out r2.out).mono ?_
  rintro e w1 ⟨rfl, q, rfl⟩
  go_wp2_with fail
  go_ret
  exact ⟨rfl, FA.out.drewN _⟩
end Go.Proofs.Ytehpikjhjghplaa
