/- The reference's Open. -/
import Derived.Test.YtehpikjhjghplaaB21
import Derived.Test.YtehpikjhjghplaaB14
namespace Go.Proofs.Ytehpikjhjghplaa
open Go.RowKit
attribute [local go_sem ↓] Go.wp_at_zero Go.wp_at_succ
set_option maxRecDepth 100000 in
set_option maxHeartbeats 8000000 in
theorem RefOpen_any (a : Option Addr) (n c : Nat) (pg sy af : Int) (bs : List UInt8) (w : World) (hr : Rd w a n (byt bs)) (hc : n ≤ c) :
    Calls Try.prog 23 #[.agg (dskI pg a n c sy af)] w (KPost (openS pg bs sy af) w) := by
  have hbl : bs.length = n := by simpa using hr.len
  have FA : Fr F0 w ((w.alloc (.cells (dskI pg a n c sy af) 24)).alloc (.cells (dskI 0 none 0 0 0 0) 24)) := ((Fr.refl _ _).alloc _).alloc _
  have B0 : Blk ((w.alloc (.cells (dskI pg a n c sy af) 24)).alloc (.cells (dskI 0 none 0 0 0 0) 24)) w.heap.size 24 [.int .i64 pg, .slice a n c, .int .i64 sy, .int .i64 af] := (Blk.new w 24 [.int .i64 pg, .slice a n c, .int .i64 sy, .int .i64 af]).alloc _
  have B1 : Blk ((w.alloc (.cells (dskI pg a n c sy af) 24)).alloc (.cells (dskI 0 none 0 0 0 0) 24)) (w.heap.size + 1) 24 [.int .i64 0, .slice none 0 0, .int .i64 0, .int .i64 0] := by
    have h := Blk.new (w.alloc (.cells (dskI pg a n c sy af) 24)) 24 [.int .i64 0, .slice none 0 0, .int .i64 0, .int .i64 0]
    rwa [size_alloc] at h
  have hsz : ((w.alloc (.cells (dskI pg a n c sy af) 24)).alloc (.cells (dskI 0 none 0 0 0 0) 24)).heap.size = w.heap.size + 2 := by rw [size_alloc, size_alloc]
  have hval := refValid_any a n c pg sy af bs _ (hr.fr0 FA) hc
  have Hr := Lib.hid hr
  have Hbl := Lib.hid hbl
  replace FA := Lib.hid FA
  replace B0 := Lib.hid B0
  replace B1 := Lib.hid B1
  replace hsz := Lib.hid hsz
  obtain ⟨bA, hbA⟩ : ∃ b, b = w.heap.size := ⟨_, rfl⟩
  obtain ⟨bB, hbB⟩ : ∃ b, b = w.heap.size + 1 := ⟨_, rfl⟩
  have Hbb : Hid (bA = w.heap.size ∧ bB = w.heap.size + 1) := Lib.hid ⟨hbA, hbB⟩
  have nAB : bA ≠ bB := by omega
  have nBA : bB ≠ bA := by omega
  have Hc := Lib.hid hc
  cases hv : validB pg bs sy af with
  | false =>
    have E : openS pg bs sy af = (⟨0, [], 0, 0⟩, 1) := by unfold openS; rw [hv, if_neg (by decide)]
    rw [hv] at hval
    rw [E]
    clear hv hr hbl hc E
    go_enter Try.func23, Try.ntmps23
    go_wp2_with fail
    refine hval.mono ?_
    rintro e w1 ⟨rfl, F1⟩
    have C1 := Lib.hid (B1.out.fr F1 id)
    have F2 := Lib.hid (FA.out.trans0 F1)
    rw [← hbB] at C1
    rw [← hbB, ← hbA]
    clear F1 FA B0 B1 hsz hbA hbB hval
    have y0 := C1.out.cell (i := 0) rfl
    have y1 := C1.out.cell (i := 1) rfl
    have y2 := C1.out.cell (i := 2) rfl
    have y3 := C1.out.cell (i := 3) rfl
    have f0 := C1.out.free 0
    have f1 := C1.out.free 1
    have f2 := C1.out.free 2
    have f3 := C1.out.free 3
    go_wp2_with fail
    clear y0 y1 y2 y3 f0 f1 f2 f3
    have g := ((((C1.out.set 0 (.int .i64 0)).set 1 (.slice none 0 0)).set 2 (.int .i64 0)).set 3 (.int .i64 0))
    have g0 := g.cell (i := 0) rfl
    have g1 := g.cell (i := 1) rfl
    have g2 := g.cell (i := 2) rfl
    have g3 := g.cell (i := 3) rfl
    have G : Fr (fun j => j = bB) w1 ((((w1.setCell ⟨bB, 0, none⟩ (.int .i64 0)).setCell ⟨bB, 1, none⟩ (.slice none 0 0)).setCell ⟨bB, 2, none⟩ (.int .i64 0)).setCell ⟨bB, 3, none⟩ (.int .i64 0)) := by
      refine Fr.setCell (p := ⟨bB, 3, none⟩) (Fr.setCell (p := ⟨bB, 2, none⟩) (Fr.setCell (p := ⟨bB, 1, none⟩) (Fr.setCell (p := ⟨bB, 0, none⟩) (Fr.refl _ _) ?_ _) ?_ _) ?_ _) ?_ _
      all_goals exact fun _ => rfl
    refine bodyPost_ret (v := .tuple #[.agg #[.int .i64 0, .slice none 0 0, .int .i64 0, .int .i64 0], .int .i64 1]) ?_ rfl ?_
    · simp [results, Try.results23, go_sem, g0, g1, g2, g3]
    exact ⟨none, 0, 0, rfl, rfl, Own.nil _ _ _, F2.out.trans G (fun j h1 h2 => by have := Hbb.out; omega)⟩
  | true =>
    obtain ⟨⟨hp1, hp2⟩, _, hlen, _⟩ := valid_of hv
    obtain ⟨page, rfl⟩ := Int.eq_ofNat_of_zero_le (show 0 ≤ pg by omega)
    obtain ⟨m, hm⟩ : ∃ m, m = (recs bs page).2 := ⟨_, rfl⟩
    have hmn : m ≤ n := by rw [hm, ← Hbl.out]; exact recs_le bs page
    have Hm := Lib.hid hm
    have E : openS page bs sy af = (⟨page, bs.take m, (m : Int), af⟩, 0) := by unfold openS; rw [hv, if_pos rfl, Int.toNat_natCast, hm]
    rw [hv] at hval
    rw [E]
    have Hln : Hid (n ≤ 1048576 ∧ page ≤ 256) := Lib.hid (by omega)
    have hn : n ≤ 1048576 := by omega
    have Hp1 : Hid (1 ≤ page) := Lib.hid (by omega)
    have s1 : ∀ w, (Instr.sliceAt 22 (.slice a n c) none (some (.int .i64 (m : Int))) none).run Try.prog w = .ok (.slice (cutA a c 0) m c) w := fun w => run_cutHi E5 w a (by have := Hc.out; omega) rfl
    have hRm : Hid (Rd w (cutA a c 0) m (byt (bs.take m))) := Lib.hid (by have h := Hr.out.cutHi Hc.out hmn; rwa [byt_take] at h)
    clear hv hr hbl hp1 hp2 hlen hc E hm
    go_enter Try.func23, Try.ntmps23
    go_wp2_with fail
    refine hval.mono ?_
    rintro e w0 ⟨rfl, F0'⟩
    replace B0 := Lib.hid (B0.out.fr F0' id)
    replace B1 := Lib.hid (B1.out.fr F0' id)
    replace FA := Lib.hid (FA.out.trans0 F0')
    replace hsz : Hid (w.heap.size + 2 ≤ w0.heap.size) := Lib.hid (by have h := F0'.size; rw [hsz.out] at h; exact h)
    have x0 := B0.out.cell (i := 0) rfl
    have x1 := B0.out.cell (i := 1) rfl
    have x2 := B0.out.cell (i := 2) rfl
    have x3 := B0.out.cell (i := 3) rfl
    clear F0' hval
    go_wp2_with fail
    clear x0 x1 x2 x3
    refine (Records_any a n c page sy af bs _ (Hr.out.fr0 FA.out) Hc.out Hln.out.1 Hln.out.2 Hp1.out).mono ?_
    rintro e w1 ⟨ar, cr, T, S, rfl, _, _, _, _, F1⟩
    rw [← Hm.out]
    have C0 := Lib.hid (B0.out.fr F1 id)
    have C1 := Lib.hid (B1.out.fr F1 id)
    have F2 := Lib.hid (FA.out.trans0 F1)
    have hs1 : Hid (w.heap.size + 2 ≤ w1.heap.size) := Lib.hid (by have := F1.size; have := hsz.out; omega)
    rw [← hbA] at C0
    rw [← hbB] at C1
    rw [← hbB, ← hbA]
    clear F1 FA B0 B1 hsz hbA hbB
    have z0 := C0.out.cell (i := 0) rfl
    have z1 := C0.out.cell (i := 1) rfl
    have z2 := C0.out.cell (i := 2) rfl
    have z3 := C0.out.cell (i := 3) rfl
    go_wp2_with fail
    have hcop : ∀ (W : World), Fr F0 w1 W → Calls Try.prog 53 #[.slice (cutA a c 0) m c] W fun e w' => ∃ a' c', e = .returned (.slice a' m c') ∧ Own w' (w.heap.size + 2) 5 a' m c' (byt (bs.take m)) ∧ Fr F0 w1 w' ∧
        w'.cell? ⟨bA, 0, none⟩ = some (.int .i64 page) ∧ w'.cell? ⟨bA, 1, none⟩ = some (.slice a n c) ∧ w'.cell? ⟨bA, 3, none⟩ = some (.int .i64 af) ∧ Blk w' bB 24 [.int .i64 0, .slice none 0 0, .int .i64 0, .int .i64 0] := fun W F =>
      (refcopied_any (cutA a c 0) m c (bs.take m) W ((hRm.out.fr0 F2.out).fr0 F) (by omega)).mono fun e w' ⟨a', c', h1, h2, h3⟩ =>
        have F9 := F.trans0 h3
        ⟨a', c', h1, h2.mono (by have := F.size; have := hs1.out; omega), F9, F9.cell z0 id, F9.cell z1 id, F9.cell z3 id, C1.out.fr F9 id⟩
    have Hcop := Lib.hid hcop
    clear hcop
    go_region_held3 (fun w' => w'.cell? ⟨bA, 0, none⟩ = some (.int .i64 page) ∧ w'.cell? ⟨bA, 1, none⟩ = some (.slice a n c) ∧ w'.cell? ⟨bA, 3, none⟩ = some (.int .i64 af)) (go_keep)
      (first | (go_at_call 53; refine (Hcop.out _ (by repeat (first | exact Fr.refl _ _ | refine Fr.drew ?_))).mono ?_; rintro e w2 ⟨a', c', rfl, O2, G2, k0, k1, k3, B2⟩; have O2h := Lib.hid O2; have G2h := Lib.hid G2; have B2h := Lib.hid B2; have y0 := B2.cell (i := 0) rfl; have y1 := B2.cell (i := 1) rfl; have y2 := B2.cell (i := 2) rfl; have y3 := B2.cell (i := 3) rfl; have f0 := B2.free 0; have f1 := B2.free 1; have f2 := B2.free 2; have f3 := B2.free 3; clear O2 G2 B2))
    all_goals
      go_wp2_with fail
      clear y0 y1 y2 y3 f0 f1 f2 f3
      have g := ((((B2h.out.set 0 (.int .i64 page)).set 1 (.slice a' m c')).set 2 (.int .i64 m)).set 3 (.int .i64 af))
      have g0 := g.cell (i := 0) rfl
      have g1 := g.cell (i := 1) rfl
      have g2 := g.cell (i := 2) rfl
      have g3 := g.cell (i := 3) rfl
      have G : Fr (fun j => j = bB) w2 ((((w2.setCell ⟨bB, 0, none⟩ (.int .i64 page)).setCell ⟨bB, 1, none⟩ (.slice a' m c')).setCell ⟨bB, 2, none⟩ (.int .i64 m)).setCell ⟨bB, 3, none⟩ (.int .i64 af)) := by
        refine (Fr.setCell (p := ⟨bB, 3, none⟩) (Fr.setCell (p := ⟨bB, 2, none⟩) (Fr.setCell (p := ⟨bB, 1, none⟩) (Fr.setCell (p := ⟨bB, 0, none⟩) (Fr.refl _ _) ?_ _) ?_ _) ?_ _) ?_ _)
        all_goals exact fun _ => rfl
      refine bodyPost_ret (v := .tuple #[.agg #[.int .i64 page, .slice a' m c', .int .i64 m, .int .i64 af], .int .i64 0]) ?_ rfl ?_
      · simp [results, Try.results23, go_sem, g0, g1, g2, g3]
      exact ⟨a', m, c', by show m = (bs.take m).length; rw [List.length_take, Hbl.out]; omega, rfl, (O2h.out.fr G (fun j h h2 => by have := (O2h.out.blk j h).1; have := Hbb.out; omega)).mono (by omega), (F2.out.trans0 G2h.out).trans G (fun j h1 h2 => by have := Hbb.out; omega)⟩
end Go.Proofs.Ytehpikjhjghplaa
