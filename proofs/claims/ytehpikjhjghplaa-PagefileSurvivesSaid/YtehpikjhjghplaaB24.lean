/- Crash. -/
import Derived.Test.YtehpikjhjghplaaB21
namespace Go.Proofs.Ytehpikjhjghplaa
open Go.RowKit
attribute [local go_sem ↓] Go.wp_at_zero Go.wp_at_succ
/-- What Crash makes of a disk. -/
def crashS (pg : Int) (bs : List UInt8) (sy af keep : Int) : Dk × Int :=
  if validB pg bs sy af = true then (if keep < 0 ∨ (bs.length : Int) - sy < keep then (⟨0, [], 0, 0⟩, 2) else (⟨pg, bs.take (sy.toNat + keep.toNat), sy, -1⟩, 0)) else (⟨0, [], 0, 0⟩, 1)
set_option maxRecDepth 100000 in
set_option maxHeartbeats 8000000 in
theorem Crash_any (a : Option Addr) (n c : Nat) (pg sy af keep : Int) (bs : List UInt8) (w : World) (hr : Rd w a n (byt bs)) (hc : n ≤ c) :
    Calls Try.prog 26 #[.agg (dskI pg a n c sy af), .int .i64 keep] w (KPost (crashS pg bs sy af keep) w) := by
  have hbl : bs.length = n := by simpa using hr.len
  have FA : Fr F0 w ((w.alloc (.cells (dskI pg a n c sy af) 24)).alloc (.cells (dskI 0 none 0 0 0 0) 24)) := ((Fr.refl _ _).alloc _).alloc _
  have B0 : Blk ((w.alloc (.cells (dskI pg a n c sy af) 24)).alloc (.cells (dskI 0 none 0 0 0 0) 24)) w.heap.size 24 [.int .i64 pg, .slice a n c, .int .i64 sy, .int .i64 af] := (Blk.new w 24 [.int .i64 pg, .slice a n c, .int .i64 sy, .int .i64 af]).alloc _
  have B1 : Blk ((w.alloc (.cells (dskI pg a n c sy af) 24)).alloc (.cells (dskI 0 none 0 0 0 0) 24)) (w.heap.size + 1) 24 [.int .i64 0, .slice none 0 0, .int .i64 0, .int .i64 0] := by
    have h := Blk.new (w.alloc (.cells (dskI pg a n c sy af) 24)) 24 [.int .i64 0, .slice none 0 0, .int .i64 0, .int .i64 0]
    rwa [size_alloc] at h
  have hsz : ((w.alloc (.cells (dskI pg a n c sy af) 24)).alloc (.cells (dskI 0 none 0 0 0 0) 24)).heap.size = w.heap.size + 2 := by rw [size_alloc, size_alloc]
  have hval := Valid_any a n c pg sy af bs _ (hr.fr0 FA) hc
  have Hr := Lib.hid hr
  have Hbl := Lib.hid hbl
  replace FA := Lib.hid FA
  replace B0 := Lib.hid B0
  replace B1 := Lib.hid B1
  replace hsz := Lib.hid hsz
  obtain ⟨bA, hbA⟩ : ∃ b, b = w.heap.size := ⟨_, rfl⟩
  obtain ⟨bB, hbB⟩ : ∃ b, b = w.heap.size + 1 := ⟨_, rfl⟩
  have Hbb : Hid (bA = w.heap.size ∧ bB = w.heap.size + 1) := Lib.hid ⟨hbA, hbB⟩
  have nAB : bA ≠ bB := by omega
  have nBA : bB ≠ bA := by omega
  have Hc := Lib.hid hc
  cases hv : validB pg bs sy af with
  | false =>
    have E : crashS pg bs sy af keep = (⟨0, [], 0, 0⟩, 1) := by unfold crashS; rw [hv, if_neg (by decide)]
    rw [hv] at hval
    rw [E]
    clear hv hr hbl hc E
    go_enter Try.func26, Try.ntmps26
    go_wp2_with fail
    refine hval.mono ?_
    rintro e w1 ⟨rfl, F1⟩
    have C1 := Lib.hid (B1.out.fr F1 id)
    have F2 := Lib.hid (FA.out.trans0 F1)
    rw [← hbB] at C1
    rw [← hbB, ← hbA]
    clear F1 FA B0 B1 hsz hbA hbB hval
    have y0 := C1.out.cell (i := 0) rfl
    have y1 := C1.out.cell (i := 1) rfl
    have y2 := C1.out.cell (i := 2) rfl
    have y3 := C1.out.cell (i := 3) rfl
    have f0 := C1.out.free 0
    have f1 := C1.out.free 1
    have f2 := C1.out.free 2
    have f3 := C1.out.free 3
    go_wp2_with fail
    clear y0 y1 y2 y3 f0 f1 f2 f3
    have g := ((((C1.out.set 0 (.int .i64 0)).set 1 (.slice none 0 0)).set 2 (.int .i64 0)).set 3 (.int .i64 0))
    have g0 := g.cell (i := 0) rfl
    have g1 := g.cell (i := 1) rfl
    have g2 := g.cell (i := 2) rfl
    have g3 := g.cell (i := 3) rfl
    have G : Fr (fun j => j = bB) w1 ((((w1.setCell ⟨bB, 0, none⟩ (.int .i64 0)).setCell ⟨bB, 1, none⟩ (.slice none 0 0)).setCell ⟨bB, 2, none⟩ (.int .i64 0)).setCell ⟨bB, 3, none⟩ (.int .i64 0)) := by
      refine Fr.setCell (p := ⟨bB, 3, none⟩) (Fr.setCell (p := ⟨bB, 2, none⟩) (Fr.setCell (p := ⟨bB, 1, none⟩) (Fr.setCell (p := ⟨bB, 0, none⟩) (Fr.refl _ _) ?_ _) ?_ _) ?_ _) ?_ _
      all_goals exact fun _ => rfl
    refine bodyPost_ret (v := .tuple #[.agg #[.int .i64 0, .slice none 0 0, .int .i64 0, .int .i64 0], .int .i64 1]) ?_ rfl ?_
    · simp [results, Try.results26, go_sem, g0, g1, g2, g3]
    exact ⟨none, 0, 0, rfl, rfl, Own.nil _ _ _, F2.out.trans G (fun j h1 h2 => by have := Hbb.out; omega)⟩
  | true =>
    obtain ⟨⟨hp1, hp2⟩, _, hlen, hs0, hsr⟩ := valid_of hv
    have hsn : sy ≤ n := by
      have := recs_le bs pg.toNat
      omega
    obtain ⟨page, rfl⟩ := Int.eq_ofNat_of_zero_le (show 0 ≤ pg by omega)
    obtain ⟨s, rfl⟩ := Int.eq_ofNat_of_zero_le hs0
    have E0 : crashS page bs s af keep = if keep < 0 ∨ (n : Int) - s < keep then (⟨0, [], 0, 0⟩, 2) else (⟨page, bs.take (s + keep.toNat), s, -1⟩, 0) := by
      unfold crashS; rw [hv, if_pos rfl, hbl, Int.toNat_natCast]
    rw [hv] at hval
    have Hln : Hid (n ≤ 1048576 ∧ page ≤ 256) := Lib.hid (by omega)
    have hn : n ≤ 1048576 := by omega
    have hsn2 : s ≤ n := by omega
    clear hv hr hbl hp1 hp2 hlen hc hs0 hsr hsn
    by_cases hbad : keep < 0 ∨ (n : Int) - s < keep
    · have E : crashS page bs s af keep = (⟨0, [], 0, 0⟩, 2) := by rw [E0, if_pos hbad]
      rw [E]
      have Hbad := Lib.hid hbad
      clear E E0 hbad
      go_enter Try.func26, Try.ntmps26
      go_wp2_with fail
      refine hval.mono ?_
      rintro e w1 ⟨rfl, F1⟩
      have C0 := Lib.hid (B0.out.fr F1 id)
      have C1 := Lib.hid (B1.out.fr F1 id)
      have F2 := Lib.hid (FA.out.trans0 F1)
      rw [← hbA] at C0
      rw [← hbB] at C1
      rw [← hbB, ← hbA]
      clear F1 FA B0 B1 hsz hbA hbB hval
      have z0 := C0.out.cell (i := 0) rfl
      have z1 := C0.out.cell (i := 1) rfl
      have z2 := C0.out.cell (i := 2) rfl
      have z3 := C0.out.cell (i := 3) rfl
      by_cases hneg : keep < 0
      · clear Hbad
        have y0 := C1.out.cell (i := 0) rfl
        have y1 := C1.out.cell (i := 1) rfl
        have y2 := C1.out.cell (i := 2) rfl
        have y3 := C1.out.cell (i := 3) rfl
        have f0 := C1.out.free 0
        have f1 := C1.out.free 1
        have f2 := C1.out.free 2
        have f3 := C1.out.free 3
        go_wp2_with fail
        clear y0 y1 y2 y3 f0 f1 f2 f3
        have g := ((((C1.out.set 0 (.int .i64 0)).set 1 (.slice none 0 0)).set 2 (.int .i64 0)).set 3 (.int .i64 0))
        have g0 := g.cell (i := 0) rfl
        have g1 := g.cell (i := 1) rfl
        have g2 := g.cell (i := 2) rfl
        have g3 := g.cell (i := 3) rfl
        have G : Fr (fun j => j = bB) w1 ((((w1.setCell ⟨bB, 0, none⟩ (.int .i64 0)).setCell ⟨bB, 1, none⟩ (.slice none 0 0)).setCell ⟨bB, 2, none⟩ (.int .i64 0)).setCell ⟨bB, 3, none⟩ (.int .i64 0)) := by
          refine Fr.setCell (p := ⟨bB, 3, none⟩) (Fr.setCell (p := ⟨bB, 2, none⟩) (Fr.setCell (p := ⟨bB, 1, none⟩) (Fr.setCell (p := ⟨bB, 0, none⟩) (Fr.refl _ _) ?_ _) ?_ _) ?_ _) ?_ _
          all_goals exact fun _ => rfl
        refine bodyPost_ret (v := .tuple #[.agg #[.int .i64 0, .slice none 0 0, .int .i64 0, .int .i64 0], .int .i64 2]) ?_ rfl ?_
        · simp [results, Try.results26, go_sem, g0, g1, g2, g3]
        exact ⟨none, 0, 0, rfl, rfl, Own.nil _ _ _, F2.out.trans G (fun j h1 h2 => by have := Hbb.out; omega)⟩
      · have hgt : (n : Int) - s < keep := by have := Hbad.out; omega
        clear Hbad
        have y0 := C1.out.cell (i := 0) rfl
        have y1 := C1.out.cell (i := 1) rfl
        have y2 := C1.out.cell (i := 2) rfl
        have y3 := C1.out.cell (i := 3) rfl
        have f0 := C1.out.free 0
        have f1 := C1.out.free 1
        have f2 := C1.out.free 2
        have f3 := C1.out.free 3
        go_wp2_with fail
        clear y0 y1 y2 y3 f0 f1 f2 f3
        have g := ((((C1.out.set 0 (.int .i64 0)).set 1 (.slice none 0 0)).set 2 (.int .i64 0)).set 3 (.int .i64 0))
        have g0 := g.cell (i := 0) rfl
        have g1 := g.cell (i := 1) rfl
        have g2 := g.cell (i := 2) rfl
        have g3 := g.cell (i := 3) rfl
        have G : Fr (fun j => j = bB) w1 ((((w1.setCell ⟨bB, 0, none⟩ (.int .i64 0)).setCell ⟨bB, 1, none⟩ (.slice none 0 0)).setCell ⟨bB, 2, none⟩ (.int .i64 0)).setCell ⟨bB, 3, none⟩ (.int .i64 0)) := by
          refine Fr.setCell (p := ⟨bB, 3, none⟩) (Fr.setCell (p := ⟨bB, 2, none⟩) (Fr.setCell (p := ⟨bB, 1, none⟩) (Fr.setCell (p := ⟨bB, 0, none⟩) (Fr.refl _ _) ?_ _) ?_ _) ?_ _) ?_ _
          all_goals exact fun _ => rfl
        refine bodyPost_ret (v := .tuple #[.agg #[.int .i64 0, .slice none 0 0, .int .i64 0, .int .i64 0], .int .i64 2]) ?_ rfl ?_
        · simp [results, Try.results26, go_sem, g0, g1, g2, g3]
        exact ⟨none, 0, 0, rfl, rfl, Own.nil _ _ _, F2.out.trans G (fun j h1 h2 => by have := Hbb.out; omega)⟩
    · have hk0 : 0 ≤ keep := by omega
      obtain ⟨k, rfl⟩ := Int.eq_ofNat_of_zero_le hk0
      have hkn : s + k ≤ n := by omega
      obtain ⟨m, hm⟩ : ∃ m, m = s + k := ⟨_, rfl⟩
      have hmn : m ≤ n := by omega
      have E : crashS page bs s af k = (⟨page, bs.take m, (s : Int), -1⟩, 0) := by rw [E0, if_neg hbad, Int.toNat_natCast, hm]
      rw [E]
      have s1 : ∀ w, (Instr.sliceAt 22 (.slice a n c) none (some (.int .i64 (m : Int))) none).run Try.prog w = .ok (.slice (cutA a c 0) m c) w := fun w => run_cutHi E5 w a (by have := Hc.out; omega) rfl
      have hwr : IntKind.i64.wrap ((s : Int) + (k : Int)) = (m : Int) := by rw [wI (by omega) (by omega)]; omega
      have hRm : Hid (Rd w (cutA a c 0) m (byt (bs.take m))) := Lib.hid (by have h := Hr.out.cutHi Hc.out hmn; rwa [byt_take] at h)
      have Hm := Lib.hid hm
      clear E E0 hbad hm hk0
      go_enter Try.func26, Try.ntmps26
      go_wp2_with fail
      refine hval.mono ?_
      rintro e w1 ⟨rfl, F1⟩
      have C0 := Lib.hid (B0.out.fr F1 id)
      have C1 := Lib.hid (B1.out.fr F1 id)
      have F2 := Lib.hid (FA.out.trans0 F1)
      have hs1 : Hid (w.heap.size + 2 ≤ w1.heap.size) := Lib.hid (by have := F1.size; have := hsz.out; omega)
      rw [← hbA] at C0
      rw [← hbB] at C1
      rw [← hbB, ← hbA]
      clear F1 FA B0 B1 hsz hbA hbB hval
      have z0 := C0.out.cell (i := 0) rfl
      have z1 := C0.out.cell (i := 1) rfl
      have z2 := C0.out.cell (i := 2) rfl
      have z3 := C0.out.cell (i := 3) rfl
      go_wp2_with fail
      have hcop : ∀ (W : World), Fr F0 w1 W → Calls Try.prog 59 #[.agg (dskI page a n c s af), .slice (cutA a c 0) m c] W fun e w' => ∃ a' c', e = .returned (.agg (dskI page a' m c' s af)) ∧ Own w' (w.heap.size + 2) 5 a' m c' (byt (bs.take m)) ∧ Fr F0 w1 w' ∧ Fr F0 W w' ∧
          w'.cell? ⟨bA, 0, none⟩ = some (.int .i64 page) ∧ w'.cell? ⟨bA, 1, none⟩ = some (.slice a n c) ∧ w'.cell? ⟨bA, 2, none⟩ = some (.int .i64 s) ∧ w'.cell? ⟨bA, 3, none⟩ = some (.int .i64 af) ∧ (∀ j, onBlk a' j → W.heap.size ≤ j) := fun W F =>
        (copied_any page s af a n c (cutA a c 0) m c (bs.take m) W ((hRm.out.fr0 F2.out).fr0 F) (by omega)).mono fun e w' ⟨a', c', h1, h2, h3⟩ =>
          have F9 := F.trans0 h3
          ⟨a', c', h1, h2.mono (by have := F.size; have := hs1.out; omega), F9, h3, F9.cell z0 id, F9.cell z1 id, F9.cell z2 id, F9.cell z3 id, fun j h => (h2.blk j h).1⟩
      have Hcop := Lib.hid hcop
      clear hcop
      have nA1 : bA ≠ w1.heap.size := by have := hs1.out; have := Hbb.out; omega
      have nA2 : w1.heap.size ≠ bA := fun e => nA1 e.symm
      go_region_held3 (fun w' => w'.cell? ⟨bA, 0, none⟩ = some (.int .i64 page) ∧ w'.cell? ⟨bA, 1, none⟩ = some (.slice a n c) ∧ w'.cell? ⟨bA, 2, none⟩ = some (.int .i64 s) ∧ w'.cell? ⟨bA, 3, none⟩ = some (.int .i64 af)) (go_keep)
        (first | (go_at_call 59; refine (Hcop.out _ (by repeat (first | exact Fr.refl _ _ | refine Fr.alloc ?_ _ | refine Fr.drew ?_))).mono ?_; rintro e w2 ⟨a', c', rfl, O2, G2, G3, k0, k1, k2, k3, A3⟩; have O2h := Lib.hid O2; have G2h := Lib.hid G2; have G3h := Lib.hid G3; have A3h := Lib.hid A3; clear O2 G2 G3 A3; try (have kB : Blk w2 w1.heap.size 24 [.int .i64 0, .slice none 0 0, .int .i64 0, .int .i64 0] := ((Blk.new w1 24 [.int .i64 0, .slice none 0 0, .int .i64 0, .int .i64 0]).fr (Fr.refl F0 _).drew id).fr G3h.out id; have p0 := kB.cell (i := 0) rfl; have p1 := kB.cell (i := 1) rfl; have p2 := kB.cell (i := 2) rfl; have p3 := kB.cell (i := 3) rfl; have q0 := kB.free 0; have q1 := kB.free 1; have q2 := kB.free 2; have q3 := kB.free 3; have kBh := Lib.hid kB; clear kB)))
      all_goals
        have hbB2 : w.heap.size + 2 ≤ w1.heap.size := hs1.out
        have C1h := C1.out
        have g2s := G2h.out.size
        first
        | (have X : Hid (WFc w ((((w2.setCell ⟨w1.heap.size, 0, none⟩ (.int .i64 page)).setCell ⟨w1.heap.size, 1, none⟩ (.slice a' m c')).setCell ⟨w1.heap.size, 2, none⟩ (.int .i64 s)).setCell ⟨w1.heap.size, 3, none⟩ (.int .i64 af)) page (bs.take m) m a' c' s af bA bB w1.heap.size) := Lib.hid (by
            have hoff : ¬ onBlk a' w1.heap.size := fun h => by
              have h2 := A3h.out _ h
              have h3 : (w1.alloc (.cells #[.int .i64 0, .slice none 0 0, .int .i64 0, .int .i64 0] 24)).heap.size ≤ w1.heap.size := h2
              rw [size_alloc] at h3
              omega
            have G : Fr (fun j => j = w1.heap.size) w2 ((((w2.setCell ⟨w1.heap.size, 0, none⟩ (.int .i64 page)).setCell ⟨w1.heap.size, 1, none⟩ (.slice a' m c')).setCell ⟨w1.heap.size, 2, none⟩ (.int .i64 s)).setCell ⟨w1.heap.size, 3, none⟩ (.int .i64 af)) := by
              refine Fr.setCell (p := ⟨w1.heap.size, 3, none⟩) (Fr.setCell (p := ⟨w1.heap.size, 2, none⟩) (Fr.setCell (p := ⟨w1.heap.size, 1, none⟩) (Fr.setCell (p := ⟨w1.heap.size, 0, none⟩) (Fr.refl _ _) ?_ _) ?_ _) ?_ _) ?_ _
              all_goals exact fun _ => rfl
            exact
            { blk := ((((kBh.out.set 0 _).set 1 _).set 2 _).set 3 _)
              own := O2h.out.fr G (fun j h e => hoff (e ▸ h))
              c3 := G.cell k3 nA1
              bb := (C1h.fr G2h.out id).fr G (fun e => by have := Hbb.out; omega)
              fr := (F2.out.trans0 G2h.out).trans G (fun j h1 e => by omega)
              off := hoff
              n8 := by omega })
           generalize ((((w2.setCell ⟨w1.heap.size, 0, none⟩ (.int .i64 page)).setCell ⟨w1.heap.size, 1, none⟩ (.slice a' m c')).setCell ⟨w1.heap.size, 2, none⟩ (.int .i64 s)).setCell ⟨w1.heap.size, 3, none⟩ (.int .i64 af)) = w8 at *
           generalize w1.heap.size = b8 at *)
        | (have X : Hid (WFc w (w2.alloc (.cells #[.int .i64 page, .slice a' m c', .int .i64 s, .int .i64 af] 24)) page (bs.take m) m a' c' s af bA bB w2.heap.size) := Lib.hid
            { blk := Blk.new w2 24 [.int .i64 page, .slice a' m c', .int .i64 s, .int .i64 af]
              own := O2h.out.alloc _
              c3 := ((Fr.refl F0 w2).alloc _).cell k3 id
              bb := (C1h.fr G2h.out id).alloc _
              fr := (F2.out.trans0 G2h.out).alloc _
              off := fun h => by have := (O2h.out.blk _ h).2; omega
              n8 := by omega }
           generalize (w2.alloc (.cells #[.int .i64 page, .slice a' m c', .int .i64 s, .int .i64 af] 24)) = w8 at *
           generalize w2.heap.size = b8 at *)
        try clear p0 p1 p2 p3 q0 q1 q2 q3 kBh
        clear k0 k1 k2 k3 z0 z1 z2 z3 C1h g2s hbB2 nA1 nA2 hs1 C0 C1 O2h G2h G3h A3h Hcop s1
        have k3 := X.out.c3
        have v0 := X.out.blk.cell (i := 0) rfl
        have v1 := X.out.blk.cell (i := 1) rfl
        have v2 := X.out.blk.cell (i := 2) rfl
        have v3 := X.out.blk.cell (i := 3) rfl
        have e1 := X.out.blk.free 1
        have e2 := X.out.blk.free 2
        have e3 := X.out.blk.free 3
        have y0 := X.out.bb.cell (i := 0) rfl
        have y1 := X.out.bb.cell (i := 1) rfl
        have y2 := X.out.bb.cell (i := 2) rfl
        have y3 := X.out.bb.cell (i := 3) rfl
        have f0 := X.out.bb.free 0
        have f1 := X.out.bb.free 1
        have f2 := X.out.bb.free 2
        have f3 := X.out.bb.free 3
        have n8B : b8 ≠ bB := by have := X.out.n8; have := Hbb.out; omega
        have nB8 : bB ≠ b8 := fun e => n8B e.symm
        have n8A : b8 ≠ bA := by have := X.out.n8; have := Hbb.out; omega
        have nA8 : bA ≠ b8 := fun e => n8A e.symm
        have oB : Hid (¬ onBlk a' bB) := Lib.hid (fun h => by have := (X.out.own.blk _ h).1; have := Hbb.out; omega)
        have e0 := X.out.blk.free 0
        go_wp2_with fail
        clear y0 y1 y2 y3 f0 f1 f2 f3 v0 v1 v2 v3 e0 e1 e2 e3 k3
        have g := (((((X.out.bb.other (p := ⟨b8, 3, none⟩) nB8 (.int .i64 (-1))).set 0 (.int .i64 page)).set 1 (.slice a' m c')).set 2 (.int .i64 s)).set 3 (.int .i64 (-1)))
        have g0 := g.cell (i := 0) rfl
        have g1 := g.cell (i := 1) rfl
        have g2 := g.cell (i := 2) rfl
        have g3 := g.cell (i := 3) rfl
        have G : Fr (fun j => j = bB ∨ j = b8) w8 (((((w8.setCell ⟨b8, 3, none⟩ (.int .i64 (-1))).setCell ⟨bB, 0, none⟩ (.int .i64 page)).setCell ⟨bB, 1, none⟩ (.slice a' m c')).setCell ⟨bB, 2, none⟩ (.int .i64 s)).setCell ⟨bB, 3, none⟩ (.int .i64 (-1))) := by
          refine Fr.setCell (p := ⟨bB, 3, none⟩) (Fr.setCell (p := ⟨bB, 2, none⟩) (Fr.setCell (p := ⟨bB, 1, none⟩) (Fr.setCell (p := ⟨bB, 0, none⟩) (Fr.setCell (p := ⟨b8, 3, none⟩) (Fr.refl _ _) ?_ _) ?_ _) ?_ _) ?_ _) ?_ _
          · exact fun _ => .inr rfl
          all_goals exact fun _ => .inl rfl
        refine bodyPost_ret (v := .tuple #[.agg #[.int .i64 page, .slice a' m c', .int .i64 s, .int .i64 (-1)], .int .i64 0]) ?_ rfl ?_
        · simp [results, Try.results26, go_sem, g0, g1, g2, g3]
        exact ⟨a', m, c', by show m = (bs.take m).length; rw [List.length_take, Hbl.out]; omega, rfl, (X.out.own.fr G (fun j h h2 => h2.elim (fun h2 => oB.out (h2 ▸ h)) (fun h2 => X.out.off (h2 ▸ h)))).mono (by omega), X.out.fr.trans G (fun j h1 h2 => by have := Hbb.out; have := X.out.n8; omega)⟩
end Go.Proofs.Ytehpikjhjghplaa
