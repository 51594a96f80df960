/- write. -/
import Derived.Test.YtehpikjhjghplaaB10
namespace Go.Proofs.Ytehpikjhjghplaa
open Go.RowKit
attribute [local go_sem ↓] Go.wp_at_zero Go.wp_at_succ
structure Dk where
  pg : Int
  bs : List UInt8
  sy : Int
  af : Int
/-- What write makes of a disk. -/
def writeS (page : Nat) (bs : List UInt8) (sy af : Int) (b : List UInt8) : Dk × Int :=
  if af = 0 then (⟨page, bs, sy, 0⟩, 27)
  else if af < 0 ∨ (b.length : Int) ≤ af then (⟨page, bs.take (recs bs page).2 ++ b, ((recs bs page).2 + b.length : Nat), if 0 < af then af - b.length else af⟩, 0)
  else (⟨page, bs.take (recs bs page).2 ++ b.take af.toNat, ((recs bs page).2 : Nat), 0⟩, 27)
/-- A disk and an error number, in memory that no argument shares. -/
def KPost (R : Dk × Int) (w : World) (e : Ending) (w' : World) : Prop :=
  ∃ a' m c', m = R.1.bs.length ∧ e = .returned (.tuple #[.agg (dskI R.1.pg a' m c' R.1.sy R.1.af), .int .i64 R.2]) ∧ Own w' w.heap.size 5 a' m c' (byt R.1.bs) ∧ Fr F0 w w'
structure WFc (w W8 : World) (page : Nat) (xs : List UInt8) (m : Nat) (a' : Option Addr) (c' : Nat) (sy af : Int) (bA bB b8 : Nat) : Prop where
  blk : Blk W8 b8 24 [.int .i64 page, .slice a' m c', .int .i64 sy, .int .i64 af]
  own : Own W8 (w.heap.size + 2) 5 a' m c' (byt xs)
  c3 : W8.cell? ⟨bA, 3, none⟩ = some (.int .i64 af)
  bb : Blk W8 bB 24 [.int .i64 0, .slice none 0 0, .int .i64 0, .int .i64 0]
  fr : Fr F0 w W8
  off : ¬ onBlk a' b8
  n8 : w.heap.size + 2 ≤ b8
set_option maxRecDepth 100000 in
set_option maxHeartbeats 8000000 in
theorem write_any (a : Option Addr) (n c page : Nat) (sy af : Int) (bs : List UInt8) (a2 : Option Addr) (n2 c2 : Nat) (b : List UInt8) (w : World) (hr : Rd w a n (byt bs)) (hc : n ≤ c) (hn : n ≤ 1048576) (hp : page ≤ 256)
    (hb : Rd w a2 n2 (byt b)) (hc2 : n2 ≤ c2) (hn2 : n2 ≤ 1048576) (haf : -1 ≤ af ∧ af ≤ 1048576) :
    Calls Try.prog 51 #[.agg (dskI page a n c sy af), .slice a2 n2 c2] w (KPost (writeS page bs sy af b) w) := by
  have hbl : bs.length = n := by simpa using hr.len
  have hbl2 : b.length = n2 := by simpa using hb.len
  have FA : Fr F0 w ((w.alloc (.cells (dskI page a n c sy af) 24)).alloc (.cells (dskI 0 none 0 0 0 0) 24)) := ((Fr.refl _ _).alloc _).alloc _
  have B0 : Blk ((w.alloc (.cells (dskI page a n c sy af) 24)).alloc (.cells (dskI 0 none 0 0 0 0) 24)) w.heap.size 24 [.int .i64 page, .slice a n c, .int .i64 sy, .int .i64 af] := (Blk.new w 24 [.int .i64 page, .slice a n c, .int .i64 sy, .int .i64 af]).alloc _
  have B1 : Blk ((w.alloc (.cells (dskI page a n c sy af) 24)).alloc (.cells (dskI 0 none 0 0 0 0) 24)) (w.heap.size + 1) 24 [.int .i64 0, .slice none 0 0, .int .i64 0, .int .i64 0] := by
    have h := Blk.new (w.alloc (.cells (dskI page a n c sy af) 24)) 24 [.int .i64 0, .slice none 0 0, .int .i64 0, .int .i64 0]
    rwa [size_alloc] at h
  have hsz : ((w.alloc (.cells (dskI page a n c sy af) 24)).alloc (.cells (dskI 0 none 0 0 0 0) 24)).heap.size = w.heap.size + 2 := by rw [size_alloc, size_alloc]
  have Hr := Lib.hid hr
  have Hb := Lib.hid hb
  have Hbl := Lib.hid hbl
  have Hbl2 := Lib.hid hbl2
  replace FA := Lib.hid FA
  replace B0 := Lib.hid B0
  replace B1 := Lib.hid B1
  replace hsz := Lib.hid hsz
  obtain ⟨bA, hbA⟩ : ∃ b, b = w.heap.size := ⟨_, rfl⟩
  obtain ⟨bB, hbB⟩ : ∃ b, b = w.heap.size + 1 := ⟨_, rfl⟩
  have Hbb : Hid (bA = w.heap.size ∧ bB = w.heap.size + 1) := Lib.hid ⟨hbA, hbB⟩
  have nAB : bA ≠ bB := by omega
  have nBA : bB ≠ bA := by omega
  have Hc := Lib.hid hc
  have Hc2 := Lib.hid hc2
  obtain ⟨haf1, haf2⟩ := haf
  clear hr hb hbl hbl2 hc hc2
  by_cases h0 : af = 0
  · subst h0
    have hS : Hid (writeS page bs sy 0 b = (⟨page, bs, sy, 0⟩, 27)) := Lib.hid (by unfold writeS; rw [if_pos rfl])
    rw [hS.out]
    go_enter Try.func51, Try.ntmps51
    go_wp2_with fail
    refine (copied_any page sy 0 a n c a n c bs _ (Hr.out.fr0 FA.out) (by omega)).mono ?_
    rintro e w1 ⟨a', c', rfl, O1, F1⟩
    rw [hsz.out] at O1
    have O2 := Lib.hid O1
    have C1 := Lib.hid (B1.out.fr F1 id)
    have F2 := Lib.hid (FA.out.trans0 F1)
    rw [← hbB] at C1
    rw [← hbB, ← hbA]
    clear O1 F1 FA B0 B1 hsz hbA hbB
    have y0 := C1.out.cell (i := 0) rfl
    have y1 := C1.out.cell (i := 1) rfl
    have y2 := C1.out.cell (i := 2) rfl
    have y3 := C1.out.cell (i := 3) rfl
    have f0 := C1.out.free 0
    have f1 := C1.out.free 1
    have f2 := C1.out.free 2
    have f3 := C1.out.free 3
    go_wp2_with fail
    clear y0 y1 y2 y3 f0 f1 f2 f3
    have g := ((((C1.out.set 0 (.int .i64 page)).set 1 (.slice a' n c')).set 2 (.int .i64 sy)).set 3 (.int .i64 0))
    have g0 := g.cell (i := 0) rfl
    have g1 := g.cell (i := 1) rfl
    have g2 := g.cell (i := 2) rfl
    have g3 := g.cell (i := 3) rfl
    have G : Fr (fun j => j = bB) w1 ((((w1.setCell ⟨bB, 0, none⟩ (.int .i64 page)).setCell ⟨bB, 1, none⟩ (.slice a' n c')).setCell ⟨bB, 2, none⟩ (.int .i64 sy)).setCell ⟨bB, 3, none⟩ (.int .i64 0)) := by
      refine Fr.setCell (p := ⟨bB, 3, none⟩) (Fr.setCell (p := ⟨bB, 2, none⟩) (Fr.setCell (p := ⟨bB, 1, none⟩) (Fr.setCell (p := ⟨bB, 0, none⟩) (Fr.refl _ _) ?_ _) ?_ _) ?_ _) ?_ _
      all_goals exact fun _ => rfl
    refine bodyPost_ret (v := .tuple #[.agg #[.int .i64 page, .slice a' n c', .int .i64 sy, .int .i64 0], .int .i64 27]) ?_ rfl ?_
    · simp [results, Try.results51, go_sem, g0, g1, g2, g3]
    exact ⟨a', n, c', Hbl.out.symm, rfl, (O2.out.fr G (fun j h h2 => by have := (O2.out.blk j h).1; have := Hbb.out; omega)).mono (by omega), F2.out.trans G (fun j h1 h2 => by have := Hbb.out; omega)⟩
  · have d0 : (af == 0) = false := by simpa using h0
    obtain ⟨m, hm⟩ : ∃ m, m = (recs bs page).2 := ⟨_, rfl⟩
    have hmn : m ≤ n := by rw [hm, ← Hbl.out]; exact recs_le bs page
    have Hm := Lib.hid hm
    have hwS : Hid (writeS page bs sy af b = if af < 0 ∨ (n2 : Int) ≤ af then (⟨page, bs.take m ++ b, ((m + n2 : Nat) : Int), if 0 < af then af - n2 else af⟩, 0) else (⟨page, bs.take m ++ b.take af.toNat, (m : Int), 0⟩, 27)) := Lib.hid (by unfold writeS; rw [if_neg h0, Hbl2.out, hm])
    have Hh0 := Lib.hid h0
    have s1 : ∀ w, (Instr.sliceAt 22 (.slice a n c) none (some (.int .i64 (m : Int))) none).run Try.prog w = .ok (.slice (cutA a c 0) m c) w := fun w => run_cutHi E5 w a (by have := Hc.out; omega) rfl
    have hRm : Hid (Rd w (cutA a c 0) m (byt (bs.take m))) := Lib.hid (by have h := Hr.out.cutHi Hc.out hmn; rwa [byt_take] at h)
    clear hm h0
    go_enter Try.func51, Try.ntmps51
    go_wp2_with fail
    refine (records_any a n c page sy af bs _ (Hr.out.fr0 FA.out) Hc.out hn hp).mono ?_
    rintro e w1 ⟨ar, cr, T, S, rfl, _, _, _, _, F1⟩
    rw [← Hm.out]
    have C0 := Lib.hid (B0.out.fr F1 id)
    have C1 := Lib.hid (B1.out.fr F1 id)
    have F2 := Lib.hid (FA.out.trans0 F1)
    have hs1 : Hid (w.heap.size + 2 ≤ w1.heap.size) := Lib.hid (by have := F1.size; rw [hsz.out] at this; omega)
    rw [← hbA] at C0
    rw [← hbB] at C1
    rw [← hbB, ← hbA]
    clear F1 FA B0 B1 hsz hbA hbB
    have z0 := C0.out.cell (i := 0) rfl
    have z1 := C0.out.cell (i := 1) rfl
    have z2 := C0.out.cell (i := 2) rfl
    have z3 := C0.out.cell (i := 3) rfl
    go_wp2_with fail
    have hcop : ∀ (W : World), Fr F0 w1 W → Calls Try.prog 59 #[.agg (dskI page a n c sy af), .slice (cutA a c 0) m c] W fun e w' => ∃ a' c', e = .returned (.agg (dskI page a' m c' sy af)) ∧ Own w' (w.heap.size + 2) 5 a' m c' (byt (bs.take m)) ∧ Fr F0 w1 w' ∧ Fr F0 W w' ∧
        w'.cell? ⟨bA, 0, none⟩ = some (.int .i64 page) ∧ w'.cell? ⟨bA, 1, none⟩ = some (.slice a n c) ∧ w'.cell? ⟨bA, 2, none⟩ = some (.int .i64 sy) ∧ w'.cell? ⟨bA, 3, none⟩ = some (.int .i64 af) ∧ (∀ j, onBlk a' j → W.heap.size ≤ j) := fun W F =>
      (copied_any page sy af a n c (cutA a c 0) m c (bs.take m) W ((hRm.out.fr0 F2.out).fr0 F) (by omega)).mono fun e w' ⟨a', c', h1, h2, h3⟩ =>
        have F9 := F.trans0 h3
        ⟨a', c', h1, h2.mono (by have := F.size; have := hs1.out; omega), F9, h3, F9.cell z0 id, F9.cell z1 id, F9.cell z2 id, F9.cell z3 id, fun j h => (h2.blk j h).1⟩
    have Hcop := Lib.hid hcop
    clear hcop
    have nA1 : bA ≠ w1.heap.size := by have := hs1.out; have := Hbb.out; omega
    have nA2 : w1.heap.size ≠ bA := fun e => nA1 e.symm
    go_region_held3 (fun w' => w'.cell? ⟨bA, 0, none⟩ = some (.int .i64 page) ∧ w'.cell? ⟨bA, 1, none⟩ = some (.slice a n c) ∧ w'.cell? ⟨bA, 2, none⟩ = some (.int .i64 sy) ∧ w'.cell? ⟨bA, 3, none⟩ = some (.int .i64 af)) (go_keep)
      (first | (go_at_call 59; refine (Hcop.out _ (by repeat (first | exact Fr.refl _ _ | refine Fr.alloc ?_ _ | refine Fr.drew ?_))).mono ?_; rintro e w2 ⟨a', c', rfl, O2, G2, G3, k0, k1, k2, k3, A3⟩; have O2h := Lib.hid O2; have G2h := Lib.hid G2; have G3h := Lib.hid G3; have A3h := Lib.hid A3; clear O2 G2 G3 A3; try (have kB : Blk w2 w1.heap.size 24 [.int .i64 0, .slice none 0 0, .int .i64 0, .int .i64 0] := ((Blk.new w1 24 [.int .i64 0, .slice none 0 0, .int .i64 0, .int .i64 0]).fr (Fr.refl F0 _).drew id).fr G3h.out id; have p0 := kB.cell (i := 0) rfl; have p1 := kB.cell (i := 1) rfl; have p2 := kB.cell (i := 2) rfl; have p3 := kB.cell (i := 3) rfl; have q0 := kB.free 0; have q1 := kB.free 1; have q2 := kB.free 2; have q3 := kB.free 3; have kBh := Lib.hid kB; clear kB)))
    all_goals
      have hbB2 : w.heap.size + 2 ≤ w1.heap.size := hs1.out
      have C1h := C1.out
      have g2s := G2h.out.size
      first
      | (have X : Hid (WFc w ((((w2.setCell ⟨w1.heap.size, 0, none⟩ (.int .i64 page)).setCell ⟨w1.heap.size, 1, none⟩ (.slice a' m c')).setCell ⟨w1.heap.size, 2, none⟩ (.int .i64 sy)).setCell ⟨w1.heap.size, 3, none⟩ (.int .i64 af)) page (bs.take m) m a' c' sy af bA bB w1.heap.size) := Lib.hid (by
          have hoff : ¬ onBlk a' w1.heap.size := fun h => by
            have h2 := A3h.out _ h
            have h3 : (w1.alloc (.cells #[.int .i64 0, .slice none 0 0, .int .i64 0, .int .i64 0] 24)).heap.size ≤ w1.heap.size := h2
            rw [size_alloc] at h3
            omega
          have G : Fr (fun j => j = w1.heap.size) w2 ((((w2.setCell ⟨w1.heap.size, 0, none⟩ (.int .i64 page)).setCell ⟨w1.heap.size, 1, none⟩ (.slice a' m c')).setCell ⟨w1.heap.size, 2, none⟩ (.int .i64 sy)).setCell ⟨w1.heap.size, 3, none⟩ (.int .i64 af)) := by
            refine Fr.setCell (p := ⟨w1.heap.size, 3, none⟩) (Fr.setCell (p := ⟨w1.heap.size, 2, none⟩) (Fr.setCell (p := ⟨w1.heap.size, 1, none⟩) (Fr.setCell (p := ⟨w1.heap.size, 0, none⟩) (Fr.refl _ _) ?_ _) ?_ _) ?_ _) ?_ _
            all_goals exact fun _ => rfl
          exact
          { blk := ((((kBh.out.set 0 _).set 1 _).set 2 _).set 3 _)
            own := O2h.out.fr G (fun j h e => hoff (e ▸ h))
            c3 := G.cell k3 nA1
            bb := (C1h.fr G2h.out id).fr G (fun e => by have := Hbb.out; omega)
            fr := (F2.out.trans0 G2h.out).trans G (fun j h1 e => by omega)
            off := hoff
            n8 := by omega })
         generalize ((((w2.setCell ⟨w1.heap.size, 0, none⟩ (.int .i64 page)).setCell ⟨w1.heap.size, 1, none⟩ (.slice a' m c')).setCell ⟨w1.heap.size, 2, none⟩ (.int .i64 sy)).setCell ⟨w1.heap.size, 3, none⟩ (.int .i64 af)) = w8 at *
         generalize w1.heap.size = b8 at *)
      | (have X : Hid (WFc w (w2.alloc (.cells #[.int .i64 page, .slice a' m c', .int .i64 sy, .int .i64 af] 24)) page (bs.take m) m a' c' sy af bA bB w2.heap.size) := Lib.hid
          { blk := Blk.new w2 24 [.int .i64 page, .slice a' m c', .int .i64 sy, .int .i64 af]
            own := O2h.out.alloc _
            c3 := ((Fr.refl F0 w2).alloc _).cell k3 id
            bb := (C1h.fr G2h.out id).alloc _
            fr := (F2.out.trans0 G2h.out).alloc _
            off := fun h => by have := (O2h.out.blk _ h).2; omega
            n8 := by omega }
         generalize (w2.alloc (.cells #[.int .i64 page, .slice a' m c', .int .i64 sy, .int .i64 af] 24)) = w8 at *
         generalize w2.heap.size = b8 at *)
      try clear p0 p1 p2 p3 q0 q1 q2 q3 kBh
      clear k0 k1 k2 k3 z0 z1 z2 z3 C1h g2s hbB2 nA1 nA2 hs1 C0 C1 O2h G2h G3h A3h Hcop s1
      have k3 := X.out.c3
      have v0 := X.out.blk.cell (i := 0) rfl
      have v1 := X.out.blk.cell (i := 1) rfl
      have v2 := X.out.blk.cell (i := 2) rfl
      have v3 := X.out.blk.cell (i := 3) rfl
      have e1 := X.out.blk.free 1
      have e2 := X.out.blk.free 2
      have e3 := X.out.blk.free 3
      have y0 := X.out.bb.cell (i := 0) rfl
      have y1 := X.out.bb.cell (i := 1) rfl
      have y2 := X.out.bb.cell (i := 2) rfl
      have y3 := X.out.bb.cell (i := 3) rfl
      have f0 := X.out.bb.free 0
      have f1 := X.out.bb.free 1
      have f2 := X.out.bb.free 2
      have f3 := X.out.bb.free 3
      have n8B : b8 ≠ bB := by have := X.out.n8; have := Hbb.out; omega
      have nB8 : bB ≠ b8 := fun e => n8B e.symm
      have n8A : b8 ≠ bA := by have := X.out.n8; have := Hbb.out; omega
      have nA8 : bA ≠ b8 := fun e => n8A e.symm
      by_cases hfull : af < 0 ∨ (n2 : Int) ≤ af
      · replace hwS := Lib.hid (hwS.out.trans (if_pos hfull))
        have oB : Hid (¬ onBlk a' bB) := Lib.hid (fun h => by have := (X.out.own.blk _ h).1; have := Hbb.out; omega)
        have oA : Hid (¬ onBlk a' bA) := Lib.hid (fun h => by have := (X.out.own.blk _ h).1; have := Hbb.out; omega)
        have hB8 := Lib.hid (Hb.out.fr0 X.out.fr)
        have sz8 : Hid (w.heap.size + 2 ≤ w8.heap.size) := Lib.hid (by have := X.out.n8; have := X.out.blk.lt; omega)
        have hl : Hid (m + n2 = (bs.take m ++ b).length) := Lib.hid (by rw [List.length_append, List.length_take, Hbl.out, Hbl2.out]; omega)
        by_cases hneg : af < 0
        · have d1 : decide (af < 0) = true := by simpa using hneg
          have d3 : decide (0 < af) = false := by simp; omega
          have hwS2 : Hid (writeS page bs sy af b = (⟨page, bs.take m ++ b, ((m + n2 : Nat) : Int), af⟩, 0)) := Lib.hid (by rw [hwS.out, if_neg (show ¬ 0 < af by omega)])
          replace hneg := Lib.hid hneg
          replace hfull := Lib.hid hfull
          go_wp2_with (at_builtin; refine wpAppRd E5 X.out.own hB8.out (oneCell_byt _) (by omega) (by omega) sz8.out (m + n2) rfl rfl rfl ?_; intro aX cX wX ownX frX atX; have X0 := Lib.hid (X.out.blk.fr frX X.out.off); have X1 : Hid (Blk wX bB 24 [.int .i64 0, .slice none 0 0, .int .i64 0, .int .i64 0]) := Lib.hid (X.out.bb.fr frX oB.out); have x0 := X0.out.cell (i := 0) rfl; have x1 := X0.out.cell (i := 1) rfl; have x2 := X0.out.cell (i := 2) rfl; have x3 := X0.out.cell (i := 3) rfl; have h1 := X0.out.free 1; have h2 := X0.out.free 2; have h3 := X0.out.free 3; have y0' := X1.out.cell (i := 0) rfl; have y1' := X1.out.cell (i := 1) rfl; have y2' := X1.out.cell (i := 2) rfl; have y3' := X1.out.cell (i := 3) rfl; have f0' := X1.out.free 0; have f1' := X1.out.free 1; have f2' := X1.out.free 2; have f3' := X1.out.free 3; have kx3 := frX.cell k3 oA.out; have ownX' := Lib.hid ownX; have frX' := Lib.hid frX; have atX' := Lib.hid atX; clear ownX frX atX)
          clear x0 x1 x2 x3 h1 h2 h3 y0' y1' y2' y3' f0' f1' f2' f3' kx3
          have g := ((((((X1.out.other (p := ⟨b8, 1, none⟩) nB8 (.slice aX (m + n2) cX)).other (p := ⟨b8, 2, none⟩) nB8 (.int .i64 ((m : Int) + (n2 : Int)))).set 0 (.int .i64 page)).set 1 (.slice aX (m + n2) cX)).set 2 (.int .i64 ((m : Int) + (n2 : Int)))).set 3 (.int .i64 af))
          have g0 := g.cell (i := 0) rfl
          have g1 := g.cell (i := 1) rfl
          have g2 := g.cell (i := 2) rfl
          have g3 := g.cell (i := 3) rfl
          have G : Fr (fun j => j = b8 ∨ j = bB) wX ((((((wX.setCell ⟨b8, 1, none⟩ (.slice aX (m + n2) cX)).setCell ⟨b8, 2, none⟩ (.int .i64 ((m : Int) + (n2 : Int)))).setCell ⟨bB, 0, none⟩ (.int .i64 page)).setCell ⟨bB, 1, none⟩ (.slice aX (m + n2) cX)).setCell ⟨bB, 2, none⟩ (.int .i64 ((m : Int) + (n2 : Int)))).setCell ⟨bB, 3, none⟩ (.int .i64 af)) := by
            refine (Fr.setCell (p := ⟨bB, 3, none⟩) (Fr.setCell (p := ⟨bB, 2, none⟩) (Fr.setCell (p := ⟨bB, 1, none⟩) (Fr.setCell (p := ⟨bB, 0, none⟩) (Fr.setCell (p := ⟨b8, 2, none⟩) (Fr.setCell (p := ⟨b8, 1, none⟩) (Fr.refl _ _) ?q0 _) ?q1 _) ?q2 _) ?q3 _) ?q4 _) ?q5 _)
            case q0 => exact fun _ => .inl rfl
            case q1 => exact fun _ => .inl rfl
            case q2 => exact fun _ => .inr rfl
            case q3 => exact fun _ => .inr rfl
            case q4 => exact fun _ => .inr rfl
            case q5 => exact fun _ => .inr rfl
          have nO : ∀ j, onBlk aX j → ¬ (j = b8 ∨ j = bB) := fun j h h2 => by
            rcases h2 with h2 | h2
            · subst h2; exact (atX'.out _ h).elim X.out.off (fun h => by have := X.out.blk.lt; omega)
            · have := (ownX'.out.blk j h).1; have := Hbb.out; omega
          have n8l := X.out.n8
          have hOb := X.out.own.blk
          have hFin := (X.out.fr.trans frX'.out (fun j h1 h2 => by have := (hOb j h2).1; omega)).trans G (fun j h1 h2 => by have := Hbb.out; omega)
          refine bodyPost_ret (v := .tuple #[.agg #[.int .i64 page, .slice aX (m + n2) cX, .int .i64 ((m : Int) + (n2 : Int)), .int .i64 af], .int .i64 0]) ?_ rfl ?_
          · simp [results, Try.results51, go_sem, g0, g1, g2, g3]
          rw [hwS2.out]
          exact ⟨aX, m + n2, cX, hl.out, rfl, by simpa [byt] using (ownX'.out.fr G nO).mono (show w.heap.size ≤ w.heap.size + 2 by omega), hFin⟩
        · have d1 : decide (af < 0) = false := by simpa using hneg
          have h0' := Hh0.out
          have d2 : decide ((n2 : Int) ≤ af) = true := by simp; omega
          have d3 : decide (0 < af) = true := by simp; omega
          have hwS2 : Hid (writeS page bs sy af b = (⟨page, bs.take m ++ b, ((m + n2 : Nat) : Int), af - n2⟩, 0)) := Lib.hid (by rw [hwS.out, if_pos (show 0 < af by omega)])
          clear h0'
          replace hneg := Lib.hid hneg
          replace hfull := Lib.hid hfull
          go_wp2_with (at_builtin; refine wpAppRd E5 X.out.own hB8.out (oneCell_byt _) (by omega) (by omega) sz8.out (m + n2) rfl rfl rfl ?_; intro aX cX wX ownX frX atX; have X0 := Lib.hid (X.out.blk.fr frX X.out.off); have X1 : Hid (Blk wX bB 24 [.int .i64 0, .slice none 0 0, .int .i64 0, .int .i64 0]) := Lib.hid (X.out.bb.fr frX oB.out); have x0 := X0.out.cell (i := 0) rfl; have x1 := X0.out.cell (i := 1) rfl; have x2 := X0.out.cell (i := 2) rfl; have x3 := X0.out.cell (i := 3) rfl; have h1 := X0.out.free 1; have h2 := X0.out.free 2; have h3 := X0.out.free 3; have y0' := X1.out.cell (i := 0) rfl; have y1' := X1.out.cell (i := 1) rfl; have y2' := X1.out.cell (i := 2) rfl; have y3' := X1.out.cell (i := 3) rfl; have f0' := X1.out.free 0; have f1' := X1.out.free 1; have f2' := X1.out.free 2; have f3' := X1.out.free 3; have kx3 := frX.cell k3 oA.out; have ownX' := Lib.hid ownX; have frX' := Lib.hid frX; have atX' := Lib.hid atX; clear ownX frX atX)
          clear x0 x1 x2 x3 h1 h2 h3 y0' y1' y2' y3' f0' f1' f2' f3' kx3
          have g := (((((((X1.out.other (p := ⟨b8, 1, none⟩) nB8 (.slice aX (m + n2) cX)).other (p := ⟨b8, 2, none⟩) nB8 (.int .i64 ((m : Int) + (n2 : Int)))).other (p := ⟨b8, 3, none⟩) nB8 (.int .i64 (af - (n2 : Int)))).set 0 (.int .i64 page)).set 1 (.slice aX (m + n2) cX)).set 2 (.int .i64 ((m : Int) + (n2 : Int)))).set 3 (.int .i64 (af - (n2 : Int))))
          have g0 := g.cell (i := 0) rfl
          have g1 := g.cell (i := 1) rfl
          have g2 := g.cell (i := 2) rfl
          have g3 := g.cell (i := 3) rfl
          have G : Fr (fun j => j = b8 ∨ j = bB) wX (((((((wX.setCell ⟨b8, 1, none⟩ (.slice aX (m + n2) cX)).setCell ⟨b8, 2, none⟩ (.int .i64 ((m : Int) + (n2 : Int)))).setCell ⟨b8, 3, none⟩ (.int .i64 (af - (n2 : Int)))).setCell ⟨bB, 0, none⟩ (.int .i64 page)).setCell ⟨bB, 1, none⟩ (.slice aX (m + n2) cX)).setCell ⟨bB, 2, none⟩ (.int .i64 ((m : Int) + (n2 : Int)))).setCell ⟨bB, 3, none⟩ (.int .i64 (af - (n2 : Int)))) := by
            refine (Fr.setCell (p := ⟨bB, 3, none⟩) (Fr.setCell (p := ⟨bB, 2, none⟩) (Fr.setCell (p := ⟨bB, 1, none⟩) (Fr.setCell (p := ⟨bB, 0, none⟩) (Fr.setCell (p := ⟨b8, 3, none⟩) (Fr.setCell (p := ⟨b8, 2, none⟩) (Fr.setCell (p := ⟨b8, 1, none⟩) (Fr.refl _ _) ?q0 _) ?q1 _) ?q2 _) ?q3 _) ?q4 _) ?q5 _) ?q6 _)
            case q0 => exact fun _ => .inl rfl
            case q1 => exact fun _ => .inl rfl
            case q2 => exact fun _ => .inl rfl
            case q3 => exact fun _ => .inr rfl
            case q4 => exact fun _ => .inr rfl
            case q5 => exact fun _ => .inr rfl
            case q6 => exact fun _ => .inr rfl
          have nO : ∀ j, onBlk aX j → ¬ (j = b8 ∨ j = bB) := fun j h h2 => by
            rcases h2 with h2 | h2
            · subst h2; exact (atX'.out _ h).elim X.out.off (fun h => by have := X.out.blk.lt; omega)
            · have := (ownX'.out.blk j h).1; have := Hbb.out; omega
          have n8l := X.out.n8
          have hOb := X.out.own.blk
          have hFin := (X.out.fr.trans frX'.out (fun j h1 h2 => by have := (hOb j h2).1; omega)).trans G (fun j h1 h2 => by have := Hbb.out; omega)
          refine bodyPost_ret (v := .tuple #[.agg #[.int .i64 page, .slice aX (m + n2) cX, .int .i64 ((m : Int) + (n2 : Int)), .int .i64 (af - (n2 : Int))], .int .i64 0]) ?_ rfl ?_
          · simp [results, Try.results51, go_sem, g0, g1, g2, g3]
          rw [hwS2.out]
          exact ⟨aX, m + n2, cX, hl.out, rfl, by simpa [byt] using (ownX'.out.fr G nO).mono (show w.heap.size ≤ w.heap.size + 2 by omega), hFin⟩
      · replace hwS := Lib.hid (hwS.out.trans (if_neg hfull))
        obtain ⟨k, rfl⟩ := Int.eq_ofNat_of_zero_le (show 0 ≤ af by omega)
        have hk1 : k < n2 := by omega
        have d1 : decide ((k : Int) < 0) = false := by simp
        have d2 : decide ((n2 : Int) ≤ (k : Int)) = false := by simp; omega
        have hwS2 : Hid (writeS page bs sy (k : Int) b = (⟨page, bs.take m ++ b.take k, (m : Int), 0⟩, 27)) := Lib.hid (by rw [hwS.out, Int.toNat_natCast])
        have oB : Hid (¬ onBlk a' bB) := Lib.hid (fun h => by have := (X.out.own.blk _ h).1; have := Hbb.out; omega)
        have oA : Hid (¬ onBlk a' bA) := Lib.hid (fun h => by have := (X.out.own.blk _ h).1; have := Hbb.out; omega)
        have hBk : Hid (Rd w (cutA a2 c2 0) k (byt (b.take k))) := Lib.hid (by have h := Hb.out.cutHi Hc2.out (k := k) (by omega); rwa [byt_take] at h)
        have s2 : ∀ w, (Instr.sliceAt 22 (.slice a2 n2 c2) none (some (.int .i64 (k : Int))) none).run Try.prog w = .ok (.slice (cutA a2 c2 0) k c2) w := fun w => run_cutHi E5 w a2 (by have := Hc2.out; omega) rfl
        have hl : Hid (m + k = (bs.take m ++ b.take k).length) := Lib.hid (by rw [List.length_append, List.length_take, List.length_take, Hbl.out, Hbl2.out]; omega)
        replace hfull := Lib.hid hfull
        go_wp2_with fail
        have X9 : Hid (Blk ((w8.setCell ⟨b8, 2, none⟩ (.int .i64 m)).setCell ⟨b8, 3, none⟩ (.int .i64 0)) b8 24 [.int .i64 page, .slice a' m c', .int .i64 m, .int .i64 0]) := Lib.hid ((X.out.blk.set 2 _).set 3 _)
        have G9 : Fr (fun j => j = b8) w8 ((w8.setCell ⟨b8, 2, none⟩ (.int .i64 m)).setCell ⟨b8, 3, none⟩ (.int .i64 0)) := by
          refine Fr.setCell (p := ⟨b8, 3, none⟩) (Fr.setCell (p := ⟨b8, 2, none⟩) (Fr.refl _ _) ?_ _) ?_ _
          all_goals exact fun _ => rfl
        have O9 := Lib.hid (X.out.own.fr G9 (fun j h e => X.out.off (e ▸ h)))
        have A9 : ((w8.setCell ⟨b8, 2, none⟩ (.int .i64 m)).setCell ⟨b8, 3, none⟩ (.int .i64 0)).cell? ⟨bA, 3, none⟩ = some (.int .i64 k) := G9.cell k3 nA8
        have BB9 := Lib.hid (X.out.bb.fr G9 nB8)
        have hF9 := Lib.hid (X.out.fr.trans G9 (fun j h1 e => by have := X.out.n8; omega))
        have hoff := Lib.hid X.out.off
        have hn8 := Lib.hid X.out.n8
        have h8l := Lib.hid X9.out.lt
        clear G9 X k3 v0 v1 v2 v3 e1 e2 e3 y0 y1 y2 y3 f0 f1 f2 f3
        generalize ((w8.setCell ⟨b8, 2, none⟩ (.int .i64 m)).setCell ⟨b8, 3, none⟩ (.int .i64 0)) = w9 at *
        have hHeld : (fun w' : World => w'.cell? ⟨b8, 1, none⟩ = some (.slice a' m c') ∧ w'.cell? ⟨bA, 3, none⟩ = some (.int .i64 k)) w9.drew := ⟨X9.out.cell (i := 1) rfl, A9⟩
        refine wp_region_last 8 (fun w' : World => w'.cell? ⟨b8, 1, none⟩ = some (.slice a' m c') ∧ w'.cell? ⟨bA, 3, none⟩ = some (.int .i64 k)) (by kernel_rfl) ?_
        refine anyP_take 0 (v := ?_) rfl rfl (by kernel_rfl) (fun _ _ _ h => h) (Or.inl ⟨by rfl, ?_⟩) hHeld ?_
        rotate_left 1
        · (intro w0 hSw; (try dsimp only at hSw); go_simp; (try (with_reducible rfl)))
        try simp only [Act.put, List.setIfInBounds_toArray]
        refine anyP_take 1 (v := ?_) rfl rfl (by kernel_rfl) (fun _ _ _ h => h) (Or.inl ⟨by rfl, ?_⟩) hHeld ?_
        rotate_left 1
        · (intro w0 hSw; (try dsimp only at hSw); go_simp; (try (with_reducible rfl)))
        try simp only [Act.put]
        refine anyP_take 2 (v := ?_) rfl rfl (by kernel_rfl) (fun _ _ _ h => h) (Or.inl ⟨by rfl, ?_⟩) hHeld ?_
        rotate_left 1
        · (intro w0 hSw; (try dsimp only at hSw); go_simp; (try (with_reducible rfl)))
        try simp only [Act.put]
        refine anyP_take 3 (v := ?_) rfl rfl (by kernel_rfl) (fun _ _ _ h => h) (Or.inl ⟨by rfl, ?_⟩) hHeld ?_
        rotate_left 1
        · (intro w0 hSw; (try dsimp only at hSw); go_simp; (try (with_reducible rfl)))
        try simp only [Act.put]
        refine anyP_take 4 (v := ?_) rfl rfl (by kernel_rfl) (fun _ _ _ h => h) (Or.inl ⟨by rfl, ?_⟩) hHeld ?_
        rotate_left 1
        · (intro w0 hSw; (try dsimp only at hSw); go_simp; (try (with_reducible rfl)))
        try simp only [Act.put]
        refine anyP_take 5 (v := ?_) rfl rfl (by kernel_rfl) (fun _ _ _ h => h) (Or.inl ⟨by rfl, ?_⟩) hHeld ?_
        rotate_left 1
        · (intro w0 hSw; (try dsimp only at hSw); go_simp; (try (with_reducible rfl)))
        try simp only [Act.put]
        refine anyP_one 6 (by kernel_rfl) rfl (fun K hK => ?_)
        replace hK := Lib.hid hK
        refine stepAppRd E5 (by rfl) (by rfl) (by rfl) (by rfl) (O9.out.fr0 (Fr.refl _ _).drew) ((hBk.out.fr0 hF9.out).fr0 (Fr.refl _ _).drew) (oneCell_byt _) (by omega) (by omega) (by have h1 := hn8.out; have h2 := h8l.out; show w.heap.size + 2 ≤ w9.heap.size; omega) (m + k) rfl ?_
        intro aX cX wX ownX frX0 atX0
        have frX : Fr (onBlk a') w9 wX := (Fr.refl (onBlk a') w9).drew.trans frX0 (fun _ _ h => h)
        have X0 := Lib.hid (X9.out.fr frX hoff.out)
        have X1 : Hid (Blk wX bB 24 [.int .i64 0, .slice none 0 0, .int .i64 0, .int .i64 0]) := Lib.hid (BB9.out.fr frX oB.out)
        have hHeld3 : (fun w' : World => w'.cell? ⟨b8, 1, none⟩ = some (.slice a' m c') ∧ w'.cell? ⟨bA, 3, none⟩ = some (.int .i64 k)) wX := ⟨X0.out.cell (i := 1) rfl, frX.cell A9 oA.out⟩
        have ownX' := Lib.hid ownX
        have frX' := Lib.hid frX
        have atX' : Hid (∀ j, onBlk aX j → onBlk a' j ∨ w9.heap.size ≤ j) := Lib.hid atX0
        refine hK.out _ _ (.inr hHeld3) ?_
        clear hK K ownX frX frX0 atX0
        try simp only [Act.put]
        refine anyP_one 7 (by kernel_rfl) rfl (fun K hK => ?_)
        replace hK := Lib.hid hK
        go_simp
        refine hK.out _ _ (.inr hHeld3) ?_
        clear hK K
        try simp only [Act.put, List.setIfInBounds_toArray, List.set_cons_zero, List.set_cons_succ]
        refine anyP_one 8 (by kernel_rfl) rfl (fun K hK => ?_)
        replace hK := Lib.hid hK
        have hz1 := hHeld3.1
        have hz2 := X0.out.free 1
        go_simp
        refine hK.out _ _ (.inl (by kernel_rfl)) ?_
        refine anyP_done (by kernel_rfl) ?_ _
        refine NoPanic.normal ?_
        clear hK K
        try simp only [Act.put, List.setIfInBounds_toArray, List.set_cons_zero, List.set_cons_succ]
        clear hz1 hz2 hHeld3 hHeld s2
        have x0 := X0.out.cell (i := 0) rfl
        have x1 := X0.out.cell (i := 1) rfl
        have x2 := X0.out.cell (i := 2) rfl
        have x3 := X0.out.cell (i := 3) rfl
        have y0' := X1.out.cell (i := 0) rfl
        have y1' := X1.out.cell (i := 1) rfl
        have y2' := X1.out.cell (i := 2) rfl
        have y3' := X1.out.cell (i := 3) rfl
        have f0' := X1.out.free 0
        have f1' := X1.out.free 1
        have f2' := X1.out.free 2
        have f3' := X1.out.free 3
        go_wp2_with fail
        clear x0 x1 x2 x3 y0' y1' y2' y3' f0' f1' f2' f3'
        have g := (((((X1.out.other (p := ⟨b8, 1, none⟩) nB8 (.slice aX (m + k) cX)).set 0 (.int .i64 page)).set 1 (.slice aX (m + k) cX)).set 2 (.int .i64 m)).set 3 (.int .i64 0))
        have g0 := g.cell (i := 0) rfl
        have g1 := g.cell (i := 1) rfl
        have g2 := g.cell (i := 2) rfl
        have g3 := g.cell (i := 3) rfl
        have G : Fr (fun j => j = b8 ∨ j = bB) wX (((((wX.setCell ⟨b8, 1, none⟩ (.slice aX (m + k) cX)).setCell ⟨bB, 0, none⟩ (.int .i64 page)).setCell ⟨bB, 1, none⟩ (.slice aX (m + k) cX)).setCell ⟨bB, 2, none⟩ (.int .i64 m)).setCell ⟨bB, 3, none⟩ (.int .i64 0)) := by
          refine (Fr.setCell (p := ⟨bB, 3, none⟩) (Fr.setCell (p := ⟨bB, 2, none⟩) (Fr.setCell (p := ⟨bB, 1, none⟩) (Fr.setCell (p := ⟨bB, 0, none⟩) (Fr.setCell (p := ⟨b8, 1, none⟩) (Fr.refl _ _) ?q0 _) ?q1 _) ?q2 _) ?q3 _) ?q4 _)
          case q0 => exact fun _ => .inl rfl
          case q1 => exact fun _ => .inr rfl
          case q2 => exact fun _ => .inr rfl
          case q3 => exact fun _ => .inr rfl
          case q4 => exact fun _ => .inr rfl
        have nO : ∀ j, onBlk aX j → ¬ (j = b8 ∨ j = bB) := fun j h h2 => by
          rcases h2 with h2 | h2
          · subst h2; exact (atX'.out _ h).elim hoff.out (fun h => by have := h8l.out; omega)
          · have := (ownX'.out.blk j h).1; have := Hbb.out; omega
        have n8l := hn8.out
        have hOb := O9.out.blk
        have hFin := (hF9.out.trans frX'.out (fun j h1 h2 => by have := (hOb j h2).1; omega)).trans G (fun j h1 h2 => by have := Hbb.out; omega)
        refine bodyPost_ret (v := .tuple #[.agg #[.int .i64 page, .slice aX (m + k) cX, .int .i64 m, .int .i64 0], .int .i64 27]) ?_ rfl ?_
        · simp [results, Try.results51, go_sem, g0, g1, g2, g3]
        rw [hwS2.out]
        exact ⟨aX, m + k, cX, hl.out, rfl, by simpa [byt] using (ownX'.out.fr G nO).mono (show w.heap.size ≤ w.heap.size + 2 by omega), hFin⟩
end Go.Proofs.Ytehpikjhjghplaa
