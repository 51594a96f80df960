/- PagefileApart: the walk. -/
import Derived.Test.YtehpikjhjghplaaB28
import Derived.Test.YtehpikjhjghplaaB16
import Derived.Test.YtehpikjhjghplaaArg
namespace Go.Proofs.Ytehpikjhjghplaa
open Go.RowKit
attribute [local go_sem ↓] Go.wp_at_zero Go.wp_at_succ
/-- Cells that hold numbers and may be written. -/
def NumW (w : World) (a : Option Addr) (n : Nat) : Prop :=
  0 < n → ∃ g o, a = some ⟨g, o, none⟩ ∧ ∀ k, k < n → (∃ z : Int, w.cell? ⟨g, o + k, none⟩ = some (.int .u8 z)) ∧ w.frozen? ⟨g, o + k, none⟩ = false
theorem NumW.set {w : World} {a : Option Addr} {n : Nat} (h : NumW w a n) (p : Addr) (z : Int) : NumW (w.setCell p (.int .u8 z)) a n := fun h0 => by
  obtain ⟨g, o, ha, hc⟩ := h h0
  refine ⟨g, o, ha, fun k hk => ?_⟩
  obtain ⟨⟨y, h1⟩, h2⟩ := hc k hk
  refine ⟨?_, by rw [World.frozen?_setCell]; exact h2⟩
  by_cases e : p = ⟨g, o + k, none⟩
  · subst e
    exact ⟨z, World.cell?_setCell_same _ _ _ h1⟩
  · exact ⟨y, by rw [World.cell?_setCell_other _ _ _ _ e]; exact h1⟩
theorem NumW.own {w : World} {B : Nat} {a : Option Addr} {n c : Nat} {bs : List UInt8} (h : Own w B 5 a n c (byt bs)) : NumW w a n := fun h0 => by
  obtain ⟨g, hg, _, _, hc, hf⟩ := h.at h0
  have hl : bs.length = n := by simpa using h.len
  refine ⟨g, 0, hg, fun k hk => ?_⟩
  rw [Nat.zero_add]
  exact ⟨⟨_, hc k (bv (bs[k]'(by omega))) (by simp [byt, List.getElem?_eq_getElem (show k < bs.length by omega)])⟩, hf k⟩
theorem NumW.fr {S : Nat → Prop} {w w' : World} {a : Option Addr} {n : Nat} (h : NumW w a n) (f : Fr S w w') (hS : 0 < n → ∀ j, onBlk a j → ¬ S j) : NumW w' a n := fun h0 => by
  obtain ⟨g, o, ha, hc⟩ := h h0
  refine ⟨g, o, ha, fun k hk => ?_⟩
  obtain ⟨⟨y, h1⟩, h2⟩ := hc k hk
  have hn : ¬ S g := hS h0 g (by rw [ha, onBlk_some])
  exact ⟨⟨y, f.cell h1 hn⟩, by rw [f.frozen (World.block_lt_of_cell? _ _ h1) hn]; exact h2⟩
theorem sz_up {S : Nat → Prop} {w w' : World} {a : Option Addr} {B : Nat} (A : Fr S w w') (L : ∀ j, onBlk a j → B ≤ j ∧ j < w.heap.size) : ∀ j, onBlk a j → B ≤ j ∧ j < w'.heap.size := fun j h => by
  have := L j h
  have := A.size
  omega
/-- Slices one may write, in blocks from B up to G. -/
def Five (w : World) (B G : Nat) (vs : List Value) : Prop :=
  ∀ k, k < 5 → ∃ a n c, vs[k]? = some (.slice a n c) ∧ n ≤ 9223372036854775807 ∧ NumW w a n ∧ ∀ j, onBlk a j → B ≤ j ∧ j < G
theorem Five.set {w : World} {B G : Nat} {vs : List Value} (h : Five w B G vs) (p : Addr) (z : Int) : Five (w.setCell p (.int .u8 z)) B G vs := fun k hk => by
  obtain ⟨a, n, c, h1, h2, h3, h4⟩ := h k hk
  exact ⟨a, n, c, h1, h2, h3.set p z, h4⟩
set_option maxRecDepth 100000 in
set_option maxHeartbeats 16000000 in
theorem Apart_walk (a : Option Addr) (n c : Nat) (pg sy af : Int) (bs : List UInt8) (w : World) (hr : Rd w a n (byt bs)) (hc : n ≤ c) :
    Calls Try.prog 8 #[.agg (dskI pg a n c sy af)] w fun e w' => e = .returned (.bool true) ∧ Fr F0 w w' := by
  have FA : Fr F0 w (w.alloc (.cells (dskI pg a n c sy af) 24)) := (Fr.refl _ _).alloc _
  have B0 : Blk (w.alloc (.cells (dskI pg a n c sy af) 24)) w.heap.size 24 [.int .i64 pg, .slice a n c, .int .i64 sy, .int .i64 af] := Blk.new w 24 [.int .i64 pg, .slice a n c, .int .i64 sy, .int .i64 af]
  obtain ⟨bA, hbA⟩ : ∃ b, b = w.heap.size := ⟨_, rfl⟩
  rw [← hbA] at B0
  have HbA := Lib.hid hbA
  have Hr := Lib.hid hr
  have HC := Lib.hid hc
  have Hbl : Hid (bs.length = n) := Lib.hid (by simpa using hr.len)
  replace FA := Lib.hid FA
  replace B0 := Lib.hid B0
  clear hr hc
  go_enter Try.func8, Try.ntmps8
  go_wp2_with fail
  refine (awake_any _).mono ?_
  rintro e w1 ⟨rfl, F1⟩
  rw [← hbA]
  clear hbA
  have CA := Lib.hid (B0.out.fr F1 id)
  have FW := Lib.hid (FA.out.trans0 F1)
  have x0 := CA.out.cell (i := 0) rfl
  have x1 := CA.out.cell (i := 1) rfl
  have x2 := CA.out.cell (i := 2) rfl
  have x3 := CA.out.cell (i := 3) rfl
  clear F1 B0 FA
  go_wp2_with fail
  refine (large_any a n c pg sy af _).mono ?_
  rintro e w2 ⟨r, rfl, _, F2⟩
  replace CA := Lib.hid (CA.out.fr F2 id)
  replace FW := Lib.hid (FW.out.trans0 F2)
  clear x0 x1 x2 x3 F2
  have x0 := CA.out.cell (i := 0) rfl
  have x1 := CA.out.cell (i := 1) rfl
  have x2 := CA.out.cell (i := 2) rfl
  have x3 := CA.out.cell (i := 3) rfl
  cases r with
  | true =>
    go_wp2_with fail
    go_ret
    exact ⟨rfl, FW.out⟩
  | false =>
    go_wp2_with fail
    refine (refValid_any a n c pg sy af bs _ (Hr.out.fr0 FW.out) HC.out).mono ?_
    rintro e w9 ⟨rfl, F9⟩
    replace CA := Lib.hid (CA.out.fr F9 id)
    replace FW := Lib.hid (FW.out.trans0 F9)
    clear x0 x1 x2 x3 F9
    have x0 := CA.out.cell (i := 0) rfl
    have x1 := CA.out.cell (i := 1) rfl
    have x2 := CA.out.cell (i := 2) rfl
    have x3 := CA.out.cell (i := 3) rfl
    have hall : ∀ b : Bool, b = true ∨ b = false := by decide
    rcases hall (validB pg bs sy af) with hv | hv
    rotate_left
    · rw [hv]
      clear hall hv
      go_wp2_with fail
      go_ret
      exact ⟨rfl, FW.out⟩
    · obtain ⟨⟨hp1, hp2⟩, -, hlen, -⟩ := valid_of hv
      obtain ⟨page, rfl⟩ := Int.eq_ofNat_of_zero_le (show 0 ≤ pg by omega)
      have Hln : Hid (n ≤ 1048576 ∧ page ≤ 256 ∧ 1 ≤ page) := Lib.hid (by have := Hbl.out; omega)
      have Hn2 : Hid (n ≤ 2000000) := Lib.hid (by have := Hbl.out; omega)
      have hpg2 : page ≤ 256 := by omega
      have hpg0 : (0 : Int) ≤ (page : Int) := by omega
      rw [hv]
      clear hall hv hp1 hp2 hlen
      by_cases hk : 1000 < n
      · have d1 : decide ((1000 : Int) < (n : Int)) = true := by simp; omega
        clear hk
        go_wp2_with fail
        go_ret
        exact ⟨rfl, FW.out⟩
      have d1 : decide ((1000 : Int) < (n : Int)) = false := by simp; omega
      clear hk
      go_wp2_with fail
      refine (Pages_any a n c page sy af bs _ (Hr.out.fr0 FW.out) HC.out Hln.out.1 Hln.out.2.1 Hln.out.2.2).mono ?_
      rintro e wv ⟨aP, nP, cP, vs, S, hnP, rfl, OP, RP, _, FP⟩
      have CX := Lib.hid (CA.out.fr FP id)
      have FX := Lib.hid (FW.out.trans0 FP)
      clear x0 x1 x2 x3 FP OP RP hnP FW CA d1
      by_cases h40 : 40 < nP
      · go_wp2_with fail
        go_ret
        exact ⟨rfl, FX.out⟩
      · have h40' : decide ((40 : Int) < (nP : Int)) = false := by simp; omega
        clear h40
        have CA := CX
        have FW := FX
        clear CX FX
        have x0 := CA.out.cell (i := 0) rfl
        have x1 := CA.out.cell (i := 1) rfl
        have x2 := CA.out.cell (i := 2) rfl
        have x3 := CA.out.cell (i := 3) rfl
        go_wp2_with fail
        refine (Clone_any a n c bs _ (Hr.out.fr0 FW.out) Hn2.out).mono ?_
        rintro e w0 ⟨aB, cB, rfl, OB, F0'⟩
        clear x0 x1 x2 x3 h40'
        replace CA := Lib.hid (CA.out.fr F0' id)
        replace FW := Lib.hid (FW.out.trans0 F0')
        have RB := Lib.hid OB.rd
        clear F0' OB
        have hmk := run_mk E5 rfl page (by omega) (by omega)
        have A1 : Fr F0 w0 (w0.alloc (.cells (Array.replicate page (.int .u8 0)) 5)) := (Fr.refl _ _).alloc _
        have DA : Rd (w0.alloc (.cells (Array.replicate page (.int .u8 0)) 5)) (some ⟨w0.heap.size, 0, none⟩) page (byt (zrow page)) := by
          have h := (Own.made (w := w0) (B := 0) (T := 5) (z := .int .u8 0) page (Nat.zero_le _) (by omega)).rd
          rwa [zrow_byt] at h
        have Hdl : Hid (∀ j, onBlk (some ⟨w0.heap.size, 0, none⟩) j → j < (w0.alloc (.cells (Array.replicate page (.int .u8 0)) 5)).heap.size) := Lib.hid (fun j h => by rw [(onBlk_some _ _ _ _).1 h, size_alloc]; omega)
        obtain ⟨W1, hW1⟩ : ∃ W, W = (w0.alloc (.cells (Array.replicate page (.int .u8 0)) 5)) := ⟨_, rfl⟩
        obtain ⟨gD, hgD⟩ : ∃ g, g = w0.heap.size := ⟨_, rfl⟩
        have xw0 := CA.out.cell (i := 0) rfl
        replace CA := Lib.hid (CA.out.fr A1 id)
        replace FW := Lib.hid (FW.out.trans0 A1)
        replace RB := Lib.hid (RB.out.fr0 A1)
        have HDA := Lib.hid DA
        clear DA A1
        have x0 := CA.out.cell (i := 0) rfl
        have x1 := CA.out.cell (i := 1) rfl
        have x2 := CA.out.cell (i := 2) rfl
        have x3 := CA.out.cell (i := 3) rfl
        rw [← hgD, ← hW1] at HDA Hdl
        go_wp2_with fail
        clear x0 x1 x2 x3 xw0
        have hW7 : Fr F0 (w0.alloc (.cells (Array.replicate page (.int .u8 0)) 5)) (((w0.alloc (.cells (Array.replicate page (.int .u8 0)) 5)).alloc (.cells #[.int .i64 1] 3)).alloc (.cells #[.slice (some ⟨w0.heap.size, 0, none⟩) page page] 22)) := ((Fr.refl _ _).alloc _).alloc _
        have hsW : (((w0.alloc (.cells (Array.replicate page (.int .u8 0)) 5)).alloc (.cells #[.int .i64 1] 3)).alloc (.cells #[.slice (some ⟨w0.heap.size, 0, none⟩) page page] 22)).heap.size = w0.heap.size + 3 := by rw [size_alloc, size_alloc, size_alloc]
        have h1 : Rd (((w0.alloc (.cells (Array.replicate page (.int .u8 0)) 5)).alloc (.cells #[.int .i64 1] 3)).alloc (.cells #[.slice (some ⟨w0.heap.size, 0, none⟩) page page] 22)) (some ⟨w0.heap.size + 1, 0, none⟩) 1 (ints [1]) := by
          have h := ((Own.lit (w := (w0.alloc (.cells (Array.replicate page (.int .u8 0)) 5))) (B := 0) (T := 3) [Value.int .i64 1] 1 rfl (Nat.zero_le _) (by omega)).rd).alloc (.cells #[.slice (some ⟨w0.heap.size, 0, none⟩) page page] 22)
          rw [size_alloc] at h
          exact h
        have h2 : Rd (((w0.alloc (.cells (Array.replicate page (.int .u8 0)) 5)).alloc (.cells #[.int .i64 1] 3)).alloc (.cells #[.slice (some ⟨w0.heap.size, 0, none⟩) page page] 22)) (some ⟨w0.heap.size + 1 + 1, 0, none⟩) 1 [.slice (some ⟨w0.heap.size, 0, none⟩) page page] := by
          have h := (Own.lit (w := ((w0.alloc (.cells (Array.replicate page (.int .u8 0)) 5)).alloc (.cells #[.int .i64 1] 3))) (B := 0) (T := 22) [Value.slice (some ⟨w0.heap.size, 0, none⟩) page page] 1 rfl (Nat.zero_le _) (by omega)).rd
          rw [size_alloc, size_alloc] at h
          exact h
        have hzl : (zrow page).length = page := by unfold zrow; simp
        have HD7 : Rd (((w0.alloc (.cells (Array.replicate page (.int .u8 0)) 5)).alloc (.cells #[.int .i64 1] 3)).alloc (.cells #[.slice (some ⟨w0.heap.size, 0, none⟩) page page] 22)) (some ⟨w0.heap.size, 0, none⟩) page (byt (zrow page)) := by
          have h := HDA.out
          rw [hgD, hW1] at h
          exact h.fr0 hW7
        have hR : RowsM (((w0.alloc (.cells (Array.replicate page (.int .u8 0)) 5)).alloc (.cells #[.int .i64 1] 3)).alloc (.cells #[.slice (some ⟨w0.heap.size, 0, none⟩) page page] 22)) (fun j => j < (((w0.alloc (.cells (Array.replicate page (.int .u8 0)) 5)).alloc (.cells #[.int .i64 1] 3)).alloc (.cells #[.slice (some ⟨w0.heap.size, 0, none⟩) page page] 22)).heap.size) [.slice (some ⟨w0.heap.size, 0, none⟩) page page] [zrow page] := by
          have hd : RowM (((w0.alloc (.cells (Array.replicate page (.int .u8 0)) 5)).alloc (.cells #[.int .i64 1] 3)).alloc (.cells #[.slice (some ⟨w0.heap.size, 0, none⟩) page page] 22)) (fun j => j < (((w0.alloc (.cells (Array.replicate page (.int .u8 0)) 5)).alloc (.cells #[.int .i64 1] 3)).alloc (.cells #[.slice (some ⟨w0.heap.size, 0, none⟩) page page] 22)).heap.size) (.slice (some ⟨w0.heap.size, 0, none⟩) page page) (zrow page) := ⟨some ⟨w0.heap.size, 0, none⟩, page, by rw [hzl], by rw [hzl]; exact Nat.le_refl _, by rw [hzl]; exact HD7, fun _ j h => by rw [(onBlk_some _ _ _ _).1 h, hsW]; omega⟩
          exact (RowsM.nil _ _).snoc hd
        have h2' : Rd (((w0.alloc (.cells (Array.replicate page (.int .u8 0)) 5)).alloc (.cells #[.int .i64 1] 3)).alloc (.cells #[.slice (some ⟨w0.heap.size, 0, none⟩) page page] 22)) (some ⟨w0.heap.size + 1 + 1, 0, none⟩) 1 [.slice (some ⟨w0.heap.size, 0, none⟩) page page] := h2
        refine (Commit_any a n c page sy af bs (some ⟨w0.heap.size + 1, 0, none⟩) 1 1 [1] (some ⟨w0.heap.size + 1 + 1, 0, none⟩) 1 1 [.slice (some ⟨w0.heap.size, 0, none⟩) page page] [zrow page] (fun j => j < (((w0.alloc (.cells (Array.replicate page (.int .u8 0)) 5)).alloc (.cells #[.int .i64 1] 3)).alloc (.cells #[.slice (some ⟨w0.heap.size, 0, none⟩) page page] 22)).heap.size) _ (Hr.out.fr0 (FW.out.trans0 hW7)) HC.out h1 h2' hR (fun _ h => h)).mono ?_
        rintro e w10 ⟨a10, n10, c10, hn10, rfl, O10, F10⟩
        obtain ⟨Q10, hQ10⟩ : ∃ Q, Q = commitS page bs sy af [1] [zrow page] := ⟨_, rfl⟩
        rw [← hQ10] at O10 hn10 ⊢
        obtain ⟨B, hB⟩ : ∃ B, B = (((w0.alloc (.cells (Array.replicate page (.int .u8 0)) 5)).alloc (.cells #[.int .i64 1] 3)).alloc (.cells #[.slice (some ⟨w0.heap.size, 0, none⟩) page page] 22)).heap.size := ⟨_, rfl⟩
        rw [← hB] at O10
        have hBw : B = w0.heap.size + 3 := by rw [hB, hsW]
        have A10 : Fr F0 (w0.alloc (.cells (Array.replicate page (.int .u8 0)) 5)) (w10.alloc (.cells (dskI Q10.1.pg a10 n10 c10 Q10.1.sy Q10.1.af) 24)) := (hW7.trans0 F10).alloc _
        have HB : Hid (B = gD + 3) := Lib.hid (by rw [hBw, hgD])
        have LB : Hid (∀ j, onBlk aB j → 0 < n → j < B) := Lib.hid (fun j h h0 => by have := RB.out.lt h0 j h; rw [size_alloc] at this; omega)
        have hBsz : Hid (w.heap.size ≤ B) := Lib.hid (by have := FW.out.size; rw [size_alloc] at this; omega)
        have LA : Hid (bA < B) := Lib.hid (by have := CA.out.lt; rw [size_alloc] at this; omega)
        rw [hW1, hgD] at HDA
        replace CA := Lib.hid (CA.out.fr A10 id)
        replace FW := Lib.hid (FW.out.trans0 A10)
        replace RB := Lib.hid (RB.out.fr0 A10)
        replace HDA := Lib.hid (HDA.out.fr0 A10)
        rw [← hgD] at HDA ⊢
        have N10 := Lib.hid ((NumW.own O10).fr ((Fr.refl F0 w10).alloc (.cells (dskI Q10.1.pg a10 n10 c10 Q10.1.sy Q10.1.af) 24)) (fun _ _ _ h => h))
        have L10 : Hid (∀ j, onBlk a10 j → B ≤ j ∧ j < (w10.alloc (.cells (dskI Q10.1.pg a10 n10 c10 Q10.1.sy Q10.1.af) 24)).heap.size) := Lib.hid (fun j h => by have := O10.blk j h; rw [size_alloc]; omega)
        have M10 : Hid (n10 ≤ 9223372036854775807) := Lib.hid O10.rd.max
        have C10 := Lib.hid (Blk.new w10 24 [.int .i64 Q10.1.pg, .slice a10 n10 c10, .int .i64 Q10.1.sy, .int .i64 Q10.1.af])
        have hBs10 : Hid (B ≤ (w10.alloc (.cells (dskI Q10.1.pg a10 n10 c10 Q10.1.sy Q10.1.af) 24)).heap.size) := Lib.hid (by have := F10.size; rw [size_alloc]; omega)
        clear hn10 O10 F10 A10 hW7 hsW h1 h2 h2' hR HD7 hzl hQ10 hB hBw hW1 hgD W1 Hdl hmk
        have x0 := CA.out.cell (i := 0) rfl
        have x1 := CA.out.cell (i := 1) rfl
        have x2 := CA.out.cell (i := 2) rfl
        have x3 := CA.out.cell (i := 3) rfl
        go_wp2_with fail
        refine (Crash_any a n c page sy af 0 bs _ (Hr.out.fr0 FW.out) HC.out).mono ?_
        rintro e w11 ⟨a11, n11, c11, hn11, rfl, O11, F11⟩
        obtain ⟨Q11, hQ11⟩ : ∃ Q, Q = crashS page bs sy af 0 := ⟨_, rfl⟩
        rw [← hQ11] at O11 hn11 ⊢
        obtain ⟨b10, hb10⟩ : ∃ b, b = w10.heap.size := ⟨_, rfl⟩
        rw [← hb10] at C10
        rw [← hb10]
        have A11 := F11.alloc (.cells (dskI Q11.1.pg a11 n11 c11 Q11.1.sy Q11.1.af) 24)
        have hN11 := (NumW.own O11).fr ((Fr.refl F0 w11).alloc (.cells (dskI Q11.1.pg a11 n11 c11 Q11.1.sy Q11.1.af) 24)) (fun _ _ _ h => h)
        have hL11 : ∀ j, onBlk a11 j → B ≤ j ∧ j < (w11.alloc (.cells (dskI Q11.1.pg a11 n11 c11 Q11.1.sy Q11.1.af) 24)).heap.size := fun j h => by
          have h1 := O11.blk j h
          have h2 := F11.size
          have h3 := hBs10.out
          have h4 : w11.heap.size ≤ (w11.alloc (.cells (dskI Q11.1.pg a11 n11 c11 Q11.1.sy Q11.1.af) 24)).heap.size := by rw [size_alloc]; omega
          omega
        have hBs11 : Hid (B ≤ (w11.alloc (.cells (dskI Q11.1.pg a11 n11 c11 Q11.1.sy Q11.1.af) 24)).heap.size) := Lib.hid (by have := A11.size; have := hBs10.out; omega)
        replace CA := Lib.hid (CA.out.fr A11 id)
        replace FW := Lib.hid (FW.out.trans0 A11)
        replace RB := Lib.hid (RB.out.fr0 A11)
        replace HDA := Lib.hid (HDA.out.fr0 A11)
        replace N10 := Lib.hid (N10.out.fr A11 (fun _ _ _ h => h))
        replace L10 := Lib.hid (sz_up A11 L10.out)
        replace C10 := Lib.hid (C10.out.fr A11 id)
        have N11 := Lib.hid hN11
        have L11 := Lib.hid hL11
        have M11 : Hid (n11 ≤ 9223372036854775807) := Lib.hid O11.rd.max
        have C11 := Lib.hid (Blk.new w11 24 [.int .i64 Q11.1.pg, .slice a11 n11 c11, .int .i64 Q11.1.sy, .int .i64 Q11.1.af])
        clear x0 x1 x2 x3 hn11 O11 F11 A11 hN11 hL11 hBs10 hQ11 hb10
        have x0 := CA.out.cell (i := 0) rfl
        have x1 := CA.out.cell (i := 1) rfl
        have x2 := CA.out.cell (i := 2) rfl
        have x3 := CA.out.cell (i := 3) rfl
        go_wp2_with fail
        refine (Open_any a n c page sy af bs _ (Hr.out.fr0 FW.out) HC.out).mono ?_
        rintro e w12 ⟨a12, n12, c12, hn12, rfl, O12, F12⟩
        obtain ⟨Q12, hQ12⟩ : ∃ Q, Q = openS page bs sy af := ⟨_, rfl⟩
        rw [← hQ12] at O12 hn12 ⊢
        obtain ⟨b11, hb11⟩ : ∃ b, b = w11.heap.size := ⟨_, rfl⟩
        rw [← hb11] at C11
        rw [← hb11]
        have A12 := F12.alloc (.cells (dskI Q12.1.pg a12 n12 c12 Q12.1.sy Q12.1.af) 24)
        have hN12 := (NumW.own O12).fr ((Fr.refl F0 w12).alloc (.cells (dskI Q12.1.pg a12 n12 c12 Q12.1.sy Q12.1.af) 24)) (fun _ _ _ h => h)
        have hL12 : ∀ j, onBlk a12 j → B ≤ j ∧ j < (w12.alloc (.cells (dskI Q12.1.pg a12 n12 c12 Q12.1.sy Q12.1.af) 24)).heap.size := fun j h => by
          have h1 := O12.blk j h
          have h2 := F12.size
          have h3 := hBs11.out
          have h4 : w12.heap.size ≤ (w12.alloc (.cells (dskI Q12.1.pg a12 n12 c12 Q12.1.sy Q12.1.af) 24)).heap.size := by rw [size_alloc]; omega
          omega
        have hBs12 : Hid (B ≤ (w12.alloc (.cells (dskI Q12.1.pg a12 n12 c12 Q12.1.sy Q12.1.af) 24)).heap.size) := Lib.hid (by have := A12.size; have := hBs11.out; omega)
        replace CA := Lib.hid (CA.out.fr A12 id)
        replace FW := Lib.hid (FW.out.trans0 A12)
        replace RB := Lib.hid (RB.out.fr0 A12)
        replace HDA := Lib.hid (HDA.out.fr0 A12)
        replace N10 := Lib.hid (N10.out.fr A12 (fun _ _ _ h => h))
        replace L10 := Lib.hid (sz_up A12 L10.out)
        replace C10 := Lib.hid (C10.out.fr A12 id)
        replace N11 := Lib.hid (N11.out.fr A12 (fun _ _ _ h => h))
        replace L11 := Lib.hid (sz_up A12 L11.out)
        replace C11 := Lib.hid (C11.out.fr A12 id)
        have N12 := Lib.hid hN12
        have L12 := Lib.hid hL12
        have M12 : Hid (n12 ≤ 9223372036854775807) := Lib.hid O12.rd.max
        have C12 := Lib.hid (Blk.new w12 24 [.int .i64 Q12.1.pg, .slice a12 n12 c12, .int .i64 Q12.1.sy, .int .i64 Q12.1.af])
        clear x0 x1 x2 x3 hn12 O12 F12 A12 hN12 hL12 hBs11 hQ12 hb11
        have x0 := CA.out.cell (i := 0) rfl
        have x1 := CA.out.cell (i := 1) rfl
        have x2 := CA.out.cell (i := 2) rfl
        have x3 := CA.out.cell (i := 3) rfl
        go_wp2_with fail
        refine (Checkpoint_any a n c page sy af bs _ (Hr.out.fr0 FW.out) HC.out).mono ?_
        rintro e w13 ⟨a13, n13, c13, hn13, rfl, O13, F13⟩
        obtain ⟨Q13, hQ13⟩ : ∃ Q, Q = ckptS page bs sy af := ⟨_, rfl⟩
        rw [← hQ13] at O13 hn13 ⊢
        obtain ⟨b12, hb12⟩ : ∃ b, b = w12.heap.size := ⟨_, rfl⟩
        rw [← hb12] at C12
        rw [← hb12]
        have A13 := F13.alloc (.cells (dskI Q13.1.pg a13 n13 c13 Q13.1.sy Q13.1.af) 24)
        have hN13 := (NumW.own O13).fr ((Fr.refl F0 w13).alloc (.cells (dskI Q13.1.pg a13 n13 c13 Q13.1.sy Q13.1.af) 24)) (fun _ _ _ h => h)
        have hL13 : ∀ j, onBlk a13 j → B ≤ j ∧ j < (w13.alloc (.cells (dskI Q13.1.pg a13 n13 c13 Q13.1.sy Q13.1.af) 24)).heap.size := fun j h => by
          have h1 := O13.blk j h
          have h2 := F13.size
          have h3 := hBs12.out
          have h4 : w13.heap.size ≤ (w13.alloc (.cells (dskI Q13.1.pg a13 n13 c13 Q13.1.sy Q13.1.af) 24)).heap.size := by rw [size_alloc]; omega
          omega
        have hBs13 : Hid (B ≤ (w13.alloc (.cells (dskI Q13.1.pg a13 n13 c13 Q13.1.sy Q13.1.af) 24)).heap.size) := Lib.hid (by have := A13.size; have := hBs12.out; omega)
        replace CA := Lib.hid (CA.out.fr A13 id)
        replace FW := Lib.hid (FW.out.trans0 A13)
        replace RB := Lib.hid (RB.out.fr0 A13)
        replace HDA := Lib.hid (HDA.out.fr0 A13)
        replace N10 := Lib.hid (N10.out.fr A13 (fun _ _ _ h => h))
        replace L10 := Lib.hid (sz_up A13 L10.out)
        replace C10 := Lib.hid (C10.out.fr A13 id)
        replace N11 := Lib.hid (N11.out.fr A13 (fun _ _ _ h => h))
        replace L11 := Lib.hid (sz_up A13 L11.out)
        replace C11 := Lib.hid (C11.out.fr A13 id)
        replace N12 := Lib.hid (N12.out.fr A13 (fun _ _ _ h => h))
        replace L12 := Lib.hid (sz_up A13 L12.out)
        replace C12 := Lib.hid (C12.out.fr A13 id)
        have N13 := Lib.hid hN13
        have L13 := Lib.hid hL13
        have M13 : Hid (n13 ≤ 9223372036854775807) := Lib.hid O13.rd.max
        have C13 := Lib.hid (Blk.new w13 24 [.int .i64 Q13.1.pg, .slice a13 n13 c13, .int .i64 Q13.1.sy, .int .i64 Q13.1.af])
        clear x0 x1 x2 x3 hn13 O13 F13 A13 hN13 hL13 hBs12 hQ13 hb12
        have x0 := CA.out.cell (i := 0) rfl
        have x1 := CA.out.cell (i := 1) rfl
        have x2 := CA.out.cell (i := 2) rfl
        have x3 := CA.out.cell (i := 3) rfl
        go_wp2_with fail
        refine (Get_any a n c page sy af bs 0 _ (Hr.out.fr0 FW.out) HC.out).mono ?_
        rintro e w14 ⟨a14, n14, c14, hn14, rfl, O14, F14⟩
        obtain ⟨Q14, hQ14⟩ : ∃ Q, Q = getS page bs sy af 0 := ⟨_, rfl⟩
        rw [← hQ14] at O14 hn14 ⊢
        obtain ⟨b13, hb13⟩ : ∃ b, b = w13.heap.size := ⟨_, rfl⟩
        rw [← hb13] at C13
        rw [← hb13]
        have A14 := F14
        have hN14 := NumW.own O14
        have hL14 : ∀ j, onBlk a14 j → B ≤ j ∧ j < w14.heap.size := fun j h => by
          have h1 := O14.blk j h
          have h2 := F14.size
          have h3 := hBs13.out
          have h4 : w14.heap.size ≤ w14.heap.size := Nat.le_refl _
          omega
        have hBs14 : Hid (B ≤ w14.heap.size) := Lib.hid (by have := A14.size; have := hBs13.out; omega)
        replace CA := Lib.hid (CA.out.fr A14 id)
        replace FW := Lib.hid (FW.out.trans0 A14)
        replace RB := Lib.hid (RB.out.fr0 A14)
        replace HDA := Lib.hid (HDA.out.fr0 A14)
        replace N10 := Lib.hid (N10.out.fr A14 (fun _ _ _ h => h))
        replace L10 := Lib.hid (sz_up A14 L10.out)
        replace C10 := Lib.hid (C10.out.fr A14 id)
        replace N11 := Lib.hid (N11.out.fr A14 (fun _ _ _ h => h))
        replace L11 := Lib.hid (sz_up A14 L11.out)
        replace C11 := Lib.hid (C11.out.fr A14 id)
        replace N12 := Lib.hid (N12.out.fr A14 (fun _ _ _ h => h))
        replace L12 := Lib.hid (sz_up A14 L12.out)
        replace C12 := Lib.hid (C12.out.fr A14 id)
        replace N13 := Lib.hid (N13.out.fr A14 (fun _ _ _ h => h))
        replace L13 := Lib.hid (sz_up A14 L13.out)
        replace C13 := Lib.hid (C13.out.fr A14 id)
        have N14 := Lib.hid hN14
        have L14 := Lib.hid hL14
        have M14 : Hid (n14 ≤ 9223372036854775807) := Lib.hid O14.rd.max
        clear x0 x1 x2 x3 hn14 O14 F14 A14 hN14 hL14 hBs13 hQ14 hb13
        have v10 := C10.out.cell (i := 1) rfl
        have v11 := C11.out.cell (i := 1) rfl
        have v12 := C12.out.cell (i := 1) rfl
        have v13 := C13.out.cell (i := 1) rfl
        have hFive : Hid (Five (w14.alloc (.cells #[.slice a10 n10 c10, .slice a11 n11 c11, .slice a12 n12 c12, .slice a13 n13 c13, .slice a14 n14 c14] 22)) B w14.heap.size [.slice a10 n10 c10, .slice a11 n11 c11, .slice a12 n12 c12, .slice a13 n13 c13, .slice a14 n14 c14]) := Lib.hid (fun k hk => by
          have hal : Fr F0 w14 (w14.alloc (.cells #[.slice a10 n10 c10, .slice a11 n11 c11, .slice a12 n12 c12, .slice a13 n13 c13, .slice a14 n14 c14] 22)) := (Fr.refl _ _).alloc _
          match k, hk with
          | 0, _ => exact ⟨a10, n10, c10, rfl, M10.out, N10.out.fr hal (fun _ _ _ h => h), L10.out⟩
          | 1, _ => exact ⟨a11, n11, c11, rfl, M11.out, N11.out.fr hal (fun _ _ _ h => h), L11.out⟩
          | 2, _ => exact ⟨a12, n12, c12, rfl, M12.out, N12.out.fr hal (fun _ _ _ h => h), L12.out⟩
          | 3, _ => exact ⟨a13, n13, c13, rfl, M13.out, N13.out.fr hal (fun _ _ _ h => h), L13.out⟩
          | 4, _ => exact ⟨a14, n14, c14, rfl, M14.out, N14.out.fr hal (fun _ _ _ h => h), L14.out⟩)
        have A15 : Fr F0 w14 (w14.alloc (.cells #[.slice a10 n10 c10, .slice a11 n11 c11, .slice a12 n12 c12, .slice a13 n13 c13, .slice a14 n14 c14] 22)) := (Fr.refl _ _).alloc _
        replace CA := Lib.hid (CA.out.fr A15 id)
        replace FW := Lib.hid (FW.out.trans0 A15)
        replace RB := Lib.hid (RB.out.fr0 A15)
        replace HDA := Lib.hid (HDA.out.fr0 A15)
        have K5 := Lib.hid (Blk.new w14 22 [.slice a10 n10 c10, .slice a11 n11 c11, .slice a12 n12 c12, .slice a13 n13 c13, .slice a14 n14 c14])
        clear N10 N11 N12 N13 N14 L10 L11 L12 L13 L14 M10 M11 M12 M13 M14 C10 C11 C12 C13 A15
        go_wp2_with fail
        clear v10 v11 v12 v13
        obtain ⟨g5, hg5⟩ : ∃ g, g = w14.heap.size := ⟨_, rfl⟩
        rw [← hg5] at hFive K5 hBs14
        rw [← hg5]
        obtain ⟨wL, hwL⟩ : ∃ W, W = (w14.alloc (.cells #[.slice a10 n10 c10, .slice a11 n11 c11, .slice a12 n12 c12, .slice a13 n13 c13, .slice a14 n14 c14] 22)) := ⟨_, rfl⟩
        obtain ⟨vs5, hvs5⟩ : ∃ v : List Value, v = [.slice a10 n10 c10, .slice a11 n11 c11, .slice a12 n12 c12, .slice a13 n13 c13, .slice a14 n14 c14] := ⟨_, rfl⟩
        rw [← hwL, ← hvs5] at hFive K5
        rw [← hwL] at CA FW RB HDA ⊢
        have nA5 : Hid (∀ j, j < B → ¬ (B ≤ j ∧ j < g5)) := Lib.hid (fun j h h2 => by omega)
        clear hwL hvs5 hg5
        go_loopw [16, 17, 84] (fun _ _ s84 wr => ∃ k : Nat, k ≤ 5 ∧ s84 = .int .i64 k ∧ Hid (Five wr B g5 vs5) ∧ Hid (Fr (fun j => B ≤ j ∧ j < g5) wL wr)) (fun _ _ s84 _ => 5 - (intOf s84).toNat)
        case atStart => exact ⟨0, by omega, rfl, hFive, Lib.hid (Fr.refl _ _)⟩
        case round =>
          clear hFive
          obtain ⟨k, hk, rfl, hV, hF⟩ := hrel
          by_cases hlt : k < 5
          · obtain ⟨ai, ni, ci, h5, hmx, _, hL⟩ := hV.out k hlt
            have d5 := (K5.out.fr hF.out (fun h => by omega)).cell h5
            have HL := Lib.hid hL
            have H5 := Lib.hid h5
            have i0 : (0 : Int) ≤ (k : Int) := by omega
            have i1 : (k : Int) < 5 := by omega
            clear hL h5
            go_wp2_with fail
            clear d5
            go_loopw [17, 90] (fun _ s90 wr => ∃ m : Nat, m ≤ ni ∧ s90 = .int .i64 m ∧ Hid (Five wr B g5 vs5) ∧ Hid (Fr (fun j => B ≤ j ∧ j < g5) wL wr)) (fun _ s90 _ => ni - (intOf s90).toNat)
            case atStart => exact ⟨0, by omega, rfl, hV, hF⟩
            case round =>
              clear hV hF
              obtain ⟨m, hm, rfl, hV, hF⟩ := hrel
              by_cases hlt2 : m < ni
              · obtain ⟨aj, nj, cj, h6, _, hN, _⟩ := hV.out k hlt
                rw [H5.out] at h6
                injection h6 with h6
                injection h6 with e1 e2 e3
                subst e1
                subst e2
                obtain ⟨g, o, ha, hc⟩ := hN (by omega)
                obtain ⟨⟨z, d1⟩, d2⟩ := hc m hlt2
                have hg := HL.out g (by rw [ha, onBlk_some])
                have V2 : Hid (Five (wr.setCell ⟨g, o + m, none⟩ (.int .u8 (bits .xor .u8 z 85))) B g5 vs5) := Lib.hid (hV.out.set _ _)
                have F2 : Hid (Fr (fun j => B ≤ j ∧ j < g5) wL (wr.setCell ⟨g, o + m, none⟩ (.int .u8 (bits .xor .u8 z 85)))) := Lib.hid (Fr.setCell (p := ⟨g, o + m, none⟩) hF.out (fun _ => hg) _)
                have j0 : (0 : Int) ≤ (m : Int) := by omega
                have j1 : (m : Int) < (ni : Int) := by omega
                subst ha
                clear hc hN hV hF hg
                go_wp2_with fail
                go_roundw
                case rel => exact ⟨m + 1, by omega, by go_num, V2, F2⟩
                case measure => simp [intOf]; omega
              · obtain rfl : m = ni := by omega
                clear hlt2
                go_wp2_with fail
                go_roundw
                case rel => exact ⟨k + 1, by omega, by go_num, hV, hF⟩
                case measure => simp [intOf]; omega
          · obtain rfl : k = 5 := by omega
            have CA2 := Lib.hid (CA.out.fr hF.out (nA5.out _ LA.out))
            have FW2 := Lib.hid (FW.out.trans hF.out (fun j h1 h2 => by have := hBsz.out; omega))
            have RB2 := Lib.hid (RB.out.frP hF.out (fun h0 j h => nA5.out _ (LB.out j h h0)))
            have DA2 := Lib.hid (HDA.out.fr hF.out (fun j h => nA5.out _ (by rw [(onBlk_some _ _ _ _).1 h]; have := HB.out; omega)))
            clear hF hV CA FW RB HDA
            have CA := CA2
            have FW := FW2
            have Heq := Lib.hid (Equal_any aB a n cB c bs wr RB2.out (Hr.out.fr0 FW.out))
            have x0 := CA.out.cell (i := 0) rfl
            have x1 := CA.out.cell (i := 1) rfl
            have x2 := CA.out.cell (i := 2) rfl
            have x3 := CA.out.cell (i := 3) rfl
            go_wp2_with fail
            refine Heq.out.mono ?_
            rintro e w20 ⟨rfl, rfl⟩
            have hmk := run_mk E5 rfl page (by omega) (by omega)
            have D9 : Rd (wr.alloc (.cells (Array.replicate page (.int .u8 0)) 5)) (some ⟨wr.heap.size, 0, none⟩) page (byt (zrow page)) := by
              have h := (Own.made (w := wr) (B := 0) (T := 5) (z := .int .u8 0) page (Nat.zero_le _) (by omega)).rd
              rwa [zrow_byt] at h
            have Heq2 := Lib.hid (Equal_any (some ⟨gD, 0, none⟩) (some ⟨wr.heap.size, 0, none⟩) page page page (zrow page) _ (DA2.out.alloc (.cells (Array.replicate page (.int .u8 0)) 5)) D9)
            have F9 : Hid (Fr F0 w (wr.alloc (.cells (Array.replicate page (.int .u8 0)) 5))) := Lib.hid (FW.out.alloc _)
            clear D9 DA2 RB2
            go_wp2_with fail
            refine Heq2.out.mono ?_
            rintro e w21 ⟨rfl, rfl⟩
            go_wp2_with fail
            go_ret
            exact ⟨rfl, F9.out⟩
theorem Apart_law (a : Option Addr) (n c : Nat) (pg sy af : Int) (bs : List UInt8) (w : World) (h : ArgBy w a n c bs) :
    Calls Try.prog 8 #[.agg (dskI pg a n c sy af)] w fun e w' => e = .returned (.bool true) ∧ Fr F0 w w' := Apart_walk a n c pg sy af bs w h.rd h.cap
end Go.Proofs.Ytehpikjhjghplaa
