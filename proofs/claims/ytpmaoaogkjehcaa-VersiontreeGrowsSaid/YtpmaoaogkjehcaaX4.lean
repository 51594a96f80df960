/- The index: Branch, Tree. -/
import Derived.Test.YtpmaoaogkjehcaaX2
import Derived.Deep.RegionLaw
import Derived.Deep.RegionHeld3
import Derived.Deep.AppendLies
import Derived.Deep.DrawnRows
namespace Go.Proofs.Ytpmaoaogkjehcaa
open Go.RowKit
attribute [local go_sem ↓] Go.wp_at_zero Go.wp_at_succ

/-- What Branch makes of the parents. -/
def branP (P : List Int) (p : Int) : List Int := if inB P p ∧ P.length < 1000 then P ++ [p] else P
def branE (P : List Int) (p : Int) : Int × Int := if inB P p then (if P.length < 1000 then ((P.length : Int), 0) else (0, 4)) else (0, 24)
theorem branP_valid {P : List Int} (hv : validB P = true) (p : Int) : validB (branP P p) = true := by
  unfold branP
  split
  · rename_i h
    obtain ⟨⟨h0, h1⟩, h2⟩ := h
    obtain ⟨m, rfl⟩ := Int.eq_ofNat_of_zero_le h0
    exact valid_snoc hv (by omega) h2
  · exact hv
/-- What a call on the index may write. -/
def onIx (x : Nat) (a : Option Addr) : Nat → Prop := fun k => k = x ∨ onBlk a k

theorem ldTri (g o : Nat) (x y z : Value) (w : World) (h1 : w.cell? ⟨g, o, none⟩ = some x) (h2 : w.cell? ⟨g, o + 1, none⟩ = some y) (h3 : w.cell? ⟨g, o + 2, none⟩ = some z) :
    (Instr.loadAt 68 (.pointer (some ⟨g, o, none⟩))).run Try.prog w = .ok (.agg #[x, y, z]) w := by
  refine run_loadAt_mid w g o 68 [x, y, z] _ ?_ Try.underlying68 rfl (by kernel_rfl)
  intro j v hj
  match j, hj with
  | 0, hj => simp at hj; subst hj; exact h1
  | 1, hj => simp at hj; subst hj; exact h2
  | 2, hj => simp at hj; subst hj; exact h3
theorem rgTri {g o : Nat} {x y z : Value} {w : World} (h1 : w.cell? ⟨g, o, none⟩ = some x) (h2 : w.cell? ⟨g, o + 1, none⟩ = some y) (h3 : w.cell? ⟨g, o + 2, none⟩ = some z) : w.rangeAt g o [x, y, z] := by
  intro j v hj
  match j, hj with
  | 0, hj => simp at hj; subst hj; exact h1
  | 1, hj => simp at hj; subst hj; exact h2
  | 2, hj => simp at hj; subst hj; exact h3
/-- What a call of Branch leaves. -/
def BrPost (B x : Nat) (sa : Option Addr) (P : List Int) (p : Int) (w : World) (e : Ending) (w' : World) : Prop :=
  ∃ (sa' : Option Addr) (c' : Nat), e = .returned (.tuple #[.int .i64 (branE P p).1, .int .i64 (branE P p).2]) ∧ IX w' B x sa' c' (branP P p) ∧ Fr (onIx x sa) w w' ∧ (∀ k, onBlk sa' k → onBlk sa k ∨ w.heap.size ≤ k)
/-- A block of three cells. -/
abbrev One3 (w : World) (b : Nat) (T : TypeId) (x y z : Value) : Prop := w.heap[b]? = some (.cells #[x, y, z] T (0, 0))
theorem One3.lt {w : World} {b : Nat} {T : TypeId} {x y z : Value} (h : One3 w b T x y z) : b < w.heap.size := lt_of_block h
theorem One3.cells {w : World} {b : Nat} {T : TypeId} {x y z : Value} (h : One3 w b T x y z) : w.cell? ⟨b, 0, none⟩ = some x ∧ w.cell? ⟨b, 1, none⟩ = some y ∧ w.cell? ⟨b, 2, none⟩ = some z := by
  refine ⟨?_, ?_, ?_⟩ <;> (rw [cell_of_row w b _ _ _ _ h]; rfl)
theorem One3.free {w : World} {b : Nat} {T : TypeId} {x y z : Value} (h : One3 w b T x y z) (i : Nat) : w.frozen? ⟨b, i, none⟩ = false := by simp [World.frozen?, h]
theorem One3.fr {S : Nat → Prop} {w w' : World} {b : Nat} {T : TypeId} {x y z : Value} (h : One3 w b T x y z) (f : Fr S w w') (hS : ¬ S b) : One3 w' b T x y z := (f.block b h.lt hS).trans h
theorem One3.new {w : World} (T : TypeId) (x y z : Value) : One3 (w.alloc (.cells #[x, y, z] T)) w.heap.size T x y z := heap_alloc_new _ _
theorem One3.set2 {w : World} {b : Nat} {T : TypeId} {x y z : Value} (h : One3 w b T x y z) (u : Value) : One3 (w.setCell ⟨b, 2, none⟩ u) b T x y u := heap_setCell_same h u
set_option maxHeartbeats 1000000 in
theorem Branch_any (w : World) (B x : Nat) (sa : Option Addr) (c : Nat) (P : List Int) (h : IX w B x sa c P) (hB : B ≤ w.heap.size) (hv : validB P = true) (p : Int) :
    Calls Try.prog 33 #[.pointer (some ⟨x, 0, none⟩), .int .i64 p] w (BrPost B x sa P p w) := by
  have hO : Own (w.alloc (.cells #[.int .i64 p] 3)) w.heap.size 3 (some ⟨w.heap.size, 0, none⟩) 1 1 (ints [p]) := by
    simpa using Own.lit (w := w) (B := w.heap.size) (T := 3) (ints [p]) 1 rfl (by simp) (by omega)
  have hF : Fr F0 w (w.alloc (.cells #[.int .i64 p] 3)) := (Fr.refl _ _).alloc _
  have HX := h.fr0 hF
  have hRd := hO.rd
  have hlen := (valid_len hv).2.1
  replace hv := Lib.hid hv
  clear hO
  by_cases hin : inB P p
  · have E2 : Hid (checkI P.length [p] = 0) := Lib.hid (checkI_in (by intro v hm; simp at hm; subst hm; exact hin))
    by_cases hl : P.length < 1000
    · have E : Hid (branE P p = ((P.length : Int), 0)) := Lib.hid (by unfold branE; rw [if_pos hin, if_pos hl])
      have E3 : Hid (branP P p = P ++ [p]) := Lib.hid (by unfold branP; rw [if_pos ⟨hin, hl⟩])
      obtain ⟨h0, h1⟩ := hin
      obtain ⟨m, rfl⟩ := Int.eq_ofNat_of_zero_le h0
      have hm : m < P.length := by omega
      have hj := (jmp_dep hv.out hm).2
      have hjj := (jmp_dep hv.out hj).2
      have hsn := Lib.hid (mkV_snoc hv.out hm hl)
      have hd1 := dep_le hv.out _ hm
      have hd2 := dep_le hv.out _ hj
      have hd3 := dep_le hv.out _ hjj
      have hz : decide ((1000 : Int) ≤ (P.length : Int)) = false := by simp; omega
      replace hl := Lib.hid hl
      replace hlen := Lib.hid hlen
      go_enter Try.func33, Try.ntmps33
      go_wp2_with fail
      refine (checkI_any _ B x sa c P HX _ _ _ _ hRd).mono ?_; rintro e w1 ⟨rfl, F1⟩
      rw [E2.out]
      replace HX := HX.fr0 F1
      replace hF := Lib.hid (hF.trans0 F1)
      have hc := HX.one.cell
      have hxl := HX.one.lt
      obtain ⟨g, rfl, c1, c2, c3⟩ := HX.at hm
      obtain ⟨pm, hpm⟩ : ∃ pm, pm = P.getD m 0 := ⟨_, rfl⟩
      rw [← hpm] at c1
      have l1 := ldTri g (m * 3) _ _ _ w1 c1 c2 c3
      have hgl := Lib.hid (HX.own.blk g ((onBlk_some _ _ _ _).2 rfl)).2
      clear F1 hRd hpm
      go_wp2_with fail
      have A1 : One3 (w1.alloc (.cells #[.int .i64 pm, .int .i64 (dep P m), .int .i64 (jmp P m)] 68)) w1.heap.size 68 (.int .i64 pm) (.int .i64 (dep P m)) (.int .i64 (jmp P m)) := One3.new _ _ _ _
      have F2 : Fr F0 w1 (w1.alloc (.cells #[.int .i64 pm, .int .i64 (dep P m), .int .i64 (jmp P m)] 68)) := (Fr.refl _ _).alloc _
      replace HX := HX.fr0 F2
      replace hF := Lib.hid (hF.out.trans0 F2)
      clear hc c1 c2 c3 l1 F2
      obtain ⟨b1, hb1⟩ : ∃ b1, b1 = w1.heap.size := ⟨_, rfl⟩
      have hxb : b1 ≠ x := by omega
      have hb1s : b1 < (w1.alloc (.cells #[.int .i64 pm, .int .i64 (dep P m), .int .i64 (jmp P m)] 68)).heap.size := by rw [hb1]; simp
      have hgb : Hid (b1 ≠ g) := Lib.hid (by have := hgl.out; omega)
      rw [← hb1] at A1
      simp only [← hb1]
      generalize hw2 : w1.alloc (.cells #[.int .i64 pm, .int .i64 (dep P m), .int .i64 (jmp P m)] 68) = w2 at *
      clear hw2 hxl hb1
      have hc := HX.one.cell
      obtain ⟨a1, a2, a3⟩ := A1.cells
      obtain ⟨g', hg, d1, d2, d3⟩ := HX.at hj
      injection hg with hg
      injection hg with hg
      subst hg
      obtain ⟨pj, hpj⟩ : ∃ pj, pj = P.getD (jmp P m) 0 := ⟨_, rfl⟩
      rw [← hpj] at d1
      have hb0 : (0 : Int) ≤ (jmp P m : Int) := by omega
      have hb1 : (jmp P m : Int) < (P.length : Int) := by omega
      have n1 := World.new_ne w2 _ hc
      have n2 := World.new_ne w2 _ a3
      have n3 := World.new_ne w2 _ d1
      have n4 := World.new_ne w2 _ d2
      have n5 := World.new_ne w2 _ d3
      clear hpj
      go_region_held3 (fun w' => w'.cell? ⟨x, 0, none⟩ = some (.slice (some ⟨g, 0, none⟩) P.length c) ∧ w'.cell? ⟨b1, 2, none⟩ = some (.int .i64 (jmp P m)) ∧ w'.cell? ⟨g, jmp P m * 3, none⟩ = some (.int .i64 pj) ∧ w'.cell? ⟨g, jmp P m * 3 + 1, none⟩ = some (.int .i64 (dep P (jmp P m))) ∧ w'.cell? ⟨g, jmp P m * 3 + 2, none⟩ = some (.int .i64 (jmp P (jmp P m)))) (go_keep) (fail)
      have hdb : (dep P m : Int) ≤ 1000 := by have := hlen.out; omega
      have hdb2 : (dep P (jmp P m) : Int) ≤ 1000 := by have := hlen.out; omega
      have hdb3 : (dep P (jmp P (jmp P m)) : Int) ≤ 1000 := by have := hlen.out; omega
      go_wp2_with fail
      have A2 : One3 ((w2.alloc (.cells #[.int .i64 pj, .int .i64 (dep P (jmp P m)), .int .i64 (jmp P (jmp P m))] 68)).alloc (.cells #[.int .i64 m, .int .i64 ((dep P m : Int) + 1), .int .i64 m] 68)).drew w2.heap.size 68 (.int .i64 pj) (.int .i64 (dep P (jmp P m))) (.int .i64 (jmp P (jmp P m))) := (One3.new (w := w2) 68 _ _ _).fr (((Fr.refl F0 _).alloc _).drew) id
      have A3 : One3 ((w2.alloc (.cells #[.int .i64 pj, .int .i64 (dep P (jmp P m)), .int .i64 (jmp P (jmp P m))] 68)).alloc (.cells #[.int .i64 m, .int .i64 ((dep P m : Int) + 1), .int .i64 m] 68)).drew (w2.heap.size + 1) 68 (.int .i64 m) (.int .i64 ((dep P m : Int) + 1)) (.int .i64 m) := by
        have h := (One3.new (w := (w2.alloc (.cells #[.int .i64 pj, .int .i64 (dep P (jmp P m)), .int .i64 (jmp P (jmp P m))] 68))) 68 (.int .i64 m) (.int .i64 ((dep P m : Int) + 1)) (.int .i64 m)).fr ((Fr.refl F0 _).drew) id
        simpa using h
      have F2 : Fr F0 w2 ((w2.alloc (.cells #[.int .i64 pj, .int .i64 (dep P (jmp P m)), .int .i64 (jmp P (jmp P m))] 68)).alloc (.cells #[.int .i64 m, .int .i64 ((dep P m : Int) + 1), .int .i64 m] 68)).drew := (((Fr.refl _ _).alloc _).alloc _).drew
      have hwb2 : Hid (w.heap.size ≤ w2.heap.size) := Lib.hid hF.out.size
      replace HX := HX.fr0 F2
      replace A1 := A1.fr F2 id
      replace hF := Lib.hid (hF.out.trans0 F2)
      have hgb2 : Hid (g < w2.heap.size) := Lib.hid (World.block_lt_of_cell? _ _ d1)
      have hxb2 : x < w2.heap.size := World.block_lt_of_cell? _ _ hc
      clear hc a1 a2 a3 d1 d2 d3 n1 n2 n3 n4 n5 F2
      obtain ⟨b2, hb2⟩ : ∃ b2, b2 = w2.heap.size := ⟨_, rfl⟩
      rw [← hb2] at A2 A3 hgb2 hxb2 hb1s hwb2
      simp only [← hb2]
      generalize hw3 : ((w2.alloc (.cells #[.int .i64 pj, .int .i64 (dep P (jmp P m)), .int .i64 (jmp P (jmp P m))] 68)).alloc (.cells #[.int .i64 m, .int .i64 ((dep P m : Int) + 1), .int .i64 m] 68)).drew = w3 at *
      obtain ⟨b3, hb3⟩ : ∃ b3, b3 = b2 + 1 := ⟨_, rfl⟩
      have hb23 : b2 < b3 := by omega
      rw [← hb3] at A3
      simp only [← hb3]
      clear hw3 hb2 hb3
      have hc := HX.one.cell
      obtain ⟨a1, a2, a3⟩ := A1.cells
      obtain ⟨f1, f2, f3⟩ := A2.cells
      obtain ⟨g', hg, d1, d2, d3⟩ := HX.at hjj
      injection hg with hg
      injection hg with hg
      subst hg
      have hk0 : (0 : Int) ≤ (jmp P (jmp P m) : Int) := by omega
      have hk1 : (jmp P (jmp P m) : Int) < (P.length : Int) := by omega
      clear d1 d3
      by_cases hjc : (dep P m : Int) - dep P (jmp P m) = dep P (jmp P m) - dep P (jmp P (jmp P m))
      · have hb : ((dep P m : Int) - dep P (jmp P m) == dep P (jmp P m) - dep P (jmp P (jmp P m))) = true := by simpa using hjc
        replace hjc := Lib.hid hjc
        go_wp2_with fail
        go_quiet (fail)
        obtain ⟨a31, a32, a33⟩ := A3.cells
        have A3f := A3.free 2
        go_wp2_with fail
        have F4 : Fr (onB b3) w3 ((w3.drewN nq).setCell ⟨b3, 2, none⟩ (.int .i64 (jmp P (jmp P m)))) := Fr.setB ((Fr.refl _ _).drewN nq) 2 _
        replace A3 := One3.set2 (w := w3.drewN nq) A3 (.int .i64 (jmp P (jmp P m)))
        replace HX := HX.fr F4 (by show ¬ x = b3; omega) (fun k hk hs => by have h1 := (onBlk_some _ _ _ _).1 hk; have h2 : k = b3 := hs; have := hgb2.out; omega)
        replace hF := Lib.hid (hF.out.trans F4 (fun k hk hs => by have h2 : k = b3 := hs; have := hwb2.out; omega))
        generalize hw4 : (w3.drewN nq).setCell ⟨b3, 2, none⟩ (.int .i64 (jmp P (jmp P m))) = w4 at *
        clear hw4 hc a1 a2 a3 f1 f2 f3 d2 hb hk0 hk1 hb0 hb1
        have hc := HX.one.cell
        obtain ⟨a31, a32, a33⟩ := A3.cells
        have n1 := World.new_ne w4 _ hc
        have n2 := World.new_ne w4 _ a31
        have hfx := HX.one.free
        obtain ⟨i0, hi, hz0, hz1, hz2⟩ := info_parts EZ.2.1
        have hbx : b3 ≠ x := by omega
        have hxb' : x ≠ b3 := by omega
        have HXh := Lib.hid HX
        have hlh := hl.out
        have hBs : B ≤ w4.heap.size := by have := HX.from'; have := HX.one.lt; omega
        have hn63 : Hid (P.length + 1 ≤ maxLen) := Lib.hid (by unfold maxLen; omega)
        have hn47 : Hid ((P.length + 1) * 24 ≤ 140737488355328) := Lib.hid (by omega)
        have hoff := Lib.hid HX.off
        have hxg : Hid (x ≠ g) := Lib.hid (fun e => hoff.out ((onBlk_some _ _ _ _).2 e))
        have hxl4 := HX.one.lt
        have hbl4 := A3.lt
        have hbg : Hid (b3 ≠ g) := Lib.hid (by have := hgb2.out; omega)
        have hOA : Hid (OwnZ (w4.alloc (.cells #[.int .i64 m, .int .i64 ((dep P m : Int) + 1), .int .i64 (jmp P (jmp P m))] 68)).drew B 68 3 (some ⟨g, 0, none⟩) P.length c (tri (mkV P))) := Lib.hid (HX.own.fr0 (((Fr.refl _ _).alloc _).drew))
        have hOAc : Hid (∀ j u, [Value.int .i64 m, .int .i64 ((dep P m : Int) + 1), .int .i64 (jmp P (jmp P m))][j]? = some u → (w4.alloc (.cells #[.int .i64 m, .int .i64 ((dep P m : Int) + 1), .int .i64 (jmp P (jmp P m))] 68)).drew.cell? ((⟨w4.heap.size, 0, none⟩ : Addr).add j) = some u) := Lib.hid (fun j u hu => World.news_of_block (heap_alloc_new w4 _) j u hu)
        have hFd : Fr F0 w4 ((w4.alloc (.cells #[.int .i64 m, .int .i64 ((dep P m : Int) + 1), .int .i64 (jmp P (jmp P m))] 68)).drew) := ((Fr.refl _ _).alloc _).drew
        have x5 := Lib.hid (hFd.cell hc id)
        have x6 := Lib.hid ((hFd.frozen hxl4 id).trans hfx)
        have x7 := Lib.hid (hFd.cell a31 id)
        have x8 := Lib.hid (hFd.cell a32 id)
        have x9 := Lib.hid (hFd.cell a33 id)
        have hxs : Hid (x < ((w4.alloc (.cells #[.int .i64 m, .int .i64 ((dep P m : Int) + 1), .int .i64 (jmp P (jmp P m))] 68)).drew).heap.size) := Lib.hid (by simp; omega)
        replace hFd := Lib.hid hFd
        clear HX A1 A2 A3
        go_region_law
          ((refine step_append_lies _ (by rfl) (.tmp 69) (.tmp 71) 62 (by rfl) B 68 i0 _ 3 24 EZ.1 hi hz0 hz1 hz2 EZ.2.2 (by omega) (.slice (some ⟨g, 0, none⟩) P.length c) P.length (tri (mkV P)) (by rfl) hOA.out ⟨w4.heap.size, 0, none⟩ 1 1 [.int .i64 m, .int .i64 ((dep P m : Int) + 1), .int .i64 (jmp P (jmp P m))] (by rfl) rfl hOAc.out (tri_oneCell (_, _, _)) (by omega) hn63.out hn47.out (by simp; omega) (w4.heap.size + 1) (by simp) ?_; intro g2 cap w6 hown6 hgrow hat hlt; have FG := Fr.of_grown rfl hgrow; have y5 := FG.cell x5.out (fun h => hxg.out ((onBlk_some _ _ _ _).1 h)); have y6 := (FG.frozen hxs.out (fun h => hxg.out ((onBlk_some _ _ _ _).1 h))).trans x6.out; have y7 := FG.cell x7.out (fun h => hbg.out ((onBlk_some _ _ _ _).1 h)); have y8 := FG.cell x8.out (fun h => hbg.out ((onBlk_some _ _ _ _).1 h)); have y9 := FG.cell x9.out (fun h => hbg.out ((onBlk_some _ _ _ _).1 h)); clear x5 x6 x7 x8 x9; replace FG := Lib.hid FG; replace hown6 := Lib.hid hown6; replace hgrow := Lib.hid hgrow; replace hat := Lib.hid hat))
        all_goals
          have HX7 : IX (w6.setCell ⟨x, 0, none⟩ (.slice (some ⟨g2, 0, none⟩) (P.length + 1) cap)) B x (some ⟨g2, 0, none⟩) cap (P ++ [(m : Int)]) := by
            refine ⟨?_, ?_, ?_, HXh.out.from'⟩
            · have h1 := ((HXh.out.one.fr hFd.out id).fr FG.out hoff.out).set (.slice (some ⟨g2, 0, none⟩) (P.length + 1) cap)
              simpa using h1
            · have h1 := OwnZ.other (p := ⟨x, 0, none⟩) hown6.out (fun h => by
                have h2 := (onBlk_some _ _ _ _).1 h
                rcases hat.out with h3 | h3
                · simp [Value.ownBlock] at h3; exact hxg.out (by rw [h3]; exact h2)
                · simp only at h2; omega) (.slice (some ⟨g2, 0, none⟩) (P.length + 1) cap)
              have e : tri (mkV (P ++ [(m : Int)])) = tri (mkV P) ++ [.int .i64 m, .int .i64 ((dep P m : Int) + 1), .int .i64 (jmp P (jmp P m))] := by
                rw [hsn.out, if_pos hjc.out, tri_append]; rfl
              rw [e]
              simpa using h1
            · intro h
              have h2 := (onBlk_some _ _ _ _).1 h
              rcases hat.out with h3 | h3
              · simp [Value.ownBlock] at h3; exact hxg.out (by rw [h3]; exact h2)
              · omega
          have hc7 := HX7.one.cell
          have FR : Fr (onIx x (some ⟨g, 0, none⟩)) w (w6.setCell ⟨x, 0, none⟩ (.slice (some ⟨g2, 0, none⟩) (P.length + 1) cap)) :=
            Fr.setCell (p := ⟨x, 0, none⟩) ((hF.out.trans0 hFd.out).mono (fun _ _ h => h.elim) |>.trans FG.out (fun _ _ h => .inr h)) (fun _ => .inl rfl) _
          have hat2 : ∀ k, onBlk (some ⟨g2, 0, none⟩) k → onBlk (some ⟨g, 0, none⟩) k ∨ w.heap.size ≤ k := by
            intro k hk
            have h2 := (onBlk_some _ _ _ _).1 hk
            rcases hat.out with h3 | h3
            · simp [Value.ownBlock] at h3
              left; rw [h2, ← h3]; exact (onBlk_some _ _ _ _).2 rfl
            · right
              have := hF.out.size
              omega
          replace HX7 := Lib.hid HX7
          replace FR := Lib.hid FR
          replace hat2 := Lib.hid hat2
          replace hat := Lib.hid hat
          simp only [List.length_append, List.length_cons, List.length_nil, Nat.zero_add] at hc7
          clear y5 y6 y7 y8 y9
          go_wp2_with fail
          go_ret2
          unfold BrPost
          refine ⟨some ⟨g2, 0, none⟩, cap, ret2 (val_int ?_) (val_int (congrArg Prod.snd E.out).symm), by rw [E3.out]; exact HX7.out, FR.out, hat2.out⟩
          rw [E.out]
      · have hb : ((dep P m : Int) - dep P (jmp P m) == dep P (jmp P m) - dep P (jmp P (jmp P m))) = false := by simpa using hjc
        replace hjc := Lib.hid hjc
        go_wp2_with fail
        go_quiet (fail)
        go_wp2_with fail
        have F4 : Fr F0 w3 (w3.drewN nq) := (Fr.refl _ _).drewN nq
        replace A3 := A3.fr F4 id
        replace HX := HX.fr0 F4
        replace hF := Lib.hid (hF.out.trans0 F4)
        generalize hw4 : w3.drewN nq = w4 at *
        clear hw4 hc a1 a2 a3 f1 f2 f3 d2 hb hk0 hk1 hb0 hb1
        have hc := HX.one.cell
        obtain ⟨a31, a32, a33⟩ := A3.cells
        have n1 := World.new_ne w4 _ hc
        have n2 := World.new_ne w4 _ a31
        have hfx := HX.one.free
        obtain ⟨i0, hi, hz0, hz1, hz2⟩ := info_parts EZ.2.1
        have hbx : b3 ≠ x := by omega
        have hxb' : x ≠ b3 := by omega
        have HXh := Lib.hid HX
        have hlh := hl.out
        have hBs : B ≤ w4.heap.size := by have := HX.from'; have := HX.one.lt; omega
        have hn63 : Hid (P.length + 1 ≤ maxLen) := Lib.hid (by unfold maxLen; omega)
        have hn47 : Hid ((P.length + 1) * 24 ≤ 140737488355328) := Lib.hid (by omega)
        have hoff := Lib.hid HX.off
        have hxg : Hid (x ≠ g) := Lib.hid (fun e => hoff.out ((onBlk_some _ _ _ _).2 e))
        have hxl4 := HX.one.lt
        have hbl4 := A3.lt
        have hbg : Hid (b3 ≠ g) := Lib.hid (by have := hgb2.out; omega)
        have hOA : Hid (OwnZ (w4.alloc (.cells #[.int .i64 m, .int .i64 ((dep P m : Int) + 1), .int .i64 m] 68)).drew B 68 3 (some ⟨g, 0, none⟩) P.length c (tri (mkV P))) := Lib.hid (HX.own.fr0 (((Fr.refl _ _).alloc _).drew))
        have hOAc : Hid (∀ j u, [Value.int .i64 m, .int .i64 ((dep P m : Int) + 1), .int .i64 m][j]? = some u → (w4.alloc (.cells #[.int .i64 m, .int .i64 ((dep P m : Int) + 1), .int .i64 m] 68)).drew.cell? ((⟨w4.heap.size, 0, none⟩ : Addr).add j) = some u) := Lib.hid (fun j u hu => World.news_of_block (heap_alloc_new w4 _) j u hu)
        have hFd : Fr F0 w4 ((w4.alloc (.cells #[.int .i64 m, .int .i64 ((dep P m : Int) + 1), .int .i64 m] 68)).drew) := ((Fr.refl _ _).alloc _).drew
        have x5 := Lib.hid (hFd.cell hc id)
        have x6 := Lib.hid ((hFd.frozen hxl4 id).trans hfx)
        have x7 := Lib.hid (hFd.cell a31 id)
        have x8 := Lib.hid (hFd.cell a32 id)
        have x9 := Lib.hid (hFd.cell a33 id)
        have hxs : Hid (x < ((w4.alloc (.cells #[.int .i64 m, .int .i64 ((dep P m : Int) + 1), .int .i64 m] 68)).drew).heap.size) := Lib.hid (by simp; omega)
        replace hFd := Lib.hid hFd
        clear HX A1 A2 A3
        go_region_law
          ((refine step_append_lies _ (by rfl) (.tmp 69) (.tmp 71) 62 (by rfl) B 68 i0 _ 3 24 EZ.1 hi hz0 hz1 hz2 EZ.2.2 (by omega) (.slice (some ⟨g, 0, none⟩) P.length c) P.length (tri (mkV P)) (by rfl) hOA.out ⟨w4.heap.size, 0, none⟩ 1 1 [.int .i64 m, .int .i64 ((dep P m : Int) + 1), .int .i64 m] (by rfl) rfl hOAc.out (tri_oneCell (_, _, _)) (by omega) hn63.out hn47.out (by simp; omega) (w4.heap.size + 1) (by simp) ?_; intro g2 cap w6 hown6 hgrow hat hlt; have FG := Fr.of_grown rfl hgrow; have y5 := FG.cell x5.out (fun h => hxg.out ((onBlk_some _ _ _ _).1 h)); have y6 := (FG.frozen hxs.out (fun h => hxg.out ((onBlk_some _ _ _ _).1 h))).trans x6.out; have y7 := FG.cell x7.out (fun h => hbg.out ((onBlk_some _ _ _ _).1 h)); have y8 := FG.cell x8.out (fun h => hbg.out ((onBlk_some _ _ _ _).1 h)); have y9 := FG.cell x9.out (fun h => hbg.out ((onBlk_some _ _ _ _).1 h)); clear x5 x6 x7 x8 x9; replace FG := Lib.hid FG; replace hown6 := Lib.hid hown6; replace hgrow := Lib.hid hgrow; replace hat := Lib.hid hat))
        all_goals
          have HX7 : IX (w6.setCell ⟨x, 0, none⟩ (.slice (some ⟨g2, 0, none⟩) (P.length + 1) cap)) B x (some ⟨g2, 0, none⟩) cap (P ++ [(m : Int)]) := by
            refine ⟨?_, ?_, ?_, HXh.out.from'⟩
            · have h1 := ((HXh.out.one.fr hFd.out id).fr FG.out hoff.out).set (.slice (some ⟨g2, 0, none⟩) (P.length + 1) cap)
              simpa using h1
            · have h1 := OwnZ.other (p := ⟨x, 0, none⟩) hown6.out (fun h => by
                have h2 := (onBlk_some _ _ _ _).1 h
                rcases hat.out with h3 | h3
                · simp [Value.ownBlock] at h3; exact hxg.out (by rw [h3]; exact h2)
                · simp only at h2; omega) (.slice (some ⟨g2, 0, none⟩) (P.length + 1) cap)
              have e : tri (mkV (P ++ [(m : Int)])) = tri (mkV P) ++ [.int .i64 m, .int .i64 ((dep P m : Int) + 1), .int .i64 m] := by
                rw [hsn.out, if_neg hjc.out, tri_append]; rfl
              rw [e]
              simpa using h1
            · intro h
              have h2 := (onBlk_some _ _ _ _).1 h
              rcases hat.out with h3 | h3
              · simp [Value.ownBlock] at h3; exact hxg.out (by rw [h3]; exact h2)
              · omega
          have hc7 := HX7.one.cell
          have FR : Fr (onIx x (some ⟨g, 0, none⟩)) w (w6.setCell ⟨x, 0, none⟩ (.slice (some ⟨g2, 0, none⟩) (P.length + 1) cap)) :=
            Fr.setCell (p := ⟨x, 0, none⟩) ((hF.out.trans0 hFd.out).mono (fun _ _ h => h.elim) |>.trans FG.out (fun _ _ h => .inr h)) (fun _ => .inl rfl) _
          have hat2 : ∀ k, onBlk (some ⟨g2, 0, none⟩) k → onBlk (some ⟨g, 0, none⟩) k ∨ w.heap.size ≤ k := by
            intro k hk
            have h2 := (onBlk_some _ _ _ _).1 hk
            rcases hat.out with h3 | h3
            · simp [Value.ownBlock] at h3
              left; rw [h2, ← h3]; exact (onBlk_some _ _ _ _).2 rfl
            · right
              have := hF.out.size
              omega
          replace HX7 := Lib.hid HX7
          replace FR := Lib.hid FR
          replace hat2 := Lib.hid hat2
          replace hat := Lib.hid hat
          simp only [List.length_append, List.length_cons, List.length_nil, Nat.zero_add] at hc7
          clear y5 y6 y7 y8 y9
          go_wp2_with fail
          go_ret2
          unfold BrPost
          refine ⟨some ⟨g2, 0, none⟩, cap, ret2 (val_int ?_) (val_int (congrArg Prod.snd E.out).symm), by rw [E3.out]; exact HX7.out, FR.out, hat2.out⟩
          rw [E.out]
    · have E : Hid (branE P p = (0, 4)) := Lib.hid (by unfold branE; rw [if_pos hin, if_neg hl])
      have E3 : Hid (branP P p = P) := Lib.hid (by unfold branP; rw [if_neg (fun h => hl h.2)])
      have hz : decide ((1000 : Int) ≤ (P.length : Int)) = true := by simp; omega
      replace hl := Lib.hid hl
      replace hlen := Lib.hid hlen
      clear hin
      go_enter Try.func33, Try.ntmps33
      go_wp2_with fail
      refine (checkI_any _ B x sa c P HX _ _ _ _ hRd).mono ?_; rintro e w1 ⟨rfl, F1⟩
      rw [E2.out]
      replace HX := HX.fr0 F1
      replace hF := Lib.hid (hF.trans0 F1)
      have hc := HX.one.cell
      have HXh := Lib.hid HX
      clear F1 hRd HX
      go_wp2_with fail
      go_ret2
      unfold BrPost
      exact ⟨sa, c, ret2 (val_int (congrArg Prod.fst E.out).symm) (val_int (congrArg Prod.snd E.out).symm), by rw [E3.out]; exact HXh.out, hF.out.mono (fun _ _ h => h.elim), fun k hk => .inl hk⟩
  · have E2 : Hid (checkI P.length [p] = 24) := Lib.hid (checkI_out (v := p) (by simp) hin)
    have E : Hid (branE P p = (0, 24)) := Lib.hid (by unfold branE; rw [if_neg hin])
    have E3 : Hid (branP P p = P) := Lib.hid (by unfold branP; rw [if_neg (fun h => hin h.1)])
    replace hlen := Lib.hid hlen
    clear hin
    go_enter Try.func33, Try.ntmps33
    go_wp2_with fail
    refine (checkI_any _ B x sa c P HX _ _ _ _ hRd).mono ?_; rintro e w1 ⟨rfl, F1⟩
    rw [E2.out]
    replace HX := Lib.hid (HX.fr0 F1)
    replace hF := Lib.hid (hF.trans0 F1)
    clear F1 hRd
    go_wp2_with fail
    go_ret2
    unfold BrPost
    exact ⟨sa, c, ret2 (val_int (congrArg Prod.fst E.out).symm) (val_int (congrArg Prod.snd E.out).symm), by rw [E3.out]; exact HX.out, hF.out.mono (fun _ _ h => h.elim), fun k hk => .inl hk⟩

end Go.Proofs.Ytpmaoaogkjehcaa
