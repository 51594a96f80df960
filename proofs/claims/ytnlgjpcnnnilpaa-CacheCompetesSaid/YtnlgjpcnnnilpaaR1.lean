/- The ring: cut, front. -/
import Derived.Test.YtnlgjpcnnnilpaaC6
import Derived.Test.YtnlgjpcnnnilpaaCom8
namespace Go.Proofs.Ytnlgjpcnnnilpaa
open Go.RowKit
attribute [local go_sem ↓] Go.wp_at_zero Go.wp_at_succ

abbrev cacheV (m mi : Int) (bm gb gn gp cb cn cp s : Nat) : Array Value := #[.int .i64 m, .int .i64 mi, .map (some bm), .slice (some ⟨gb, 0, none⟩) (s + 1) cb, .slice (some ⟨gn, 0, none⟩) (s + 1) cn, .slice (some ⟨gp, 0, none⟩) (s + 1) cp]
theorem six_cells {w : World} {x : Nat} {a b c d e f : Value} (h : w.heap[x]? = some (.cells #[a, b, c, d, e, f] 52 (0, 0))) :
    w.cell? ⟨x, 0, none⟩ = some a ∧ w.cell? ⟨x, 1, none⟩ = some b ∧ w.cell? ⟨x, 2, none⟩ = some c ∧ w.cell? ⟨x, 3, none⟩ = some d ∧ w.cell? ⟨x, 4, none⟩ = some e ∧ w.cell? ⟨x, 5, none⟩ = some f := by
  refine ⟨?_, ?_, ?_, ?_, ?_, ?_⟩ <;> (rw [cell_of_row w x _ _ _ _ h]; rfl)
set_option maxRecDepth 100000 in
set_option maxHeartbeats 4000000 in
theorem cut_any {w : World} {x bm gb gn gp cb cn cp s i p n : Nat} {m mi : Int} (hx : w.heap[x]? = some (.cells (cacheV m mi bm gb gn gp cb cn cp s) 52 (0, 0)))
    (hd : gn ≠ gp ∧ gn ≠ x ∧ gp ≠ x) (hi : i ≤ s) (hpi : p ≠ i) (hni : n ≠ i) (hp : p ≤ s) (hn : n ≤ s)
    (c1 : w.cell? ⟨gn, i, none⟩ = some (.int .i64 n)) (c2 : w.cell? ⟨gp, i, none⟩ = some (.int .i64 p))
    (c3 : ∃ y, w.cell? ⟨gn, p, none⟩ = some (.int .i64 y)) (c4 : ∃ y, w.cell? ⟨gp, n, none⟩ = some (.int .i64 y)) (f1 : w.frozen? ⟨gn, p, none⟩ = false) (f2 : w.frozen? ⟨gp, n, none⟩ = false) :
    Calls Try.prog 37 #[.pointer (some ⟨x, 0, none⟩), .int .i64 i] w fun e w' => e = .returned (.tuple #[]) ∧ ∃ q, w' = ((w.setCell ⟨gn, p, none⟩ (.int .i64 n)).setCell ⟨gp, n, none⟩ (.int .i64 p)).drewN q := by
  obtain ⟨_, _, _, _, k4, k5⟩ := six_cells hx
  obtain ⟨y1, c3⟩ := c3
  obtain ⟨y2, c4⟩ := c4
  obtain ⟨d1, d2, d3⟩ := hd
  have i0 : (0 : Int) ≤ (i : Int) := by omega
  have i1 : (i : Int) < (s : Int) + 1 := by omega
  have p0 : (0 : Int) ≤ (p : Int) := by omega
  have p1 : (p : Int) < (s : Int) + 1 := by omega
  have n0 : (0 : Int) ≤ (n : Int) := by omega
  have n1 : (n : Int) < (s : Int) + 1 := by omega
  have na : (⟨gn, p, none⟩ : Addr) ≠ ⟨gn, i, none⟩ := fun h => by injection h with _ h _; exact hpi h
  have nb : (⟨gp, n, none⟩ : Addr) ≠ ⟨gp, i, none⟩ := fun h => by injection h with _ h _; exact hni h
  have nc : (⟨gp, n, none⟩ : Addr) ≠ ⟨gn, i, none⟩ := fun h => by injection h with h _ _; exact d1 h.symm
  have nd : (⟨gn, p, none⟩ : Addr) ≠ ⟨gp, i, none⟩ := fun h => by injection h with h _ _; exact d1 h
  have k6 : (w.setCell ⟨gn, p, none⟩ (.int .i64 n)).cell? ⟨gn, i, none⟩ = some (.int .i64 n) := by rw [World.cell?_setCell_other _ _ _ _ na]; exact c1
  have k7 : (w.setCell ⟨gn, p, none⟩ (.int .i64 n)).drew.cell? ⟨gn, i, none⟩ = some (.int .i64 n) := k6
  have k8 : ((w.setCell ⟨gn, p, none⟩ (.int .i64 n)).setCell ⟨gp, n, none⟩ (.int .i64 p)).drew.cell? ⟨gn, i, none⟩ = some (.int .i64 n) := by
    show ((w.setCell ⟨gn, p, none⟩ (.int .i64 n)).setCell ⟨gp, n, none⟩ (.int .i64 p)).cell? _ = _
    rw [World.cell?_setCell_other _ _ _ _ nc]; exact k6
  have k9 : ((w.setCell ⟨gn, p, none⟩ (.int .i64 n)).setCell ⟨gp, n, none⟩ (.int .i64 p)).drew.cell? ⟨gp, i, none⟩ = some (.int .i64 p) := by
    show ((w.setCell ⟨gn, p, none⟩ (.int .i64 n)).setCell ⟨gp, n, none⟩ (.int .i64 p)).cell? _ = _
    rw [World.cell?_setCell_other _ _ _ _ nb, World.cell?_setCell_other _ _ _ _ nd]; exact c2
  clear na nb nc nd k6
  clear hx
  go_enter Try.func37, Try.ntmps37
  go_wp2_with fail
  go_region_held3 (fun w' => w'.cell? ⟨x, 4, none⟩ = some (.slice (some ⟨gn, 0, none⟩) (s + 1) cn) ∧ w'.cell? ⟨x, 5, none⟩ = some (.slice (some ⟨gp, 0, none⟩) (s + 1) cp) ∧ w'.cell? ⟨gn, i, none⟩ = some (.int .i64 n) ∧ w'.cell? ⟨gp, i, none⟩ = some (.int .i64 p)) (go_keep) (fail)
  all_goals
    go_end0
    exact ⟨rfl, 1, rfl⟩
--X
set_option maxRecDepth 100000 in
set_option maxHeartbeats 8000000 in
theorem front_any {w : World} {x bm gb gn gp cb cn cp s i h : Nat} {m mi : Int} (hx : w.heap[x]? = some (.cells (cacheV m mi bm gb gn gp cb cn cp s) 52 (0, 0)))
    (hd : gn ≠ gp ∧ gn ≠ x ∧ gp ≠ x) (hi : i ≤ s) (hi0 : 0 ≠ i) (hhi : h ≠ i) (hh : h ≤ s) (hs : s ≤ 1000000)
    (c1 : w.cell? ⟨gn, 0, none⟩ = some (.int .i64 h)) (c2 : ∃ y, w.cell? ⟨gn, i, none⟩ = some (.int .i64 y)) (c3 : ∃ y, w.cell? ⟨gp, i, none⟩ = some (.int .i64 y)) (c4 : ∃ y, w.cell? ⟨gp, h, none⟩ = some (.int .i64 y))
    (f1 : ∀ j, w.frozen? ⟨gn, j, none⟩ = false) (f2 : ∀ j, w.frozen? ⟨gp, j, none⟩ = false) :
    Calls Try.prog 38 #[.pointer (some ⟨x, 0, none⟩), .int .i64 i] w fun e w' => e = .returned (.tuple #[]) ∧ ∃ q, w' = (((((w.setCell ⟨gn, i, none⟩ (.int .i64 h)).setCell ⟨gp, i, none⟩ (.int .i64 0))).setCell ⟨gp, h, none⟩ (.int .i64 i)).setCell ⟨gn, 0, none⟩ (.int .i64 i)).drewN q := by
  obtain ⟨_, _, _, _, k4, k5⟩ := six_cells hx
  obtain ⟨y1, c2⟩ := c2
  obtain ⟨y2, c3⟩ := c3
  obtain ⟨y3, c4⟩ := c4
  obtain ⟨d1, d2, d3⟩ := hd
  have i0 : (0 : Int) ≤ (i : Int) := by omega
  have i1 : (i : Int) < (s : Int) + 1 := by omega
  have h0 : (0 : Int) ≤ (h : Int) := by omega
  have h1 : (h : Int) < (s : Int) + 1 := by omega
  have s0 : (0 : Int) < (s : Int) + 1 := by omega
  have na : (⟨gn, i, none⟩ : Addr) ≠ ⟨gn, 0, none⟩ := fun h => by injection h with _ h _; exact hi0 h.symm
  have nb : (⟨gp, i, none⟩ : Addr) ≠ ⟨gn, 0, none⟩ := fun h => by injection h with h _ _; exact d1 h.symm
  have nc : (⟨gp, h, none⟩ : Addr) ≠ ⟨gn, 0, none⟩ := fun h => by injection h with h _ _; exact d1 h.symm
  have nd : (⟨gn, i, none⟩ : Addr) ≠ ⟨gp, h, none⟩ := fun h => by injection h with h _ _; exact d1 h
  have ne : (⟨gp, i, none⟩ : Addr) ≠ ⟨gp, h, none⟩ := fun h => by injection h with _ h _; exact hhi h.symm
  have k7 : (w.setCell ⟨gn, i, none⟩ (.int .i64 h)).drew.cell? ⟨gn, 0, none⟩ = some (.int .i64 h) := by
    show (w.setCell ⟨gn, i, none⟩ (.int .i64 h)).cell? _ = _
    rw [World.cell?_setCell_other _ _ _ _ na]; exact c1
  have k8 : ((w.setCell ⟨gn, i, none⟩ (.int .i64 h)).setCell ⟨gp, i, none⟩ (.int .i64 0)).cell? ⟨gn, 0, none⟩ = some (.int .i64 h) := by
    rw [World.cell?_setCell_other _ _ _ _ nb]; exact k7
  have k9 : ((w.setCell ⟨gn, i, none⟩ (.int .i64 h)).setCell ⟨gp, i, none⟩ (.int .i64 0)).drew.cell? ⟨gn, 0, none⟩ = some (.int .i64 h) := k8
  have kx4 : ((w.setCell ⟨gn, i, none⟩ (.int .i64 h)).setCell ⟨gp, i, none⟩ (.int .i64 0)).cell? ⟨x, 4, none⟩ = some (.slice (some ⟨gn, 0, none⟩) (s + 1) cn) := by
    rw [World.cell?_setCell_other _ _ _ _ (fun h => by injection h with h _ _; exact d3 h), World.cell?_setCell_other _ _ _ _ (fun h => by injection h with h _ _; exact d2 h)]; exact k4
  have kx5 : ((w.setCell ⟨gn, i, none⟩ (.int .i64 h)).setCell ⟨gp, i, none⟩ (.int .i64 0)).cell? ⟨x, 5, none⟩ = some (.slice (some ⟨gp, 0, none⟩) (s + 1) cp) := by
    rw [World.cell?_setCell_other _ _ _ _ (fun h => by injection h with h _ _; exact d3 h), World.cell?_setCell_other _ _ _ _ (fun h => by injection h with h _ _; exact d2 h)]; exact k5
  have c5 : ((w.setCell ⟨gn, i, none⟩ (.int .i64 h)).setCell ⟨gp, i, none⟩ (.int .i64 0)).cell? ⟨gp, h, none⟩ = some (.int .i64 y3) := by
    rw [World.cell?_setCell_other _ _ _ _ ne, World.cell?_setCell_other _ _ _ _ nd]; exact c4
  have f3 : ∀ j, ((w.setCell ⟨gn, i, none⟩ (.int .i64 h)).setCell ⟨gp, i, none⟩ (.int .i64 0)).frozen? ⟨gp, j, none⟩ = false := fun j => by rw [World.frozen?_setCell, World.frozen?_setCell]; exact f2 j
  have f4 : ∀ j, ((w.setCell ⟨gn, i, none⟩ (.int .i64 h)).setCell ⟨gp, i, none⟩ (.int .i64 0)).frozen? ⟨gn, j, none⟩ = false := fun j => by rw [World.frozen?_setCell, World.frozen?_setCell]; exact f1 j
  have f1i := f1 i
  have f2i := f2 i
  have f3h := f3 h
  have f40 := f4 0
  clear hx f1 f2 f3 f4
  have Kx4 := Lib.hid kx4
  have Kx5 := Lib.hid kx5
  have K8 := Lib.hid k8
  have C5 := Lib.hid c5
  have F3h := Lib.hid f3h
  have F40 := Lib.hid f40
  clear kx4 kx5 k8 c5 f3h f40
  go_enter Try.func38, Try.ntmps38
  go_wp2_with fail
  go_region_held3 (fun w' : World => w'.cell? ⟨x, 4, none⟩ = some (.slice (some ⟨gn, 0, none⟩) (s + 1) cn) ∧ w'.cell? ⟨x, 5, none⟩ = some (.slice (some ⟨gp, 0, none⟩) (s + 1) cp) ∧ w'.cell? ⟨gn, 0, none⟩ = some (.int .i64 h)) (go_keep) (fail)
  all_goals
    go_wp2_with fail
    obtain ⟨w1, hw1⟩ : ∃ w1, w1 = ((w.setCell ⟨gn, i, none⟩ (.int .i64 h)).setCell ⟨gp, i, none⟩ (.int .i64 0)).drew := ⟨_, rfl⟩
    rw [← hw1]
    have hHeld : (fun w' : World => w'.cell? ⟨x, 4, none⟩ = some (.slice (some ⟨gn, 0, none⟩) (s + 1) cn) ∧ w'.cell? ⟨x, 5, none⟩ = some (.slice (some ⟨gp, 0, none⟩) (s + 1) cp) ∧ w'.cell? ⟨gn, 0, none⟩ = some (.int .i64 h)) w1.drew := by rw [hw1]; exact ⟨Kx4.out, Kx5.out, K8.out⟩
    have c6 : w1.cell? ⟨gp, h, none⟩ = some (.int .i64 y3) := by rw [hw1]; exact C5.out
    have f5 : w1.frozen? ⟨gp, h, none⟩ = false := by rw [hw1]; exact F3h.out
    have f6 : w1.frozen? ⟨gn, 0, none⟩ = false := by rw [hw1]; exact F40.out
    have Hw1 := Lib.hid hw1
    clear hw1 k4 k5 k7 k9 c1 c2 c3 c4 f1i f2i
    refine wp_region_last 19 (fun w' : World => w'.cell? ⟨x, 4, none⟩ = some (.slice (some ⟨gn, 0, none⟩) (s + 1) cn) ∧ w'.cell? ⟨x, 5, none⟩ = some (.slice (some ⟨gp, 0, none⟩) (s + 1) cp) ∧ w'.cell? ⟨gn, 0, none⟩ = some (.int .i64 h)) (by kernel_rfl) ?_
    refine anyP_take 0 (v := ?_) rfl rfl (by kernel_rfl) (fun _ _ _ h => h) (Or.inl ⟨by rfl, ?_⟩) hHeld ?_
    rotate_left 1
    · (intro w0 hSw; (try dsimp only at hSw); go_simp; (try (with_reducible rfl)))
    simp only [Act.put, List.setIfInBounds_toArray, List.set_cons_zero, List.set_cons_succ]
    refine anyP_take 1 (v := ?_) rfl rfl (by kernel_rfl) (fun _ _ _ h => h) (Or.inl ⟨by rfl, ?_⟩) hHeld ?_
    rotate_left 1
    · (intro w0 hSw; (try dsimp only at hSw); go_simp; (try (with_reducible rfl)))
    simp only [Act.put, List.setIfInBounds_toArray, List.set_cons_zero, List.set_cons_succ]
    refine anyP_take 2 (v := ?_) rfl rfl (by kernel_rfl) (fun _ _ _ h => h) (Or.inl ⟨by rfl, ?_⟩) hHeld ?_
    rotate_left 1
    · (intro w0 hSw; (try dsimp only at hSw); go_simp; (try (with_reducible rfl)))
    simp only [Act.put, List.setIfInBounds_toArray, List.set_cons_zero, List.set_cons_succ]
    refine anyP_take 3 (v := ?_) rfl rfl (by kernel_rfl) (fun _ _ _ h => h) (Or.inl ⟨by rfl, ?_⟩) hHeld ?_
    rotate_left 1
    · (intro w0 hSw; (try dsimp only at hSw); go_simp; (try (with_reducible rfl)))
    simp only [Act.put, List.setIfInBounds_toArray, List.set_cons_zero, List.set_cons_succ]
    refine anyP_take 4 (v := ?_) rfl rfl (by kernel_rfl) (fun _ _ _ h => h) (Or.inl ⟨by rfl, ?_⟩) hHeld ?_
    rotate_left 1
    · (intro w0 hSw; (try dsimp only at hSw); go_simp; (try (with_reducible rfl)))
    simp only [Act.put, List.setIfInBounds_toArray, List.set_cons_zero, List.set_cons_succ]
    refine anyP_take 5 (v := ?_) rfl rfl (by kernel_rfl) (fun _ _ _ h => h) (Or.inl ⟨by rfl, ?_⟩) hHeld ?_
    rotate_left 1
    · (intro w0 hSw; (try dsimp only at hSw); go_simp; (try (with_reducible rfl)))
    simp only [Act.put, List.setIfInBounds_toArray, List.set_cons_zero, List.set_cons_succ]
    refine anyP_take 6 (v := ?_) rfl rfl (by kernel_rfl) (fun _ _ _ h => h) (Or.inl ⟨by rfl, ?_⟩) hHeld ?_
    rotate_left 1
    · (intro w0 hSw; (try dsimp only at hSw); go_simp; (try (with_reducible rfl)))
    simp only [Act.put, List.setIfInBounds_toArray, List.set_cons_zero, List.set_cons_succ]
    refine anyP_take 7 (v := ?_) rfl rfl (by kernel_rfl) (fun _ _ _ h => h) (Or.inl ⟨by rfl, ?_⟩) hHeld ?_
    rotate_left 1
    · (intro w0 hSw; (try dsimp only at hSw); go_simp; (try (with_reducible rfl)))
    simp only [Act.put, List.setIfInBounds_toArray, List.set_cons_zero, List.set_cons_succ]
    refine anyP_take 8 (v := ?_) rfl rfl (by kernel_rfl) (fun _ _ _ h => h) (Or.inl ⟨by rfl, ?_⟩) hHeld ?_
    rotate_left 1
    · (intro w0 hSw; (try dsimp only at hSw); go_simp; (try (with_reducible rfl)))
    simp only [Act.put, List.setIfInBounds_toArray, List.set_cons_zero, List.set_cons_succ]
    refine anyP_take 9 (v := ?_) rfl rfl (by kernel_rfl) (fun _ _ _ h => h) (Or.inl ⟨by rfl, ?_⟩) hHeld ?_
    rotate_left 1
    · (intro w0 hSw; (try dsimp only at hSw); go_simp; (try (with_reducible rfl)))
    simp only [Act.put, List.setIfInBounds_toArray, List.set_cons_zero, List.set_cons_succ]
    refine anyP_take 10 (v := ?_) rfl rfl (by kernel_rfl) (fun _ _ _ h => h) (Or.inl ⟨by rfl, ?_⟩) hHeld ?_
    rotate_left 1
    · (intro w0 hSw; (try dsimp only at hSw); go_simp; (try (with_reducible rfl)))
    simp only [Act.put, List.setIfInBounds_toArray, List.set_cons_zero, List.set_cons_succ]
    refine anyP_take 11 (v := ?_) rfl rfl (by kernel_rfl) (fun _ _ _ h => h) (Or.inl ⟨by rfl, ?_⟩) hHeld ?_
    rotate_left 1
    · (intro w0 hSw; (try dsimp only at hSw); go_simp; (try (with_reducible rfl)))
    simp only [Act.put, List.setIfInBounds_toArray, List.set_cons_zero, List.set_cons_succ]
    refine anyP_take 12 (v := ?_) rfl rfl (by kernel_rfl) (fun _ _ _ h => h) (Or.inl ⟨by rfl, ?_⟩) hHeld ?_
    rotate_left 1
    · (intro w0 hSw; (try dsimp only at hSw); go_simp; (try (with_reducible rfl)))
    simp only [Act.put, List.setIfInBounds_toArray, List.set_cons_zero, List.set_cons_succ]
    refine anyP_take 13 (v := ?_) rfl rfl (by kernel_rfl) (fun _ _ _ h => h) (Or.inl ⟨by rfl, ?_⟩) hHeld ?_
    rotate_left 1
    · (intro w0 hSw; (try dsimp only at hSw); go_simp; (try (with_reducible rfl)))
    simp only [Act.put, List.setIfInBounds_toArray, List.set_cons_zero, List.set_cons_succ]
    refine anyP_take 14 (v := ?_) rfl rfl (by kernel_rfl) (fun _ _ _ h => h) (Or.inl ⟨by rfl, ?_⟩) hHeld ?_
    rotate_left 1
    · (intro w0 hSw; (try dsimp only at hSw); go_simp; (try (with_reducible rfl)))
    simp only [Act.put, List.setIfInBounds_toArray, List.set_cons_zero, List.set_cons_succ]
    refine anyP_take 15 (v := ?_) rfl rfl (by kernel_rfl) (fun _ _ _ h => h) (Or.inl ⟨by rfl, ?_⟩) hHeld ?_
    rotate_left 1
    · (intro w0 hSw; (try dsimp only at hSw); go_simp; (try (with_reducible rfl)))
    simp only [Act.put, List.setIfInBounds_toArray, List.set_cons_zero, List.set_cons_succ]
    refine anyP_take 16 (v := ?_) rfl rfl (by kernel_rfl) (fun _ _ _ h => h) (Or.inl ⟨by rfl, ?_⟩) hHeld ?_
    rotate_left 1
    · (intro w0 hSw; (try dsimp only at hSw); go_simp; (try (with_reducible rfl)))
    simp only [Act.put, List.setIfInBounds_toArray, List.set_cons_zero, List.set_cons_succ]
    refine anyP_one 17 (by kernel_rfl) rfl (fun K hK => ?_)
    replace hK := Lib.hid hK
    go_simp
    have hHeld2 : (fun w' : World => w'.cell? ⟨x, 4, none⟩ = some (.slice (some ⟨gn, 0, none⟩) (s + 1) cn) ∧ w'.cell? ⟨x, 5, none⟩ = some (.slice (some ⟨gp, 0, none⟩) (s + 1) cp) ∧ w'.cell? ⟨gn, 0, none⟩ = some (.int .i64 h)) (w1.setCell ⟨gp, h, none⟩ (.int .i64 i)).drew := ⟨by
      show (w1.setCell ⟨gp, h, none⟩ (.int .i64 i)).cell? _ = _
      rw [World.cell?_setCell_other _ _ _ _ (fun h => by injection h with h _ _; exact d3 h)]; exact hHeld.1, by
      show (w1.setCell ⟨gp, h, none⟩ (.int .i64 i)).cell? _ = _
      rw [World.cell?_setCell_other _ _ _ _ (fun h => by injection h with h _ _; exact d3 h)]; exact hHeld.2.1, by
      show (w1.setCell ⟨gp, h, none⟩ (.int .i64 i)).cell? _ = _
      rw [World.cell?_setCell_other _ _ _ _ nc]; exact hHeld.2.2⟩
    refine hK.out _ _ (.inr hHeld2) ?_
    try simp only [Act.put, List.setIfInBounds_toArray, List.set_cons_zero, List.set_cons_succ]
    clear hK K
    refine anyP_take 18 (v := ?_) rfl rfl (by kernel_rfl) (fun _ _ _ h => h) (Or.inl ⟨by rfl, ?_⟩) hHeld2 ?_
    rotate_left 1
    · (intro w0 hSw; (try dsimp only at hSw); go_simp; (try (with_reducible rfl)))
    simp only [Act.put, List.setIfInBounds_toArray, List.set_cons_zero, List.set_cons_succ]
    refine anyP_one 19 (by kernel_rfl) rfl (fun K hK => ?_)
    replace hK := Lib.hid hK
    have hz := hHeld2.2.2
    go_simp
    refine hK.out _ _ (.inl (by kernel_rfl)) ?_
    refine anyP_done (by kernel_rfl) ?_ _
    refine NoPanic.normal ?_
    clear hK K
    try simp only [Act.put, List.setIfInBounds_toArray, List.set_cons_zero, List.set_cons_succ]
    go_end0
    rw [Hw1.out]
    exact ⟨rfl, 2, rfl⟩
end Go.Proofs.Ytnlgjpcnnnilpaa
