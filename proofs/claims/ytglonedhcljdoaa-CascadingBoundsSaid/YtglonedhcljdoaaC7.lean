/- The closure that takes the merged elements. -/
import Derived.Test.YtglonedhcljdoaaC6
import Derived.Test.YtglonedhcljdoaaCom8
namespace Go.Proofs.Ytglonedhcljdoaa
open Go.RowKit
attribute [local go_sem ↓] Go.wp_at_zero Go.wp_at_succ

theorem EZ51 : ElemZ Try.prog 49 51 (.agg #[.int .i64 0, .int .i64 0, .int .i64 0]) 3 24 := ⟨rfl, by kernel_rfl, rfl⟩
/-- What the closure may write. -/
def onS (b9 b10 b11 g : Nat) : Nat → Prop := fun k => k = b9 ∨ k = b10 ∨ k = b11 ∨ k = g
/-- What stands as long as one list is laid. -/
structure MC (W : World) (B b4 b6 b9 b10 b11 x g n i : Nat) (hs : List Value) : Prop where
  k4 : One W b4 25 (.pointer (some ⟨x, 0, none⟩))
  k6 : One W b6 3 (.int .i64 i)
  kx : W.heap[x]? = some (.cells #[.slice (some ⟨g, 0, none⟩) n n, .int .i64 0] 46 (0, 0))
  hi : i < n
  hn : n ≤ 32
  hl : hs.length = n
  bg : B ≤ g
  bW : B ≤ W.heap.size
  d : b9 ≠ b10 ∧ b9 ≠ b11 ∧ b9 ≠ g ∧ b10 ≠ b11 ∧ b10 ≠ g ∧ b11 ≠ g
  e4 : ¬ onS b9 b10 b11 g b4
  e6 : ¬ onS b9 b10 b11 g b6
  ex : ¬ onS b9 b10 b11 g x
structure MS (W : World) (B b9 b10 b11 g n i : Nat) (hs : List Value) (ra : Option Addr) (rc : Nat) (ka : Option Addr) (kc : Nat) (ks : List (Int × Bool)) (w : World) : Prop where
  c9 : One w b9 3 (.int .i64 (cO ks))
  c10 : One w b10 3 (.int .i64 (cT ks))
  c11 : One w b11 31 (.slice ka ks.length kc)
  l9 : b9 < W.heap.size
  l10 : b10 < W.heap.size
  l11 : b11 < W.heap.size
  lg : g < W.heap.size
  ko : Own w W.heap.size 3 ka ks.length kc (ints (keyL ks))
  ro : OwnZ w W.heap.size 51 3 ra ks.length rc (tri (entP ks))
  hd : Own w B 49 (some ⟨g, 0, none⟩) n n (hs.set i (.slice ra ks.length rc))
  ap : Apart ra ka
  fr : Fr (onS b9 b10 b11 g) W w
theorem two_cells {w : World} {b T : Nat} {x y : Value} (h : w.heap[b]? = some (.cells #[x, y] T (0, 0))) : w.cell? ⟨b, 0, none⟩ = some x ∧ w.cell? ⟨b, 1, none⟩ = some y := by
  constructor <;> (rw [cell_of_row w b _ _ _ _ h]; rfl)

def M4Post (W : World) (B b9 b10 b11 g n i : Nat) (hs : List Value) (ks : List (Int × Bool)) (e : Ending) (w' : World) : Prop :=
  e = .returned (.tuple #[]) ∧ ∃ ra rc ka kc, MS W B b9 b10 b11 g n i hs ra rc ka kc ks w'
set_option maxHeartbeats 4000000 in
theorem Make4_any (W : World) (B b4 b6 b9 b10 b11 x g n i : Nat) (hs : List Value) (C : MC W B b4 b6 b9 b10 b11 x g n i hs) (ra : Option Addr) (rc : Nat) (ka : Option Addr) (kc : Nat) (ks : List (Int × Bool)) (w : World)
    (M : MS W B b9 b10 b11 g n i hs ra rc ka kc ks w) (hks : ks.length ≤ 2000) (key : Int) (s : Bool) :
    Calls Try.prog 29 #[.int .i64 key, .bool s, .pointer (some ⟨b4, 0, none⟩), .pointer (some ⟨b6, 0, none⟩), .pointer (some ⟨b9, 0, none⟩), .pointer (some ⟨b10, 0, none⟩), .pointer (some ⟨b11, 0, none⟩)] w (M4Post W B b9 b10 b11 g n i hs (ks ++ [(key, s)])) := by
  have k4 := (C.k4.fr M.fr C.e4).cell
  have k6 := (C.k6.fr M.fr C.e6).cell
  have hx : w.heap[x]? = some (.cells #[.slice (some ⟨g, 0, none⟩) n n, .int .i64 0] 46 (0, 0)) := by
    rw [M.fr.block x (lt_of_block C.kx) C.ex]; exact C.kx
  have kx := (two_cells hx).1
  have c9 := M.c9.cell
  have c10 := M.c10.cell
  have hi := C.hi
  obtain ⟨g', hg', _, _, hgc, hgf⟩ := M.hd.at (by have := C.hi; omega)
  injection hg' with hg'
  injection hg' with hg'
  subst hg'
  have cgi := hgc i (.slice ra ks.length rc) (by rw [List.getElem?_set_self (by rw [C.hl]; exact C.hi)])
  have i0 : (0 : Int) ≤ (i : Int) := by omega
  have i1 : (i : Int) < (n : Int) := by omega
  obtain ⟨q, hq⟩ : ∃ q, q = ks.length := ⟨_, rfl⟩
  obtain ⟨vo, hvo⟩ : ∃ vo : Int, vo = (cO ks : Int) := ⟨_, rfl⟩
  obtain ⟨vt, hvt⟩ : ∃ vt : Int, vt = (cT ks : Int) := ⟨_, rfl⟩
  rw [← hq] at cgi
  rw [← hvo] at c9
  rw [← hvt] at c10
  have hHeld : (fun w' : World => w'.cell? ⟨b4, 0, none⟩ = some (.pointer (some ⟨x, 0, none⟩)) ∧ w'.cell? ⟨b6, 0, none⟩ = some (.int .i64 i) ∧ w'.cell? ⟨x, 0, none⟩ = some (.slice (some ⟨g, 0, none⟩) n n) ∧ w'.cell? ⟨b9, 0, none⟩ = some (.int .i64 vo) ∧ w'.cell? ⟨b10, 0, none⟩ = some (.int .i64 vt) ∧ w'.cell? ⟨g, i, none⟩ = some (.slice ra q rc)) w.drew := ⟨k4, k6, kx, c9, c10, cgi⟩
  have Hq := Lib.hid hq
  have Hvo := Lib.hid hvo
  have Hvt := Lib.hid hvt
  have HM := Lib.hid M
  have HC := Lib.hid C
  clear hq hvo hvt hgc hgf M C k4 k6 kx c9 c10 cgi hx
  go_enter Try.func29, Try.ntmps29
  go_wp2_with fail
  refine wp_region_last 19 (fun w' : World => w'.cell? ⟨b4, 0, none⟩ = some (.pointer (some ⟨x, 0, none⟩)) ∧ w'.cell? ⟨b6, 0, none⟩ = some (.int .i64 i) ∧ w'.cell? ⟨x, 0, none⟩ = some (.slice (some ⟨g, 0, none⟩) n n) ∧ w'.cell? ⟨b9, 0, none⟩ = some (.int .i64 vo) ∧ w'.cell? ⟨b10, 0, none⟩ = some (.int .i64 vt) ∧ w'.cell? ⟨g, i, none⟩ = some (.slice ra q rc)) (by kernel_rfl) ?_
  refine anyP_take 0 (v := ?_) rfl rfl (by kernel_rfl) (fun _ _ _ h => h) (Or.inl ⟨by rfl, ?_⟩) hHeld ?_
  rotate_left 1
  · (intro w0 hSw; (try dsimp only at hSw); go_simp; (try (with_reducible rfl)))
  simp only [Act.put, List.setIfInBounds_toArray, List.set_cons_zero, List.set_cons_succ]
  refine anyP_take 1 (v := ?_) rfl rfl (by kernel_rfl) (fun _ _ _ h => h) (Or.inl ⟨by rfl, ?_⟩) hHeld ?_
  rotate_left 1
  · (intro w0 hSw; (try dsimp only at hSw); go_simp; (try (with_reducible rfl)))
  simp only [Act.put, List.setIfInBounds_toArray, List.set_cons_zero, List.set_cons_succ]
  refine anyP_take 2 (v := ?_) rfl rfl (by kernel_rfl) (fun _ _ _ h => h) (Or.inl ⟨by rfl, ?_⟩) hHeld ?_
  rotate_left 1
  · (intro w0 hSw; (try dsimp only at hSw); go_simp; (try (with_reducible rfl)))
  simp only [Act.put, List.setIfInBounds_toArray, List.set_cons_zero, List.set_cons_succ]
  refine anyP_take 3 (v := ?_) rfl rfl (by kernel_rfl) (fun _ _ _ h => h) (Or.inl ⟨by rfl, ?_⟩) hHeld ?_
  rotate_left 1
  · (intro w0 hSw; (try dsimp only at hSw); go_simp; (try (with_reducible rfl)))
  simp only [Act.put, List.setIfInBounds_toArray, List.set_cons_zero, List.set_cons_succ]
  refine anyP_take 4 (v := ?_) rfl rfl (by kernel_rfl) (fun _ _ _ h => h) (Or.inl ⟨by rfl, ?_⟩) hHeld ?_
  rotate_left 1
  · (intro w0 hSw; (try dsimp only at hSw); go_simp; (try (with_reducible rfl)))
  simp only [Act.put, List.setIfInBounds_toArray, List.set_cons_zero, List.set_cons_succ]
  refine anyP_take 5 (v := ?_) rfl rfl (by kernel_rfl) (fun _ _ _ h => h) (Or.inl ⟨by rfl, ?_⟩) hHeld ?_
  rotate_left 1
  · (intro w0 hSw; (try dsimp only at hSw); go_simp; (try (with_reducible rfl)))
  simp only [Act.put, List.setIfInBounds_toArray, List.set_cons_zero, List.set_cons_succ]
  refine anyP_take 6 (v := ?_) rfl rfl (by kernel_rfl) (fun _ _ _ h => h) (Or.inl ⟨by rfl, ?_⟩) hHeld ?_
  rotate_left 1
  · (intro w0 hSw; (try dsimp only at hSw); go_simp; (try (with_reducible rfl)))
  simp only [Act.put, List.setIfInBounds_toArray, List.set_cons_zero, List.set_cons_succ]
  refine anyP_take 7 (v := ?_) rfl rfl (by kernel_rfl) (fun _ _ _ h => h) (Or.inl ⟨by rfl, ?_⟩) hHeld ?_
  rotate_left 1
  · (intro w0 hSw; (try dsimp only at hSw); go_simp; (try (with_reducible rfl)))
  simp only [Act.put, List.setIfInBounds_toArray, List.set_cons_zero, List.set_cons_succ]
  refine anyP_take 8 (v := ?_) rfl rfl (by kernel_rfl) (fun _ _ _ h => h) (Or.inl ⟨by rfl, ?_⟩) hHeld ?_
  rotate_left 1
  · (intro w0 hSw; (try dsimp only at hSw); go_simp; (try (with_reducible rfl)))
  simp only [Act.put, List.setIfInBounds_toArray, List.set_cons_zero, List.set_cons_succ]
  refine anyP_take 9 (v := ?_) rfl rfl (by kernel_rfl) (fun _ _ _ h => h) (Or.inl ⟨by rfl, ?_⟩) hHeld ?_
  rotate_left 1
  · (intro w0 hSw; (try dsimp only at hSw); go_simp; (try (with_reducible rfl)))
  simp only [Act.put, List.setIfInBounds_toArray, List.set_cons_zero, List.set_cons_succ]
  refine anyP_take 10 (v := ?_) rfl rfl (by kernel_rfl) (fun _ _ _ h => h) (Or.inl ⟨by rfl, ?_⟩) hHeld ?_
  rotate_left 1
  · (intro w0 hSw; (try dsimp only at hSw); go_simp; (try (with_reducible rfl)))
  simp only [Act.put, List.setIfInBounds_toArray, List.set_cons_zero, List.set_cons_succ]
  refine anyP_take 11 (v := ?_) rfl rfl (by kernel_rfl) (fun _ _ _ h => h) (Or.inl ⟨by rfl, ?_⟩) hHeld ?_
  rotate_left 1
  · (intro w0 hSw; (try dsimp only at hSw); go_simp; (try (with_reducible rfl)))
  simp only [Act.put, List.setIfInBounds_toArray, List.set_cons_zero, List.set_cons_succ]
  refine anyP_take 12 (v := ?_) rfl rfl (by kernel_rfl) (fun _ _ _ h => h) (Or.inl ⟨by rfl, ?_⟩) hHeld ?_
  rotate_left 1
  · (intro w0 hSw; (try dsimp only at hSw); go_simp; (try (with_reducible rfl)))
  simp only [Act.put, List.setIfInBounds_toArray, List.set_cons_zero, List.set_cons_succ]
  refine anyP_take 13 (v := ?_) rfl rfl (by kernel_rfl) (fun _ _ _ h => h) (Or.inl ⟨by rfl, ?_⟩) hHeld ?_
  rotate_left 1
  · (intro w0 hSw; (try dsimp only at hSw); go_simp; (try (with_reducible rfl)))
  simp only [Act.put, List.setIfInBounds_toArray, List.set_cons_zero, List.set_cons_succ]
  refine anyP_take 14 (v := ?_) rfl rfl (by kernel_rfl) (fun _ _ _ h => h) (Or.inl ⟨by rfl, ?_⟩) hHeld ?_
  rotate_left 1
  · (intro w0 hSw; (try dsimp only at hSw); go_simp; (try (with_reducible rfl)))
  simp only [Act.put, List.setIfInBounds_toArray, List.set_cons_zero, List.set_cons_succ]
  refine anyP_take 15 (v := ?_) rfl rfl (by kernel_rfl) (fun _ _ _ h => h) (Or.inl ⟨by rfl, ?_⟩) hHeld ?_
  rotate_left 1
  · (intro w0 hSw; (try dsimp only at hSw); go_simp; (try (with_reducible rfl)))
  simp only [Act.put, List.setIfInBounds_toArray, List.set_cons_zero, List.set_cons_succ]
  refine anyP_one 16 (by kernel_rfl) rfl (fun K hK => ?_)
  replace hK := Lib.hid hK
  go_simp
  refine hK.out _ _ (.inr ?_) ?_
  · have F := ((Fr.refl F0 w.drew).alloc (.cells #[.int .i64 key, .int .i64 vo, .int .i64 vt] 51))
    exact ⟨F.cell hHeld.1 id, F.cell hHeld.2.1 id, F.cell hHeld.2.2.1 id, F.cell hHeld.2.2.2.1 id, F.cell hHeld.2.2.2.2.1 id, F.cell hHeld.2.2.2.2.2 id⟩
  try simp only [Act.put, List.setIfInBounds_toArray, List.set_cons_zero, List.set_cons_succ]
  clear hK K
  obtain ⟨z0, hi0, hz0, hz1, hz2⟩ := info_parts EZ51.2.1
  have M := HM.out
  have C := HC.out
  have l4 : b4 < W.heap.size := C.k4.lt
  have l6 : b6 < W.heap.size := C.k6.lt
  have lx : x < W.heap.size := lt_of_block C.kx
  have hsz := M.fr.size
  have hro := M.ro
  have F5 : Fr F0 w (w.alloc (.cells #[.int .i64 key, .int .i64 vo, .int .i64 vt] 51)).drew := ((Fr.refl _ _).alloc _).drew
  have rb : ∀ k, onBlk ra k → W.heap.size ≤ k := fun k hk => (M.ro.blk k hk).1
  have hOA : OwnZ (w.alloc (.cells #[.int .i64 key, .int .i64 vo, .int .i64 vt] 51)).drew W.heap.size 51 3 ra q rc (tri (entP ks)) := by rw [Hq.out]; exact hro.fr0 F5
  have hOAc : ∀ j u, [Value.int .i64 key, .int .i64 vo, .int .i64 vt][j]? = some u → (w.alloc (.cells #[.int .i64 key, .int .i64 vo, .int .i64 vt] 51)).drew.cell? ((⟨w.heap.size, 0, none⟩ : Addr).add j) = some u := fun j u hu => World.news_of_block (heap_alloc_new w _) j u hu
  have hq2 : q ≤ 2000 := by rw [Hq.out]; exact hks
  have fgi : w.frozen? ⟨g, i, none⟩ = false := by
    obtain ⟨g', hg', _, _, _, hgf⟩ := M.hd.at (by omega)
    injection hg' with hg'
    injection hg' with hg'
    subst hg'
    exact hgf i
  have lg := M.lg
  have l9 := M.l9
  have l10 := M.l10
  clear M C hro
  refine anyP_one 17 (by kernel_rfl) rfl (fun K hK => ?_)
  replace hK := Lib.hid hK
  refine step_append_lies _ (by rfl) (.tmp 20) (.tmp 25) 49 (by rfl) W.heap.size 51 z0 _ 3 24 EZ51.1 hi0 hz0 hz1 hz2 EZ51.2.2 (by omega) (.slice ra q rc) q (tri (entP ks)) (by rfl) hOA ⟨w.heap.size, 0, none⟩ 1 1 [.int .i64 key, .int .i64 vo, .int .i64 vt] (by rfl) rfl hOAc (tri_oneCell (_, _, _)) (by omega) (by unfold maxLen; omega) (by omega) (by simp; omega) (w.heap.size + 1) (by simp) ?_
  intro g2 cap w6 hown6 hgrow hat hlt
  have FG : Fr (onBlk ra) (w.alloc (.cells #[.int .i64 key, .int .i64 vo, .int .i64 vt] 51)).drew w6 := Fr.of_grown rfl hgrow
  have nb : ∀ k, k < W.heap.size → ¬ onBlk ra k := fun k hk h => by have := rb k h; omega
  have hHeld6 : (fun w' : World => w'.cell? ⟨b4, 0, none⟩ = some (.pointer (some ⟨x, 0, none⟩)) ∧ w'.cell? ⟨b6, 0, none⟩ = some (.int .i64 i) ∧ w'.cell? ⟨x, 0, none⟩ = some (.slice (some ⟨g, 0, none⟩) n n) ∧ w'.cell? ⟨b9, 0, none⟩ = some (.int .i64 vo) ∧ w'.cell? ⟨b10, 0, none⟩ = some (.int .i64 vt) ∧ w'.cell? ⟨g, i, none⟩ = some (.slice ra q rc)) w6 := by
    have F := F5
    exact ⟨FG.cell (F.cell hHeld.1 id) (nb _ l4), FG.cell (F.cell hHeld.2.1 id) (nb _ l6), FG.cell (F.cell hHeld.2.2.1 id) (nb _ lx), FG.cell (F.cell hHeld.2.2.2.1 id) (nb _ l9), FG.cell (F.cell hHeld.2.2.2.2.1 id) (nb _ l10), FG.cell (F.cell hHeld.2.2.2.2.2 id) (nb _ lg)⟩
  have fgi6 : w6.frozen? ⟨g, i, none⟩ = false := (FG.frozen (by simp; omega) (nb _ lg)).trans ((F5.frozen (show g < w.heap.size by omega) id).trans fgi)
  refine hK.out _ _ (.inr hHeld6) ?_
  clear hK K
  try simp only [Act.put, List.setIfInBounds_toArray, List.set_cons_zero, List.set_cons_succ]
  refine anyP_take 18 (v := ?_) rfl rfl (by kernel_rfl) (fun _ _ _ h => h) (Or.inl ⟨by rfl, ?_⟩) hHeld6 ?_
  rotate_left 1
  · (intro w0 hSw; (try dsimp only at hSw); go_simp; (try (with_reducible rfl)))
  try simp only [Act.put, List.setIfInBounds_toArray, List.set_cons_zero, List.set_cons_succ]
  refine anyP_one 19 (by kernel_rfl) rfl (fun K hK => ?_)
  replace hK := Lib.hid hK
  have cgi6 := hHeld6.2.2.2.2.2
  go_simp
  refine hK.out _ _ (.inl (by kernel_rfl)) ?_
  refine anyP_done (by kernel_rfl) ?_ _
  refine NoPanic.normal ?_
  clear hK K
  try simp only [Act.put, List.setIfInBounds_toArray, List.set_cons_zero, List.set_cons_succ]
  have M := HM.out
  have C := HC.out
  have hlh := C.hl
  obtain ⟨d1, d2, d3, d4, d5, d6⟩ := C.d
  have l11 := M.l11
  have c9w := M.c9
  have c10w := M.c10
  have c11w := M.c11
  have kow := M.ko
  have hdw := M.hd
  have apw := M.ap
  have frw := M.fr
  rw [← Hvo.out] at c9w
  rw [← Hvt.out] at c10w
  rw [← Hq.out] at c11w kow hdw
  have g2W : W.heap.size ≤ g2 := by
    rcases hat with h | h
    · have h1 : onBlk ra g2 := by
        cases ra with
        | none => simp [Value.ownBlock] at h
        | some a0 => simp [Value.ownBlock] at h; exact ⟨a0.off, a0.spot, by rw [← h]⟩
      exact rb _ h1
    · omega
  have ap7 : Apart (some ⟨g2, 0, none⟩) ka := by
    intro k hk
    have hk2 := (onBlk_some _ _ _ _).1 hk
    subst hk2
    rcases hat with h | h
    · have h1 : onBlk ra k := by
        cases ra with
        | none => simp [Value.ownBlock] at h
        | some a0 => simp [Value.ownBlock] at h; exact ⟨a0.off, a0.spot, by rw [← h]⟩
      exact apw k h1
    · intro h1; have := (kow.blk k h1).2; omega
  have F6 : Fr (onBlk ra) w w6 := (F5.mono (fun _ _ h => h.elim)).trans FG (fun _ _ h => h)
  have ng : ¬ onBlk (some ⟨g2, 0, none⟩) g := fun h => by have := (onBlk_some _ _ _ _).1 h; omega
  have F7 : Fr (onB g) w6 (w6.setCell ⟨g, i, none⟩ (.slice (some ⟨g2, 0, none⟩) (q + 1) cap)) := (Fr.refl _ _).setB i _
  have c9' := (c9w.fr F6 (nb _ l9)).fr F7 d3
  have c10' := (c10w.fr F6 (nb _ l10)).fr F7 d5
  have c11' := (c11w.fr F6 (nb _ l11)).fr F7 d6
  have ko' := (kow.fr F6 (fun k hk h => apw k h hk)).fr F7 (fun k hk hs => by have h1 := (kow.blk k hk).1; have h2 : k = g := hs; omega)
  have ro' : OwnZ (w6.setCell ⟨g, i, none⟩ (.slice (some ⟨g2, 0, none⟩) (q + 1) cap)) W.heap.size 51 3 (some ⟨g2, 0, none⟩) (q + 1) cap (tri (entP (ks ++ [(key, s)]))) := by
    have e : tri (entP (ks ++ [(key, s)])) = tri (entP ks) ++ [.int .i64 key, .int .i64 vo, .int .i64 vt] := by
      rw [entP_snoc, tri_append, Hvo.out, Hvt.out]; rfl
    rw [e]
    exact OwnZ.other (p := ⟨g, i, none⟩) hown6 ng _
  have hd' : Own (w6.setCell ⟨g, i, none⟩ (.slice (some ⟨g2, 0, none⟩) (q + 1) cap)) B 49 (some ⟨g, 0, none⟩) n n (hs.set i (.slice (some ⟨g2, 0, none⟩) (q + 1) cap)) := by
    have h := (hdw.fr F6 (fun k hk => by rw [(onBlk_some _ _ _ _).1 hk]; exact nb _ lg)).set (i := i) (.slice (some ⟨g2, 0, none⟩) (q + 1) cap)
    rwa [List.set_set] at h
  have fr' : Fr (onS b9 b10 b11 g) W (w6.setCell ⟨g, i, none⟩ (.slice (some ⟨g2, 0, none⟩) (q + 1) cap)) := (frw.trans F6 (fun k hk h => absurd h (nb k hk))).trans F7 (fun k hk h => .inr (.inr (.inr h)))
  have hq9 := hq2
  clear M C c9w c10w c11w kow hdw apw frw hHeld hHeld6 cgi6 fgi6 fgi FG F5 F6 F7 hOA hOAc hown6 hgrow hat hlt HM HC nb rb hsz l4 l6 lx
  have w6W : W.heap.size ≤ (w6.setCell ⟨g, i, none⟩ (.slice (some ⟨g2, 0, none⟩) (q + 1) cap)).heap.size := fr'.size
  generalize w6.setCell ⟨g, i, none⟩ (.slice (some ⟨g2, 0, none⟩) (q + 1) cap) = w7 at *
  have c11 := c11'.cell
  have hc9 := Lib.hid c9'
  have hc10 := Lib.hid c10'
  have hc11 := Lib.hid c11'
  have hro := Lib.hid ro'
  have hhd := Lib.hid hd'
  have hap := Lib.hid ap7
  have hfr := Lib.hid fr'
  have hbk := Lib.hid ko'.blk
  have hd12 := Lib.hid d1
  clear c9' c10' c11' ro' hd' ap7 fr' ng hi0 hz0 hz1 hz2
  have n9 : Hid (¬ onBlk ka b9) := Lib.hid (fun h => by have := (hbk.out _ h).1; omega)
  have n10 : Hid (¬ onBlk ka b10) := Lib.hid (fun h => by have := (hbk.out _ h).1; omega)
  have n11 : Hid (¬ onBlk ka b11) := Lib.hid (fun h => by have := (hbk.out _ h).1; omega)
  have ngk : Hid (¬ onBlk ka g) := Lib.hid (fun h => by have := (hbk.out _ h).1; omega)
  have hvo0 : 0 ≤ vo := by rw [Hvo.out]; omega
  have hvo1 : vo ≤ 2000 := by
    have h1 : cO ks ≤ ks.length := List.countP_le_length
    rw [Hvo.out]; omega
  have hvt0 : 0 ≤ vt := by rw [Hvt.out]; omega
  have hvt1 : vt ≤ 2000 := by
    have h1 : cT ks ≤ ks.length := List.countP_le_length
    rw [Hvt.out]; omega
  have hd9 : Hid (b9 ≠ b11) := Lib.hid d2
  have hd10 : Hid (b10 ≠ b11) := Lib.hid d4
  have hl12 := Lib.hid hq9
  clear d1 d2 d4
  cases s
  · go_wp2_with (at_builtin; refine wpAppAt E3 ko' (by omega) (by omega) (by omega) rfl rfl rfl ?_; intro a8 c8 w8 own8 fr8 at8; have h11 := (hc11.out.fr fr8 n11.out); have h11c := h11.cell; have h11f := h11.free; have k9 := (hc9.out.fr fr8 n9.out).other (p := ⟨b11, 0, none⟩) hd9.out (.slice a8 (q + 1) c8); have k10 := (hc10.out.fr fr8 n10.out).other (p := ⟨b11, 0, none⟩) hd10.out (.slice a8 (q + 1) c8); have k9c := k9.cell; have k9f := k9.free; have k10c := k10.cell; have k10f := k10.free)
    have fr9 : Fr (onB b11) w8 (w8.setCell ⟨b11, 0, none⟩ (.slice a8 (q + 1) c8)) := (Fr.refl _ _).setB 0 _
    have fr10 : Fr (onB b9) (w8.setCell ⟨b11, 0, none⟩ (.slice a8 (q + 1) c8)) ((w8.setCell ⟨b11, 0, none⟩ (.slice a8 (q + 1) c8)).setCell ⟨b9, 0, none⟩ (.int .i64 (vo + 1))) := (Fr.refl _ _).setB 0 _
    have a8b : ∀ k, onBlk a8 k → W.heap.size ≤ k := fun k hk => (own8.blk k hk).1
    have rb2 : ∀ k, onBlk (some ⟨g2, 0, none⟩) k → W.heap.size ≤ k ∧ k < w7.heap.size := fun k hk => hro.out.blk k hk
    have hfin : M4Post W B b9 b10 b11 g n i hs (ks ++ [(key, false)]) (.returned (.tuple #[])) ((w8.setCell ⟨b11, 0, none⟩ (.slice a8 (q + 1) c8)).setCell ⟨b9, 0, none⟩ (.int .i64 (vo + 1))) := by
      refine ⟨rfl, some ⟨g2, 0, none⟩, cap, a8, c8, ?_⟩
      have el : (ks ++ [(key, false)]).length = q + 1 := by rw [Hq.out]; simp
      have e9 : ((cO (ks ++ [(key, false)]) : Nat) : Int) = (vo + 1) := by rw [Hvo.out]; simp [cO]
      have e10 : ((cT (ks ++ [(key, false)]) : Nat) : Int) = vt := by rw [Hvt.out]; simp [cT]
      have ek : ints (keyL (ks ++ [(key, false)])) = ints (keyL ks) ++ [.int .i64 key] := by simp [keyL]
      refine ⟨?_, ?_, ?_, l9, l10, l11, lg, ?_, ?_, ?_, ?_, ?_⟩
      · rw [e9]; exact k9.set _
      · rw [e10]; exact k10.other (p := ⟨b9, 0, none⟩) (fun h => hd12.out h.symm) _
      · rw [el]; exact (h11.set (.slice a8 (q + 1) c8)).other (p := ⟨b9, 0, none⟩) (fun h => hd9.out h.symm) _
      · rw [el, ek]
        exact (own8.fr fr9 (fun k hk h => by have h1 := a8b k hk; have h2 : k = b11 := h; omega)).fr fr10 (fun k hk h => by have h1 := a8b k hk; have h2 : k = b9 := h; omega)
      · rw [el]
        exact ((hro.out.fr fr8 (fun k hk h => hap.out k hk h)).fr fr9 (fun k hk h => by have h1 := (rb2 k hk).1; have h2 : k = b11 := h; omega)).fr fr10 (fun k hk h => by have h1 := (rb2 k hk).1; have h2 : k = b9 := h; omega)
      · rw [el]
        exact ((hhd.out.fr fr8 (fun k hk h => ngk.out (by rw [(onBlk_some _ _ _ _).1 hk] at h; exact h))).fr fr9 (fun k hk h => by have h1 := (onBlk_some _ _ _ _).1 hk; have h2 : k = b11 := h; omega)).fr fr10 (fun k hk h => by have h1 := (onBlk_some _ _ _ _).1 hk; have h2 : k = b9 := h; omega)
      · exact (Apart.app hap.out.symm at8 (fun k hk => (rb2 k hk).2)).symm
      · exact ((hfr.out.trans fr8 (fun k hk h => absurd (hbk.out k h).1 (by omega))).trans fr9 (fun k hk h => .inr (.inr (.inl h)))).trans fr10 (fun k hk h => .inl h)
    replace hfin := Lib.hid hfin
    clear fr9 fr10 a8b rb2 k9 k10 h11 at8 fr8 own8
    go_end0
    exact hfin.out
  · go_wp2_with (at_builtin; refine wpAppAt E3 ko' (by omega) (by omega) (by omega) rfl rfl rfl ?_; intro a8 c8 w8 own8 fr8 at8; have h11 := (hc11.out.fr fr8 n11.out); have h11c := h11.cell; have h11f := h11.free; have k9 := (hc9.out.fr fr8 n9.out).other (p := ⟨b11, 0, none⟩) hd9.out (.slice a8 (q + 1) c8); have k10 := (hc10.out.fr fr8 n10.out).other (p := ⟨b11, 0, none⟩) hd10.out (.slice a8 (q + 1) c8); have k9c := k9.cell; have k9f := k9.free; have k10c := k10.cell; have k10f := k10.free)
    have fr9 : Fr (onB b11) w8 (w8.setCell ⟨b11, 0, none⟩ (.slice a8 (q + 1) c8)) := (Fr.refl _ _).setB 0 _
    have fr10 : Fr (onB b10) (w8.setCell ⟨b11, 0, none⟩ (.slice a8 (q + 1) c8)) ((w8.setCell ⟨b11, 0, none⟩ (.slice a8 (q + 1) c8)).setCell ⟨b10, 0, none⟩ (.int .i64 (vt + 1))) := (Fr.refl _ _).setB 0 _
    have a8b : ∀ k, onBlk a8 k → W.heap.size ≤ k := fun k hk => (own8.blk k hk).1
    have rb2 : ∀ k, onBlk (some ⟨g2, 0, none⟩) k → W.heap.size ≤ k ∧ k < w7.heap.size := fun k hk => hro.out.blk k hk
    have hfin : M4Post W B b9 b10 b11 g n i hs (ks ++ [(key, true)]) (.returned (.tuple #[])) ((w8.setCell ⟨b11, 0, none⟩ (.slice a8 (q + 1) c8)).setCell ⟨b10, 0, none⟩ (.int .i64 (vt + 1))) := by
      refine ⟨rfl, some ⟨g2, 0, none⟩, cap, a8, c8, ?_⟩
      have el : (ks ++ [(key, true)]).length = q + 1 := by rw [Hq.out]; simp
      have e9 : ((cO (ks ++ [(key, true)]) : Nat) : Int) = vo := by rw [Hvo.out]; simp [cO]
      have e10 : ((cT (ks ++ [(key, true)]) : Nat) : Int) = (vt + 1) := by rw [Hvt.out]; simp [cT]
      have ek : ints (keyL (ks ++ [(key, true)])) = ints (keyL ks) ++ [.int .i64 key] := by simp [keyL]
      refine ⟨?_, ?_, ?_, l9, l10, l11, lg, ?_, ?_, ?_, ?_, ?_⟩
      · rw [e9]; exact k9.other (p := ⟨b10, 0, none⟩) hd12.out _
      · rw [e10]; exact k10.set _
      · rw [el]; exact (h11.set (.slice a8 (q + 1) c8)).other (p := ⟨b10, 0, none⟩) (fun h => hd10.out h.symm) _
      · rw [el, ek]
        exact (own8.fr fr9 (fun k hk h => by have h1 := a8b k hk; have h2 : k = b11 := h; omega)).fr fr10 (fun k hk h => by have h1 := a8b k hk; have h2 : k = b10 := h; omega)
      · rw [el]
        exact ((hro.out.fr fr8 (fun k hk h => hap.out k hk h)).fr fr9 (fun k hk h => by have h1 := (rb2 k hk).1; have h2 : k = b11 := h; omega)).fr fr10 (fun k hk h => by have h1 := (rb2 k hk).1; have h2 : k = b10 := h; omega)
      · rw [el]
        exact ((hhd.out.fr fr8 (fun k hk h => ngk.out (by rw [(onBlk_some _ _ _ _).1 hk] at h; exact h))).fr fr9 (fun k hk h => by have h1 := (onBlk_some _ _ _ _).1 hk; have h2 : k = b11 := h; omega)).fr fr10 (fun k hk h => by have h1 := (onBlk_some _ _ _ _).1 hk; have h2 : k = b10 := h; omega)
      · exact (Apart.app hap.out.symm at8 (fun k hk => (rb2 k hk).2)).symm
      · exact ((hfr.out.trans fr8 (fun k hk h => absurd (hbk.out k h).1 (by omega))).trans fr9 (fun k hk h => .inr (.inr (.inl h)))).trans fr10 (fun k hk h => .inr (.inl h))
    replace hfin := Lib.hid hfin
    clear fr9 fr10 a8b rb2 k9 k10 h11 at8 fr8 own8
    go_end0
    exact hfin.out

end Go.Proofs.Ytglonedhcljdoaa
