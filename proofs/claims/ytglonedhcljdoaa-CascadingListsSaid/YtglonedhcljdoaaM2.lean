/- What Make lays: the rows, the index. -/
import Derived.Test.YtglonedhcljdoaaC8
namespace Go.Proofs.Ytglonedhcljdoaa
open Go.RowKit

/-- The augmented list at place q, with its sources. -/
def kq (L : List (List Int)) (q : Nat) : List (Int × Bool) := (augK (L.drop q)).headD []
theorem kx_kq (L : List (List Int)) (q : Nat) : kx L q = keyL (kq L q) := rfl
theorem kq_step {L : List (List Int)} {q : Nat} {l : List Int} (h : L[q]? = some l) : kq L q = mergeB l (oddL (kx L (q + 1))) := by
  have hl := (List.getElem?_eq_some_iff.1 h).1
  have e : L.drop q = l :: L.drop (q + 1) := by rw [List.drop_eq_getElem_cons hl, (List.getElem?_eq_some_iff.1 h).2]
  unfold kq
  rw [e, augK]; rfl
theorem kq_len {L : List (List Int)} (h : ∀ l ∈ L, l.length ≤ 1000) (q : Nat) : (kq L q).length ≤ 2000 := by
  have := kx_len h q
  rw [kx_kq] at this
  simpa [keyL] using this
theorem OwnZ.cap {w : World} {B T s : Nat} {a : Option Addr} {n c : Nat} {vs : List Value} (h : OwnZ w B T s a n c vs) : n ≤ c := by
  rcases h.2 with ⟨hv, rfl⟩ | ⟨g, cap, cur, hv, hb, hh, h1, h2, h3, h4⟩
  · omega
  · injection hv with ha hn hc
    omega
theorem Rd.fr1 {S : Nat → Prop} {w w' : World} {a : Option Addr} {n : Nat} {vs : List Value} (h : Rd w a n vs) (f : Fr S w w') (hS : 0 < n → ∀ k, k < w.heap.size → onBlk a k → ¬ S k) : Rd w' a n vs := by
  by_cases hn : 0 < n
  · exact h.fr f (fun k hk => hS hn k (h.lt hn k hk) hk)
  · have hl := h.len
    have e : n = 0 := by omega
    subst e
    rw [List.length_eq_zero_iff.1 hl]
    exact Rd.nil _ _
/-- Row j of the index lies, in blocks from B on. -/
def RowAt (w : World) (B g b6 : Nat) (L : List (List Int)) (hs : List Value) (j : Nat) : Prop :=
  ∃ ra rc, hs[j]? = some (.slice ra ((kq L j).length + 1) rc) ∧ OwnZ w B 51 3 ra ((kq L j).length + 1) rc (tri (entL (kq L j))) ∧ ¬ onBlk ra g ∧ ¬ onBlk ra b6
def RowsD (w : World) (B g b6 q : Nat) (L : List (List Int)) (hs : List Value) : Prop := ∀ j, q ≤ j → j < L.length → RowAt w B g b6 L hs j
theorem RowAt.fr {w w' : World} {B g b6 : Nat} {L : List (List Int)} {hs hs' : List Value} {j : Nat} (h : RowAt w B g b6 L hs j) {S : Nat → Prop} (f : Fr S w w') (hS : ∀ k, B ≤ k → k < w.heap.size → k ≠ g → k ≠ b6 → ¬ S k)
    (b6' : Nat) (h6 : b6' = b6 ∨ w.heap.size ≤ b6') (e : hs'[j]? = hs[j]?) : RowAt w' B g b6' L hs' j := by
  obtain ⟨ra, rc, h1, h2, h3, h4⟩ := h
  refine ⟨ra, rc, e.trans h1, h2.fr f (fun k hk => hS k (h2.blk k hk).1 (h2.blk k hk).2 (fun e => h3 (e ▸ hk)) (fun e => h4 (e ▸ hk))), h3, ?_⟩
  rcases h6 with rfl | h6
  · exact h4
  · intro h; have := (h2.blk _ h).2; omega
/-- The index that Make gives. -/
structure IxR (B : Nat) (w : World) (x : Nat) (L : List (List Int)) (cmp : Int) (g : Nat) (hs : List Value) : Prop where
  kx : w.heap[x]? = some (.cells #[.slice (some ⟨g, 0, none⟩) L.length L.length, .int .i64 cmp] 46 (0, 0))
  rd : Rd w (some ⟨g, 0, none⟩) L.length hs
  bx : B ≤ x
  bg : B ≤ g
  gx : g ≠ x
  row : ∀ j, j < L.length → ∃ ra rc, hs[j]? = some (.slice ra ((kq L j).length + 1) rc) ∧ RdZ w 3 ra ((kq L j).length + 1) (tri (entL (kq L j))) ∧ (∀ k, onBlk ra k → B ≤ k ∧ k ≠ x) ∧ (kq L j).length + 1 ≤ rc
theorem IxR.fr {B : Nat} {w w' : World} {x : Nat} {L : List (List Int)} {cmp : Int} {g : Nat} {hs : List Value} (h : IxR B w x L cmp g hs) (f : Fr F0 w w') : IxR B w' x L cmp g hs :=
  ⟨(f.block x (lt_of_block h.kx) id).trans h.kx, h.rd.fr0 f, h.bx, h.bg, h.gx, fun j hj => by
    obtain ⟨ra, rc, h1, h2, h3⟩ := h.row j hj
    exact ⟨ra, rc, h1, h2.fr0 f, h3⟩⟩
def MkPost (L : List (List Int)) (w : World) (e : Ending) (w' : World) : Prop :=
  Fr F0 w w' ∧ ((checkC L ≠ 0 ∧ e = .returned (.tuple #[.pointer none, .int .i64 (checkC L)])) ∨
    (checkC L = 0 ∧ ∃ x g hs, e = .returned (.tuple #[.pointer (some ⟨x, 0, none⟩), .int .i64 0]) ∧ IxR w.heap.size w' x L 0 g hs))
def mk6 (s : Value) (w : World) : Nat := match s with
  | .pointer (some p) => (match w.cell? p with | some (.int _ z) => (z + 1).toNat | _ => 0)
  | _ => 0
theorem mk6_at {w : World} {b : Nat} {z : Int} (h : w.cell? ⟨b, 0, none⟩ = some (.int .i64 z)) : mk6 (.pointer (some ⟨b, 0, none⟩)) w = (z + 1).toNat := by
  unfold mk6; simp only [h]
theorem MS.drew {W : World} {B b9 b10 b11 g n i : Nat} {hs : List Value} {ra : Option Addr} {rc : Nat} {ka : Option Addr} {kc : Nat} {ks : List (Int × Bool)} {w : World}
    (h : MS W B b9 b10 b11 g n i hs ra rc ka kc ks w) : MS W B b9 b10 b11 g n i hs ra rc ka kc ks w.drew :=
  ⟨h.c9, h.c10, h.c11, h.l9, h.l10, h.l11, h.lg, h.ko, h.ro, h.hd, h.ap, h.fr.drew⟩
/-- merge with Make's closure. -/
theorem merge4_any {W : World} {B b4 b6 b9 b10 b11 x g n i : Nat} {hs : List Value} (C : MC W B b4 b6 b9 b10 b11 x g n i hs) (a : Option Addr) (na ca : Nat) (xs : List Int) (b : Option Addr) (nb cb : Nat) (ys : List Int)
    (h1 : Rd W a na (ints xs)) (h2 : Rd W b nb (ints ys)) (h1' : 0 < na → ∀ k, onBlk a k → ¬ onS b9 b10 b11 g k) (h2' : ∀ k, onBlk b k → ¬ onS b9 b10 b11 g k)
    (hn : na ≤ 1000) (hm : nb ≤ 1000) (hca : na ≤ ca) (hcb : nb ≤ cb) (M : MS W B b9 b10 b11 g n i hs none 0 none 0 [] W) :
    Calls Try.prog 27 #[.slice a na ca, .slice b nb cb, .func (.func 28) #[] #[], .func (.func 29) #[] #[.pointer (some ⟨b4, 0, none⟩), .pointer (some ⟨b6, 0, none⟩), .pointer (some ⟨b9, 0, none⟩), .pointer (some ⟨b10, 0, none⟩), .pointer (some ⟨b11, 0, none⟩)]] W
      (M4Post W B b9 b10 b11 g n i hs (mergeB xs ys)) := by
  refine (merge_any b4 b6 b9 b10 b11 (fun ks w => ∃ ra rc ka kc, MS W B b9 b10 b11 g n i hs ra rc ka kc ks w) a na ca xs b nb cb ys W ?_ ?_ ?_ hn hm hca hcb ⟨none, 0, none, 0, M⟩)
  · rintro ks w ⟨ra, rc, ka, kc, M⟩
    exact ⟨h1.fr1 M.fr (fun h0 k _ hb => h1' h0 k hb), h2.fr1 M.fr (fun _ k _ hb => h2' k hb)⟩
  · rintro ks w ⟨ra, rc, ka, kc, M⟩
    exact ⟨ra, rc, ka, kc, M.drew⟩
  · rintro ks w key s ⟨ra, rc, ka, kc, M⟩ hl
    exact Make4_any W B b4 b6 b9 b10 b11 x g n i hs C ra rc ka kc ks w M hl key s

theorem size_alloc (w : World) (o : Obj) : (w.alloc o).heap.size = w.heap.size + 1 := by simp
theorem alloc_old {w : World} {b : Nat} {o o' : Obj} (h : w.heap[b]? = some o) : (w.alloc o').heap[b]? = some o := (Below.heap_alloc _ _ _ (lt_of_block h)).trans h
/-- What lies before the loop. -/
theorem start_facts {w w2 : World} (F : Fr F0 w w2) (n : Nat) (z : Int) (hn : n ≤ 32) (g : Nat) (hg : g = w2.heap.size) :
    let W := (((w2.alloc (.cells (Array.replicate n (.slice none 0 0)) 49)).alloc (.cells #[.slice (some ⟨g, 0, none⟩) n n, .int .i64 0] 46)).alloc (.cells #[.pointer (some ⟨g + 1, 0, none⟩)] 25)).alloc (.cells #[.int .i64 z] 3)
    Fr F0 w W ∧ Own W w.heap.size 49 (some ⟨g, 0, none⟩) n n (List.replicate n (.slice none 0 0)) ∧ W.heap[g + 1]? = some (.cells #[.slice (some ⟨g, 0, none⟩) n n, .int .i64 0] 46 (0, 0)) ∧
    One W (g + 1 + 1) 25 (.pointer (some ⟨g + 1, 0, none⟩)) ∧ One W (g + 1 + 1 + 1) 3 (.int .i64 z) ∧ w.heap.size ≤ g := by
  subst hg
  have hs := F.size
  have o1 := Own.made (w := w2) (B := w.heap.size) (T := 49) (z := .slice none 0 0) n hs (by omega)
  refine ⟨(((F.alloc _).alloc _).alloc _).alloc _, ((o1.alloc _).alloc _).alloc _, ?_, ?_, ?_, hs⟩
  · refine alloc_old (alloc_old ?_)
    have h := heap_alloc_new (w2.alloc (.cells (Array.replicate n (.slice none 0 0)) 49)) (.cells #[.slice (some ⟨w2.heap.size, 0, none⟩) n n, .int .i64 0] 46)
    rwa [size_alloc] at h
  · refine alloc_old ?_
    have h := heap_alloc_new ((w2.alloc (.cells (Array.replicate n (.slice none 0 0)) 49)).alloc (.cells #[.slice (some ⟨w2.heap.size, 0, none⟩) n n, .int .i64 0] 46)) (.cells #[.pointer (some ⟨w2.heap.size + 1, 0, none⟩)] 25)
    rwa [size_alloc, size_alloc] at h
  · have h := heap_alloc_new (((w2.alloc (.cells (Array.replicate n (.slice none 0 0)) 49)).alloc (.cells #[.slice (some ⟨w2.heap.size, 0, none⟩) n n, .int .i64 0] 46)).alloc (.cells #[.pointer (some ⟨w2.heap.size + 1, 0, none⟩)] 25)) (.cells #[.int .i64 z] 3)
    rwa [size_alloc, size_alloc, size_alloc] at h
/-- What stands at the outer loop's head: the rows from q on are laid. -/
structure OL (w wr : World) (g b6 n q : Nat) (an : Option Addr) (nn : Nat) (L : List (List Int)) (hs : List Value) : Prop where
  k6 : One wr b6 3 (.int .i64 ((q : Int) - 1))
  b6g : g + 3 ≤ b6
  k4 : One wr (g + 1 + 1) 25 (.pointer (some ⟨g + 1, 0, none⟩))
  kg : wr.heap[g + 1]? = some (.cells #[.slice (some ⟨g, 0, none⟩) n n, .int .i64 0] 46 (0, 0))
  ab : Rd wr an nn (ints (kx L q))
  hd : Own wr w.heap.size 49 (some ⟨g, 0, none⟩) n n hs
  rows : RowsD wr (g + 3) g b6 q L hs
  lo : ∀ j, j < q → hs[j]? = some (.slice none 0 0)
  fr : Fr F0 w wr
  wg : w.heap.size ≤ g
abbrev WM (v : World) : World := ((v.alloc (.cells #[.int .i64 0] 3)).alloc (.cells #[.int .i64 0] 3)).alloc (.cells #[.slice none 0 0] 31)
theorem wm_facts (v : World) : One (WM v) v.heap.size 3 (.int .i64 0) ∧ One (WM v) (v.heap.size + 1) 3 (.int .i64 0) ∧ One (WM v) (v.heap.size + 1 + 1) 31 (.slice none 0 0) ∧ (WM v).heap.size = v.heap.size + 1 + 1 + 1 ∧ Fr F0 v (WM v) := by
  refine ⟨alloc_old (alloc_old (heap_alloc_new _ _)), alloc_old ?_, ?_, by unfold WM; rw [size_alloc, size_alloc, size_alloc], (((Fr.refl _ _).alloc _).alloc _).alloc _⟩
  · have h := heap_alloc_new (v.alloc (.cells #[.int .i64 0] 3)) (.cells #[.int .i64 0] 3)
    rwa [size_alloc] at h
  · have h := heap_alloc_new ((v.alloc (.cells #[.int .i64 0] 3)).alloc (.cells #[.int .i64 0] 3)) (.cells #[.slice none 0 0] 31)
    rwa [size_alloc, size_alloc] at h
theorem round_facts {w wo v : World} {g b6 n m : Nat} {an : Option Addr} {nn : Nat} {L : List (List Int)} {hs : List Value} (O : OL w wo g b6 n (m + 1) an nn L hs) (hn : n ≤ 32) (hmn : m < n) (F1 : Fr F0 wo v) :
    MC (WM v) w.heap.size (g + 1 + 1) b6 v.heap.size (v.heap.size + 1) (v.heap.size + 1 + 1) (g + 1) g n m hs ∧ MS (WM v) w.heap.size v.heap.size (v.heap.size + 1) (v.heap.size + 1 + 1) g n m hs none 0 none 0 [] (WM v) := by
  obtain ⟨c9, c10, c11, hsz, FW⟩ := wm_facts v
  have F := F1.trans0 FW
  have s1 := F1.size
  have s2 := O.k4.lt
  have s3 := O.k6.lt
  have hg := O.wg
  have e : (((m + 1 : Nat) : Int) - 1) = (m : Int) := by omega
  have k6 := O.k6
  rw [e] at k6
  refine ⟨⟨O.k4.fr F id, k6.fr F id, (F.block (g + 1) (by omega) id).trans O.kg, hmn, hn, O.hd.len, hg, Nat.le_trans O.fr.size (by omega), ⟨by omega, by omega, Nat.ne_of_gt (by omega), by omega, Nat.ne_of_gt (by omega), Nat.ne_of_gt (by omega)⟩, ?_, ?_, ?_⟩,
    ⟨c9, c10, c11, by omega, by omega, by omega, by omega, Own.nil _ _ _, OwnZ.nil _ _ _ _, ?_, none_apart _, Fr.refl _ _⟩⟩
  · intro h
    have h' : g + 1 + 1 = v.heap.size ∨ g + 1 + 1 = v.heap.size + 1 ∨ g + 1 + 1 = v.heap.size + 1 + 1 ∨ g + 1 + 1 = g := h
    have := O.b6g
    omega
  · intro h
    have h' : b6 = v.heap.size ∨ b6 = v.heap.size + 1 ∨ b6 = v.heap.size + 1 + 1 ∨ b6 = g := h
    have := O.b6g
    omega
  · intro h
    have h' : g + 1 = v.heap.size ∨ g + 1 = v.heap.size + 1 ∨ g + 1 = v.heap.size + 1 + 1 ∨ g + 1 = g := h
    have := O.b6g
    omega
  · have h := O.hd.fr0 F
    have e2 : hs.set m (.slice none 0 0) = hs := by
      apply List.ext_getElem?
      intro j
      rw [List.getElem?_set]
      split
      · rename_i h2; subst h2
        split
        · exact (O.lo m (by omega)).symm
        · rename_i h3; rw [List.getElem?_eq_none (by omega)]
      · rfl
    show Own _ _ _ _ _ _ (hs.set m (.slice none 0 0))
    rw [e2]
    exact h

end Go.Proofs.Ytglonedhcljdoaa
