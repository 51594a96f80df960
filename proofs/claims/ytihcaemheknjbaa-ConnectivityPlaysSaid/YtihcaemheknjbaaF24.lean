/- The search for bridges: its state, and the visit. -/
import Derived.Test.YtihcaemheknjbaaF13
import Derived.Test.YtihcaemheknjbaaF17
import Derived.Test.YtihcaemheknjbaaComAll
import Derived.BigQuiet
namespace Go.Proofs.Ytihcaemheknjbaa
open Go.RowKit
attribute [local go_sem ↓] Go.wp_at_zero Go.wp_at_succ
/-- Numbers, low numbers, how many were met, bridges. -/
structure DS where
  num : List Nat
  low : List Nat
  met : Nat
  br : List Nat
def oth (X : List Ed) (i v : Nat) : Nat := match X[i]? with
  | some e => e.1 + e.2 - v
  | none => 0
def startD (v : Nat) (s : DS) : DS := ⟨s.num.set v (s.met + 1), s.low.set v (s.met + 1), s.met + 1, s.br⟩
def backD (v w : Nat) (s : DS) : DS := ⟨s.num, s.low.set v (min (s.low.getD v 0) (s.num.getD w 0)), s.met, s.br⟩
def lowD (v w : Nat) (s : DS) : DS := ⟨s.num, s.low.set v (min (s.low.getD v 0) (s.low.getD w 0)), s.met, s.br⟩
def addD (i : Nat) (s : DS) : DS := ⟨s.num, s.low, s.met, s.br ++ [i]⟩
def treeD (v w i : Nat) (s : DS) : DS := if (lowD v w s).num.getD v 0 < (lowD v w s).low.getD w 0 then addD i (lowD v w s) else lowD v w s
/-- What the loop of a visit does, with the visits inside. -/
inductive Lp (X : List Ed) (adj : Nat → List Nat) : Nat → Int → List Nat → DS → DS → Prop
  | nil {v : Nat} {th : Int} {s : DS} : Lp X adj v th [] s s
  | skip {v i : Nat} {th : Int} {is : List Nat} {s s' : DS} : (i : Int) = th → Lp X adj v th is s s' → Lp X adj v th (i :: is) s s'
  | back {v i : Nat} {th : Int} {is : List Nat} {s s' : DS} : (i : Int) ≠ th → 0 < s.num.getD (oth X i v) 0 → Lp X adj v th is (backD v (oth X i v) s) s' → Lp X adj v th (i :: is) s s'
  | tree {v i : Nat} {th : Int} {is : List Nat} {s s2 s' : DS} : (i : Int) ≠ th → s.num.getD (oth X i v) 0 = 0 → Lp X adj (oth X i v) i (adj (oth X i v)) (startD (oth X i v) s) s2 → Lp X adj v th is (treeD v (oth X i v) i s2) s' → Lp X adj v th (i :: is) s s'
def zer (s : DS) : Nat := s.num.count 0
/-- The edges at each vertex. -/
structure Adj (n : Nat) (X : List Ed) (adj : Nat → List Nat) : Prop where
  lt : ∀ e ∈ X, e.1 < n ∧ e.2 < n
  at_ : ∀ v i, i ∈ adj v → ∃ e, X[i]? = some e ∧ (e.1 = v ∨ e.2 = v)
  all : ∀ i e, X[i]? = some e → i ∈ adj e.1 ∧ i ∈ adj e.2
  nd : ∀ v, (adj v).Nodup
theorem Adj.oth {n : Nat} {X : List Ed} {adj : Nat → List Nat} (h : Adj n X adj) {v i : Nat} (hi : i ∈ adj v) : ∃ e, X[i]? = some e ∧ oth X i v < n ∧ ((e.1 = v ∧ e.2 = oth X i v) ∨ (e.2 = v ∧ e.1 = oth X i v)) ∧ e.1 + e.2 = v + oth X i v := by
  obtain ⟨e, he, hd⟩ := h.at_ v i hi
  have := h.lt e (List.mem_of_getElem? he)
  refine ⟨e, he, ?_⟩
  unfold Go.Proofs.Ytihcaemheknjbaa.oth
  rw [he]
  dsimp only
  rcases hd with rfl | rfl <;> omega
/-- Lengths, and that the numbers are in use. -/
structure DOk (n : Nat) (s : DS) : Prop where
  ln : s.num.length = n
  ll : s.low.length = n
  mz : s.met + zer s ≤ n
theorem count_set {l : List Nat} {i x : Nat} (hi : l[i]? = some 0) (hx : x ≠ 0) : (l.set i x).count 0 + 1 = l.count 0 := by
  induction l generalizing i with
  | nil => cases hi
  | cons y l ih =>
    cases i with
    | zero =>
      simp at hi; subst hi
      rw [List.set_cons_zero, List.count_cons, List.count_cons]
      simp [hx]
    | succ i =>
      have := ih (i := i) (by simpa using hi)
      rw [List.set_cons_succ, List.count_cons, List.count_cons]
      omega
theorem getD0 {l : List Nat} {i n : Nat} (hl : l.length = n) (hi : i < n) : l[i]? = some (l.getD i 0) := by rw [List.getD_eq_getElem?_getD, List.getElem?_eq_getElem (by omega)]; rfl
theorem DOk.start {n v : Nat} {s : DS} (h : DOk n s) (hv : v < n) (h0 : s.num.getD v 0 = 0) : DOk n (startD v s) ∧ zer (startD v s) + 1 = zer s := by
  have h1 := getD0 h.ln hv
  rw [h0] at h1
  have h2 : zer (startD v s) + 1 = zer s := count_set h1 (by omega)
  refine ⟨⟨by show (s.num.set _ _).length = n; rw [List.length_set]; exact h.ln, by show (s.low.set _ _).length = n; rw [List.length_set]; exact h.ll, ?_⟩, h2⟩
  have := h.mz
  show s.met + 1 + zer (startD v s) ≤ n
  omega
theorem DOk.back {n v w : Nat} {s : DS} (h : DOk n s) : DOk n (backD v w s) := ⟨h.ln, by show (s.low.set _ _).length = n; rw [List.length_set]; exact h.ll, h.mz⟩
theorem DOk.lowr {n v w : Nat} {s : DS} (h : DOk n s) : DOk n (lowD v w s) := ⟨h.ln, by show (s.low.set _ _).length = n; rw [List.length_set]; exact h.ll, h.mz⟩
theorem DOk.tree {n v w i : Nat} {s : DS} (h : DOk n s) : DOk n (treeD v w i s) := by
  unfold treeD
  split
  · exact ⟨(h.lowr (v := v) (w := w)).ln, (h.lowr (v := v) (w := w)).ll, (h.lowr (v := v) (w := w)).mz⟩
  · exact h.lowr
theorem treeD_num (v w i : Nat) (s : DS) : (treeD v w i s).num = s.num := by unfold treeD; split <;> rfl
theorem Lp.ok {n : Nat} {X : List Ed} {adj : Nat → List Nat} (hA : Adj n X adj) {v : Nat} {th : Int} {is : List Nat} {s s' : DS} (h : Lp X adj v th is s s') : (∀ i ∈ is, i ∈ adj v) → DOk n s → DOk n s' ∧ zer s' ≤ zer s := by
  induction h with
  | nil => exact fun _ h => ⟨h, Nat.le_refl _⟩
  | skip _ _ ih => exact fun hi h => ih (fun i hh => hi i (List.mem_cons_of_mem _ hh)) h
  | back _ _ _ ih => exact fun hi h => ih (fun i hh => hi i (List.mem_cons_of_mem _ hh)) h.back
  | @tree v i th is s s2 s' _ h0 _ _ ih1 ih2 =>
    intro hi h
    obtain ⟨e, _, hlt, _⟩ := hA.oth (hi i (by simp))
    obtain ⟨g1, g2⟩ := h.start hlt h0
    obtain ⟨g3, g4⟩ := ih1 (fun _ h => h) g1
    obtain ⟨g5, g6⟩ := ih2 (fun i hh => hi i (List.mem_cons_of_mem _ hh)) g3.tree
    refine ⟨g5, ?_⟩
    have : zer (treeD v (Go.Proofs.Ytihcaemheknjbaa.oth X i v) i s2) = zer s2 := by unfold zer; rw [treeD_num]
    omega
/-- What lies in memory. Colours: 0 what is only read, 1 the search, 2 numbers, 3 low numbers, 4 bridges. -/
structure SS (w : World) (col : Nat → Nat) (x n m : Nat) (aX : Option Addr) (cX : Nat) (aG : Option Addr) (cG gN cN gL cL : Nat) (X : List Ed) (adj : Nat → List Nat) (D : DS) (aB : Option Addr) (cB : Nat) : Prop where
  bk : Blk w x 101 [.slice aX m cX, .slice aG n cG, .slice (some ⟨gN, 0, none⟩) n cN, .slice (some ⟨gL, 0, none⟩) n cL, .int .i64 (D.met : Int), .slice aB D.br.length cB]
  on : Own w 0 3 (some ⟨gN, 0, none⟩) n cN (nv D.num)
  ol : Own w 0 3 (some ⟨gL, 0, none⟩) n cL (nv D.low)
  ob : Own w 0 3 aB D.br.length cB (nv D.br)
  ex : RdZ w 2 aX m (eds X)
  eg : ∀ v, v < n → ∃ b o ar cr, aG = some ⟨b, o, none⟩ ∧ w.cell? ⟨b, o + v, none⟩ = some (.slice ar (adj v).length cr) ∧ Rd w ar (adj v).length (nv (adj v)) ∧ (0 < (adj v).length → ∀ k, onBlk ar k → col k = 0 ∧ k < w.heap.size)
  kx : col x = 1
  kN : col gN = 2
  kL : col gL = 3
  kB : ∀ k, onBlk aB k → col k = 4
  kX : 0 < m → ∀ k, onBlk aX k → col k = 0 ∧ k < w.heap.size
  kG : 0 < n → ∀ k, onBlk aG k → col k = 0 ∧ k < w.heap.size
def Mw (col : Nat → Nat) (k : Nat) : Prop := 1 ≤ col k ∧ col k ≤ 4
structure Gw (col col' : Nat → Nat) (w w' : World) : Prop where
  fr : Fr (Mw col) w w'
  eq : ∀ k, k < w.heap.size → col' k = col k
theorem Gw.refl (col : Nat → Nat) (w : World) : Gw col col w w := ⟨Fr.refl _ _, fun _ _ => rfl⟩
theorem Gw.trans {c1 c2 c3 : Nat → Nat} {w1 w2 w3 : World} (h : Gw c1 c2 w1 w2) (g : Gw c2 c3 w2 w3) : Gw c1 c3 w1 w3 :=
  ⟨h.fr.trans g.fr (fun k hk hm => by unfold Mw at hm ⊢; rw [h.eq k hk] at hm; exact hm), fun k hk => (g.eq k (Nat.lt_of_lt_of_le hk h.fr.size)).trans (h.eq k hk)⟩
theorem Gw.fr0 {c1 c2 : Nat → Nat} {w1 w2 w3 : World} (h : Gw c1 c2 w1 w2) (g : Fr F0 w2 w3) : Gw c1 c2 w1 w3 := ⟨h.fr.trans0 g, h.eq⟩
section
variable {w w' : World} {col : Nat → Nat} {x n m : Nat} {aX : Option Addr} {cX : Nat} {aG : Option Addr} {cG gN cN gL cL : Nat} {X : List Ed} {adj : Nat → List Nat} {D : DS} {aB : Option Addr} {cB : Nat}
theorem Rd.frc {S : Nat → Prop} {a : Option Addr} {n : Nat} {vs : List Value} (h : Rd w a n vs) (f : Fr S w w') (hS : 0 < n → ∀ k, onBlk a k → ¬ S k) : Rd w' a n vs :=
  ⟨h.len, h.max, fun hn => by
    obtain ⟨b, o, rfl, hc⟩ := h.cells hn
    exact ⟨b, o, rfl, fun i u hu => f.cell (hc i u hu) (hS hn b ((onBlk_some _ _ _ _).2 rfl))⟩⟩
theorem RdZ.frc {S : Nat → Prop} {s : Nat} {a : Option Addr} {n : Nat} {vs : List Value} (h : RdZ w s a n vs) (f : Fr S w w') (hS : 0 < n → ∀ k, onBlk a k → ¬ S k) : RdZ w' s a n vs :=
  ⟨h.len, h.max, fun hn => by
    obtain ⟨b, o, rfl, hc⟩ := h.cells hn
    exact ⟨b, o, rfl, fun i u hu => f.cell (hc i u hu) (hS hn b ((onBlk_some _ _ _ _).2 rfl))⟩⟩
/-- What is only read stays. -/
theorem SS.ro {S : Nat → Prop} (h : SS w col x n m aX cX aG cG gN cN gL cL X adj D aB cB) (f : Fr S w w') (hS : ∀ k, S k → col k ≠ 0) : RdZ w' 2 aX m (eds X) ∧ (∀ v, v < n → ∃ b o ar cr, aG = some ⟨b, o, none⟩ ∧ w'.cell? ⟨b, o + v, none⟩ = some (.slice ar (adj v).length cr) ∧ Rd w' ar (adj v).length (nv (adj v)) ∧ (0 < (adj v).length → ∀ k, onBlk ar k → col k = 0 ∧ k < w'.heap.size)) ∧ (0 < m → ∀ k, onBlk aX k → col k = 0 ∧ k < w'.heap.size) ∧ (0 < n → ∀ k, onBlk aG k → col k = 0 ∧ k < w'.heap.size) := by
  refine ⟨h.ex.frc f (fun h0 k hk hs => hS k hs (h.kX h0 k hk).1), fun v hv => ?_, fun h0 k hk => ⟨(h.kX h0 k hk).1, Nat.lt_of_lt_of_le (h.kX h0 k hk).2 f.size⟩, fun h0 k hk => ⟨(h.kG h0 k hk).1, Nat.lt_of_lt_of_le (h.kG h0 k hk).2 f.size⟩⟩
  obtain ⟨b, o, ar, cr, ha, hc, hr, hk⟩ := h.eg v hv
  exact ⟨b, o, ar, cr, ha, f.cell hc (fun hs => hS b hs (h.kG (by omega) b (ha ▸ (onBlk_some b o b none).2 rfl)).1), hr.frc f (fun h0 k hk' hs => hS k hs (hk h0 k hk').1), fun h0 k hk' => ⟨(hk h0 k hk').1, Nat.lt_of_lt_of_le (hk h0 k hk').2 f.size⟩⟩
theorem SS.fr0 (h : SS w col x n m aX cX aG cG gN cN gL cL X adj D aB cB) (f : Fr F0 w w') : SS w' col x n m aX cX aG cG gN cN gL cL X adj D aB cB := by
  obtain ⟨r1, r2, r3, r4⟩ := h.ro f (fun _ h => h.elim)
  exact ⟨h.bk.fr f id, h.on.fr0 f, h.ol.fr0 f, h.ob.fr0 f, r1, r2, h.kx, h.kN, h.kL, h.kB, r3, r4⟩
theorem SS.ne (h : SS w col x n m aX cX aG cG gN cN gL cL X adj D aB cB) : x ≠ gN ∧ x ≠ gL ∧ gN ≠ gL := ⟨fun e => by have := h.kx; rw [e, h.kN] at this; omega, fun e => by have := h.kx; rw [e, h.kL] at this; omega, fun e => by have := h.kN; rw [e, h.kL] at this; omega⟩
theorem SS.setN (h : SS w col x n m aX cX aG cG gN cN gL cL X adj D aB cB) (v k : Nat) : SS (w.setCell ⟨gN, v, none⟩ (.int .i64 (k : Int))) col x n m aX cX aG cG gN cN gL cL X adj { D with num := D.num.set v k } aB cB ∧ Gw col col w (w.setCell ⟨gN, v, none⟩ (.int .i64 (k : Int))) := by
  have F : Fr (onB gN) w (w.setCell ⟨gN, v, none⟩ (.int .i64 (k : Int))) := (Fr.refl _ _).setB v _
  have hS : ∀ k, onB gN k → col k ≠ 0 := fun k (e : k = gN) => by rw [e, h.kN]; decide
  obtain ⟨r1, r2, r3, r4⟩ := h.ro F hS
  obtain ⟨n1, n2, n3⟩ := h.ne
  refine ⟨⟨h.bk.fr F (fun (e : x = gN) => n1 e), by have := h.on.set (i := v) (.int .i64 (k : Int)); rwa [nv_set] at this, h.ol.fr F (fun j hj (e : j = gN) => n3 (((onBlk_some _ _ _ _).1 hj).symm.trans e).symm), h.ob.fr F (fun j hj (e : j = gN) => by have := h.kB j hj; rw [e, h.kN] at this; omega), r1, r2, h.kx, h.kN, h.kL, h.kB, r3, r4⟩, F.mono (fun j _ (e : j = gN) => by unfold Mw; rw [e, h.kN]; decide), fun _ _ => rfl⟩
theorem SS.setL (h : SS w col x n m aX cX aG cG gN cN gL cL X adj D aB cB) (v k : Nat) : SS (w.setCell ⟨gL, v, none⟩ (.int .i64 (k : Int))) col x n m aX cX aG cG gN cN gL cL X adj { D with low := D.low.set v k } aB cB ∧ Gw col col w (w.setCell ⟨gL, v, none⟩ (.int .i64 (k : Int))) := by
  have F : Fr (onB gL) w (w.setCell ⟨gL, v, none⟩ (.int .i64 (k : Int))) := (Fr.refl _ _).setB v _
  have hS : ∀ k, onB gL k → col k ≠ 0 := fun k (e : k = gL) => by rw [e, h.kL]; decide
  obtain ⟨r1, r2, r3, r4⟩ := h.ro F hS
  obtain ⟨n1, n2, n3⟩ := h.ne
  refine ⟨⟨h.bk.fr F (fun (e : x = gL) => n2 e), h.on.fr F (fun j hj (e : j = gL) => n3 (((onBlk_some _ _ _ _).1 hj).symm.trans e)), by have := h.ol.set (i := v) (.int .i64 (k : Int)); rwa [nv_set] at this, h.ob.fr F (fun j hj (e : j = gL) => by have := h.kB j hj; rw [e, h.kL] at this; omega), r1, r2, h.kx, h.kN, h.kL, h.kB, r3, r4⟩, F.mono (fun j _ (e : j = gL) => by unfold Mw; rw [e, h.kL]; decide), fun _ _ => rfl⟩
theorem SS.setM (h : SS w col x n m aX cX aG cG gN cN gL cL X adj D aB cB) (k : Nat) : SS (w.setCell ⟨x, 4, none⟩ (.int .i64 (k : Int))) col x n m aX cX aG cG gN cN gL cL X adj { D with met := k } aB cB ∧ Gw col col w (w.setCell ⟨x, 4, none⟩ (.int .i64 (k : Int))) := by
  have F : Fr (onB x) w (w.setCell ⟨x, 4, none⟩ (.int .i64 (k : Int))) := (Fr.refl _ _).setB 4 _
  have hS : ∀ k, onB x k → col k ≠ 0 := fun k (e : k = x) => by rw [e, h.kx]; decide
  obtain ⟨r1, r2, r3, r4⟩ := h.ro F hS
  obtain ⟨n1, n2, n3⟩ := h.ne
  refine ⟨⟨h.bk.set 4 _, h.on.fr F (fun j hj (e : j = x) => n1 (((onBlk_some _ _ _ _).1 hj).symm.trans e).symm), h.ol.fr F (fun j hj (e : j = x) => n2 (((onBlk_some _ _ _ _).1 hj).symm.trans e).symm), h.ob.fr F (fun j hj (e : j = x) => by have := h.kB j hj; rw [e, h.kx] at this; omega), r1, r2, h.kx, h.kN, h.kL, h.kB, r3, r4⟩, F.mono (fun j _ (e : j = x) => by unfold Mw; rw [e, h.kx]; decide), fun _ _ => rfl⟩
/-- A bridge more. -/
theorem SS.add (h : SS w col x n m aX cX aG cG gN cN gL cL X adj D aB cB) {aB' : Option Addr} {cB' i : Nat} (own' : Own w' 0 3 aB' (D.br.length + 1) cB' (nv D.br ++ [.int .i64 (i : Int)])) (F : Fr (onBlk aB) w w') (at' : ∀ k, onBlk aB' k → onBlk aB k ∨ w.heap.size ≤ k) :
    SS (w'.setCell ⟨x, 5, none⟩ (.slice aB' (D.br.length + 1) cB')) (recol col w 4) x n m aX cX aG cG gN cN gL cL X adj (addD i D) aB' cB' ∧ Gw col (recol col w 4) w (w'.setCell ⟨x, 5, none⟩ (.slice aB' (D.br.length + 1) cB')) := by
  have nB : ∀ k, col k ≠ 4 → ¬ onBlk aB k := fun k hk hb => hk (h.kB k hb)
  have F2 : Fr (onB x) w' (w'.setCell ⟨x, 5, none⟩ (.slice aB' (D.br.length + 1) cB')) := (Fr.refl _ _).setB 5 _
  have FF : Fr (fun k => onBlk aB k ∨ k = x) w (w'.setCell ⟨x, 5, none⟩ (.slice aB' (D.br.length + 1) cB')) := (F.mono (fun _ _ h => .inl h)).trans F2 (fun _ _ h => .inr h)
  obtain ⟨r1, r2, r3, r4⟩ := h.ro FF (fun k hk => by rcases hk with hk | rfl; · rw [h.kB k hk]; decide
                                                     · rw [h.kx]; decide)
  have hl : (D.br ++ [i]).length = D.br.length + 1 := by simp
  have ltN := (h.on.blk gN (on1 gN)).2
  have ltL := (h.ol.blk gL (on1 gL)).2
  obtain ⟨n1, n2, n3⟩ := h.ne
  refine ⟨⟨?_, (h.on.fr F (fun j hj => nB j (by rw [(onBlk_some _ _ _ _).1 hj, h.kN]; decide))).fr F2 (fun j hj (e : j = x) => n1 (((onBlk_some _ _ _ _).1 hj).symm.trans e).symm), (h.ol.fr F (fun j hj => nB j (by rw [(onBlk_some _ _ _ _).1 hj, h.kL]; decide))).fr F2 (fun j hj (e : j = x) => n2 (((onBlk_some _ _ _ _).1 hj).symm.trans e).symm), ?_, r1, ?_, by rw [recol_old h.bk.lt]; exact h.kx, by rw [recol_old ltN]; exact h.kN, by rw [recol_old ltL]; exact h.kL, ?_, ?_, ?_⟩, FF.mono (fun k _ hk => ?_), fun k hk => recol_old hk⟩
  · show Blk _ x 101 [_, _, _, _, _, .slice aB' (D.br ++ [i]).length cB']
    rw [hl]; exact (h.bk.fr F (nB x (by rw [h.kx]; decide))).set 5 _
  · show Own _ 0 3 aB' (D.br ++ [i]).length cB' (nv (D.br ++ [i]))
    rw [hl, nv_app]
    exact own'.fr F2 (fun j hj (e : j = x) => (at' j hj).elim (fun h1 => by have := h.kB j h1; rw [e, h.kx] at this; omega) (fun h1 => by have := h.bk.lt; omega))
  · intro v hv
    obtain ⟨b, o, ar, cr, ha, hc, hr, hk⟩ := r2 v hv
    refine ⟨b, o, ar, cr, ha, hc, hr, fun h0 k hk' => ⟨?_, (hk h0 k hk').2⟩⟩
    obtain ⟨b0, o0, ar0, cr0, ha0, hc0, hr0, hk0⟩ := h.eg v hv
    have e1 : ar = ar0 := by
      rw [ha] at ha0; injection ha0 with ha0; injection ha0 with q1 q2
      subst q1; subst q2
      have := FF.cell hc0 (fun hs => by
        have hcol := (h.kG (by omega) b (ha ▸ (onBlk_some b o b none).2 rfl)).1
        rcases hs with hs | hs
        · have := h.kB b hs; omega
        · rw [show b = x from hs, h.kx] at hcol; omega)
      rw [hc] at this; injection this with this; injection this
    subst e1
    rw [recol_old (hk0 h0 k hk').2]; exact (hk0 h0 k hk').1
  · intro k hk
    rcases at' k hk with h1 | h1
    · rw [recol_old (h.ob.blk k h1).2]; exact h.kB k h1
    · exact recol_new h1
  · intro h0 k hk; rw [recol_old (h.kX h0 k hk).2]; exact ⟨(h.kX h0 k hk).1, (r3 h0 k hk).2⟩
  · intro h0 k hk; rw [recol_old (h.kG h0 k hk).2]; exact ⟨(h.kG h0 k hk).1, (r4 h0 k hk).2⟩
  · rcases hk with hk | rfl
    · unfold Mw; rw [h.kB k hk]; decide
    · unfold Mw; rw [h.kx]; decide
end
end Go.Proofs.Ytihcaemheknjbaa
