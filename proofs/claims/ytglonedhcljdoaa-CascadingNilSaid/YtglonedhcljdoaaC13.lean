/- Search. -/
import Derived.Test.YtglonedhcljdoaaC12
import Derived.ScopeJumps
namespace Go.Proofs.Ytglonedhcljdoaa
open Go.RowKit
attribute [local go_sem ↓] Go.wp_at_zero Go.wp_at_succ

theorem IxR.frx {B : Nat} {w w' : World} {x : Nat} {L : List (List Int)} {cmp c' : Int} {g : Nat} {hs : List Value} (h : IxR B w x L cmp g hs) (f : Fr (onB x) w w')
    (hx : w'.heap[x]? = some (.cells #[.slice (some ⟨g, 0, none⟩) L.length L.length, .int .i64 c'] 46 (0, 0))) : IxR B w' x L c' g hs :=
  ⟨hx, h.rd.fr f (fun k hk e => h.gx (((onBlk_some _ _ _ _).1 hk).symm.trans e)), h.bx, h.bg, h.gx, fun j hj => by
    obtain ⟨ra, rc, h1, h2, h3, h4⟩ := h.row j hj
    exact ⟨ra, rc, h1, h2.fr f (fun k hk e => (h3 k hk).2 e), h3, h4⟩⟩
/-- What Search leaves. -/
def SrPost (B : Nat) (L : List (List Int)) (key : Int) (x g : Nat) (hs : List Value) (w : World) (e : Ending) (w' : World) : Prop :=
  ∃ (a : Option Addr) (c : Nat) (cmp : Int), e = .returned (.tuple #[.slice a L.length c, .int .i64 0]) ∧ Rd w' a L.length (ints (L.map (rk · key))) ∧ IxR B w' x L cmp g hs ∧ 0 ≤ cmp ∧
    (∀ K : Nat, (kx L 0).length + 1 ≤ 2 ^ K → cmp + 1 ≤ (K : Int) + L.length) ∧ (∀ k, onBlk a k → w.heap.size ≤ k) ∧ Fr (onB x) w w'
/-- Behind the preamble. -/
theorem start12 {B : Nat} {w : World} {x : Nat} {L : List (List Int)} {cmp : Int} {g : Nat} {hs : List Value} (h : IxR B w x L cmp g hs) (key : Int) :
    let W := ((w.setCell ⟨x, 1, none⟩ (.int .i64 0)).alloc (.cells #[.pointer (some ⟨x, 0, none⟩)] 25)).alloc (.cells #[.int .i64 key] 3)
    IxR B W x L 0 g hs ∧ One W w.heap.size 25 (.pointer (some ⟨x, 0, none⟩)) ∧ One W (w.heap.size + 1) 3 (.int .i64 key) ∧ Fr (onB x) w W ∧ W.heap.size = w.heap.size + 1 + 1 := by
  have hlt := lt_of_block h.kx
  have F2 : Fr (onB x) w (w.setCell ⟨x, 1, none⟩ (.int .i64 0)) := (Fr.refl _ _).setB 1 _
  have e2 : (w.setCell ⟨x, 1, none⟩ (.int .i64 0)).heap.size = w.heap.size := by simp
  have k2 := h.frx (c' := 0) F2 (by have := heap_setCell_same (i := 1) h.kx (.int .i64 0); simpa using this)
  generalize w.setCell ⟨x, 1, none⟩ (.int .i64 0) = w2 at *
  have F1 : Fr F0 w2 ((w2.alloc (.cells #[.pointer (some ⟨x, 0, none⟩)] 25)).alloc (.cells #[.int .i64 key] 3)) := ((Fr.refl _ _).alloc _).alloc _
  rw [← e2]
  refine ⟨k2.fr F1, alloc_old (heap_alloc_new _ _), ?_, F2.trans0 F1, by simp⟩
  have h := heap_alloc_new (w2.alloc (.cells #[.pointer (some ⟨x, 0, none⟩)] 25)) (.cells #[.int .i64 key] 3)
  rwa [size_alloc] at h

/-- What stands while Search runs. -/
structure SC (B : Nat) (L : List (List Int)) (key : Int) (x g : Nat) (hs : List Value) (w wr : World) (q : Nat) (a : Option Addr) (u c : Nat) (cmp : Nat) : Prop where
  ix : IxR B wr x L cmp g hs
  o2 : One wr w.heap.size 25 (.pointer (some ⟨x, 0, none⟩))
  o3 : One wr (w.heap.size + 1) 3 (.int .i64 key)
  fr : Fr (onB x) w wr
  sz : w.heap.size + 2 ≤ wr.heap.size
  out : Own wr (w.heap.size + 2) 3 a u c (ints ((L.take q).map (rk · key)))
structure SL (B : Nat) (L : List (List Int)) (key : Int) (x g : Nat) (hs : List Value) (w wr : World) (q : Nat) (a : Option Addr) (u c : Nat) (at_ cmp : Nat) : Prop where
  sc : SC B L key x g hs w wr q a u c cmp
  at' : 0 < q → at_ = 2 * (rk (kx L q) key / 2)
  cm : 0 < q → ∀ K : Nat, (kx L 0).length + 1 ≤ 2 ^ K → cmp + 1 ≤ K + q
  c0 : q = 0 → cmp = 0
structure SJ (B : Nat) (L : List (List Int)) (key : Int) (x g : Nat) (hs : List Value) (w wr : World) (q : Nat) (a : Option Addr) (u c : Nat) (kn lo hi cmp : Nat) : Prop where
  sc : SC B L key x g hs w wr q a u c cmp
  lo_le : lo ≤ rk (kx L q) key
  le_hi : rk (kx L q) key ≤ hi
  cnt : ∀ K : Nat, kn + 1 ≤ 2 ^ K → ∃ j, hi - lo + 1 ≤ 2 ^ j ∧ cmp + j ≤ K
theorem IxR.rowAt {B : Nat} {w : World} {x : Nat} {L : List (List Int)} {cmp : Int} {g : Nat} {hs : List Value} (h : IxR B w x L cmp g hs) {q n rc : Nat} {ra : Option Addr} (hq : q < L.length) (h1 : hs[q]? = some (.slice ra n rc)) :
    RdZ w 3 ra ((kq L q).length + 1) (tri (entL (kq L q))) ∧ (∀ k, onBlk ra k → B ≤ k ∧ k ≠ x) := by
  obtain ⟨ra', rc', e1, e2, e3, _⟩ := h.row q hq
  rw [h1] at e1
  injection e1 with e1
  injection e1 with e1 _ _
  subst e1
  exact ⟨e2, e3⟩
theorem RdZ.lt {w : World} {s : Nat} {a : Option Addr} {n : Nat} {vs : List Value} (h : RdZ w s a n vs) (hn : 0 < n) (hs : 0 < s) : ∀ k, onBlk a k → k < w.heap.size := by
  intro k hk
  obtain ⟨b, o, rfl, hc⟩ := h.cells hn
  have := (onBlk_some _ _ _ _).1 hk
  subst this
  have h1 := h.len
  have h2 : 0 < vs.length := by rw [h1]; exact Nat.mul_pos hn hs
  exact World.block_lt_of_cell? _ _ (hc 0 (vs[0]'h2) (by simp))
theorem IxR.frS {B : Nat} {w wc w' : World} {x : Nat} {L : List (List Int)} {cmp0 cmp : Int} {g : Nat} {hs : List Value} (h0 : IxR B w x L cmp0 g hs) (h : IxR B wc x L cmp g hs) (hn : 0 < L.length) {S : Nat → Prop}
    (f : Fr S wc w') (hS : ∀ k, k < w.heap.size → ¬ S k) : IxR B w' x L cmp g hs :=
  ⟨(f.block x (lt_of_block h.kx) (hS x (lt_of_block h0.kx))).trans h.kx, h.rd.fr f (fun k hk => hS k (h0.rd.lt hn k hk)), h.bx, h.bg, h.gx, fun j hj => by
    obtain ⟨ra, rc, h1, h2, h3, h4⟩ := h.row j hj
    exact ⟨ra, rc, h1, h2.fr f (fun k hk => hS k ((h0.rowAt hj h1).1.lt (by omega) (by omega) k hk)), h3, h4⟩⟩
section
variable {B : Nat} {L : List (List Int)} {key : Int} {x g : Nat} {hs : List Value} {w wr w2 : World} {q : Nat} {a : Option Addr} {u c cmp : Nat}
theorem SC.step (h : SC B L key x g hs w wr q a u c cmp) (hx : x < w.heap.size) {r : Bool} {e : Ending} (h2 : S1Post wr x (.slice (some ⟨g, 0, none⟩) L.length L.length) cmp r e w2) : SC B L key x g hs w w2 q a u c (cmp + 1) := by
  obtain ⟨_, F, hx2⟩ := h2
  have hb := h.out.blk
  exact ⟨h.ix.frx F hx2, h.o2.fr F (fun e => by have : w.heap.size = x := e; omega), h.o3.fr F (fun e => by have : w.heap.size + 1 = x := e; omega), h.fr.trans F (fun _ _ h => h), by have := F.size; have := h.sz; omega,
    h.out.fr F (fun k hk e => by have : k = x := e; have := (hb k hk).1; omega)⟩
theorem SC.call (h : SC B L key x g hs w wr q a u c cmp) (hx : x < w.heap.size) (hc : cmp ≤ 1000000) {ra : Option Addr} {rc : Nat} (hq : q < L.length) {kn : Nat} (hkn : kn = (kq L q).length) (h1 : hs[q]? = some (.slice ra (kn + 1) rc)) {i : Nat} (hi : i < kn)
    {r : Bool} (hr : decide ((kx L q).getD i 0 < key) = r) {z : Int} (hz : (i : Int) = z) :
    Calls Try.prog 30 #[.slice ra (kn + 1) rc, .int .i64 z, .pointer (some ⟨w.heap.size, 0, none⟩), .pointer (some ⟨w.heap.size + 1, 0, none⟩)] wr (S1Post wr x (.slice (some ⟨g, 0, none⟩) L.length L.length) cmp r) := by
  subst hkn
  subst hz
  obtain ⟨k, he, hk⟩ := entL_get (kq L q) (i := i) (by omega)
  have hk' := hk hi
  rw [← kx_kq] at hk'
  obtain ⟨e2, e3⟩ := h.ix.rowAt hq h1
  have := Search1_any ra ((kq L q).length + 1) rc i _ _ w.heap.size (w.heap.size + 1) x _ key cmp wr e2 he h.o2 h.o3 h.ix.kx (by omega) (by omega) ⟨by omega, by omega⟩ (fun k hk => (e3 k hk).2)
  rw [← hr, ← hk']
  exact this
theorem SC.next (h : SC B L key x g hs w wr q a q c cmp) (h0 : ∃ c0 : Int, IxR B w x L c0 g hs) {l : List Int} (hl : L[q]? = some l) (hC : ∀ K : Nat, (kx L 0).length + 1 ≤ 2 ^ K → cmp ≤ K + q) {a' : Option Addr} {c' vo vt : Nat}
    (own' : Own w2 (w.heap.size + 2) 3 a' (q + 1) c' (ints ((L.take q).map (rk · key)) ++ [.int .i64 vo])) (F : Fr (onBlk a) wr w2) (hvo : vo = rk l key) (hvt : vt = rk (kx L (q + 1)) key / 2) :
    SL B L key x g hs w w2 (q + 1) a' (q + 1) c' (2 * vt) cmp := by
  obtain ⟨c0, h0⟩ := h0
  have hb := h.out.blk
  have hql := (List.getElem?_eq_some_iff.1 hl).1
  have hS : ∀ k, k < w.heap.size + 2 → ¬ onBlk a k := fun k hk hk2 => by have := (hb k hk2).1; omega
  refine ⟨⟨h0.frS h.ix (by omega) F (fun k hk => hS k (by omega)), h.o2.fr F (hS _ (by omega)), h.o3.fr F (hS _ (by omega)), h.fr.trans F (fun k hk e => absurd e (hS k (by omega))), by have := F.size; have := h.sz; omega, ?_⟩, fun _ => by rw [hvt], fun _ K hK => by have := hC K hK; omega, fun h => by omega⟩
  rw [List.take_add_one, hl]
  simp only [Option.toList_some, List.map_append, List.map_cons, List.map_nil, ints]
  rw [← hvo]
  exact own'
theorem SJ.up {kn lo hi : Nat} (h : SJ B L key x g hs w wr q a u c kn lo hi cmp) (hlt : lo < hi) (hhi : hi ≤ kn) (hkn : (kx L q).length = kn) (hA : Asc (kx L q)) (hk : (kx L q).getD ((lo + hi) / 2) 0 < key) (sc : SC B L key x g hs w w2 q a u c (cmp + 1)) :
    SJ B L key x g hs w w2 q a u c kn ((lo + hi) / 2 + 1) hi (cmp + 1) := by
  have h1 := (asc_take hA key ((lo + hi) / 2) (by omega)).1 hk
  refine ⟨sc, h1, h.le_hi, fun K hK => ?_⟩
  obtain ⟨j, h2, h3⟩ := h.cnt K hK
  have h4 := half_pos hlt h2
  obtain ⟨j', rfl⟩ : ∃ j', j = j' + 1 := ⟨j - 1, by omega⟩
  exact ⟨j', (half hlt h2).2, by omega⟩
theorem SJ.down {kn lo hi : Nat} (h : SJ B L key x g hs w wr q a u c kn lo hi cmp) (hlt : lo < hi) (hhi : hi ≤ kn) (hkn : (kx L q).length = kn) (hA : Asc (kx L q)) (hk : ¬ (kx L q).getD ((lo + hi) / 2) 0 < key) (sc : SC B L key x g hs w w2 q a u c (cmp + 1)) :
    SJ B L key x g hs w w2 q a u c kn lo ((lo + hi) / 2) (cmp + 1) := by
  have h1 : ¬ (lo + hi) / 2 < rk (kx L q) key := fun h => hk ((asc_take hA key ((lo + hi) / 2) (by omega)).2 h)
  refine ⟨sc, h.lo_le, by omega, fun K hK => ?_⟩
  obtain ⟨j, h2, h3⟩ := h.cnt K hK
  have h4 := half_pos hlt h2
  obtain ⟨j', rfl⟩ : ∃ j', j = j' + 1 := ⟨j - 1, by omega⟩
  exact ⟨j', (half hlt h2).1, by omega⟩
end
theorem wp_scope_loop {P : Program} {a : Act} {w : World} {Q : Exit → Act → World → Prop} {c y : Code} (l : Nat) (J : Act → World → Prop) (μ : Act → World → Nat) (hf : findLabel c l = some (.seq .skip y))
    (pass : ∀ a w, J a w → y.wp P (Exit.jump l (fun a' w' => J a' w' ∧ μ a' w' < μ a w) Q) a w)
    (first : (∀ a w, J a w → y.wp P (Exit.jump l J Q) a w) → c.wp P (Exit.jump l J Q) a w) : (Code.scope c).wp P Q a w :=
  wp_scope_jumps l J μ hf (first fun a w h => wp_mono (pass a w h) (fun e a' w' hq => by
    cases e with
    | goto l' => exact ⟨hq.1, hq.2.1⟩
    | _ => exact hq)) (fun a w h => wp_seq (wp_skip (pass a w h)))

set_option maxHeartbeats 4000000 in
theorem Search_any {B : Nat} {w : World} {x : Nat} {L : List (List Int)} {cmp : Int} {g : Nat} {hs : List Value} (h : IxR B w x L cmp g hs) (hn : L.length ≤ 32) (hn0 : 0 < L.length) (hlen : ∀ l ∈ L, l.length ≤ 1000)
    (hasc : ∀ l ∈ L, Asc l) (key : Int) :
    Calls Try.prog 12 #[.pointer (some ⟨x, 0, none⟩), .int .i64 key] w (SrPost B L key x g hs w) := by
  obtain ⟨n, hnL⟩ : ∃ n, n = L.length := ⟨_, rfl⟩
  obtain ⟨c0, c1⟩ := h.cells
  obtain ⟨I0, O2, O3, F0w, hsz⟩ := start12 h key
  rw [← hnL] at c0 hn hn0
  have kf : w.frozen? ⟨x, 1, none⟩ = false := by simp [World.frozen?, h.kx]
  have hxl := lt_of_block h.kx
  have H := Lib.hid h
  have HnL := Lib.hid hnL
  have Hlen := Lib.hid hlen
  have Hasc := Lib.hid hasc
  have hI := Lib.hid I0
  have hO2 := Lib.hid O2
  have hO3 := Lib.hid O3
  have hF0 := Lib.hid F0w
  have hSz := Lib.hid hsz
  clear h hlen hnL hasc I0 O2 O3 F0w hsz
  go_enter Try.func12, Try.ntmps12
  go_wp2_with fail
  go_loopw [7, 8, 9, 10, 11, 12, 13, 14, 26] (fun s7 s8 _ _ _ _ _ _ s26 wr => ∃ (q : Nat) (a1 : Option Addr) (e1 at_ cmp : Nat), q ≤ n ∧ s7 = .slice a1 q e1 ∧ s8 = .int .i64 at_ ∧ s26 = .int .i64 q ∧ Hid (SL B L key x g hs w wr q a1 q e1 at_ cmp)) (fun _ _ _ _ _ _ _ _ s26 _ => n - (intOf s26).toNat)
  case atStart => exact ⟨0, none, 0, 0, 0, by omega, rfl, rfl, rfl, Lib.hid ⟨⟨hI.out, hO2.out, hO3.out, hF0.out, by have := hSz.out; omega, Own.nil _ _ _⟩, by omega, by omega, fun _ => rfl⟩⟩
  case round =>
    obtain ⟨q, a1, e1, at_, cm, hq, rfl, rfl, rfl, hS⟩ := hrel
    by_cases hlt : q < n
    · obtain ⟨l, hl⟩ : ∃ l, L[q]? = some l := ⟨L[q]'(by rw [← HnL.out]; exact hlt), List.getElem?_eq_getElem (by rw [← HnL.out]; exact hlt)⟩
      have hcb : cm ≤ 1000 := by
        rcases Nat.eq_zero_or_pos q with h0 | h0
        · rw [hS.out.c0 h0]; omega
        · have := hS.out.cm h0 11 (by have := kx_len Hlen.out 0; omega)
          omega
      have hqL : Hid (q < L.length) := Lib.hid (by rw [← HnL.out]; exact hlt)
      obtain ⟨ra, rc, h1, h2, h3, h4⟩ := hS.out.sc.ix.row q hqL.out
      have hkl := kq_len Hlen.out q
      obtain ⟨kn, hkn⟩ : ∃ kn, kn = (kq L q).length := ⟨_, rfl⟩
      rw [← hkn] at h1 h2 h4 hkl
      have Hl : Hid ((kx L q).length = kn) := Lib.hid (by rw [kx_kq, hkn]; simp [keyL])
      have Hkn := Lib.hid hkn
      have hA : Hid (Asc (kx L q)) := Lib.hid (kx_asc Hasc.out q)
      have hA2 : Hid (Asc (kx L (q + 1))) := Lib.hid (kx_asc Hasc.out (q + 1))
      obtain ⟨b, o, hb, hc⟩ := hS.out.sc.ix.rd.cells (by rw [← HnL.out]; omega)
      injection hb with hb
      injection hb with hb1 hb2
      subst hb1
      subst hb2
      have cj := hc q _ h1
      rw [Nat.zero_add] at cj
      have i0 : (0 : Int) ≤ (q : Int) := by omega
      have i1 : (q : Int) < (n : Int) := by omega
      have k0 : ((kn + 1 : Nat) : Int) - 1 = (kn : Int) := by omega
      have k1 : (0 : Int) ≤ (kn : Int) := by omega
      have H1 := Lib.hid h1
      have Hsl := Lib.hid hl
      have Hxl := Lib.hid hxl
      clear h1 h2 h3 hc hkn hl
      by_cases h0 : q = 0
      · have d0 : ((q : Int) == 0) = true := by rw [h0]; rfl
        have d1 : (q == 0) = true := by rw [h0]; rfl
        have H0 := Lib.hid h0
        clear h0
        go_wp2_with fail
        refine wp_scope_loop 0 (fun a' w' => ∃ (lo hi cm' : Nat) (y12 y13 y14 y37 y38 y39 y40 y41 y42 y43 y44 y45 y46 y47 y48 y49 y50 : Value), a' = { tmps := #[.pointer (some ⟨x, 0, none⟩), .int .i64 key, .pointer (some ⟨w.heap.size, 0, none⟩), .pointer (some ⟨w.heap.size + 1, 0, none⟩), .slice none 0 0, .int .i64 0, .func (.func 30) #[] #[.pointer (some ⟨w.heap.size, 0, none⟩), .pointer (some ⟨w.heap.size + 1, 0, none⟩)], .slice a1 q e1, .int .i64 at_, .int .i64 q, .slice ra (kn + 1) rc, .int .i64 kn, y12, y13, y14, .pointer (some ⟨x, 0, none⟩), .bool false, .pointer (some ⟨x, 0, none⟩), .pointer (some ⟨x, 0, none⟩), .pointer (some ⟨x, 1, none⟩), .func (.func 30) #[] #[.pointer (some ⟨w.heap.size, 0, none⟩), .pointer (some ⟨w.heap.size + 1, 0, none⟩)], .pointer (some ⟨x, 0, none⟩), .pointer (some ⟨x, 0, none⟩), .pointer (some ⟨x, 0, none⟩), .slice (some ⟨g, 0, none⟩) n n, .int .i64 n, .int .i64 q, .bool true, .int .i64 q, .pointer (some ⟨g, q, none⟩), .slice ra (kn + 1) rc, .slice ra (kn + 1) rc, .int .i64 (kn + 1), .int .i64 kn, .int .i64 q, .bool true, .int .i64 kn, y37, y38, y39, y40, y41, y42, y43, y44, y45, y46, y47, y48, y49, y50, u51, u52, u53, u54, u55, u56, u57, u58, u59, u60, u61, u62, u63, u64, u65, u66, u67, u68, u69, u70, u71, u72, u73, u74, u75, u76, u77, undef], defers := [] } ∧ y12 = .int .i64 lo ∧ y13 = .int .i64 hi ∧ lo ≤ hi ∧ hi ≤ kn ∧ cm' ≤ 11 ∧ Hid (SJ B L key x g hs w w' q a1 q e1 kn lo hi cm')) (fun a' _ => (intOf (a'.tmps.getD 13 undef)).toNat - (intOf (a'.tmps.getD 12 undef)).toNat) rfl ?_ ?_
        · rintro a' w1 ⟨lo, hi, cm1, y12, y13, y14, y37, y38, y39, y40, y41, y42, y43, y44, y45, y46, y47, y48, y49, y50, rfl, rfl, rfl, hlh, hhk, hcm1, hJ⟩
          by_cases hlt2 : lo < hi
          · have m0 : (((lo + hi) / 2 : Nat) : Int) = ((lo : Int) + (hi : Int)) / 2 := by omega
            by_cases hk : (kx L q).getD ((lo + hi) / 2) 0 < key
            · have hcall := hJ.out.sc.call Hxl.out (by omega) hqL.out Hkn.out H1.out (i := (lo + hi) / 2) (by omega) (r := true) (by simpa using hk) m0
              have Hk := Lib.hid hk
              clear hk m0
              go_wp2_with (refine hcall.mono ?_; rintro e w2 hpost; have hS2 := Lib.hid (hJ.out.sc.step Hxl.out hpost); obtain ⟨rfl, hF2, hx2⟩ := hpost; clear hF2 hx2 hcall)
              have hJ2 := hJ.out.up hlt2 hhk Hl.out hA.out Hk.out hS2.out
              have hc2 := hJ2.cnt 11 (by omega)
              obtain ⟨j, _, hc3⟩ := hc2
              go_step3
              exact ⟨rfl, ⟨(lo + hi) / 2 + 1, hi, cm1 + 1, _, _, _, _, _, _, _, _, _, _, _, _, _, _, _, _, _, rfl, congrArg (Value.int .i64) (by omega), rfl, by omega, hhk, by omega, Lib.hid hJ2⟩, by simp [intOf]; omega⟩
            · have hcall := hJ.out.sc.call Hxl.out (by omega) hqL.out Hkn.out H1.out (i := (lo + hi) / 2) (by omega) (r := false) (by simpa using hk) m0
              have Hk := Lib.hid hk
              clear hk m0
              go_wp2_with (refine hcall.mono ?_; rintro e w2 hpost; have hS2 := Lib.hid (hJ.out.sc.step Hxl.out hpost); obtain ⟨rfl, hF2, hx2⟩ := hpost; clear hF2 hx2 hcall)
              have hJ2 := hJ.out.down hlt2 hhk Hl.out hA.out (by have := Hk.out; omega) hS2.out
              have hc2 := hJ2.cnt 11 (by omega)
              obtain ⟨j, _, hc3⟩ := hc2
              go_step3
              exact ⟨rfl, ⟨lo, (lo + hi) / 2, cm1 + 1, _, _, _, _, _, _, _, _, _, _, _, _, _, _, _, _, _, rfl, rfl, congrArg (Value.int .i64) (by omega), by omega, by omega, by omega, Lib.hid hJ2⟩, by simp [intOf]; omega⟩
          · have ehl : hi = lo := by omega
            subst ehl
            have eR : Hid (hi = rk (kx L q) key) := Lib.hid (Nat.le_antisymm hJ.out.lo_le hJ.out.le_hi)
            have hT := Lib.hid hJ.out.sc
            have hC : Hid (∀ K : Nat, (kx L 0).length + 1 ≤ 2 ^ K → cm1 ≤ K + q) := Lib.hid (by
              intro K hK
              obtain ⟨j, _, h3⟩ := hJ.out.cnt K (by rw [← Hl.out, H0.out]; exact hK)
              omega)
            obtain ⟨k, he, _⟩ := entL_get (kq L q) (i := hi) (by have := Hkn.out; omega)
            obtain ⟨b, o, ha, _, f2, f3⟩ := (hT.out.ix.rowAt hqL.out H1.out).1.ent he
            obtain ⟨vo, hvo⟩ : ∃ vo, vo = cO ((kq L q).take hi) := ⟨_, rfl⟩
            obtain ⟨vt, hvt⟩ : ∃ vt, vt = cT ((kq L q).take hi) := ⟨_, rfl⟩
            simp only [← hvo, ← hvt] at f2 f3
            have Hvo : Hid (vo = rk l key) := Lib.hid (by rw [hvo, eR.out]; exact out_eq Hsl.out hA.out key)
            have Hvt : Hid (vt = rk (kx L (q + 1)) key / 2) := Lib.hid (by rw [hvt, eR.out]; exact next_eq Hsl.out hA.out hA2.out key)
            have vtb : vt ≤ 2000 := (by have := Hvt.out; have := rk_le (kx L (q + 1)) key; have := kx_len Hlen.out (q + 1); omega)
            have hOw := hT.out.out
            have r0 : (0 : Int) ≤ ((hi : Nat) : Int) := (by omega)
            have r1 : ((hi : Nat) : Int) < (kn : Int) + 1 := (by omega)
            have hbl : b < w.heap.size := (H.out.rowAt hqL.out H1.out).1.lt (by omega) (by omega) b (by rw [ha]; exact (onBlk_some _ _ _ _).2 rfl)
            subst ha
            clear hvo hvt he
            go_wp2_with fail
            simp only [Exit.jump]
            go_wp2_with (at_builtin; refine wpAppAt E3 hOw (by omega) (by omega) (by have := hT.out.sz; omega) rfl rfl rfl ?_; intro a' c' w' own' fr' at'; have f4 := fr'.cell f3 (fun h => by have := (hT.out.out.blk _ h).1; simp at this; omega); have hN := Lib.hid (hT.out.next ⟨_, H.out⟩ Hsl.out hC.out own' fr' Hvo.out Hvt.out); clear own' fr' at')
            refine ⟨?_, ?_⟩
            · (repeat apply Exists.intro)
              refine ⟨?_, rfl⟩
              exact ⟨q + 1, a', c', 2 * vt, _, by omega, rfl, by go_num, by go_num, hN⟩
            · simp [intOf]; omega
        · intro hpass
          go_wp2_with fail
          go_step3
          rename_i K hK
          show K _ _
          refine hK _ _ (hpass _ _ ?_)
          exact ⟨0, kn, cm, _, _, _, _, _, _, _, _, _, _, _, _, _, _, _, _, _, rfl, rfl, rfl, by omega, by omega, by rw [hS.out.c0 H0.out]; omega, Lib.hid ⟨hS.out.sc, by omega, by rw [← Hl.out]; exact rk_le _ _, fun K hK => ⟨K, by omega, by rw [hS.out.c0 H0.out]; omega⟩⟩⟩
      · have d0 : ((q : Int) == 0) = false := by simp; omega
        have d1 : (q == 0) = false := by simpa using h0
        have H0 := Lib.hid h0
        have hq0 : 0 < q := by omega
        have hat := hS.out.at' hq0
        obtain ⟨R, hR⟩ : ∃ R, R = rk (kx L q) key := ⟨_, rfl⟩
        rw [← hR] at hat
        have hRk : R ≤ kn := by rw [hR, ← Hl.out]; exact rk_le _ _
        have eR := Lib.hid hR
        clear h0 hR
        by_cases h3 : at_ < kn
        · by_cases h4 : at_ < R
          · have hcall := hS.out.sc.call Hxl.out (by omega) hqL.out Hkn.out H1.out (i := at_) h3 (r := true) (by have := (asc_take hA.out key at_ (by rw [Hl.out]; exact h3)).2 (by rw [← eR.out]; exact h4); simpa using this) rfl
            have e5 : R = at_ + 1 := by omega
            subst e5
            have Hat := Lib.hid hat
            clear hat
            have hC : Hid (∀ K : Nat, (kx L 0).length + 1 ≤ 2 ^ K → cm + 1 ≤ K + q) := Lib.hid (fun K hK => by have := hS.out.cm hq0 K hK; omega)
            go_wp2_with (first | (refine hcall.mono ?_; rintro e w2 hpost; have hT := Lib.hid (hS.out.sc.step Hxl.out hpost); obtain ⟨rfl, hF2, hx2⟩ := hpost; clear hF2 hx2 hcall; obtain ⟨k, he, _⟩ := entL_get (kq L q) (i := (at_ + 1)) (by have := Hkn.out; omega); obtain ⟨b, o, ha, _, f2, f3⟩ := (hT.out.ix.rowAt hqL.out H1.out).1.ent he; obtain ⟨vo, hvo⟩ : ∃ vo, vo = cO ((kq L q).take (at_ + 1)) := ⟨_, rfl⟩; obtain ⟨vt, hvt⟩ : ∃ vt, vt = cT ((kq L q).take (at_ + 1)) := ⟨_, rfl⟩; simp only [← hvo, ← hvt] at f2 f3; have Hvo : Hid (vo = rk l key) := Lib.hid (by rw [hvo, eR.out]; exact out_eq Hsl.out hA.out key); have Hvt : Hid (vt = rk (kx L (q + 1)) key / 2) := Lib.hid (by rw [hvt, eR.out]; exact next_eq Hsl.out hA.out hA2.out key); have vtb : vt ≤ 2000 := (by have := Hvt.out; have := rk_le (kx L (q + 1)) key; have := kx_len Hlen.out (q + 1); omega); have hOw := hT.out.out; have r0 : (0 : Int) ≤ (((at_ + 1) : Nat) : Int) := (by omega); have r1 : (((at_ + 1) : Nat) : Int) < (kn : Int) + 1 := (by omega); have hbl : b < w.heap.size := (H.out.rowAt hqL.out H1.out).1.lt (by omega) (by omega) b (by rw [ha]; exact (onBlk_some _ _ _ _).2 rfl); subst ha; clear hvo hvt he) | (at_builtin; refine wpAppAt E3 hOw (by omega) (by omega) (by have := hT.out.sz; omega) rfl rfl rfl ?_; intro a' c' w' own' fr' at'; have f4 := fr'.cell f3 (fun h => by have := (hT.out.out.blk _ h).1; simp at this; omega); have hN := Lib.hid (hT.out.next ⟨_, H.out⟩ Hsl.out hC.out own' fr' Hvo.out Hvt.out); clear own' fr' at'))
            go_roundw
            case rel => exact ⟨q + 1, a', c', 2 * vt, _, by omega, rfl, by go_num, by go_num, hN⟩
            case measure => simp [intOf]; omega
          · have hcall := hS.out.sc.call Hxl.out (by omega) hqL.out Hkn.out H1.out (i := at_) h3 (r := false) (by have := mt (asc_take hA.out key at_ (by rw [Hl.out]; exact h3)).1 (by rw [← eR.out]; exact h4); simpa using this) rfl
            have e5 : R = at_ := by omega
            subst e5
            have Hat := Lib.hid hat
            clear hat
            have hC : Hid (∀ K : Nat, (kx L 0).length + 1 ≤ 2 ^ K → cm + 1 ≤ K + q) := Lib.hid (fun K hK => by have := hS.out.cm hq0 K hK; omega)
            go_wp2_with (first | (refine hcall.mono ?_; rintro e w2 hpost; have hT := Lib.hid (hS.out.sc.step Hxl.out hpost); obtain ⟨rfl, hF2, hx2⟩ := hpost; clear hF2 hx2 hcall; obtain ⟨k, he, _⟩ := entL_get (kq L q) (i := R) (by have := Hkn.out; omega); obtain ⟨b, o, ha, _, f2, f3⟩ := (hT.out.ix.rowAt hqL.out H1.out).1.ent he; obtain ⟨vo, hvo⟩ : ∃ vo, vo = cO ((kq L q).take R) := ⟨_, rfl⟩; obtain ⟨vt, hvt⟩ : ∃ vt, vt = cT ((kq L q).take R) := ⟨_, rfl⟩; simp only [← hvo, ← hvt] at f2 f3; have Hvo : Hid (vo = rk l key) := Lib.hid (by rw [hvo, eR.out]; exact out_eq Hsl.out hA.out key); have Hvt : Hid (vt = rk (kx L (q + 1)) key / 2) := Lib.hid (by rw [hvt, eR.out]; exact next_eq Hsl.out hA.out hA2.out key); have vtb : vt ≤ 2000 := (by have := Hvt.out; have := rk_le (kx L (q + 1)) key; have := kx_len Hlen.out (q + 1); omega); have hOw := hT.out.out; have r0 : (0 : Int) ≤ ((R : Nat) : Int) := (by omega); have r1 : ((R : Nat) : Int) < (kn : Int) + 1 := (by omega); have hbl : b < w.heap.size := (H.out.rowAt hqL.out H1.out).1.lt (by omega) (by omega) b (by rw [ha]; exact (onBlk_some _ _ _ _).2 rfl); subst ha; clear hvo hvt he) | (at_builtin; refine wpAppAt E3 hOw (by omega) (by omega) (by have := hT.out.sz; omega) rfl rfl rfl ?_; intro a' c' w' own' fr' at'; have f4 := fr'.cell f3 (fun h => by have := (hT.out.out.blk _ h).1; simp at this; omega); have hN := Lib.hid (hT.out.next ⟨_, H.out⟩ Hsl.out hC.out own' fr' Hvo.out Hvt.out); clear own' fr' at'))
            go_roundw
            case rel => exact ⟨q + 1, a', c', 2 * vt, _, by omega, rfl, by go_num, by go_num, hN⟩
            case measure => simp [intOf]; omega
        · have e5 : R = at_ := by omega
          subst e5
          have Hat := Lib.hid hat
          clear hat
          have hT := Lib.hid hS.out.sc
          have hC : Hid (∀ K : Nat, (kx L 0).length + 1 ≤ 2 ^ K → cm ≤ K + q) := Lib.hid (fun K hK => by have := hS.out.cm hq0 K hK; omega)
          obtain ⟨k, he, _⟩ := entL_get (kq L q) (i := R) (by have := Hkn.out; omega)
          obtain ⟨b, o, ha, _, f2, f3⟩ := (hT.out.ix.rowAt hqL.out H1.out).1.ent he
          obtain ⟨vo, hvo⟩ : ∃ vo, vo = cO ((kq L q).take R) := ⟨_, rfl⟩
          obtain ⟨vt, hvt⟩ : ∃ vt, vt = cT ((kq L q).take R) := ⟨_, rfl⟩
          simp only [← hvo, ← hvt] at f2 f3
          have Hvo : Hid (vo = rk l key) := Lib.hid (by rw [hvo, eR.out]; exact out_eq Hsl.out hA.out key)
          have Hvt : Hid (vt = rk (kx L (q + 1)) key / 2) := Lib.hid (by rw [hvt, eR.out]; exact next_eq Hsl.out hA.out hA2.out key)
          have vtb : vt ≤ 2000 := (by have := Hvt.out; have := rk_le (kx L (q + 1)) key; have := kx_len Hlen.out (q + 1); omega)
          have hOw := hT.out.out
          have r0 : (0 : Int) ≤ ((R : Nat) : Int) := (by omega)
          have r1 : ((R : Nat) : Int) < (kn : Int) + 1 := (by omega)
          have hbl : b < w.heap.size := (H.out.rowAt hqL.out H1.out).1.lt (by omega) (by omega) b (by rw [ha]; exact (onBlk_some _ _ _ _).2 rfl)
          subst ha
          clear hvo hvt he
          go_wp2_with (at_builtin; refine wpAppAt E3 hOw (by omega) (by omega) (by have := hT.out.sz; omega) rfl rfl rfl ?_; intro a' c' w' own' fr' at'; have f4 := fr'.cell f3 (fun h => by have := (hT.out.out.blk _ h).1; simp at this; omega); have hN := Lib.hid (hT.out.next ⟨_, H.out⟩ Hsl.out hC.out own' fr' Hvo.out Hvt.out); clear own' fr' at')
          go_roundw
          case rel => exact ⟨q + 1, a', c', 2 * vt, _, by omega, rfl, by go_num, by go_num, hN⟩
          case measure => simp [intOf]; omega
    · have eq : q = n := by omega
      subst eq
      have hfin : Hid (SrPost B L key x g hs w (.returned (.tuple #[.slice a1 q e1, .int .i64 0])) wr) := Lib.hid (by
        have S := hS.out
        have hO := S.sc.out
        refine ⟨a1, e1, cm, by rw [HnL.out], ?_, S.sc.ix, by omega, ?_, fun k hk => by have := (hO.blk k hk).1; omega, S.sc.fr⟩
        · have := hO.rd
          rw [HnL.out, List.take_length] at this
          exact this
        · intro K hK
          have := S.cm (by omega) K hK
          have := HnL.out
          omega)
      go_wp2_with fail
      go_ret2
      exact hfin.out
end Go.Proofs.Ytglonedhcljdoaa
