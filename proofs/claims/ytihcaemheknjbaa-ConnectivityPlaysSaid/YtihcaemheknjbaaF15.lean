/- The segment tree: build and put. -/
import Derived.Test.YtihcaemheknjbaaF11
import Derived.Test.YtihcaemheknjbaaF10
import Derived.Deep.RegionHeld3
import Derived.Outline
namespace Go.Proofs.Ytihcaemheknjbaa
open Go.RowKit
attribute [local go_sem ↓] Go.wp_at_zero Go.wp_at_succ
/-- A segment tree: each node with its block, its span, its edges. -/
inductive Sg where
  | nil
  | node (b f t : Nat) (es : List Iv) (l r : Sg)
def Sg.adr : Sg → Option Addr
  | .nil => none
  | .node b _ _ _ _ _ => some ⟨b, 0, none⟩
abbrev Sg.ptr (t : Sg) : Value := .pointer t.adr
/-- The tree with an edge put. -/
def putT (x : Iv) : Sg → Sg
  | .nil => .nil
  | .node b f t es l r => if x.2.2.2 ≤ f ∨ t ≤ x.2.2.1 then .node b f t es l r else if x.2.2.1 ≤ f ∧ t ≤ x.2.2.2 then .node b f t (es ++ [x]) l r else .node b f t es (putT x l) (putT x r)
/-- At how many nodes it stands. -/
def cntT (x : Iv) : Sg → Nat
  | .nil => 0
  | .node _ f t _ l r => if x.2.2.2 ≤ f ∨ t ≤ x.2.2.1 then 0 else if x.2.2.1 ≤ f ∧ t ≤ x.2.2.2 then 1 else cntT x l + cntT x r
theorem putT_node (x : Iv) (b f t : Nat) (es : List Iv) (l r : Sg) : putT x (.node b f t es l r) = if x.2.2.2 ≤ f ∨ t ≤ x.2.2.1 then .node b f t es l r else if x.2.2.1 ≤ f ∧ t ≤ x.2.2.2 then .node b f t (es ++ [x]) l r else .node b f t es (putT x l) (putT x r) := rfl
theorem cntT_node (x : Iv) (b f t : Nat) (es : List Iv) (l r : Sg) : cntT x (.node b f t es l r) = if x.2.2.2 ≤ f ∨ t ≤ x.2.2.1 then 0 else if x.2.2.1 ≤ f ∧ t ≤ x.2.2.2 then 1 else cntT x l + cntT x r := rfl
theorem putT_adr (x : Iv) (t : Sg) : (putT x t).adr = t.adr := by
  cases t with
  | nil => rfl
  | node b f t es l r =>
    unfold putT
    split
    · rfl
    · split <;> rfl
/-- A segment tree of some indices. -/
def Sh : Nat → Nat → Sg → Prop
  | f, t, .nil => t ≤ f
  | f, t, .node _ f' t' _ l r => f' = f ∧ t' = t ∧ f < t ∧ ((1 < t - f ∧ Sh f ((f + t) / 2) l ∧ Sh ((f + t) / 2) t r) ∨ (t - f = 1 ∧ l = .nil ∧ r = .nil))
/-- No edges. -/
def Emp : Sg → Prop
  | .nil => True
  | .node _ _ _ es l r => es = [] ∧ Emp l ∧ Emp r
/-- What lies in memory: a tree, its blocks among N. -/
def TM (w : World) (B : Nat) : Sg → (Nat → Prop) → Prop
  | .nil, _ => True
  | .node b f t es l r, N => ∃ ae ce Nl Nr, Blk w b 81 [.int .i64 (f : Int), .int .i64 (t : Int), .slice ae es.length ce, l.ptr, r.ptr] ∧ OwnZ w B 83 4 ae es.length ce (ivs es) ∧ TM w B l Nl ∧ TM w B r Nr ∧ f ≤ 3000 ∧ t ≤ 3000 ∧ es.length ≤ 100000 ∧
      B ≤ b ∧ N b ∧ (∀ k, onBlk ae k → N k) ∧ (∀ k, Nl k → N k) ∧ (∀ k, Nr k → N k) ∧ (¬ onBlk ae b) ∧ (¬ Nl b) ∧ (¬ Nr b) ∧ (∀ k, onBlk ae k → ¬ Nl k) ∧ (∀ k, onBlk ae k → ¬ Nr k) ∧ (∀ k, Nl k → ¬ Nr k) ∧ (∀ k, Nl k → k < w.heap.size) ∧ (∀ k, Nr k → k < w.heap.size)
theorem TM.fr {w w' : World} {B : Nat} {M : Nat → Prop} (f : Fr M w w') : ∀ {t : Sg} {N : Nat → Prop}, TM w B t N → (∀ k, N k → ¬ M k) → TM w' B t N
  | .nil, _, _, _ => trivial
  | .node b f0 t0 es l r, N, h, hM => by
    obtain ⟨ae, ce, Nl, Nr, h1, h2, h3, h4, hf, ht, he, h5, h6, h7, h8, h9, h10, h11, h12, h13, h14, h15, h16, h17⟩ := h
    exact ⟨ae, ce, Nl, Nr, h1.fr f (hM b h6), h2.fr f (fun k hk => hM k (h7 k hk)), h3.fr f (fun k hk => hM k (h8 k hk)), h4.fr f (fun k hk => hM k (h9 k hk)), hf, ht, he, h5, h6, h7, h8, h9, h10, h11, h12, h13, h14, h15, fun k hk => Nat.lt_of_lt_of_le (h16 k hk) f.size, fun k hk => Nat.lt_of_lt_of_le (h17 k hk) f.size⟩
theorem TM.fr0 {w w' : World} {B : Nat} (f : Fr F0 w w') {t : Sg} {N : Nat → Prop} (h : TM w B t N) : TM w' B t N := h.fr f (fun _ _ => id)
theorem TM.mono {w : World} {B : Nat} {N M : Nat → Prop} (hM : ∀ k, N k → M k) : ∀ {t : Sg}, TM w B t N → TM w B t M
  | .nil, _ => trivial
  | .node b f0 t0 es l r, h => by
    obtain ⟨ae, ce, Nl, Nr, h1, h2, h3, h4, hf, ht, he, h5, h6, h7, h8, h9, h10⟩ := h
    exact ⟨ae, ce, Nl, Nr, h1, h2, h3, h4, hf, ht, he, h5, hM _ h6, fun k hk => hM _ (h7 k hk), fun k hk => hM _ (h8 k hk), fun k hk => hM _ (h9 k hk), h10⟩
theorem TM.low {w : World} {B C : Nat} (hC : C ≤ B) : ∀ {t : Sg} {N : Nat → Prop}, TM w B t N → TM w C t N
  | .nil, _, _ => trivial
  | .node b f0 t0 es l r, N, h => by
    obtain ⟨ae, ce, Nl, Nr, h1, h2, h3, h4, hf, ht, he, h5, h6⟩ := h
    exact ⟨ae, ce, Nl, Nr, h1, OwnZ.mono h2 hC, h3.low hC, h4.low hC, hf, ht, he, by omega, h6⟩
/-- What build leaves. -/
def BdP (w : World) (f t : Nat) (e : Ending) (w' : World) : Prop := ∃ T, e = .returned T.ptr ∧ Sh f t T ∧ Emp T ∧ TM w' w.heap.size T (fun k => w.heap.size ≤ k ∧ k < w'.heap.size) ∧ Fr F0 w w'
set_option maxRecDepth 100000 in
set_option maxHeartbeats 4000000 in
theorem build_any : ∀ (d f t : Nat) (w : World), t - f ≤ d → f ≤ 3000 → t ≤ 3000 → Calls Try.prog 55 #[.int .i64 f, .int .i64 t] w (BdP w f t) := by
  intro d
  induction d using Nat.strongRecOn with
  | _ d ih =>
  intro f t w hd hf ht
  by_cases c : t ≤ f
  · have d1 : decide (t ≤ f) = true := decide_eq_true c
    have d2 : decide ((t : Int) ≤ (f : Int)) = true := decide_eq_true (by omega)
    go_enter Try.func55, Try.ntmps55
    go_wp2_with fail
    go_ret
    exact ⟨.nil, rfl, c, trivial, trivial, Fr.refl _ _⟩
  · have d1 : decide (t ≤ f) = false := decide_eq_false c
    have d2 : decide ((t : Int) ≤ (f : Int)) = false := decide_eq_false (by omega)
    obtain ⟨b, hb⟩ : ∃ b, b = w.heap.size := ⟨_, rfl⟩
    have hw1 : IntKind.i64.wrap ((t : Int) - (f : Int)) = ((t - f : Nat) : Int) := by rw [wI (by omega) (by omega)]; omega
    by_cases c1 : 1 < t - f
    · have d3 : decide (1 < ((t - f : Nat) : Int)) = true := decide_eq_true (by omega)
      have d4 : decide (1 < t - f) = true := decide_eq_true c1
      have d5 : decide ((1 : Int) < (t : Int) - (f : Int)) = true := decide_eq_true (by omega)
      obtain ⟨m, hm⟩ : ∃ m, m = (f + t) / 2 := ⟨_, rfl⟩
      have hm2 : ((f : Int) + (t : Int)) / 2 = (m : Int) := by omega
      have hml : f < m ∧ m < t := by omega
      have IL := Lib.hid (fun w : World => ih (m - f) (by omega) f m w (Nat.le_refl _) hf (by omega))
      have IR := Lib.hid (fun w : World => ih (t - m) (by omega) m t w (Nat.le_refl _) (by omega) ht)
      have Hm := Lib.hid hm
      have Hb := Lib.hid hb
      have Hc := Lib.hid c
      clear ih hm c hb
      go_enter Try.func55, Try.ntmps55
      go_wp2_with fail
      rw [← Hb.out]
      clear d1 d2 d3 d4 d5 hw1
      have B1 : Hid (Blk (w.alloc (.cells #[.int .i64 (f : Int), .int .i64 (t : Int), .slice none 0 0, .pointer none, .pointer none] 81)) b 81 [.int .i64 (f : Int), .int .i64 (t : Int), .slice none 0 0, .pointer none, .pointer none]) := Lib.hid (by rw [Hb.out]; exact Blk.new w 81 _)
      have G1 : Hid (Fr F0 w (w.alloc (.cells #[.int .i64 (f : Int), .int .i64 (t : Int), .slice none 0 0, .pointer none, .pointer none] 81))) := Lib.hid ((Fr.refl _ _).alloc _)
      obtain ⟨w1, hw1⟩ : ∃ w1, w1 = w.alloc (.cells #[.int .i64 (f : Int), .int .i64 (t : Int), .slice none 0 0, .pointer none, .pointer none] 81) := ⟨_, rfl⟩
      have hs1 : Hid (w1.heap.size = b + 1) := Lib.hid (by rw [hw1, Hb.out]; simp)
      rw [← hw1] at B1 G1 ⊢
      clear hw1
      refine (IL.out w1).mono ?_
      rintro e w2 ⟨L, rfl, sL, eL, tL, F2⟩
      have HL := Lib.hid (And.intro sL (And.intro eL tL))
      have G2 := Lib.hid F2
      clear sL eL tL F2
      go_wp2_with fail
      clear hm2
      refine (IR.out w2).mono ?_
      rintro e w3 ⟨R, rfl, sR, eR, tR, F3⟩
      have HR := Lib.hid (And.intro sR (And.intro eR tR))
      have G3 := Lib.hid F3
      have B3 := (B1.out.fr G2.out id).fr F3 id
      have y3 := B3.cell (i := 3) rfl
      have y4 := B3.cell (i := 4) rfl
      have z3 := B3.free 3
      have z4 := B3.free 4
      have H3 := Lib.hid B3
      clear sR eR tR F3 B3
      obtain ⟨pl, hpl⟩ : ∃ v, v = L.adr := ⟨_, rfl⟩
      obtain ⟨pr, hpr⟩ : ∃ v, v = R.adr := ⟨_, rfl⟩
      unfold Sg.ptr
      rw [← hpl, ← hpr]
      have Hpl := Lib.hid (And.intro hpl hpr)
      clear hpl hpr
      go_wp2_with fail
      go_ret
      have B4 := (H3.out.set 3 (.pointer pl)).set 4 (.pointer pr)
      have F4 : Fr (onB b) w3 ((w3.setCell ⟨b, 3, none⟩ (.pointer pl)).setCell ⟨b, 4, none⟩ (.pointer pr)) := ((Fr.refl (onB b) w3).setB 3 _).setB 4 _
      have s1 := hs1.out
      have s2 := G2.out.size
      have s3 := G3.out.size
      have hb0 := Hb.out
      have hb1 := B1.out.lt
      refine ⟨.node b f t [] L R, rfl, ⟨rfl, rfl, by omega, .inl ⟨by omega, by rw [← Hm.out]; exact HL.out.1, by rw [← Hm.out]; exact HR.out.1⟩⟩, ⟨rfl, HL.out.2.1, HR.out.2.1⟩, ?_, ?_⟩
      · refine ⟨none, 0, fun k => w1.heap.size ≤ k ∧ k < w2.heap.size, fun k => w2.heap.size ≤ k ∧ k < w3.heap.size, ?_, OwnZ.nil _ _ _ _, ?_, ?_, hf, ht, by simp, by omega, ?_, fun k hk => absurd hk (onBlk_none _), ?_, ?_, onBlk_none _, fun h => ?_, fun h => ?_, fun k hk => absurd hk (onBlk_none _), fun k hk => absurd hk (onBlk_none _), fun k h h' => ?_, fun k h => ?_, fun k h => ?_⟩
        · unfold Sg.ptr; rw [← Hpl.out.1, ← Hpl.out.2]; exact B4
        · exact ((TM.fr0 G3.out HL.out.2.2).fr F4 (fun k h (e : k = b) => by omega)).low (by omega)
        · exact (TM.fr F4 HR.out.2.2 (fun k h (e : k = b) => by omega)).low (by omega)
        · have := F4.size; exact ⟨by omega, by omega⟩
        · have := F4.size; exact fun k h => ⟨by omega, by omega⟩
        · have := F4.size; exact fun k h => ⟨by omega, by omega⟩
        · omega
        · omega
        · omega
        · have := F4.size; omega
        · have := F4.size; omega
      · exact ((G1.out.trans0 G2.out).trans0 G3.out).trans F4 (fun k hk (e : k = b) => by omega)
    · have d3 : decide (1 < ((t - f : Nat) : Int)) = false := decide_eq_false (by omega)
      have d4 : decide (1 < t - f) = false := decide_eq_false c1
      have d5 : decide ((1 : Int) < (t : Int) - (f : Int)) = false := decide_eq_false (by omega)
      have Hb := Lib.hid hb
      have hc : t - f = 1 := by omega
      have Hc := Lib.hid (And.intro hc (show f < t by omega))
      clear ih c c1 hb hc
      go_enter Try.func55, Try.ntmps55
      go_wp2_with fail
      go_ret
      have B1 := Blk.new w 81 [.int .i64 (f : Int), .int .i64 (t : Int), .slice none 0 0, .pointer none, .pointer none]
      refine ⟨.node w.heap.size f t [] .nil .nil, rfl, ⟨rfl, rfl, Hc.out.2, .inr ⟨Hc.out.1, rfl, rfl⟩⟩, ⟨rfl, trivial, trivial⟩, ?_, (Fr.refl _ _).alloc _⟩
      refine ⟨none, 0, F0, F0, B1, OwnZ.nil _ _ _ _, trivial, trivial, hf, ht, by simp, Nat.le_refl _, ⟨Nat.le_refl _, B1.lt⟩, fun k hk => absurd hk (onBlk_none _), fun k h => h.elim, fun k h => h.elim, onBlk_none _, id, id, fun k hk => absurd hk (onBlk_none _), fun k hk => absurd hk (onBlk_none _), fun k h => h.elim, fun k h => h.elim, fun k h => h.elim⟩
/-- What put leaves. -/
def PtP (w : World) (B : Nat) (N : Nat → Prop) (x : Iv) (T : Sg) (e : Ending) (w' : World) : Prop := e = .returned (.int .i64 (cntT x T : Int)) ∧ TM w' B (putT x T) (ext N w w') ∧ Fr N w w'
theorem cntT_le (x : Iv) : ∀ T : Sg, ∀ f t, Sh f t T → cntT x T ≤ t - f
  | .nil, f, t, _ => by unfold cntT; omega
  | .node b f' t' es l r, f, t, h => by
    obtain ⟨rfl, rfl, hft, hd⟩ := h
    unfold cntT
    rcases hd with ⟨h1, hl, hr⟩ | ⟨h1, rfl, rfl⟩
    · have := cntT_le x l _ _ hl
      have := cntT_le x r _ _ hr
      split
      · omega
      · split <;> omega
    · split
      · omega
      · split
        · omega
        · unfold cntT; omega
theorem Sh.put (x : Iv) : ∀ {T : Sg} {f t : Nat}, Sh f t T → Sh f t (putT x T)
  | .nil, _, _, h => h
  | .node b f' t' es l r, f, t, h => by
    obtain ⟨rfl, rfl, hft, hd⟩ := h
    unfold putT
    split
    · exact ⟨rfl, rfl, hft, hd⟩
    · split
      · exact ⟨rfl, rfl, hft, hd⟩
      · refine ⟨rfl, rfl, hft, ?_⟩
        rcases hd with ⟨h1, hl, hr⟩ | ⟨h1, rfl, rfl⟩
        · exact .inl ⟨h1, hl.put x, hr.put x⟩
        · exact .inr ⟨h1, rfl, rfl⟩
/-- The most edges on a way down. -/
def mp : Sg → Nat
  | .nil => 0
  | .node _ _ _ es l r => es.length + max (mp l) (mp r)
theorem mp_put (x : Iv) : ∀ T : Sg, mp (putT x T) ≤ mp T + 1
  | .nil => by unfold putT mp; omega
  | .node b f t es l r => by
    have := mp_put x l
    have := mp_put x r
    unfold putT
    split
    · unfold mp; omega
    · split
      · simp only [mp, List.length_append, List.length_singleton]; omega
      · simp only [mp]; omega
theorem mp_emp : ∀ {T : Sg}, Emp T → mp T = 0
  | .nil, _ => rfl
  | .node b f t es l r, h => by
    obtain ⟨rfl, hl, hr⟩ := h
    simp only [mp, mp_emp hl, mp_emp hr]; rfl
set_option maxRecDepth 100000 in
set_option maxHeartbeats 16000000 in
theorem put_any (xa xb xf xt : Nat) (hx : xf ≤ 3000 ∧ xt ≤ 3000) : ∀ (T : Sg) (f t : Nat) (w : World) (B : Nat) (N : Nat → Prop), TM w B T N → Sh f t T → t ≤ 3000 → B ≤ w.heap.size → (∀ k, N k → k < w.heap.size) → mp T < 100000 → Calls Try.prog 56 #[T.ptr, .agg #[.int .i64 (xa : Int), .int .i64 (xb : Int), .int .i64 (xf : Int), .int .i64 (xt : Int)]] w (PtP w B N (xa, xb, xf, xt) T) := by
  intro T
  induction T with
  | nil =>
    intro f t w B N _ _ _ _ _ _
    have np : Sg.nil.ptr = .pointer none := rfl
    rw [np]
    go_enter Try.func56, Try.ntmps56
    go_wp2_with fail
    refine wp_region_held_drew (S := (fun _ : World => True)) (by kernel_rfl) (trivial) (fun hHeld => ?_)
    refine wpAnyH_take (i := 0) (v := ?_) (by simp only [List.getElem?_toArray, List.getElem?_cons_zero] <;> rfl) (by kernel_rfl) (by kernel_rfl) (by kernel_rfl) (by exact fun _ _ _ h => h) (Or.inl ⟨by rfl, ?_⟩) (by assumption) ?_
    rotate_left
    · intro w hSw
      try dsimp only at hSw
      go_simp <;> with_reducible rfl
    (try simp only [Act.put, List.setIfInBounds_toArray, List.set_cons_zero, List.set_cons_succ])
    refine wpAnyH_take (i := 1) (v := ?_) (by simp only [List.getElem?_toArray, List.getElem?_cons_succ, List.getElem?_cons_zero] <;> rfl) (by kernel_rfl) (by kernel_rfl) (by kernel_rfl) (by exact fun _ _ _ h => h) (Or.inl ⟨by rfl, ?_⟩) (by assumption) ?_
    rotate_left
    · intro w hSw
      try dsimp only at hSw
      go_simp <;> with_reducible rfl
    (try simp only [Act.put, List.setIfInBounds_toArray, List.set_cons_zero, List.set_cons_succ])
    refine wpAnyH_take (i := 2) (v := ?_) (by simp only [List.getElem?_toArray, List.getElem?_cons_succ, List.getElem?_cons_zero] <;> rfl) (by kernel_rfl) (by kernel_rfl) (by kernel_rfl) (by exact fun _ _ _ h => h) (Or.inl ⟨by rfl, ?_⟩) (by assumption) ?_
    rotate_left
    · intro w hSw
      try dsimp only at hSw
      go_simp <;> with_reducible rfl
    (try simp only [Act.put, List.setIfInBounds_toArray, List.set_cons_zero, List.set_cons_succ])
    refine wpAnyH_take (i := 3) (v := undef) (by simp only [List.getElem?_toArray, List.getElem?_cons_succ, List.getElem?_cons_zero] <;> rfl) (by kernel_rfl) (by kernel_rfl) (by kernel_rfl) (by exact fun _ _ _ h => h) (Or.inr ⟨by rfl, rfl⟩) (by assumption) ?_
    (try simp only [Act.put, List.setIfInBounds_toArray, List.set_cons_zero, List.set_cons_succ])
    refine wpAnyH_take (i := 4) (v := undef) (by simp only [List.getElem?_toArray, List.getElem?_cons_succ, List.getElem?_cons_zero] <;> rfl) (by kernel_rfl) (by kernel_rfl) (by kernel_rfl) (by exact fun _ _ _ h => h) (Or.inr ⟨by rfl, rfl⟩) (by assumption) ?_
    (try simp only [Act.put, List.setIfInBounds_toArray, List.set_cons_zero, List.set_cons_succ])
    refine wpAnyH_take (i := 5) (v := undef) (by simp only [List.getElem?_toArray, List.getElem?_cons_succ, List.getElem?_cons_zero] <;> rfl) (by kernel_rfl) (by kernel_rfl) (by kernel_rfl) (by exact fun _ _ _ h => h) (Or.inr ⟨by rfl, rfl⟩) (by assumption) ?_
    (try simp only [Act.put, List.setIfInBounds_toArray, List.set_cons_zero, List.set_cons_succ])
    refine wpAnyH_take (i := 6) (v := undef) (by simp only [List.getElem?_toArray, List.getElem?_cons_succ, List.getElem?_cons_zero] <;> rfl) (by kernel_rfl) (by kernel_rfl) (by kernel_rfl) (by exact fun _ _ _ h => h) (Or.inr ⟨by rfl, rfl⟩) (by assumption) ?_
    (try simp only [Act.put, List.setIfInBounds_toArray, List.set_cons_zero, List.set_cons_succ])
    refine wpAnyH_take (i := 7) (v := undef) (by simp only [List.getElem?_toArray, List.getElem?_cons_succ, List.getElem?_cons_zero] <;> rfl) (by kernel_rfl) (by kernel_rfl) (by kernel_rfl) (by exact fun _ _ _ h => h) (Or.inr ⟨by rfl, rfl⟩) (by assumption) ?_
    (try simp only [Act.put, List.setIfInBounds_toArray, List.set_cons_zero, List.set_cons_succ])
    refine wpAnyH_take (i := 8) (v := undef) (by simp only [List.getElem?_toArray, List.getElem?_cons_succ, List.getElem?_cons_zero] <;> rfl) (by kernel_rfl) (by kernel_rfl) (by kernel_rfl) (by exact fun _ _ _ h => h) (Or.inr ⟨by rfl, rfl⟩) (by assumption) ?_
    (try simp only [Act.put, List.setIfInBounds_toArray, List.set_cons_zero, List.set_cons_succ])
    refine wpAnyH_take (i := 9) (v := undef) (by simp only [List.getElem?_toArray, List.getElem?_cons_succ, List.getElem?_cons_zero] <;> rfl) (by kernel_rfl) (by kernel_rfl) (by kernel_rfl) (by exact fun _ _ _ h => h) (Or.inr ⟨by rfl, rfl⟩) (by assumption) ?_
    (try simp only [Act.put, List.setIfInBounds_toArray, List.set_cons_zero, List.set_cons_succ])
    refine wpAnyH_take (i := 10) (v := ?_) (by simp only [List.getElem?_toArray, List.getElem?_cons_succ, List.getElem?_cons_zero] <;> rfl) (by kernel_rfl) (by kernel_rfl) (by kernel_rfl) (by exact fun _ _ _ h => h) (Or.inl ⟨by rfl, ?_⟩) (by assumption) ?_
    rotate_left
    · intro w hSw
      try dsimp only at hSw
      go_simp <;> with_reducible rfl
    (try simp only [Act.put, List.setIfInBounds_toArray, List.set_cons_zero, List.set_cons_succ])
    refine wpAnyH_take (i := 11) (v := ?_) (by simp only [List.getElem?_toArray, List.getElem?_cons_succ, List.getElem?_cons_zero] <;> rfl) (by kernel_rfl) (by kernel_rfl) (by kernel_rfl) (by exact fun _ _ _ h => h) (Or.inl ⟨by rfl, ?_⟩) (by assumption) ?_
    rotate_left
    · intro w hSw
      try dsimp only at hSw
      go_simp <;> with_reducible rfl
    (try simp only [Act.put, List.setIfInBounds_toArray, List.set_cons_zero, List.set_cons_succ])
    refine wpAnyH_take (i := 12) (v := undef) (by simp only [List.getElem?_toArray, List.getElem?_cons_succ, List.getElem?_cons_zero] <;> rfl) (by kernel_rfl) (by kernel_rfl) (by kernel_rfl) (by exact fun _ _ _ h => h) (Or.inr ⟨by rfl, rfl⟩) (by assumption) ?_
    (try simp only [Act.put, List.setIfInBounds_toArray, List.set_cons_zero, List.set_cons_succ])
    refine wpAnyH_take (i := 13) (v := undef) (by simp only [List.getElem?_toArray, List.getElem?_cons_succ, List.getElem?_cons_zero] <;> rfl) (by kernel_rfl) (by kernel_rfl) (by kernel_rfl) (by exact fun _ _ _ h => h) (Or.inr ⟨by rfl, rfl⟩) (by assumption) ?_
    (try simp only [Act.put, List.setIfInBounds_toArray, List.set_cons_zero, List.set_cons_succ])
    refine wpAnyH_take (i := 14) (v := undef) (by simp only [List.getElem?_toArray, List.getElem?_cons_succ, List.getElem?_cons_zero] <;> rfl) (by kernel_rfl) (by kernel_rfl) (by kernel_rfl) (by exact fun _ _ _ h => h) (Or.inr ⟨by rfl, rfl⟩) (by assumption) ?_
    (try simp only [Act.put, List.setIfInBounds_toArray, List.set_cons_zero, List.set_cons_succ])
    refine wpAnyH_take (i := 15) (v := undef) (by simp only [List.getElem?_toArray, List.getElem?_cons_succ, List.getElem?_cons_zero] <;> rfl) (by kernel_rfl) (by kernel_rfl) (by kernel_rfl) (by exact fun _ _ _ h => h) (Or.inr ⟨by rfl, rfl⟩) (by assumption) ?_
    (try simp only [Act.put, List.setIfInBounds_toArray, List.set_cons_zero, List.set_cons_succ])
    refine wpAnyH_take (i := 16) (v := undef) (by simp only [List.getElem?_toArray, List.getElem?_cons_succ, List.getElem?_cons_zero] <;> rfl) (by kernel_rfl) (by kernel_rfl) (by kernel_rfl) (by exact fun _ _ _ h => h) (Or.inr ⟨by rfl, rfl⟩) (by assumption) ?_
    (try simp only [Act.put, List.setIfInBounds_toArray, List.set_cons_zero, List.set_cons_succ])
    refine wpAnyH_take (i := 17) (v := undef) (by simp only [List.getElem?_toArray, List.getElem?_cons_succ, List.getElem?_cons_zero] <;> rfl) (by kernel_rfl) (by kernel_rfl) (by kernel_rfl) (by exact fun _ _ _ h => h) (Or.inr ⟨by rfl, rfl⟩) (by assumption) ?_
    (try simp only [Act.put, List.setIfInBounds_toArray, List.set_cons_zero, List.set_cons_succ])
    refine wpAnyH_take (i := 18) (v := undef) (by simp only [List.getElem?_toArray, List.getElem?_cons_succ, List.getElem?_cons_zero] <;> rfl) (by kernel_rfl) (by kernel_rfl) (by kernel_rfl) (by exact fun _ _ _ h => h) (Or.inr ⟨by rfl, rfl⟩) (by assumption) ?_
    (try simp only [Act.put, List.setIfInBounds_toArray, List.set_cons_zero, List.set_cons_succ])
    refine wpAnyH_take (i := 19) (v := ?_) (by simp only [List.getElem?_toArray, List.getElem?_cons_succ, List.getElem?_cons_zero] <;> rfl) (by kernel_rfl) (by kernel_rfl) (by kernel_rfl) (by exact fun _ _ _ h => h) (Or.inl ⟨by rfl, ?_⟩) (by assumption) ?_
    rotate_left
    · intro w hSw
      try dsimp only at hSw
      go_simp <;> with_reducible rfl
    (try simp only [Act.put, List.setIfInBounds_toArray, List.set_cons_zero, List.set_cons_succ])
    refine wpAnyH_take (i := 20) (v := ?_) (by simp only [List.getElem?_toArray, List.getElem?_cons_succ, List.getElem?_cons_zero] <;> rfl) (by kernel_rfl) (by kernel_rfl) (by kernel_rfl) (by exact fun _ _ _ h => h) (Or.inl ⟨by rfl, ?_⟩) (by assumption) ?_
    rotate_left
    · intro w hSw
      try dsimp only at hSw
      go_simp <;> with_reducible rfl
    (try simp only [Act.put, List.setIfInBounds_toArray, List.set_cons_zero, List.set_cons_succ])
    refine wpAnyH_done (by kernel_rfl) ?_ _
    go_wp2_with fail
    go_ret
    exact ⟨rfl, trivial, ((Fr.refl _ _).alloc _).drew⟩
  | node b f0 t0 es l r ihl ihr =>
    intro f t w B N hT hS ht3 hB hN hmp
    obtain ⟨rfl, rfl, hft, hd⟩ := hS
    have hT0 := Lib.hid hT
    obtain ⟨ae, ce, Nl, Nr, h1, h2, h3, h4, hf, ht, he, h5, h6, h7, h8, h9, h10, h11, h12, h13, h14, h15, h16, h17⟩ := hT
    obtain ⟨wb, hwb⟩ : ∃ wb, w.alloc (.cells #[.int .i64 (xa : Int), .int .i64 (xb : Int), .int .i64 (xf : Int), .int .i64 (xt : Int)] 83) = wb := ⟨_, rfl⟩
    obtain ⟨bx, hbx⟩ : ∃ b, w.heap.size = b := ⟨_, rfl⟩
    have BX : Blk wb bx 83 (iv4 (xa, xb, xf, xt)) := by rw [← hwb, ← hbx]; exact Blk.new w 83 _
    have FB : Fr F0 w wb := by rw [← hwb]; exact (Fr.refl _ _).alloc _
    have hszb : wb.heap.size = bx + 1 := by rw [← hwb, ← hbx]; simp
    have BB := h1.fr FB id
    have x0 := BX.cell (i := 0) rfl
    have x1 := BX.cell (i := 1) rfl
    have x2 := BX.cell (i := 2) rfl
    have x3 := BX.cell (i := 3) rfl
    have y0 := BB.cell (i := 0) rfl
    have y1 := BB.cell (i := 1) rfl
    have y2 := BB.cell (i := 2) rfl
    have y3 := BB.cell (i := 3) rfl
    have y4 := BB.cell (i := 4) rfl
    have HBX := Lib.hid BX
    have Hw1 := Lib.hid h1
    have HBB := Lib.hid BB
    have HFB := Lib.hid FB
    have Hsz := Lib.hid (And.intro (show wb.heap.size = w.heap.size + 1 by omega) (And.intro hB (And.intro hbx hN)))
    have Hd := Lib.hid hd
    have Hr := Lib.hid (And.intro h3 (And.intro h4 (And.intro h8 (And.intro h9 (And.intro h11 (And.intro h12 (And.intro h15 (And.intro h16 h17))))))))
    have Hae := Lib.hid (And.intro h2 (And.intro h7 (And.intro h10 (And.intro h13 h14))))
    have Hb := Lib.hid (And.intro h5 h6)
    have Hmp : Hid (es.length + max (mp l) (mp r) < 100000) := Lib.hid hmp
    have hel : es.length < 100000 := by have := Hmp.out; omega
    have bp : (Sg.node b f0 t0 es l r).ptr = .pointer (some ⟨b, 0, none⟩) := rfl
    rw [bp]
    clear h1 h2 h3 h4 h5 h6 h7 h8 h9 h10 h11 h12 h13 h14 h15 h16 h17 BX BB FB hszb hB hN hd hmp bp he
    by_cases c1 : xt ≤ f0
    · have d1 : decide (xt ≤ f0) = true := decide_eq_true c1
      have d1' : decide ((xt : Int) ≤ (f0 : Int)) = true := decide_eq_true (by omega)
      have E1 : Hid (putT (xa, xb, xf, xt) (.node b f0 t0 es l r) = .node b f0 t0 es l r ∧ cntT (xa, xb, xf, xt) (.node b f0 t0 es l r) = 0) := Lib.hid (by rw [putT_node, cntT_node]; rw [if_pos (.inl c1), if_pos (.inl c1)]; exact ⟨rfl, rfl⟩)
      clear c1 ihl ihr
      go_enter Try.func56, Try.ntmps56
      go_wp2_with fail
      refine wp_region_held_drew (S := (fun w' : World => w'.cell? ⟨bx, 2, none⟩ = some (.int .i64 (xf : Int)) ∧ w'.cell? ⟨bx, 3, none⟩ = some (.int .i64 (xt : Int)) ∧ w'.cell? ⟨b, 0, none⟩ = some (.int .i64 (f0 : Int)) ∧ w'.cell? ⟨b, 1, none⟩ = some (.int .i64 (t0 : Int)))) (by kernel_rfl) (⟨x2, x3, y0, y1⟩) (fun hHeld => ?_)
      refine wpAnyH_take (i := 0) (v := ?_) (by simp only [List.getElem?_toArray, List.getElem?_cons_zero] <;> rfl) (by kernel_rfl) (by kernel_rfl) (by kernel_rfl) (by exact fun _ _ _ h => h) (Or.inl ⟨by rfl, ?_⟩) (by assumption) ?_
      rotate_left
      · intro w hSw
        try dsimp only at hSw
        go_simp <;> with_reducible rfl
      (try simp only [Act.put, List.setIfInBounds_toArray, List.set_cons_zero, List.set_cons_succ])
      refine wpAnyH_take (i := 1) (v := ?_) (by simp only [List.getElem?_toArray, List.getElem?_cons_succ, List.getElem?_cons_zero] <;> rfl) (by kernel_rfl) (by kernel_rfl) (by kernel_rfl) (by exact fun _ _ _ h => h) (Or.inl ⟨by rfl, ?_⟩) (by assumption) ?_
      rotate_left
      · intro w hSw
        try dsimp only at hSw
        go_simp <;> with_reducible rfl
      (try simp only [Act.put, List.setIfInBounds_toArray, List.set_cons_zero, List.set_cons_succ])
      refine wpAnyH_take (i := 2) (v := ?_) (by simp only [List.getElem?_toArray, List.getElem?_cons_succ, List.getElem?_cons_zero] <;> rfl) (by kernel_rfl) (by kernel_rfl) (by kernel_rfl) (by exact fun _ _ _ h => h) (Or.inl ⟨by rfl, ?_⟩) (by assumption) ?_
      rotate_left
      · intro w hSw
        try dsimp only at hSw
        go_simp <;> with_reducible rfl
      (try simp only [Act.put, List.setIfInBounds_toArray, List.set_cons_zero, List.set_cons_succ])
      refine wpAnyH_take (i := 3) (v := ?_) (by simp only [List.getElem?_toArray, List.getElem?_cons_succ, List.getElem?_cons_zero] <;> rfl) (by kernel_rfl) (by kernel_rfl) (by kernel_rfl) (by exact fun _ _ _ h => h) (Or.inl ⟨by rfl, ?_⟩) (by assumption) ?_
      rotate_left
      · intro w hSw
        try dsimp only at hSw
        go_simp <;> with_reducible rfl
      (try simp only [Act.put, List.setIfInBounds_toArray, List.set_cons_zero, List.set_cons_succ])
      refine wpAnyH_take (i := 4) (v := ?_) (by simp only [List.getElem?_toArray, List.getElem?_cons_succ, List.getElem?_cons_zero] <;> rfl) (by kernel_rfl) (by kernel_rfl) (by kernel_rfl) (by exact fun _ _ _ h => h) (Or.inl ⟨by rfl, ?_⟩) (by assumption) ?_
      rotate_left
      · intro w hSw
        try dsimp only at hSw
        go_simp <;> with_reducible rfl
      (try simp only [Act.put, List.setIfInBounds_toArray, List.set_cons_zero, List.set_cons_succ])
      refine wpAnyH_take (i := 5) (v := ?_) (by simp only [List.getElem?_toArray, List.getElem?_cons_succ, List.getElem?_cons_zero] <;> rfl) (by kernel_rfl) (by kernel_rfl) (by kernel_rfl) (by exact fun _ _ _ h => h) (Or.inl ⟨by rfl, ?_⟩) (by assumption) ?_
      rotate_left
      · intro w hSw
        try dsimp only at hSw
        go_simp <;> with_reducible rfl
      (try simp only [Act.put, List.setIfInBounds_toArray, List.set_cons_zero, List.set_cons_succ])
      refine wpAnyH_take (i := 6) (v := ?_) (by simp only [List.getElem?_toArray, List.getElem?_cons_succ, List.getElem?_cons_zero] <;> rfl) (by kernel_rfl) (by kernel_rfl) (by kernel_rfl) (by exact fun _ _ _ h => h) (Or.inl ⟨by rfl, ?_⟩) (by assumption) ?_
      rotate_left
      · intro w hSw
        try dsimp only at hSw
        go_simp <;> with_reducible rfl
      (try simp only [Act.put, List.setIfInBounds_toArray, List.set_cons_zero, List.set_cons_succ])
      refine wpAnyH_take (i := 7) (v := ?_) (by simp only [List.getElem?_toArray, List.getElem?_cons_succ, List.getElem?_cons_zero] <;> rfl) (by kernel_rfl) (by kernel_rfl) (by kernel_rfl) (by exact fun _ _ _ h => h) (Or.inl ⟨by rfl, ?_⟩) (by assumption) ?_
      rotate_left
      · intro w hSw
        try dsimp only at hSw
        go_simp <;> with_reducible rfl
      (try simp only [Act.put, List.setIfInBounds_toArray, List.set_cons_zero, List.set_cons_succ])
      refine wpAnyH_take (i := 8) (v := ?_) (by simp only [List.getElem?_toArray, List.getElem?_cons_succ, List.getElem?_cons_zero] <;> rfl) (by kernel_rfl) (by kernel_rfl) (by kernel_rfl) (by exact fun _ _ _ h => h) (Or.inl ⟨by rfl, ?_⟩) (by assumption) ?_
      rotate_left
      · intro w hSw
        try dsimp only at hSw
        go_simp <;> with_reducible rfl
      (try simp only [Act.put, List.setIfInBounds_toArray, List.set_cons_zero, List.set_cons_succ])
      refine wpAnyH_take (i := 9) (v := ?_) (by simp only [List.getElem?_toArray, List.getElem?_cons_succ, List.getElem?_cons_zero] <;> rfl) (by kernel_rfl) (by kernel_rfl) (by kernel_rfl) (by exact fun _ _ _ h => h) (Or.inl ⟨by rfl, ?_⟩) (by assumption) ?_
      rotate_left
      · intro w hSw
        try dsimp only at hSw
        go_simp <;> with_reducible rfl
      (try simp only [Act.put, List.setIfInBounds_toArray, List.set_cons_zero, List.set_cons_succ])
      refine wpAnyH_take (i := 10) (v := ?_) (by simp only [List.getElem?_toArray, List.getElem?_cons_succ, List.getElem?_cons_zero] <;> rfl) (by kernel_rfl) (by kernel_rfl) (by kernel_rfl) (by exact fun _ _ _ h => h) (Or.inl ⟨by rfl, ?_⟩) (by assumption) ?_
      rotate_left
      · intro w hSw
        try dsimp only at hSw
        go_simp <;> with_reducible rfl
      (try simp only [Act.put, List.setIfInBounds_toArray, List.set_cons_zero, List.set_cons_succ])
      refine wpAnyH_take (i := 11) (v := ?_) (by simp only [List.getElem?_toArray, List.getElem?_cons_succ, List.getElem?_cons_zero] <;> rfl) (by kernel_rfl) (by kernel_rfl) (by kernel_rfl) (by exact fun _ _ _ h => h) (Or.inl ⟨by rfl, ?_⟩) (by assumption) ?_
      rotate_left
      · intro w hSw
        try dsimp only at hSw
        go_simp <;> with_reducible rfl
      (try simp only [Act.put, List.setIfInBounds_toArray, List.set_cons_zero, List.set_cons_succ])
      refine wpAnyH_take (i := 12) (v := undef) (by simp only [List.getElem?_toArray, List.getElem?_cons_succ, List.getElem?_cons_zero] <;> rfl) (by kernel_rfl) (by kernel_rfl) (by kernel_rfl) (by exact fun _ _ _ h => h) (Or.inr ⟨by rfl, rfl⟩) (by assumption) ?_
      (try simp only [Act.put, List.setIfInBounds_toArray, List.set_cons_zero, List.set_cons_succ])
      refine wpAnyH_take (i := 13) (v := undef) (by simp only [List.getElem?_toArray, List.getElem?_cons_succ, List.getElem?_cons_zero] <;> rfl) (by kernel_rfl) (by kernel_rfl) (by kernel_rfl) (by exact fun _ _ _ h => h) (Or.inr ⟨by rfl, rfl⟩) (by assumption) ?_
      (try simp only [Act.put, List.setIfInBounds_toArray, List.set_cons_zero, List.set_cons_succ])
      refine wpAnyH_take (i := 14) (v := undef) (by simp only [List.getElem?_toArray, List.getElem?_cons_succ, List.getElem?_cons_zero] <;> rfl) (by kernel_rfl) (by kernel_rfl) (by kernel_rfl) (by exact fun _ _ _ h => h) (Or.inr ⟨by rfl, rfl⟩) (by assumption) ?_
      (try simp only [Act.put, List.setIfInBounds_toArray, List.set_cons_zero, List.set_cons_succ])
      refine wpAnyH_take (i := 15) (v := undef) (by simp only [List.getElem?_toArray, List.getElem?_cons_succ, List.getElem?_cons_zero] <;> rfl) (by kernel_rfl) (by kernel_rfl) (by kernel_rfl) (by exact fun _ _ _ h => h) (Or.inr ⟨by rfl, rfl⟩) (by assumption) ?_
      (try simp only [Act.put, List.setIfInBounds_toArray, List.set_cons_zero, List.set_cons_succ])
      refine wpAnyH_take (i := 16) (v := undef) (by simp only [List.getElem?_toArray, List.getElem?_cons_succ, List.getElem?_cons_zero] <;> rfl) (by kernel_rfl) (by kernel_rfl) (by kernel_rfl) (by exact fun _ _ _ h => h) (Or.inr ⟨by rfl, rfl⟩) (by assumption) ?_
      (try simp only [Act.put, List.setIfInBounds_toArray, List.set_cons_zero, List.set_cons_succ])
      refine wpAnyH_take (i := 17) (v := undef) (by simp only [List.getElem?_toArray, List.getElem?_cons_succ, List.getElem?_cons_zero] <;> rfl) (by kernel_rfl) (by kernel_rfl) (by kernel_rfl) (by exact fun _ _ _ h => h) (Or.inr ⟨by rfl, rfl⟩) (by assumption) ?_
      (try simp only [Act.put, List.setIfInBounds_toArray, List.set_cons_zero, List.set_cons_succ])
      refine wpAnyH_take (i := 18) (v := undef) (by simp only [List.getElem?_toArray, List.getElem?_cons_succ, List.getElem?_cons_zero] <;> rfl) (by kernel_rfl) (by kernel_rfl) (by kernel_rfl) (by exact fun _ _ _ h => h) (Or.inr ⟨by rfl, rfl⟩) (by assumption) ?_
      (try simp only [Act.put, List.setIfInBounds_toArray, List.set_cons_zero, List.set_cons_succ])
      refine wpAnyH_take (i := 19) (v := ?_) (by simp only [List.getElem?_toArray, List.getElem?_cons_succ, List.getElem?_cons_zero] <;> rfl) (by kernel_rfl) (by kernel_rfl) (by kernel_rfl) (by exact fun _ _ _ h => h) (Or.inl ⟨by rfl, ?_⟩) (by assumption) ?_
      rotate_left
      · intro w hSw
        try dsimp only at hSw
        go_simp <;> with_reducible rfl
      (try simp only [Act.put, List.setIfInBounds_toArray, List.set_cons_zero, List.set_cons_succ])
      refine wpAnyH_take (i := 20) (v := ?_) (by simp only [List.getElem?_toArray, List.getElem?_cons_succ, List.getElem?_cons_zero] <;> rfl) (by kernel_rfl) (by kernel_rfl) (by kernel_rfl) (by exact fun _ _ _ h => h) (Or.inl ⟨by rfl, ?_⟩) (by assumption) ?_
      rotate_left
      · intro w hSw
        try dsimp only at hSw
        go_simp <;> with_reducible rfl
      (try simp only [Act.put, List.setIfInBounds_toArray, List.set_cons_zero, List.set_cons_succ])
      refine wpAnyH_done (by kernel_rfl) ?_ _
      go_wp2_with fail
      go_ret
      unfold PtP
      rw [E1.out.1, E1.out.2]
      exact ⟨rfl, (TM.fr0 HFB.out.drew hT0.out).mono (fun k hk => .inl hk), (HFB.out.mono (fun _ _ h => h.elim)).drew⟩
    have d1 : decide (xt ≤ f0) = false := decide_eq_false c1
    have d1' : decide ((xt : Int) ≤ (f0 : Int)) = false := decide_eq_false (by omega)
    by_cases c2 : t0 ≤ xf
    · have d2 : decide (t0 ≤ xf) = true := decide_eq_true c2
      have d2' : decide ((t0 : Int) ≤ (xf : Int)) = true := decide_eq_true (by omega)
      have E1 : Hid (putT (xa, xb, xf, xt) (.node b f0 t0 es l r) = .node b f0 t0 es l r ∧ cntT (xa, xb, xf, xt) (.node b f0 t0 es l r) = 0) := Lib.hid (by rw [putT_node, cntT_node]; rw [if_pos (.inr c2), if_pos (.inr c2)]; exact ⟨rfl, rfl⟩)
      clear c1 c2 ihl ihr
      go_enter Try.func56, Try.ntmps56
      go_wp2_with fail
      refine wp_region_held_drew (S := (fun w' : World => w'.cell? ⟨bx, 2, none⟩ = some (.int .i64 (xf : Int)) ∧ w'.cell? ⟨bx, 3, none⟩ = some (.int .i64 (xt : Int)) ∧ w'.cell? ⟨b, 0, none⟩ = some (.int .i64 (f0 : Int)) ∧ w'.cell? ⟨b, 1, none⟩ = some (.int .i64 (t0 : Int)))) (by kernel_rfl) (⟨x2, x3, y0, y1⟩) (fun hHeld => ?_)
      refine wpAnyH_take (i := 0) (v := ?_) (by simp only [List.getElem?_toArray, List.getElem?_cons_zero] <;> rfl) (by kernel_rfl) (by kernel_rfl) (by kernel_rfl) (by exact fun _ _ _ h => h) (Or.inl ⟨by rfl, ?_⟩) (by assumption) ?_
      rotate_left
      · intro w hSw
        try dsimp only at hSw
        go_simp <;> with_reducible rfl
      (try simp only [Act.put, List.setIfInBounds_toArray, List.set_cons_zero, List.set_cons_succ])
      refine wpAnyH_take (i := 1) (v := ?_) (by simp only [List.getElem?_toArray, List.getElem?_cons_succ, List.getElem?_cons_zero] <;> rfl) (by kernel_rfl) (by kernel_rfl) (by kernel_rfl) (by exact fun _ _ _ h => h) (Or.inl ⟨by rfl, ?_⟩) (by assumption) ?_
      rotate_left
      · intro w hSw
        try dsimp only at hSw
        go_simp <;> with_reducible rfl
      (try simp only [Act.put, List.setIfInBounds_toArray, List.set_cons_zero, List.set_cons_succ])
      refine wpAnyH_take (i := 2) (v := ?_) (by simp only [List.getElem?_toArray, List.getElem?_cons_succ, List.getElem?_cons_zero] <;> rfl) (by kernel_rfl) (by kernel_rfl) (by kernel_rfl) (by exact fun _ _ _ h => h) (Or.inl ⟨by rfl, ?_⟩) (by assumption) ?_
      rotate_left
      · intro w hSw
        try dsimp only at hSw
        go_simp <;> with_reducible rfl
      (try simp only [Act.put, List.setIfInBounds_toArray, List.set_cons_zero, List.set_cons_succ])
      refine wpAnyH_take (i := 3) (v := ?_) (by simp only [List.getElem?_toArray, List.getElem?_cons_succ, List.getElem?_cons_zero] <;> rfl) (by kernel_rfl) (by kernel_rfl) (by kernel_rfl) (by exact fun _ _ _ h => h) (Or.inl ⟨by rfl, ?_⟩) (by assumption) ?_
      rotate_left
      · intro w hSw
        try dsimp only at hSw
        go_simp <;> with_reducible rfl
      (try simp only [Act.put, List.setIfInBounds_toArray, List.set_cons_zero, List.set_cons_succ])
      refine wpAnyH_take (i := 4) (v := ?_) (by simp only [List.getElem?_toArray, List.getElem?_cons_succ, List.getElem?_cons_zero] <;> rfl) (by kernel_rfl) (by kernel_rfl) (by kernel_rfl) (by exact fun _ _ _ h => h) (Or.inl ⟨by rfl, ?_⟩) (by assumption) ?_
      rotate_left
      · intro w hSw
        try dsimp only at hSw
        go_simp <;> with_reducible rfl
      (try simp only [Act.put, List.setIfInBounds_toArray, List.set_cons_zero, List.set_cons_succ])
      refine wpAnyH_take (i := 5) (v := ?_) (by simp only [List.getElem?_toArray, List.getElem?_cons_succ, List.getElem?_cons_zero] <;> rfl) (by kernel_rfl) (by kernel_rfl) (by kernel_rfl) (by exact fun _ _ _ h => h) (Or.inl ⟨by rfl, ?_⟩) (by assumption) ?_
      rotate_left
      · intro w hSw
        try dsimp only at hSw
        go_simp <;> with_reducible rfl
      (try simp only [Act.put, List.setIfInBounds_toArray, List.set_cons_zero, List.set_cons_succ])
      refine wpAnyH_take (i := 6) (v := ?_) (by simp only [List.getElem?_toArray, List.getElem?_cons_succ, List.getElem?_cons_zero] <;> rfl) (by kernel_rfl) (by kernel_rfl) (by kernel_rfl) (by exact fun _ _ _ h => h) (Or.inl ⟨by rfl, ?_⟩) (by assumption) ?_
      rotate_left
      · intro w hSw
        try dsimp only at hSw
        go_simp <;> with_reducible rfl
      (try simp only [Act.put, List.setIfInBounds_toArray, List.set_cons_zero, List.set_cons_succ])
      refine wpAnyH_take (i := 7) (v := ?_) (by simp only [List.getElem?_toArray, List.getElem?_cons_succ, List.getElem?_cons_zero] <;> rfl) (by kernel_rfl) (by kernel_rfl) (by kernel_rfl) (by exact fun _ _ _ h => h) (Or.inl ⟨by rfl, ?_⟩) (by assumption) ?_
      rotate_left
      · intro w hSw
        try dsimp only at hSw
        go_simp <;> with_reducible rfl
      (try simp only [Act.put, List.setIfInBounds_toArray, List.set_cons_zero, List.set_cons_succ])
      refine wpAnyH_take (i := 8) (v := ?_) (by simp only [List.getElem?_toArray, List.getElem?_cons_succ, List.getElem?_cons_zero] <;> rfl) (by kernel_rfl) (by kernel_rfl) (by kernel_rfl) (by exact fun _ _ _ h => h) (Or.inl ⟨by rfl, ?_⟩) (by assumption) ?_
      rotate_left
      · intro w hSw
        try dsimp only at hSw
        go_simp <;> with_reducible rfl
      (try simp only [Act.put, List.setIfInBounds_toArray, List.set_cons_zero, List.set_cons_succ])
      refine wpAnyH_take (i := 9) (v := ?_) (by simp only [List.getElem?_toArray, List.getElem?_cons_succ, List.getElem?_cons_zero] <;> rfl) (by kernel_rfl) (by kernel_rfl) (by kernel_rfl) (by exact fun _ _ _ h => h) (Or.inl ⟨by rfl, ?_⟩) (by assumption) ?_
      rotate_left
      · intro w hSw
        try dsimp only at hSw
        go_simp <;> with_reducible rfl
      (try simp only [Act.put, List.setIfInBounds_toArray, List.set_cons_zero, List.set_cons_succ])
      refine wpAnyH_take (i := 10) (v := ?_) (by simp only [List.getElem?_toArray, List.getElem?_cons_succ, List.getElem?_cons_zero] <;> rfl) (by kernel_rfl) (by kernel_rfl) (by kernel_rfl) (by exact fun _ _ _ h => h) (Or.inl ⟨by rfl, ?_⟩) (by assumption) ?_
      rotate_left
      · intro w hSw
        try dsimp only at hSw
        go_simp <;> with_reducible rfl
      (try simp only [Act.put, List.setIfInBounds_toArray, List.set_cons_zero, List.set_cons_succ])
      refine wpAnyH_take (i := 11) (v := ?_) (by simp only [List.getElem?_toArray, List.getElem?_cons_succ, List.getElem?_cons_zero] <;> rfl) (by kernel_rfl) (by kernel_rfl) (by kernel_rfl) (by exact fun _ _ _ h => h) (Or.inl ⟨by rfl, ?_⟩) (by assumption) ?_
      rotate_left
      · intro w hSw
        try dsimp only at hSw
        go_simp <;> with_reducible rfl
      (try simp only [Act.put, List.setIfInBounds_toArray, List.set_cons_zero, List.set_cons_succ])
      refine wpAnyH_take (i := 12) (v := ?_) (by simp only [List.getElem?_toArray, List.getElem?_cons_succ, List.getElem?_cons_zero] <;> rfl) (by kernel_rfl) (by kernel_rfl) (by kernel_rfl) (by exact fun _ _ _ h => h) (Or.inl ⟨by rfl, ?_⟩) (by assumption) ?_
      rotate_left
      · intro w hSw
        try dsimp only at hSw
        go_simp <;> with_reducible rfl
      (try simp only [Act.put, List.setIfInBounds_toArray, List.set_cons_zero, List.set_cons_succ])
      refine wpAnyH_take (i := 13) (v := ?_) (by simp only [List.getElem?_toArray, List.getElem?_cons_succ, List.getElem?_cons_zero] <;> rfl) (by kernel_rfl) (by kernel_rfl) (by kernel_rfl) (by exact fun _ _ _ h => h) (Or.inl ⟨by rfl, ?_⟩) (by assumption) ?_
      rotate_left
      · intro w hSw
        try dsimp only at hSw
        go_simp <;> with_reducible rfl
      (try simp only [Act.put, List.setIfInBounds_toArray, List.set_cons_zero, List.set_cons_succ])
      refine wpAnyH_take (i := 14) (v := ?_) (by simp only [List.getElem?_toArray, List.getElem?_cons_succ, List.getElem?_cons_zero] <;> rfl) (by kernel_rfl) (by kernel_rfl) (by kernel_rfl) (by exact fun _ _ _ h => h) (Or.inl ⟨by rfl, ?_⟩) (by assumption) ?_
      rotate_left
      · intro w hSw
        try dsimp only at hSw
        go_simp <;> with_reducible rfl
      (try simp only [Act.put, List.setIfInBounds_toArray, List.set_cons_zero, List.set_cons_succ])
      refine wpAnyH_take (i := 15) (v := ?_) (by simp only [List.getElem?_toArray, List.getElem?_cons_succ, List.getElem?_cons_zero] <;> rfl) (by kernel_rfl) (by kernel_rfl) (by kernel_rfl) (by exact fun _ _ _ h => h) (Or.inl ⟨by rfl, ?_⟩) (by assumption) ?_
      rotate_left
      · intro w hSw
        try dsimp only at hSw
        go_simp <;> with_reducible rfl
      (try simp only [Act.put, List.setIfInBounds_toArray, List.set_cons_zero, List.set_cons_succ])
      refine wpAnyH_take (i := 16) (v := ?_) (by simp only [List.getElem?_toArray, List.getElem?_cons_succ, List.getElem?_cons_zero] <;> rfl) (by kernel_rfl) (by kernel_rfl) (by kernel_rfl) (by exact fun _ _ _ h => h) (Or.inl ⟨by rfl, ?_⟩) (by assumption) ?_
      rotate_left
      · intro w hSw
        try dsimp only at hSw
        go_simp <;> with_reducible rfl
      (try simp only [Act.put, List.setIfInBounds_toArray, List.set_cons_zero, List.set_cons_succ])
      refine wpAnyH_take (i := 17) (v := ?_) (by simp only [List.getElem?_toArray, List.getElem?_cons_succ, List.getElem?_cons_zero] <;> rfl) (by kernel_rfl) (by kernel_rfl) (by kernel_rfl) (by exact fun _ _ _ h => h) (Or.inl ⟨by rfl, ?_⟩) (by assumption) ?_
      rotate_left
      · intro w hSw
        try dsimp only at hSw
        go_simp <;> with_reducible rfl
      (try simp only [Act.put, List.setIfInBounds_toArray, List.set_cons_zero, List.set_cons_succ])
      refine wpAnyH_take (i := 18) (v := ?_) (by simp only [List.getElem?_toArray, List.getElem?_cons_succ, List.getElem?_cons_zero] <;> rfl) (by kernel_rfl) (by kernel_rfl) (by kernel_rfl) (by exact fun _ _ _ h => h) (Or.inl ⟨by rfl, ?_⟩) (by assumption) ?_
      rotate_left
      · intro w hSw
        try dsimp only at hSw
        go_simp <;> with_reducible rfl
      (try simp only [Act.put, List.setIfInBounds_toArray, List.set_cons_zero, List.set_cons_succ])
      refine wpAnyH_take (i := 19) (v := ?_) (by simp only [List.getElem?_toArray, List.getElem?_cons_succ, List.getElem?_cons_zero] <;> rfl) (by kernel_rfl) (by kernel_rfl) (by kernel_rfl) (by exact fun _ _ _ h => h) (Or.inl ⟨by rfl, ?_⟩) (by assumption) ?_
      rotate_left
      · intro w hSw
        try dsimp only at hSw
        go_simp <;> with_reducible rfl
      (try simp only [Act.put, List.setIfInBounds_toArray, List.set_cons_zero, List.set_cons_succ])
      refine wpAnyH_take (i := 20) (v := ?_) (by simp only [List.getElem?_toArray, List.getElem?_cons_succ, List.getElem?_cons_zero] <;> rfl) (by kernel_rfl) (by kernel_rfl) (by kernel_rfl) (by exact fun _ _ _ h => h) (Or.inl ⟨by rfl, ?_⟩) (by assumption) ?_
      rotate_left
      · intro w hSw
        try dsimp only at hSw
        go_simp <;> with_reducible rfl
      (try simp only [Act.put, List.setIfInBounds_toArray, List.set_cons_zero, List.set_cons_succ])
      refine wpAnyH_done (by kernel_rfl) ?_ _
      go_wp2_with fail
      go_ret
      unfold PtP
      rw [E1.out.1, E1.out.2]
      exact ⟨rfl, (TM.fr0 HFB.out.drew hT0.out).mono (fun k hk => .inl hk), (HFB.out.mono (fun _ _ h => h.elim)).drew⟩
    have d2 : decide (t0 ≤ xf) = false := decide_eq_false c2
    have d2' : decide ((t0 : Int) ≤ (xf : Int)) = false := decide_eq_false (by omega)
    have hn1 : ¬ (xt ≤ f0 ∨ t0 ≤ xf) := by omega
    by_cases c3 : xf ≤ f0 ∧ t0 ≤ xt
    · have d3 : decide (xf ≤ f0) = true := decide_eq_true c3.1
      have d3' : decide ((xf : Int) ≤ (f0 : Int)) = true := decide_eq_true (by omega)
      have d4 : decide (t0 ≤ xt) = true := decide_eq_true c3.2
      have d4' : decide ((t0 : Int) ≤ (xt : Int)) = true := decide_eq_true (by omega)
      have E1 : Hid (putT (xa, xb, xf, xt) (.node b f0 t0 es l r) = .node b f0 t0 (es ++ [(xa, xb, xf, xt)]) l r ∧ cntT (xa, xb, xf, xt) (.node b f0 t0 es l r) = 1) := Lib.hid (by rw [putT_node, cntT_node]; rw [if_neg hn1, if_neg hn1, if_pos c3, if_pos c3]; exact ⟨rfl, rfl⟩)
      clear c1 c2 c3 hn1 ihl ihr
      go_enter Try.func56, Try.ntmps56
      go_wp2_with fail
      refine wp_region_held_drew (S := (fun w' : World => w'.cell? ⟨bx, 2, none⟩ = some (.int .i64 (xf : Int)) ∧ w'.cell? ⟨bx, 3, none⟩ = some (.int .i64 (xt : Int)) ∧ w'.cell? ⟨b, 0, none⟩ = some (.int .i64 (f0 : Int)) ∧ w'.cell? ⟨b, 1, none⟩ = some (.int .i64 (t0 : Int)))) (by kernel_rfl) (⟨x2, x3, y0, y1⟩) (fun hHeld => ?_)
      refine wpAnyH_take (i := 0) (v := ?_) (by simp only [List.getElem?_toArray, List.getElem?_cons_zero] <;> rfl) (by kernel_rfl) (by kernel_rfl) (by kernel_rfl) (by exact fun _ _ _ h => h) (Or.inl ⟨by rfl, ?_⟩) (by assumption) ?_
      rotate_left
      · intro w hSw
        try dsimp only at hSw
        go_simp <;> with_reducible rfl
      (try simp only [Act.put, List.setIfInBounds_toArray, List.set_cons_zero, List.set_cons_succ])
      refine wpAnyH_take (i := 1) (v := ?_) (by simp only [List.getElem?_toArray, List.getElem?_cons_succ, List.getElem?_cons_zero] <;> rfl) (by kernel_rfl) (by kernel_rfl) (by kernel_rfl) (by exact fun _ _ _ h => h) (Or.inl ⟨by rfl, ?_⟩) (by assumption) ?_
      rotate_left
      · intro w hSw
        try dsimp only at hSw
        go_simp <;> with_reducible rfl
      (try simp only [Act.put, List.setIfInBounds_toArray, List.set_cons_zero, List.set_cons_succ])
      refine wpAnyH_take (i := 2) (v := ?_) (by simp only [List.getElem?_toArray, List.getElem?_cons_succ, List.getElem?_cons_zero] <;> rfl) (by kernel_rfl) (by kernel_rfl) (by kernel_rfl) (by exact fun _ _ _ h => h) (Or.inl ⟨by rfl, ?_⟩) (by assumption) ?_
      rotate_left
      · intro w hSw
        try dsimp only at hSw
        go_simp <;> with_reducible rfl
      (try simp only [Act.put, List.setIfInBounds_toArray, List.set_cons_zero, List.set_cons_succ])
      refine wpAnyH_take (i := 3) (v := ?_) (by simp only [List.getElem?_toArray, List.getElem?_cons_succ, List.getElem?_cons_zero] <;> rfl) (by kernel_rfl) (by kernel_rfl) (by kernel_rfl) (by exact fun _ _ _ h => h) (Or.inl ⟨by rfl, ?_⟩) (by assumption) ?_
      rotate_left
      · intro w hSw
        try dsimp only at hSw
        go_simp <;> with_reducible rfl
      (try simp only [Act.put, List.setIfInBounds_toArray, List.set_cons_zero, List.set_cons_succ])
      refine wpAnyH_take (i := 4) (v := ?_) (by simp only [List.getElem?_toArray, List.getElem?_cons_succ, List.getElem?_cons_zero] <;> rfl) (by kernel_rfl) (by kernel_rfl) (by kernel_rfl) (by exact fun _ _ _ h => h) (Or.inl ⟨by rfl, ?_⟩) (by assumption) ?_
      rotate_left
      · intro w hSw
        try dsimp only at hSw
        go_simp <;> with_reducible rfl
      (try simp only [Act.put, List.setIfInBounds_toArray, List.set_cons_zero, List.set_cons_succ])
      refine wpAnyH_take (i := 5) (v := ?_) (by simp only [List.getElem?_toArray, List.getElem?_cons_succ, List.getElem?_cons_zero] <;> rfl) (by kernel_rfl) (by kernel_rfl) (by kernel_rfl) (by exact fun _ _ _ h => h) (Or.inl ⟨by rfl, ?_⟩) (by assumption) ?_
      rotate_left
      · intro w hSw
        try dsimp only at hSw
        go_simp <;> with_reducible rfl
      (try simp only [Act.put, List.setIfInBounds_toArray, List.set_cons_zero, List.set_cons_succ])
      refine wpAnyH_take (i := 6) (v := ?_) (by simp only [List.getElem?_toArray, List.getElem?_cons_succ, List.getElem?_cons_zero] <;> rfl) (by kernel_rfl) (by kernel_rfl) (by kernel_rfl) (by exact fun _ _ _ h => h) (Or.inl ⟨by rfl, ?_⟩) (by assumption) ?_
      rotate_left
      · intro w hSw
        try dsimp only at hSw
        go_simp <;> with_reducible rfl
      (try simp only [Act.put, List.setIfInBounds_toArray, List.set_cons_zero, List.set_cons_succ])
      refine wpAnyH_take (i := 7) (v := ?_) (by simp only [List.getElem?_toArray, List.getElem?_cons_succ, List.getElem?_cons_zero] <;> rfl) (by kernel_rfl) (by kernel_rfl) (by kernel_rfl) (by exact fun _ _ _ h => h) (Or.inl ⟨by rfl, ?_⟩) (by assumption) ?_
      rotate_left
      · intro w hSw
        try dsimp only at hSw
        go_simp <;> with_reducible rfl
      (try simp only [Act.put, List.setIfInBounds_toArray, List.set_cons_zero, List.set_cons_succ])
      refine wpAnyH_take (i := 8) (v := ?_) (by simp only [List.getElem?_toArray, List.getElem?_cons_succ, List.getElem?_cons_zero] <;> rfl) (by kernel_rfl) (by kernel_rfl) (by kernel_rfl) (by exact fun _ _ _ h => h) (Or.inl ⟨by rfl, ?_⟩) (by assumption) ?_
      rotate_left
      · intro w hSw
        try dsimp only at hSw
        go_simp <;> with_reducible rfl
      (try simp only [Act.put, List.setIfInBounds_toArray, List.set_cons_zero, List.set_cons_succ])
      refine wpAnyH_take (i := 9) (v := ?_) (by simp only [List.getElem?_toArray, List.getElem?_cons_succ, List.getElem?_cons_zero] <;> rfl) (by kernel_rfl) (by kernel_rfl) (by kernel_rfl) (by exact fun _ _ _ h => h) (Or.inl ⟨by rfl, ?_⟩) (by assumption) ?_
      rotate_left
      · intro w hSw
        try dsimp only at hSw
        go_simp <;> with_reducible rfl
      (try simp only [Act.put, List.setIfInBounds_toArray, List.set_cons_zero, List.set_cons_succ])
      refine wpAnyH_take (i := 10) (v := ?_) (by simp only [List.getElem?_toArray, List.getElem?_cons_succ, List.getElem?_cons_zero] <;> rfl) (by kernel_rfl) (by kernel_rfl) (by kernel_rfl) (by exact fun _ _ _ h => h) (Or.inl ⟨by rfl, ?_⟩) (by assumption) ?_
      rotate_left
      · intro w hSw
        try dsimp only at hSw
        go_simp <;> with_reducible rfl
      (try simp only [Act.put, List.setIfInBounds_toArray, List.set_cons_zero, List.set_cons_succ])
      refine wpAnyH_take (i := 11) (v := ?_) (by simp only [List.getElem?_toArray, List.getElem?_cons_succ, List.getElem?_cons_zero] <;> rfl) (by kernel_rfl) (by kernel_rfl) (by kernel_rfl) (by exact fun _ _ _ h => h) (Or.inl ⟨by rfl, ?_⟩) (by assumption) ?_
      rotate_left
      · intro w hSw
        try dsimp only at hSw
        go_simp <;> with_reducible rfl
      (try simp only [Act.put, List.setIfInBounds_toArray, List.set_cons_zero, List.set_cons_succ])
      refine wpAnyH_take (i := 12) (v := ?_) (by simp only [List.getElem?_toArray, List.getElem?_cons_succ, List.getElem?_cons_zero] <;> rfl) (by kernel_rfl) (by kernel_rfl) (by kernel_rfl) (by exact fun _ _ _ h => h) (Or.inl ⟨by rfl, ?_⟩) (by assumption) ?_
      rotate_left
      · intro w hSw
        try dsimp only at hSw
        go_simp <;> with_reducible rfl
      (try simp only [Act.put, List.setIfInBounds_toArray, List.set_cons_zero, List.set_cons_succ])
      refine wpAnyH_take (i := 13) (v := ?_) (by simp only [List.getElem?_toArray, List.getElem?_cons_succ, List.getElem?_cons_zero] <;> rfl) (by kernel_rfl) (by kernel_rfl) (by kernel_rfl) (by exact fun _ _ _ h => h) (Or.inl ⟨by rfl, ?_⟩) (by assumption) ?_
      rotate_left
      · intro w hSw
        try dsimp only at hSw
        go_simp <;> with_reducible rfl
      (try simp only [Act.put, List.setIfInBounds_toArray, List.set_cons_zero, List.set_cons_succ])
      refine wpAnyH_take (i := 14) (v := ?_) (by simp only [List.getElem?_toArray, List.getElem?_cons_succ, List.getElem?_cons_zero] <;> rfl) (by kernel_rfl) (by kernel_rfl) (by kernel_rfl) (by exact fun _ _ _ h => h) (Or.inl ⟨by rfl, ?_⟩) (by assumption) ?_
      rotate_left
      · intro w hSw
        try dsimp only at hSw
        go_simp <;> with_reducible rfl
      (try simp only [Act.put, List.setIfInBounds_toArray, List.set_cons_zero, List.set_cons_succ])
      refine wpAnyH_take (i := 15) (v := ?_) (by simp only [List.getElem?_toArray, List.getElem?_cons_succ, List.getElem?_cons_zero] <;> rfl) (by kernel_rfl) (by kernel_rfl) (by kernel_rfl) (by exact fun _ _ _ h => h) (Or.inl ⟨by rfl, ?_⟩) (by assumption) ?_
      rotate_left
      · intro w hSw
        try dsimp only at hSw
        go_simp <;> with_reducible rfl
      (try simp only [Act.put, List.setIfInBounds_toArray, List.set_cons_zero, List.set_cons_succ])
      refine wpAnyH_take (i := 16) (v := ?_) (by simp only [List.getElem?_toArray, List.getElem?_cons_succ, List.getElem?_cons_zero] <;> rfl) (by kernel_rfl) (by kernel_rfl) (by kernel_rfl) (by exact fun _ _ _ h => h) (Or.inl ⟨by rfl, ?_⟩) (by assumption) ?_
      rotate_left
      · intro w hSw
        try dsimp only at hSw
        go_simp <;> with_reducible rfl
      (try simp only [Act.put, List.setIfInBounds_toArray, List.set_cons_zero, List.set_cons_succ])
      refine wpAnyH_take (i := 17) (v := ?_) (by simp only [List.getElem?_toArray, List.getElem?_cons_succ, List.getElem?_cons_zero] <;> rfl) (by kernel_rfl) (by kernel_rfl) (by kernel_rfl) (by exact fun _ _ _ h => h) (Or.inl ⟨by rfl, ?_⟩) (by assumption) ?_
      rotate_left
      · intro w hSw
        try dsimp only at hSw
        go_simp <;> with_reducible rfl
      (try simp only [Act.put, List.setIfInBounds_toArray, List.set_cons_zero, List.set_cons_succ])
      refine wpAnyH_take (i := 18) (v := ?_) (by simp only [List.getElem?_toArray, List.getElem?_cons_succ, List.getElem?_cons_zero] <;> rfl) (by kernel_rfl) (by kernel_rfl) (by kernel_rfl) (by exact fun _ _ _ h => h) (Or.inl ⟨by rfl, ?_⟩) (by assumption) ?_
      rotate_left
      · intro w hSw
        try dsimp only at hSw
        go_simp <;> with_reducible rfl
      (try simp only [Act.put, List.setIfInBounds_toArray, List.set_cons_zero, List.set_cons_succ])
      refine wpAnyH_take (i := 19) (v := ?_) (by simp only [List.getElem?_toArray, List.getElem?_cons_succ, List.getElem?_cons_zero] <;> rfl) (by kernel_rfl) (by kernel_rfl) (by kernel_rfl) (by exact fun _ _ _ h => h) (Or.inl ⟨by rfl, ?_⟩) (by assumption) ?_
      rotate_left
      · intro w hSw
        try dsimp only at hSw
        go_simp <;> with_reducible rfl
      (try simp only [Act.put, List.setIfInBounds_toArray, List.set_cons_zero, List.set_cons_succ])
      refine wpAnyH_take (i := 20) (v := ?_) (by simp only [List.getElem?_toArray, List.getElem?_cons_succ, List.getElem?_cons_zero] <;> rfl) (by kernel_rfl) (by kernel_rfl) (by kernel_rfl) (by exact fun _ _ _ h => h) (Or.inl ⟨by rfl, ?_⟩) (by assumption) ?_
      rotate_left
      · intro w hSw
        try dsimp only at hSw
        go_simp <;> with_reducible rfl
      (try simp only [Act.put, List.setIfInBounds_toArray, List.set_cons_zero, List.set_cons_succ])
      refine wpAnyH_done (by kernel_rfl) ?_ _
      go_wp2_with fail
      refine wp_region_held_drew (S := (fun w' : World => w'.cell? ⟨bx, 2, none⟩ = some (.int .i64 (xf : Int)) ∧ w'.cell? ⟨bx, 3, none⟩ = some (.int .i64 (xt : Int)) ∧ w'.cell? ⟨b, 0, none⟩ = some (.int .i64 (f0 : Int)) ∧ w'.cell? ⟨b, 1, none⟩ = some (.int .i64 (t0 : Int)))) (by kernel_rfl) (⟨x2, x3, y0, y1⟩) (fun hHeld => ?_)
      refine wpAnyH_take (i := 0) (v := ?_) (by simp only [List.getElem?_toArray, List.getElem?_cons_zero] <;> rfl) (by kernel_rfl) (by kernel_rfl) (by kernel_rfl) (by exact fun _ _ _ h => h) (Or.inl ⟨by rfl, ?_⟩) (by assumption) ?_
      rotate_left
      · intro w hSw
        try dsimp only at hSw
        go_simp <;> with_reducible rfl
      (try simp only [Act.put, List.setIfInBounds_toArray, List.set_cons_zero, List.set_cons_succ])
      refine wpAnyH_take (i := 1) (v := ?_) (by simp only [List.getElem?_toArray, List.getElem?_cons_succ, List.getElem?_cons_zero] <;> rfl) (by kernel_rfl) (by kernel_rfl) (by kernel_rfl) (by exact fun _ _ _ h => h) (Or.inl ⟨by rfl, ?_⟩) (by assumption) ?_
      rotate_left
      · intro w hSw
        try dsimp only at hSw
        go_simp <;> with_reducible rfl
      (try simp only [Act.put, List.setIfInBounds_toArray, List.set_cons_zero, List.set_cons_succ])
      refine wpAnyH_take (i := 2) (v := ?_) (by simp only [List.getElem?_toArray, List.getElem?_cons_succ, List.getElem?_cons_zero] <;> rfl) (by kernel_rfl) (by kernel_rfl) (by kernel_rfl) (by exact fun _ _ _ h => h) (Or.inl ⟨by rfl, ?_⟩) (by assumption) ?_
      rotate_left
      · intro w hSw
        try dsimp only at hSw
        go_simp <;> with_reducible rfl
      (try simp only [Act.put, List.setIfInBounds_toArray, List.set_cons_zero, List.set_cons_succ])
      refine wpAnyH_take (i := 3) (v := ?_) (by simp only [List.getElem?_toArray, List.getElem?_cons_succ, List.getElem?_cons_zero] <;> rfl) (by kernel_rfl) (by kernel_rfl) (by kernel_rfl) (by exact fun _ _ _ h => h) (Or.inl ⟨by rfl, ?_⟩) (by assumption) ?_
      rotate_left
      · intro w hSw
        try dsimp only at hSw
        go_simp <;> with_reducible rfl
      (try simp only [Act.put, List.setIfInBounds_toArray, List.set_cons_zero, List.set_cons_succ])
      refine wpAnyH_take (i := 4) (v := ?_) (by simp only [List.getElem?_toArray, List.getElem?_cons_succ, List.getElem?_cons_zero] <;> rfl) (by kernel_rfl) (by kernel_rfl) (by kernel_rfl) (by exact fun _ _ _ h => h) (Or.inl ⟨by rfl, ?_⟩) (by assumption) ?_
      rotate_left
      · intro w hSw
        try dsimp only at hSw
        go_simp <;> with_reducible rfl
      (try simp only [Act.put, List.setIfInBounds_toArray, List.set_cons_zero, List.set_cons_succ])
      refine wpAnyH_take (i := 5) (v := ?_) (by simp only [List.getElem?_toArray, List.getElem?_cons_succ, List.getElem?_cons_zero] <;> rfl) (by kernel_rfl) (by kernel_rfl) (by kernel_rfl) (by exact fun _ _ _ h => h) (Or.inl ⟨by rfl, ?_⟩) (by assumption) ?_
      rotate_left
      · intro w hSw
        try dsimp only at hSw
        go_simp <;> with_reducible rfl
      (try simp only [Act.put, List.setIfInBounds_toArray, List.set_cons_zero, List.set_cons_succ])
      refine wpAnyH_take (i := 6) (v := ?_) (by simp only [List.getElem?_toArray, List.getElem?_cons_succ, List.getElem?_cons_zero] <;> rfl) (by kernel_rfl) (by kernel_rfl) (by kernel_rfl) (by exact fun _ _ _ h => h) (Or.inl ⟨by rfl, ?_⟩) (by assumption) ?_
      rotate_left
      · intro w hSw
        try dsimp only at hSw
        go_simp <;> with_reducible rfl
      (try simp only [Act.put, List.setIfInBounds_toArray, List.set_cons_zero, List.set_cons_succ])
      refine wpAnyH_take (i := 7) (v := ?_) (by simp only [List.getElem?_toArray, List.getElem?_cons_succ, List.getElem?_cons_zero] <;> rfl) (by kernel_rfl) (by kernel_rfl) (by kernel_rfl) (by exact fun _ _ _ h => h) (Or.inl ⟨by rfl, ?_⟩) (by assumption) ?_
      rotate_left
      · intro w hSw
        try dsimp only at hSw
        go_simp <;> with_reducible rfl
      (try simp only [Act.put, List.setIfInBounds_toArray, List.set_cons_zero, List.set_cons_succ])
      refine wpAnyH_take (i := 8) (v := ?_) (by simp only [List.getElem?_toArray, List.getElem?_cons_succ, List.getElem?_cons_zero] <;> rfl) (by kernel_rfl) (by kernel_rfl) (by kernel_rfl) (by exact fun _ _ _ h => h) (Or.inl ⟨by rfl, ?_⟩) (by assumption) ?_
      rotate_left
      · intro w hSw
        try dsimp only at hSw
        go_simp <;> with_reducible rfl
      (try simp only [Act.put, List.setIfInBounds_toArray, List.set_cons_zero, List.set_cons_succ])
      refine wpAnyH_take (i := 9) (v := ?_) (by simp only [List.getElem?_toArray, List.getElem?_cons_succ, List.getElem?_cons_zero] <;> rfl) (by kernel_rfl) (by kernel_rfl) (by kernel_rfl) (by exact fun _ _ _ h => h) (Or.inl ⟨by rfl, ?_⟩) (by assumption) ?_
      rotate_left
      · intro w hSw
        try dsimp only at hSw
        go_simp <;> with_reducible rfl
      (try simp only [Act.put, List.setIfInBounds_toArray, List.set_cons_zero, List.set_cons_succ])
      refine wpAnyH_take (i := 10) (v := ?_) (by simp only [List.getElem?_toArray, List.getElem?_cons_succ, List.getElem?_cons_zero] <;> rfl) (by kernel_rfl) (by kernel_rfl) (by kernel_rfl) (by exact fun _ _ _ h => h) (Or.inl ⟨by rfl, ?_⟩) (by assumption) ?_
      rotate_left
      · intro w hSw
        try dsimp only at hSw
        go_simp <;> with_reducible rfl
      (try simp only [Act.put, List.setIfInBounds_toArray, List.set_cons_zero, List.set_cons_succ])
      refine wpAnyH_take (i := 11) (v := ?_) (by simp only [List.getElem?_toArray, List.getElem?_cons_succ, List.getElem?_cons_zero] <;> rfl) (by kernel_rfl) (by kernel_rfl) (by kernel_rfl) (by exact fun _ _ _ h => h) (Or.inl ⟨by rfl, ?_⟩) (by assumption) ?_
      rotate_left
      · intro w hSw
        try dsimp only at hSw
        go_simp <;> with_reducible rfl
      (try simp only [Act.put, List.setIfInBounds_toArray, List.set_cons_zero, List.set_cons_succ])
      refine wpAnyH_take (i := 12) (v := ?_) (by simp only [List.getElem?_toArray, List.getElem?_cons_succ, List.getElem?_cons_zero] <;> rfl) (by kernel_rfl) (by kernel_rfl) (by kernel_rfl) (by exact fun _ _ _ h => h) (Or.inl ⟨by rfl, ?_⟩) (by assumption) ?_
      rotate_left
      · intro w hSw
        try dsimp only at hSw
        go_simp <;> with_reducible rfl
      (try simp only [Act.put, List.setIfInBounds_toArray, List.set_cons_zero, List.set_cons_succ])
      refine wpAnyH_take (i := 13) (v := ?_) (by simp only [List.getElem?_toArray, List.getElem?_cons_succ, List.getElem?_cons_zero] <;> rfl) (by kernel_rfl) (by kernel_rfl) (by kernel_rfl) (by exact fun _ _ _ h => h) (Or.inl ⟨by rfl, ?_⟩) (by assumption) ?_
      rotate_left
      · intro w hSw
        try dsimp only at hSw
        go_simp <;> with_reducible rfl
      (try simp only [Act.put, List.setIfInBounds_toArray, List.set_cons_zero, List.set_cons_succ])
      refine wpAnyH_take (i := 14) (v := ?_) (by simp only [List.getElem?_toArray, List.getElem?_cons_succ, List.getElem?_cons_zero] <;> rfl) (by kernel_rfl) (by kernel_rfl) (by kernel_rfl) (by exact fun _ _ _ h => h) (Or.inl ⟨by rfl, ?_⟩) (by assumption) ?_
      rotate_left
      · intro w hSw
        try dsimp only at hSw
        go_simp <;> with_reducible rfl
      (try simp only [Act.put, List.setIfInBounds_toArray, List.set_cons_zero, List.set_cons_succ])
      refine wpAnyH_take (i := 15) (v := ?_) (by simp only [List.getElem?_toArray, List.getElem?_cons_succ, List.getElem?_cons_zero] <;> rfl) (by kernel_rfl) (by kernel_rfl) (by kernel_rfl) (by exact fun _ _ _ h => h) (Or.inl ⟨by rfl, ?_⟩) (by assumption) ?_
      rotate_left
      · intro w hSw
        try dsimp only at hSw
        go_simp <;> with_reducible rfl
      (try simp only [Act.put, List.setIfInBounds_toArray, List.set_cons_zero, List.set_cons_succ])
      refine wpAnyH_take (i := 16) (v := ?_) (by simp only [List.getElem?_toArray, List.getElem?_cons_succ, List.getElem?_cons_zero] <;> rfl) (by kernel_rfl) (by kernel_rfl) (by kernel_rfl) (by exact fun _ _ _ h => h) (Or.inl ⟨by rfl, ?_⟩) (by assumption) ?_
      rotate_left
      · intro w hSw
        try dsimp only at hSw
        go_simp <;> with_reducible rfl
      (try simp only [Act.put, List.setIfInBounds_toArray, List.set_cons_zero, List.set_cons_succ])
      refine wpAnyH_done (by kernel_rfl) ?_ _
      go_wp2_with fail
      clear d1 d1' d2 d2' d3 d3' d4 d4'
      obtain ⟨w1, hw1⟩ : ∃ wz, wz = wb.drew.drew.drew := ⟨_, rfl⟩
      have FW : Hid (Fr F0 w w1) := Lib.hid (by rw [hw1]; exact HFB.out.drew.drew.drew)
      have OW : Hid (OwnZ w1 B 83 4 ae es.length ce (ivs es)) := Lib.hid (OwnZ.fr0 Hae.out.1 FW.out)
      have BW : Hid (Blk w1 b 81 [.int .i64 (f0 : Int), .int .i64 (t0 : Int), .slice ae es.length ce, l.ptr, r.ptr]) := Lib.hid (by rw [hw1]; exact HBB.out)
      have XW : Hid (Blk w1 bx 83 (iv4 (xa, xb, xf, xt))) := Lib.hid (by rw [hw1]; exact HBX.out)
      have sh : ∀ W, Fr F0 w1 W → (fun w' : World => w'.cell? ⟨b, 2, none⟩ = some (.slice ae es.length ce) ∧ w'.cell? ⟨bx, 0, none⟩ = some (.int .i64 (xa : Int)) ∧ w'.cell? ⟨bx, 1, none⟩ = some (.int .i64 (xb : Int)) ∧ w'.cell? ⟨bx, 2, none⟩ = some (.int .i64 (xf : Int)) ∧ w'.cell? ⟨bx, 3, none⟩ = some (.int .i64 (xt : Int))) W := fun W f => ⟨(BW.out.fr f id).cell (i := 2) rfl, (XW.out.fr f id).cell (i := 0) rfl, (XW.out.fr f id).cell (i := 1) rfl, (XW.out.fr f id).cell (i := 2) rfl, (XW.out.fr f id).cell (i := 3) rfl⟩
      have SH := Lib.hid sh
      have hz1 : Hid (w.heap.size < w1.heap.size) := Lib.hid (by rw [hw1]; show w.heap.size < wb.heap.size; have h1 := Hsz.out; omega)
      refine wp_region_last 10 (fun w' : World => w'.cell? ⟨b, 2, none⟩ = some (.slice ae es.length ce) ∧ w'.cell? ⟨bx, 0, none⟩ = some (.int .i64 (xa : Int)) ∧ w'.cell? ⟨bx, 1, none⟩ = some (.int .i64 (xb : Int)) ∧ w'.cell? ⟨bx, 2, none⟩ = some (.int .i64 (xf : Int)) ∧ w'.cell? ⟨bx, 3, none⟩ = some (.int .i64 (xt : Int))) (by kernel_rfl) ?_
      rw [← hw1]
      have hHeld := SH.out w1 (Fr.refl _ _)
      clear hw1 sh x0 x1 x2 x3 y0 y1 y2 y3 y4
      refine anyP_takeF 0 (v := ?_) rfl (by kernel_rfl) (fun _ _ _ h => h) (Or.inl ⟨by rfl, ?_⟩) (.inr hHeld) ?_
      rotate_left 1
      · (intro w0 hSw; (try dsimp only at hSw); go_simp; (try (with_reducible rfl)))
      (try simp only [Act.put, List.setIfInBounds_toArray])
      refine anyP_takeF 1 (v := ?_) rfl (by kernel_rfl) (fun _ _ _ h => h) (Or.inl ⟨by rfl, ?_⟩) (.inr hHeld) ?_
      rotate_left 1
      · (intro w0 hSw; (try dsimp only at hSw); go_simp; (try (with_reducible rfl)))
      (try simp only [Act.put])
      refine anyP_takeF 2 (v := ?_) rfl (by kernel_rfl) (fun _ _ _ h => h) (Or.inl ⟨by rfl, ?_⟩) (.inr hHeld) ?_
      rotate_left 1
      · (intro w0 hSw; (try dsimp only at hSw); go_simp; (try (with_reducible rfl)))
      (try simp only [Act.put])
      refine anyP_takeF 3 (v := ?_) rfl (by kernel_rfl) (fun _ _ _ h => h) (Or.inl ⟨by rfl, ?_⟩) (.inr hHeld) ?_
      rotate_left 1
      · (intro w0 hSw; (try dsimp only at hSw); go_simp; (try (with_reducible rfl)))
      (try simp only [Act.put])
      refine anyP_take 4 (v := ?_) rfl rfl (by kernel_rfl) (fun _ _ _ h => h) (Or.inl ⟨by rfl, ?_⟩) hHeld ?_
      rotate_left 1
      · (intro w0 hSw; (try dsimp only at hSw); go_simp; (try (with_reducible rfl)))
      (try simp only [Act.put])
      refine anyP_take 5 (v := ?_) rfl rfl (by kernel_rfl) (fun _ _ _ h => h) (Or.inl ⟨by rfl, ?_⟩) hHeld ?_
      rotate_left 1
      · (intro w0 hSw; (try dsimp only at hSw); go_simp; (try (with_reducible rfl)))
      (try simp only [Act.put])
      refine anyP_one 6 (by kernel_rfl) rfl (fun K hK => ?_)
      replace hK := Lib.hid hK
      go_simp
      refine hK.out _ _ (.inr (SH.out _ ((Fr.refl F0 w1).alloc _))) ?_
      clear hK K
      (try simp only [Act.put, List.setIfInBounds_toArray, List.set_cons_zero, List.set_cons_succ])
      have lit := rdZ_new w1 83 (iv4 (xa, xb, xf, xt))
      have FA := (Fr.refl F0 w1).alloc (.cells (iv4 (xa, xb, xf, xt)).toArray 83)
      have SH2 := Lib.hid (fun (W : World) (f : Fr F0 (w1.alloc (.cells (iv4 (xa, xb, xf, xt)).toArray 83)) W) => SH.out W (FA.trans0 f))
      have OW2 := OwnZ.fr0 OW.out FA
      have BW2 := BW.out.fr FA id
      have FW2 := FW.out.trans0 FA
      obtain ⟨gx, hgx⟩ : ∃ g, g = w1.heap.size := ⟨_, rfl⟩
      obtain ⟨w2, hw2⟩ : ∃ wz, wz = w1.alloc (.cells (iv4 (xa, xb, xf, xt)).toArray 83) := ⟨_, rfl⟩
      change anyP _ _ _ _ _ _ _ _ _ (w1.alloc (.cells (iv4 (xa, xb, xf, xt)).toArray 83))
      have hz2 : Hid (w1.heap.size ≤ w2.heap.size) := Lib.hid (by rw [hw2]; exact FA.size)
      rw [← hw2] at lit OW2 BW2 FW2 SH2 ⊢
      rw [← hgx] at lit ⊢
      replace OW2 := Lib.hid OW2; replace BW2 := Lib.hid BW2; replace FW2 := Lib.hid FW2; replace lit := Lib.hid lit
      clear FA hw2 hgx hHeld
      refine anyP_one 7 (by kernel_rfl) rfl (fun KK hKK => ?_)
      replace hKK := Lib.hid hKK
      refine stepAppZ E83 (by decide) (by rfl) (by rfl) (by rfl) (by rfl) OW2.out lit.out (iv4_one _) (by omega) (by omega) (by have h1 := Hsz.out; have h2 := FW2.out.size; omega) (es.length + 1) rfl ?_
      intro ae' ce' w3 own' fr' at'
      have b3 := BW2.out.fr fr' Hae.out.2.2.1
      have nx : ¬ onBlk ae bx := fun h => by have h1 := (OwnZ.blk Hae.out.1 bx h).2; have h2 := Hsz.out; omega
      have s3 : (fun w' : World => w'.cell? ⟨b, 2, none⟩ = some (.slice ae es.length ce) ∧ w'.cell? ⟨bx, 0, none⟩ = some (.int .i64 (xa : Int)) ∧ w'.cell? ⟨bx, 1, none⟩ = some (.int .i64 (xb : Int)) ∧ w'.cell? ⟨bx, 2, none⟩ = some (.int .i64 (xf : Int)) ∧ w'.cell? ⟨bx, 3, none⟩ = some (.int .i64 (xt : Int))) w3 := ⟨b3.cell (i := 2) rfl, fr'.cell (SH2.out w2 (Fr.refl _ _)).2.1 nx, fr'.cell (SH2.out w2 (Fr.refl _ _)).2.2.1 nx, fr'.cell (SH2.out w2 (Fr.refl _ _)).2.2.2.1 nx, fr'.cell (SH2.out w2 (Fr.refl _ _)).2.2.2.2 nx⟩
      refine hKK.out _ _ (.inr s3) ?_
      clear hKK KK
      (try simp only [Act.put, List.setIfInBounds_toArray])
      have y2 := b3.cell (i := 2) rfl
      have z2 := b3.free 2
      have HO := Lib.hid own'; have HFr := Lib.hid fr'; have HA := Lib.hid at'; have HB3 := Lib.hid b3; have HS3 := Lib.hid s3
      clear own' fr' at' b3 s3 nx
      refine anyP_one 8 (by kernel_rfl) rfl (fun K hK => ?_)
      replace hK := Lib.hid hK
      go_simp
      refine hK.out _ _ (.inr HS3.out) ?_
      clear hK K
      (try simp only [Act.put, List.setIfInBounds_toArray, List.set_cons_zero, List.set_cons_succ])
      refine anyP_one 9 (by kernel_rfl) rfl (fun K hK => ?_)
      replace hK := Lib.hid hK
      go_simp
      refine hK.out _ _ (.inr HS3.out) ?_
      clear hK K
      (try simp only [Act.put, List.setIfInBounds_toArray, List.set_cons_zero, List.set_cons_succ])
      refine anyP_one 10 (by kernel_rfl) rfl (fun K hK => ?_)
      replace hK := Lib.hid hK
      go_simp
      refine hK.out _ _ (.inl (by kernel_rfl)) ?_
      clear hK K
      (try simp only [Act.put, List.setIfInBounds_toArray, List.set_cons_zero, List.set_cons_succ])
      refine anyP_done (by kernel_rfl) ?_ _
      refine NoPanic.normal ?_
      go_wp2_with fail
      go_ret
      unfold PtP
      rw [E1.out.1, E1.out.2]
      have F4 : Fr (onB b) w3 (w3.setCell ⟨b, 2, none⟩ (.slice ae' (es.length + 1) ce')) := (Fr.refl (onB b) w3).setB 2 _
      have B4 := HB3.out.set 2 (.slice ae' (es.length + 1) ce')
      have atn : ∀ k, onBlk ae' k → onBlk ae k ∨ w1.heap.size ≤ k := fun k hk => (HA.out k hk).imp id (fun h => by have := hz2.out; omega)
      have b0 := Hb.out
      have sz := Hsz.out
      obtain ⟨r1, r2, r3, r4, r5, r6, r7, r8, r9⟩ := Hr.out
      obtain ⟨a1, a2, a3, a4, a5⟩ := Hae.out
      have hl1 : (es ++ [(xa, xb, xf, xt)]).length = es.length + 1 := by simp
      have z1 := hz1.out
      have nab : ¬ onBlk ae' b := fun h => (atn b h).elim a3 (fun h => by have := sz.2.2.2 b b0.2; omega)
      have big : ∀ k, onBlk ae' k → k < (w3.setCell ⟨b, 2, none⟩ (.slice ae' (es.length + 1) ce')).heap.size := fun k hk => Nat.lt_of_lt_of_le (OwnZ.blk HO.out k hk).2 F4.size
      have W3 : Fr (fun k => onBlk ae k) w w3 := (FW2.out.mono (fun _ _ h => h.elim)).trans HFr.out (fun _ _ h => h)
      have W4 : Fr N w (w3.setCell ⟨b, 2, none⟩ (.slice ae' (es.length + 1) ce')) := (W3.mono (fun k _ h => a2 k h)).trans F4 (fun k _ (e : k = b) => e ▸ b0.2)
      refine ⟨rfl, ⟨ae', ce', Nl, Nr, ?_, ?_, ?_, ?_, hf, ht, by omega, b0.1, .inl b0.2, fun k hk => ?_, fun k hk => .inl (r3 k hk), fun k hk => .inl (r4 k hk), nab, r5, r6, fun k hk hn => ?_, fun k hk hn => ?_, r7, fun k hk => ?_, fun k hk => ?_⟩, W4⟩
      · rw [hl1]; exact B4
      · rw [hl1, ivs_snoc]; exact OwnZ.fr HO.out F4 (fun k hk (e : k = b) => nab (e ▸ hk))
      · exact (r1.fr W3 (fun k hk h => a4 k h hk)).fr F4 (fun k hk (e : k = b) => r5 (e ▸ hk))
      · exact (r2.fr W3 (fun k hk h => a5 k h hk)).fr F4 (fun k hk (e : k = b) => r6 (e ▸ hk))
      · rcases atn k hk with h | h
        · exact .inl (a2 k h)
        · exact .inr ⟨by omega, big k hk⟩
      · rcases atn k hk with h | h
        · exact a4 k h hn
        · have := r8 k hn; omega
      · rcases atn k hk with h | h
        · exact a5 k h hn
        · have := r9 k hn; omega
      · exact Nat.lt_of_lt_of_le (r8 k hk) W4.size
      · exact Nat.lt_of_lt_of_le (r9 k hk) W4.size
    · have c4 : (xf ≤ f0 ∧ ¬ t0 ≤ xt) ∨ ¬ xf ≤ f0 := by omega
      have E1 : Hid (putT (xa, xb, xf, xt) (.node b f0 t0 es l r) = .node b f0 t0 es (putT (xa, xb, xf, xt) l) (putT (xa, xb, xf, xt) r) ∧ cntT (xa, xb, xf, xt) (.node b f0 t0 es l r) = cntT (xa, xb, xf, xt) l + cntT (xa, xb, xf, xt) r) := Lib.hid (by rw [putT_node, cntT_node]; rw [if_neg hn1, if_neg hn1, if_neg c3, if_neg c3]; exact ⟨rfl, rfl⟩)
      rcases Hd.out with ⟨g1, gl, gr⟩ | ⟨g1, rfl, rfl⟩
      · have IL := Lib.hid (fun (W : World) (hh : TM W B l Nl) (hb : B ≤ W.heap.size) (hn : ∀ k, Nl k → k < W.heap.size) => ihl f0 ((f0 + t0) / 2) W B Nl hh gl (by omega) hb hn (by have := Hmp.out; omega))
        have IR := Lib.hid (fun (W : World) (hh : TM W B r Nr) (hb : B ≤ W.heap.size) (hn : ∀ k, Nr k → k < W.heap.size) => ihr ((f0 + t0) / 2) t0 W B Nr hh gr (by omega) hb hn (by have := Hmp.out; omega))
        have hcl := cntT_le (xa, xb, xf, xt) l _ _ gl
        have hcr := cntT_le (xa, xb, xf, xt) r _ _ gr
        obtain ⟨nl, hnl⟩ : ∃ nl, nl = cntT (xa, xb, xf, xt) l := ⟨_, rfl⟩
        obtain ⟨nr, hnr⟩ : ∃ nr, nr = cntT (xa, xb, xf, xt) r := ⟨_, rfl⟩
        have hnl3 : nl ≤ 3000 ∧ nr ≤ 3000 := by omega
        have Hnl := Lib.hid (And.intro hnl hnr)
        obtain ⟨pl, hpl⟩ : ∃ v, v = l.adr := ⟨_, rfl⟩
        obtain ⟨pr, hpr⟩ : ∃ v, v = r.adr := ⟨_, rfl⟩
        unfold Sg.ptr at y3 y4
        rw [← hpl] at y3
        rw [← hpr] at y4
        have Hpl := Lib.hid (And.intro hpl hpr)
        have hwr : IntKind.i64.wrap ((nl : Int) + (nr : Int)) = (nl : Int) + (nr : Int) := wI (by omega) (by omega)
        have HWR := Lib.hid hwr
        have hBw : Hid (w.cell? ⟨b, 3, none⟩ = some (.pointer pl) ∧ w.cell? ⟨b, 4, none⟩ = some (.pointer pr)) := Lib.hid (by have h := Hw1.out; rw [hpl, hpr]; exact ⟨h.cell (i := 3) rfl, h.cell (i := 4) rfl⟩)
        have HIL : Hid (∀ W, Fr F0 w W → Calls Try.prog 56 #[.pointer pl, .agg #[.int .i64 (xa : Int), .int .i64 (xb : Int), .int .i64 (xf : Int), .int .i64 (xt : Int)]] W fun e w' => e = .returned (.int .i64 (nl : Int)) ∧ TM w' B (putT (xa, xb, xf, xt) l) (ext Nl W w') ∧ Fr Nl W w') := Lib.hid (fun W f => by
          have hs := f.size
          rw [hpl, hnl]
          exact IL.out W (TM.fr0 f Hr.out.1) (Nat.le_trans Hsz.out.2.1 hs) (fun k hk => Nat.lt_of_lt_of_le (Hr.out.2.2.2.2.2.2.2.1 k hk) hs))
        have HIR : Hid (∀ W, Fr Nl w W → Calls Try.prog 56 #[.pointer pr, .agg #[.int .i64 (xa : Int), .int .i64 (xb : Int), .int .i64 (xf : Int), .int .i64 (xt : Int)]] W fun e w' => e = .returned (.int .i64 (nr : Int)) ∧ TM w' B (putT (xa, xb, xf, xt) r) (ext Nr W w') ∧ Fr Nr W w') := Lib.hid (fun W f => by
          rw [hpr, hnr]
          exact IR.out W (TM.fr f Hr.out.2.1 (fun k hk h => Hr.out.2.2.2.2.2.2.1 k h hk)) (Nat.le_trans Hsz.out.2.1 f.size) (fun k hk => Nat.lt_of_lt_of_le (Hr.out.2.2.2.2.2.2.2.2 k hk) f.size))
        clear c1 c2 c3 hn1 ihl ihr gl gr hcl hcr hnl hnr hpl hpr g1 hwr
        rcases c4 with c4 | c4
        · have d3 : decide (xf ≤ f0) = true := decide_eq_true c4.1
          have d3' : decide ((xf : Int) ≤ (f0 : Int)) = true := decide_eq_true (by omega)
          have d4 : decide (t0 ≤ xt) = false := decide_eq_false c4.2
          have d4' : decide ((t0 : Int) ≤ (xt : Int)) = false := decide_eq_false (by omega)
          clear c4
          go_enter Try.func56, Try.ntmps56
          go_wp2_with fail
          refine wp_region_held_drew (S := (fun w' : World => w'.cell? ⟨bx, 2, none⟩ = some (.int .i64 (xf : Int)) ∧ w'.cell? ⟨bx, 3, none⟩ = some (.int .i64 (xt : Int)) ∧ w'.cell? ⟨b, 0, none⟩ = some (.int .i64 (f0 : Int)) ∧ w'.cell? ⟨b, 1, none⟩ = some (.int .i64 (t0 : Int)))) (by kernel_rfl) (⟨x2, x3, y0, y1⟩) (fun hHeld => ?_)
          refine wpAnyH_take (i := 0) (v := ?_) (by simp only [List.getElem?_toArray, List.getElem?_cons_zero] <;> rfl) (by kernel_rfl) (by kernel_rfl) (by kernel_rfl) (by exact fun _ _ _ h => h) (Or.inl ⟨by rfl, ?_⟩) (by assumption) ?_
          rotate_left
          · intro w hSw
            try dsimp only at hSw
            go_simp <;> with_reducible rfl
          (try simp only [Act.put, List.setIfInBounds_toArray, List.set_cons_zero, List.set_cons_succ])
          refine wpAnyH_take (i := 1) (v := ?_) (by simp only [List.getElem?_toArray, List.getElem?_cons_succ, List.getElem?_cons_zero] <;> rfl) (by kernel_rfl) (by kernel_rfl) (by kernel_rfl) (by exact fun _ _ _ h => h) (Or.inl ⟨by rfl, ?_⟩) (by assumption) ?_
          rotate_left
          · intro w hSw
            try dsimp only at hSw
            go_simp <;> with_reducible rfl
          (try simp only [Act.put, List.setIfInBounds_toArray, List.set_cons_zero, List.set_cons_succ])
          refine wpAnyH_take (i := 2) (v := ?_) (by simp only [List.getElem?_toArray, List.getElem?_cons_succ, List.getElem?_cons_zero] <;> rfl) (by kernel_rfl) (by kernel_rfl) (by kernel_rfl) (by exact fun _ _ _ h => h) (Or.inl ⟨by rfl, ?_⟩) (by assumption) ?_
          rotate_left
          · intro w hSw
            try dsimp only at hSw
            go_simp <;> with_reducible rfl
          (try simp only [Act.put, List.setIfInBounds_toArray, List.set_cons_zero, List.set_cons_succ])
          refine wpAnyH_take (i := 3) (v := ?_) (by simp only [List.getElem?_toArray, List.getElem?_cons_succ, List.getElem?_cons_zero] <;> rfl) (by kernel_rfl) (by kernel_rfl) (by kernel_rfl) (by exact fun _ _ _ h => h) (Or.inl ⟨by rfl, ?_⟩) (by assumption) ?_
          rotate_left
          · intro w hSw
            try dsimp only at hSw
            go_simp <;> with_reducible rfl
          (try simp only [Act.put, List.setIfInBounds_toArray, List.set_cons_zero, List.set_cons_succ])
          refine wpAnyH_take (i := 4) (v := ?_) (by simp only [List.getElem?_toArray, List.getElem?_cons_succ, List.getElem?_cons_zero] <;> rfl) (by kernel_rfl) (by kernel_rfl) (by kernel_rfl) (by exact fun _ _ _ h => h) (Or.inl ⟨by rfl, ?_⟩) (by assumption) ?_
          rotate_left
          · intro w hSw
            try dsimp only at hSw
            go_simp <;> with_reducible rfl
          (try simp only [Act.put, List.setIfInBounds_toArray, List.set_cons_zero, List.set_cons_succ])
          refine wpAnyH_take (i := 5) (v := ?_) (by simp only [List.getElem?_toArray, List.getElem?_cons_succ, List.getElem?_cons_zero] <;> rfl) (by kernel_rfl) (by kernel_rfl) (by kernel_rfl) (by exact fun _ _ _ h => h) (Or.inl ⟨by rfl, ?_⟩) (by assumption) ?_
          rotate_left
          · intro w hSw
            try dsimp only at hSw
            go_simp <;> with_reducible rfl
          (try simp only [Act.put, List.setIfInBounds_toArray, List.set_cons_zero, List.set_cons_succ])
          refine wpAnyH_take (i := 6) (v := ?_) (by simp only [List.getElem?_toArray, List.getElem?_cons_succ, List.getElem?_cons_zero] <;> rfl) (by kernel_rfl) (by kernel_rfl) (by kernel_rfl) (by exact fun _ _ _ h => h) (Or.inl ⟨by rfl, ?_⟩) (by assumption) ?_
          rotate_left
          · intro w hSw
            try dsimp only at hSw
            go_simp <;> with_reducible rfl
          (try simp only [Act.put, List.setIfInBounds_toArray, List.set_cons_zero, List.set_cons_succ])
          refine wpAnyH_take (i := 7) (v := ?_) (by simp only [List.getElem?_toArray, List.getElem?_cons_succ, List.getElem?_cons_zero] <;> rfl) (by kernel_rfl) (by kernel_rfl) (by kernel_rfl) (by exact fun _ _ _ h => h) (Or.inl ⟨by rfl, ?_⟩) (by assumption) ?_
          rotate_left
          · intro w hSw
            try dsimp only at hSw
            go_simp <;> with_reducible rfl
          (try simp only [Act.put, List.setIfInBounds_toArray, List.set_cons_zero, List.set_cons_succ])
          refine wpAnyH_take (i := 8) (v := ?_) (by simp only [List.getElem?_toArray, List.getElem?_cons_succ, List.getElem?_cons_zero] <;> rfl) (by kernel_rfl) (by kernel_rfl) (by kernel_rfl) (by exact fun _ _ _ h => h) (Or.inl ⟨by rfl, ?_⟩) (by assumption) ?_
          rotate_left
          · intro w hSw
            try dsimp only at hSw
            go_simp <;> with_reducible rfl
          (try simp only [Act.put, List.setIfInBounds_toArray, List.set_cons_zero, List.set_cons_succ])
          refine wpAnyH_take (i := 9) (v := ?_) (by simp only [List.getElem?_toArray, List.getElem?_cons_succ, List.getElem?_cons_zero] <;> rfl) (by kernel_rfl) (by kernel_rfl) (by kernel_rfl) (by exact fun _ _ _ h => h) (Or.inl ⟨by rfl, ?_⟩) (by assumption) ?_
          rotate_left
          · intro w hSw
            try dsimp only at hSw
            go_simp <;> with_reducible rfl
          (try simp only [Act.put, List.setIfInBounds_toArray, List.set_cons_zero, List.set_cons_succ])
          refine wpAnyH_take (i := 10) (v := ?_) (by simp only [List.getElem?_toArray, List.getElem?_cons_succ, List.getElem?_cons_zero] <;> rfl) (by kernel_rfl) (by kernel_rfl) (by kernel_rfl) (by exact fun _ _ _ h => h) (Or.inl ⟨by rfl, ?_⟩) (by assumption) ?_
          rotate_left
          · intro w hSw
            try dsimp only at hSw
            go_simp <;> with_reducible rfl
          (try simp only [Act.put, List.setIfInBounds_toArray, List.set_cons_zero, List.set_cons_succ])
          refine wpAnyH_take (i := 11) (v := ?_) (by simp only [List.getElem?_toArray, List.getElem?_cons_succ, List.getElem?_cons_zero] <;> rfl) (by kernel_rfl) (by kernel_rfl) (by kernel_rfl) (by exact fun _ _ _ h => h) (Or.inl ⟨by rfl, ?_⟩) (by assumption) ?_
          rotate_left
          · intro w hSw
            try dsimp only at hSw
            go_simp <;> with_reducible rfl
          (try simp only [Act.put, List.setIfInBounds_toArray, List.set_cons_zero, List.set_cons_succ])
          refine wpAnyH_take (i := 12) (v := ?_) (by simp only [List.getElem?_toArray, List.getElem?_cons_succ, List.getElem?_cons_zero] <;> rfl) (by kernel_rfl) (by kernel_rfl) (by kernel_rfl) (by exact fun _ _ _ h => h) (Or.inl ⟨by rfl, ?_⟩) (by assumption) ?_
          rotate_left
          · intro w hSw
            try dsimp only at hSw
            go_simp <;> with_reducible rfl
          (try simp only [Act.put, List.setIfInBounds_toArray, List.set_cons_zero, List.set_cons_succ])
          refine wpAnyH_take (i := 13) (v := ?_) (by simp only [List.getElem?_toArray, List.getElem?_cons_succ, List.getElem?_cons_zero] <;> rfl) (by kernel_rfl) (by kernel_rfl) (by kernel_rfl) (by exact fun _ _ _ h => h) (Or.inl ⟨by rfl, ?_⟩) (by assumption) ?_
          rotate_left
          · intro w hSw
            try dsimp only at hSw
            go_simp <;> with_reducible rfl
          (try simp only [Act.put, List.setIfInBounds_toArray, List.set_cons_zero, List.set_cons_succ])
          refine wpAnyH_take (i := 14) (v := ?_) (by simp only [List.getElem?_toArray, List.getElem?_cons_succ, List.getElem?_cons_zero] <;> rfl) (by kernel_rfl) (by kernel_rfl) (by kernel_rfl) (by exact fun _ _ _ h => h) (Or.inl ⟨by rfl, ?_⟩) (by assumption) ?_
          rotate_left
          · intro w hSw
            try dsimp only at hSw
            go_simp <;> with_reducible rfl
          (try simp only [Act.put, List.setIfInBounds_toArray, List.set_cons_zero, List.set_cons_succ])
          refine wpAnyH_take (i := 15) (v := ?_) (by simp only [List.getElem?_toArray, List.getElem?_cons_succ, List.getElem?_cons_zero] <;> rfl) (by kernel_rfl) (by kernel_rfl) (by kernel_rfl) (by exact fun _ _ _ h => h) (Or.inl ⟨by rfl, ?_⟩) (by assumption) ?_
          rotate_left
          · intro w hSw
            try dsimp only at hSw
            go_simp <;> with_reducible rfl
          (try simp only [Act.put, List.setIfInBounds_toArray, List.set_cons_zero, List.set_cons_succ])
          refine wpAnyH_take (i := 16) (v := ?_) (by simp only [List.getElem?_toArray, List.getElem?_cons_succ, List.getElem?_cons_zero] <;> rfl) (by kernel_rfl) (by kernel_rfl) (by kernel_rfl) (by exact fun _ _ _ h => h) (Or.inl ⟨by rfl, ?_⟩) (by assumption) ?_
          rotate_left
          · intro w hSw
            try dsimp only at hSw
            go_simp <;> with_reducible rfl
          (try simp only [Act.put, List.setIfInBounds_toArray, List.set_cons_zero, List.set_cons_succ])
          refine wpAnyH_take (i := 17) (v := ?_) (by simp only [List.getElem?_toArray, List.getElem?_cons_succ, List.getElem?_cons_zero] <;> rfl) (by kernel_rfl) (by kernel_rfl) (by kernel_rfl) (by exact fun _ _ _ h => h) (Or.inl ⟨by rfl, ?_⟩) (by assumption) ?_
          rotate_left
          · intro w hSw
            try dsimp only at hSw
            go_simp <;> with_reducible rfl
          (try simp only [Act.put, List.setIfInBounds_toArray, List.set_cons_zero, List.set_cons_succ])
          refine wpAnyH_take (i := 18) (v := ?_) (by simp only [List.getElem?_toArray, List.getElem?_cons_succ, List.getElem?_cons_zero] <;> rfl) (by kernel_rfl) (by kernel_rfl) (by kernel_rfl) (by exact fun _ _ _ h => h) (Or.inl ⟨by rfl, ?_⟩) (by assumption) ?_
          rotate_left
          · intro w hSw
            try dsimp only at hSw
            go_simp <;> with_reducible rfl
          (try simp only [Act.put, List.setIfInBounds_toArray, List.set_cons_zero, List.set_cons_succ])
          refine wpAnyH_take (i := 19) (v := ?_) (by simp only [List.getElem?_toArray, List.getElem?_cons_succ, List.getElem?_cons_zero] <;> rfl) (by kernel_rfl) (by kernel_rfl) (by kernel_rfl) (by exact fun _ _ _ h => h) (Or.inl ⟨by rfl, ?_⟩) (by assumption) ?_
          rotate_left
          · intro w hSw
            try dsimp only at hSw
            go_simp <;> with_reducible rfl
          (try simp only [Act.put, List.setIfInBounds_toArray, List.set_cons_zero, List.set_cons_succ])
          refine wpAnyH_take (i := 20) (v := ?_) (by simp only [List.getElem?_toArray, List.getElem?_cons_succ, List.getElem?_cons_zero] <;> rfl) (by kernel_rfl) (by kernel_rfl) (by kernel_rfl) (by exact fun _ _ _ h => h) (Or.inl ⟨by rfl, ?_⟩) (by assumption) ?_
          rotate_left
          · intro w hSw
            try dsimp only at hSw
            go_simp <;> with_reducible rfl
          (try simp only [Act.put, List.setIfInBounds_toArray, List.set_cons_zero, List.set_cons_succ])
          refine wpAnyH_done (by kernel_rfl) ?_ _
          go_wp2_with fail
          refine wp_region_held_drew (S := (fun w' : World => w'.cell? ⟨bx, 2, none⟩ = some (.int .i64 (xf : Int)) ∧ w'.cell? ⟨bx, 3, none⟩ = some (.int .i64 (xt : Int)) ∧ w'.cell? ⟨b, 0, none⟩ = some (.int .i64 (f0 : Int)) ∧ w'.cell? ⟨b, 1, none⟩ = some (.int .i64 (t0 : Int)))) (by kernel_rfl) (⟨x2, x3, y0, y1⟩) (fun hHeld => ?_)
          refine wpAnyH_take (i := 0) (v := ?_) (by simp only [List.getElem?_toArray, List.getElem?_cons_zero] <;> rfl) (by kernel_rfl) (by kernel_rfl) (by kernel_rfl) (by exact fun _ _ _ h => h) (Or.inl ⟨by rfl, ?_⟩) (by assumption) ?_
          rotate_left
          · intro w hSw
            try dsimp only at hSw
            go_simp <;> with_reducible rfl
          (try simp only [Act.put, List.setIfInBounds_toArray, List.set_cons_zero, List.set_cons_succ])
          refine wpAnyH_take (i := 1) (v := ?_) (by simp only [List.getElem?_toArray, List.getElem?_cons_succ, List.getElem?_cons_zero] <;> rfl) (by kernel_rfl) (by kernel_rfl) (by kernel_rfl) (by exact fun _ _ _ h => h) (Or.inl ⟨by rfl, ?_⟩) (by assumption) ?_
          rotate_left
          · intro w hSw
            try dsimp only at hSw
            go_simp <;> with_reducible rfl
          (try simp only [Act.put, List.setIfInBounds_toArray, List.set_cons_zero, List.set_cons_succ])
          refine wpAnyH_take (i := 2) (v := ?_) (by simp only [List.getElem?_toArray, List.getElem?_cons_succ, List.getElem?_cons_zero] <;> rfl) (by kernel_rfl) (by kernel_rfl) (by kernel_rfl) (by exact fun _ _ _ h => h) (Or.inl ⟨by rfl, ?_⟩) (by assumption) ?_
          rotate_left
          · intro w hSw
            try dsimp only at hSw
            go_simp <;> with_reducible rfl
          (try simp only [Act.put, List.setIfInBounds_toArray, List.set_cons_zero, List.set_cons_succ])
          refine wpAnyH_take (i := 3) (v := ?_) (by simp only [List.getElem?_toArray, List.getElem?_cons_succ, List.getElem?_cons_zero] <;> rfl) (by kernel_rfl) (by kernel_rfl) (by kernel_rfl) (by exact fun _ _ _ h => h) (Or.inl ⟨by rfl, ?_⟩) (by assumption) ?_
          rotate_left
          · intro w hSw
            try dsimp only at hSw
            go_simp <;> with_reducible rfl
          (try simp only [Act.put, List.setIfInBounds_toArray, List.set_cons_zero, List.set_cons_succ])
          refine wpAnyH_take (i := 4) (v := ?_) (by simp only [List.getElem?_toArray, List.getElem?_cons_succ, List.getElem?_cons_zero] <;> rfl) (by kernel_rfl) (by kernel_rfl) (by kernel_rfl) (by exact fun _ _ _ h => h) (Or.inl ⟨by rfl, ?_⟩) (by assumption) ?_
          rotate_left
          · intro w hSw
            try dsimp only at hSw
            go_simp <;> with_reducible rfl
          (try simp only [Act.put, List.setIfInBounds_toArray, List.set_cons_zero, List.set_cons_succ])
          refine wpAnyH_take (i := 5) (v := ?_) (by simp only [List.getElem?_toArray, List.getElem?_cons_succ, List.getElem?_cons_zero] <;> rfl) (by kernel_rfl) (by kernel_rfl) (by kernel_rfl) (by exact fun _ _ _ h => h) (Or.inl ⟨by rfl, ?_⟩) (by assumption) ?_
          rotate_left
          · intro w hSw
            try dsimp only at hSw
            go_simp <;> with_reducible rfl
          (try simp only [Act.put, List.setIfInBounds_toArray, List.set_cons_zero, List.set_cons_succ])
          refine wpAnyH_take (i := 6) (v := ?_) (by simp only [List.getElem?_toArray, List.getElem?_cons_succ, List.getElem?_cons_zero] <;> rfl) (by kernel_rfl) (by kernel_rfl) (by kernel_rfl) (by exact fun _ _ _ h => h) (Or.inl ⟨by rfl, ?_⟩) (by assumption) ?_
          rotate_left
          · intro w hSw
            try dsimp only at hSw
            go_simp <;> with_reducible rfl
          (try simp only [Act.put, List.setIfInBounds_toArray, List.set_cons_zero, List.set_cons_succ])
          refine wpAnyH_take (i := 7) (v := ?_) (by simp only [List.getElem?_toArray, List.getElem?_cons_succ, List.getElem?_cons_zero] <;> rfl) (by kernel_rfl) (by kernel_rfl) (by kernel_rfl) (by exact fun _ _ _ h => h) (Or.inl ⟨by rfl, ?_⟩) (by assumption) ?_
          rotate_left
          · intro w hSw
            try dsimp only at hSw
            go_simp <;> with_reducible rfl
          (try simp only [Act.put, List.setIfInBounds_toArray, List.set_cons_zero, List.set_cons_succ])
          refine wpAnyH_take (i := 8) (v := ?_) (by simp only [List.getElem?_toArray, List.getElem?_cons_succ, List.getElem?_cons_zero] <;> rfl) (by kernel_rfl) (by kernel_rfl) (by kernel_rfl) (by exact fun _ _ _ h => h) (Or.inl ⟨by rfl, ?_⟩) (by assumption) ?_
          rotate_left
          · intro w hSw
            try dsimp only at hSw
            go_simp <;> with_reducible rfl
          (try simp only [Act.put, List.setIfInBounds_toArray, List.set_cons_zero, List.set_cons_succ])
          refine wpAnyH_take (i := 9) (v := ?_) (by simp only [List.getElem?_toArray, List.getElem?_cons_succ, List.getElem?_cons_zero] <;> rfl) (by kernel_rfl) (by kernel_rfl) (by kernel_rfl) (by exact fun _ _ _ h => h) (Or.inl ⟨by rfl, ?_⟩) (by assumption) ?_
          rotate_left
          · intro w hSw
            try dsimp only at hSw
            go_simp <;> with_reducible rfl
          (try simp only [Act.put, List.setIfInBounds_toArray, List.set_cons_zero, List.set_cons_succ])
          refine wpAnyH_take (i := 10) (v := ?_) (by simp only [List.getElem?_toArray, List.getElem?_cons_succ, List.getElem?_cons_zero] <;> rfl) (by kernel_rfl) (by kernel_rfl) (by kernel_rfl) (by exact fun _ _ _ h => h) (Or.inl ⟨by rfl, ?_⟩) (by assumption) ?_
          rotate_left
          · intro w hSw
            try dsimp only at hSw
            go_simp <;> with_reducible rfl
          (try simp only [Act.put, List.setIfInBounds_toArray, List.set_cons_zero, List.set_cons_succ])
          refine wpAnyH_take (i := 11) (v := ?_) (by simp only [List.getElem?_toArray, List.getElem?_cons_succ, List.getElem?_cons_zero] <;> rfl) (by kernel_rfl) (by kernel_rfl) (by kernel_rfl) (by exact fun _ _ _ h => h) (Or.inl ⟨by rfl, ?_⟩) (by assumption) ?_
          rotate_left
          · intro w hSw
            try dsimp only at hSw
            go_simp <;> with_reducible rfl
          (try simp only [Act.put, List.setIfInBounds_toArray, List.set_cons_zero, List.set_cons_succ])
          refine wpAnyH_take (i := 12) (v := ?_) (by simp only [List.getElem?_toArray, List.getElem?_cons_succ, List.getElem?_cons_zero] <;> rfl) (by kernel_rfl) (by kernel_rfl) (by kernel_rfl) (by exact fun _ _ _ h => h) (Or.inl ⟨by rfl, ?_⟩) (by assumption) ?_
          rotate_left
          · intro w hSw
            try dsimp only at hSw
            go_simp <;> with_reducible rfl
          (try simp only [Act.put, List.setIfInBounds_toArray, List.set_cons_zero, List.set_cons_succ])
          refine wpAnyH_take (i := 13) (v := ?_) (by simp only [List.getElem?_toArray, List.getElem?_cons_succ, List.getElem?_cons_zero] <;> rfl) (by kernel_rfl) (by kernel_rfl) (by kernel_rfl) (by exact fun _ _ _ h => h) (Or.inl ⟨by rfl, ?_⟩) (by assumption) ?_
          rotate_left
          · intro w hSw
            try dsimp only at hSw
            go_simp <;> with_reducible rfl
          (try simp only [Act.put, List.setIfInBounds_toArray, List.set_cons_zero, List.set_cons_succ])
          refine wpAnyH_take (i := 14) (v := ?_) (by simp only [List.getElem?_toArray, List.getElem?_cons_succ, List.getElem?_cons_zero] <;> rfl) (by kernel_rfl) (by kernel_rfl) (by kernel_rfl) (by exact fun _ _ _ h => h) (Or.inl ⟨by rfl, ?_⟩) (by assumption) ?_
          rotate_left
          · intro w hSw
            try dsimp only at hSw
            go_simp <;> with_reducible rfl
          (try simp only [Act.put, List.setIfInBounds_toArray, List.set_cons_zero, List.set_cons_succ])
          refine wpAnyH_take (i := 15) (v := ?_) (by simp only [List.getElem?_toArray, List.getElem?_cons_succ, List.getElem?_cons_zero] <;> rfl) (by kernel_rfl) (by kernel_rfl) (by kernel_rfl) (by exact fun _ _ _ h => h) (Or.inl ⟨by rfl, ?_⟩) (by assumption) ?_
          rotate_left
          · intro w hSw
            try dsimp only at hSw
            go_simp <;> with_reducible rfl
          (try simp only [Act.put, List.setIfInBounds_toArray, List.set_cons_zero, List.set_cons_succ])
          refine wpAnyH_take (i := 16) (v := ?_) (by simp only [List.getElem?_toArray, List.getElem?_cons_succ, List.getElem?_cons_zero] <;> rfl) (by kernel_rfl) (by kernel_rfl) (by kernel_rfl) (by exact fun _ _ _ h => h) (Or.inl ⟨by rfl, ?_⟩) (by assumption) ?_
          rotate_left
          · intro w hSw
            try dsimp only at hSw
            go_simp <;> with_reducible rfl
          (try simp only [Act.put, List.setIfInBounds_toArray, List.set_cons_zero, List.set_cons_succ])
          refine wpAnyH_done (by kernel_rfl) ?_ _
          go_wp2_with fail
          have hwr := HWR.out
          clear d1 d1' d2 d2' d3 d3' y0 y1 y2 hwb hbx d4 d4'
          have nbx : ¬ (Nl bx ∨ Nr bx) := fun h => by have := Hsz.out.2.2.1; exact h.elim (fun h => by have := Hr.out.2.2.2.2.2.2.2.1 _ h; omega) (fun h => by have := Hr.out.2.2.2.2.2.2.2.2 _ h; omega)
          have nb : ¬ (Nl b ∨ Nr b) := fun h => h.elim Hr.out.2.2.2.2.1 Hr.out.2.2.2.2.2.1
          have keyG : ∀ w', Fr (fun k => Nl k ∨ Nr k) wb w' → w'.cell? ⟨b, 3, none⟩ = some (.pointer pl) ∧ w'.cell? ⟨b, 4, none⟩ = some (.pointer pr) ∧ w'.cell? ⟨bx, 0, none⟩ = some (.int .i64 (xa : Int)) ∧ w'.cell? ⟨bx, 1, none⟩ = some (.int .i64 (xb : Int)) ∧ w'.cell? ⟨bx, 2, none⟩ = some (.int .i64 (xf : Int)) ∧ w'.cell? ⟨bx, 3, none⟩ = some (.int .i64 (xt : Int)) := fun w' f => ⟨f.cell y3 nb, f.cell y4 nb, f.cell x0 nbx, f.cell x1 nbx, f.cell x2 nbx, f.cell x3 nbx⟩
          replace keyG := Lib.hid keyG
          clear nb nbx
          go_region_held3 (fun w' => w'.cell? ⟨b, 3, none⟩ = some (.pointer pl) ∧ w'.cell? ⟨b, 4, none⟩ = some (.pointer pr) ∧ w'.cell? ⟨bx, 0, none⟩ = some (.int .i64 (xa : Int)) ∧ w'.cell? ⟨bx, 1, none⟩ = some (.int .i64 (xb : Int)) ∧ w'.cell? ⟨bx, 2, none⟩ = some (.int .i64 (xf : Int)) ∧ w'.cell? ⟨bx, 3, none⟩ = some (.int .i64 (xt : Int))) (go_keep)
            (first
              | (go_at_call 56; (with_reducible refine (HIL.out _ (by repeat (first | exact HFB.out | refine Fr.drew ?_))).mono ?_); rintro e w2 ⟨rfl, T2, F2⟩; have HN2 : Hid (Fr Nl w w2) := Lib.hid (Fr.trans (by repeat (first | exact HFB.out.mono (fun _ _ h => h.elim) | refine Fr.drew ?_)) F2 (fun _ _ h => h)); have HG2 : Hid (Fr (fun k => Nl k ∨ Nr k) wb w2) := Lib.hid (Fr.trans (by repeat (first | exact Fr.refl _ _ | refine Fr.drew ?_)) F2 (fun _ _ h => .inl h)); have HT2 : Hid (TM w2 B (putT (xa, xb, xf, xt) l) (ext Nl wb w2)) := Lib.hid T2; obtain ⟨k1, k2, k3, k4, k5, k6⟩ := keyG.out w2 HG2.out; clear T2 F2)
              | (go_at_call 56; (with_reducible refine (HIR.out _ (by repeat (first | exact HN2.out | refine Fr.drew ?_))).mono ?_); rintro e w3 ⟨rfl, T3, F3⟩; have HF3 : Hid (Fr Nr w2 w3) := Lib.hid (Fr.trans (by repeat (first | exact Fr.refl _ _ | refine Fr.drew ?_)) F3 (fun _ _ h => h)); have HT3 : Hid (TM w3 B (putT (xa, xb, xf, xt) r) (ext Nr w2 w3)) := Lib.hid T3; obtain ⟨j1, j2, j3, j4, j5, j6⟩ := keyG.out w3 (HG2.out.trans (Fr.trans (S := Nr) (by repeat (first | exact Fr.refl _ _ | refine Fr.drew ?_)) F3 (fun _ _ h => h)) (fun _ _ h => .inr h)); clear T3 F3)
              | fail)
          go_wp2_with fail
          go_ret
          unfold PtP
          rw [E1.out.1, E1.out.2, Int.natCast_add, ← Hnl.out.1, ← Hnl.out.2]
          obtain ⟨r1, r2, r3, r4, r5, r6, r7, r8, r9⟩ := Hr.out
          obtain ⟨a1, a2, a3, a4, a5⟩ := Hae.out
          have b0 := Hb.out
          have sz := Hsz.out
          have W3 : Fr (fun k => Nl k ∨ Nr k) w w3 := (HN2.out.mono (fun _ _ h => .inl h)).trans HF3.out (fun _ _ h => .inr h)
          have W4 : Fr N w w3 := W3.mono (fun k _ h => h.elim (r3 k) (r4 k))
          have s2 : wb.heap.size ≤ w2.heap.size := HG2.out.size
          have s3 := HF3.out.size
          have hbl := Hw1.out.lt
          have hal : ∀ k, onBlk ae k → k < w.heap.size := fun k hk => (OwnZ.blk a1 k hk).2
          refine ⟨rfl, ⟨ae, ce, ext Nl wb w2, ext Nr w2 w3, ?_, OwnZ.fr a1 W3 (fun k hk h => h.elim (a4 k hk) (a5 k hk)), ?_, HT3.out, hf, ht, by omega, b0.1, .inl b0.2, fun k hk => .inl (a2 k hk), fun k hk => ?_, fun k hk => ?_, a3, fun h => ?_, fun h => ?_, fun k hk h => ?_, fun k hk h => ?_, fun k hk h => ?_, fun k hk => ?_, fun k hk => ?_⟩, W4⟩
          · have h1 := Hw1.out.fr W3 (fun h => h.elim r5 r6)
            unfold Sg.ptr at h1 ⊢
            rw [putT_adr, putT_adr]
            exact h1
          · exact TM.fr HF3.out HT2.out (fun k hk h => hk.elim (fun h1 => r7 k h1 h) (fun h1 => by have := r9 k h; omega))
          · exact hk.elim (fun h => .inl (r3 k h)) (fun h => .inr ⟨by omega, by omega⟩)
          · exact hk.elim (fun h => .inl (r4 k h)) (fun h => .inr ⟨by omega, by omega⟩)
          · exact h.elim r5 (fun h => by omega)
          · exact h.elim r6 (fun h => by omega)
          · exact h.elim (a4 k hk) (fun h => by have := hal k hk; omega)
          · exact h.elim (a5 k hk) (fun h => by have := hal k hk; omega)
          · rcases hk with hk | hk
            · exact h.elim (r7 k hk) (fun h => by have := r8 k hk; omega)
            · exact h.elim (fun h => by have := r9 k h; omega) (fun h => by omega)
          · exact hk.elim (fun h => by have := r8 k h; omega) (fun h => by omega)
          · exact hk.elim (fun h => by have := r9 k h; omega) (fun h => by omega)
        · have d3 : decide (xf ≤ f0) = false := decide_eq_false c4
          have d3' : decide ((xf : Int) ≤ (f0 : Int)) = false := decide_eq_false (by omega)
          clear c4
          go_enter Try.func56, Try.ntmps56
          go_wp2_with fail
          refine wp_region_held_drew (S := (fun w' : World => w'.cell? ⟨bx, 2, none⟩ = some (.int .i64 (xf : Int)) ∧ w'.cell? ⟨bx, 3, none⟩ = some (.int .i64 (xt : Int)) ∧ w'.cell? ⟨b, 0, none⟩ = some (.int .i64 (f0 : Int)) ∧ w'.cell? ⟨b, 1, none⟩ = some (.int .i64 (t0 : Int)))) (by kernel_rfl) (⟨x2, x3, y0, y1⟩) (fun hHeld => ?_)
          refine wpAnyH_take (i := 0) (v := ?_) (by simp only [List.getElem?_toArray, List.getElem?_cons_zero] <;> rfl) (by kernel_rfl) (by kernel_rfl) (by kernel_rfl) (by exact fun _ _ _ h => h) (Or.inl ⟨by rfl, ?_⟩) (by assumption) ?_
          rotate_left
          · intro w hSw
            try dsimp only at hSw
            go_simp <;> with_reducible rfl
          (try simp only [Act.put, List.setIfInBounds_toArray, List.set_cons_zero, List.set_cons_succ])
          refine wpAnyH_take (i := 1) (v := ?_) (by simp only [List.getElem?_toArray, List.getElem?_cons_succ, List.getElem?_cons_zero] <;> rfl) (by kernel_rfl) (by kernel_rfl) (by kernel_rfl) (by exact fun _ _ _ h => h) (Or.inl ⟨by rfl, ?_⟩) (by assumption) ?_
          rotate_left
          · intro w hSw
            try dsimp only at hSw
            go_simp <;> with_reducible rfl
          (try simp only [Act.put, List.setIfInBounds_toArray, List.set_cons_zero, List.set_cons_succ])
          refine wpAnyH_take (i := 2) (v := ?_) (by simp only [List.getElem?_toArray, List.getElem?_cons_succ, List.getElem?_cons_zero] <;> rfl) (by kernel_rfl) (by kernel_rfl) (by kernel_rfl) (by exact fun _ _ _ h => h) (Or.inl ⟨by rfl, ?_⟩) (by assumption) ?_
          rotate_left
          · intro w hSw
            try dsimp only at hSw
            go_simp <;> with_reducible rfl
          (try simp only [Act.put, List.setIfInBounds_toArray, List.set_cons_zero, List.set_cons_succ])
          refine wpAnyH_take (i := 3) (v := ?_) (by simp only [List.getElem?_toArray, List.getElem?_cons_succ, List.getElem?_cons_zero] <;> rfl) (by kernel_rfl) (by kernel_rfl) (by kernel_rfl) (by exact fun _ _ _ h => h) (Or.inl ⟨by rfl, ?_⟩) (by assumption) ?_
          rotate_left
          · intro w hSw
            try dsimp only at hSw
            go_simp <;> with_reducible rfl
          (try simp only [Act.put, List.setIfInBounds_toArray, List.set_cons_zero, List.set_cons_succ])
          refine wpAnyH_take (i := 4) (v := ?_) (by simp only [List.getElem?_toArray, List.getElem?_cons_succ, List.getElem?_cons_zero] <;> rfl) (by kernel_rfl) (by kernel_rfl) (by kernel_rfl) (by exact fun _ _ _ h => h) (Or.inl ⟨by rfl, ?_⟩) (by assumption) ?_
          rotate_left
          · intro w hSw
            try dsimp only at hSw
            go_simp <;> with_reducible rfl
          (try simp only [Act.put, List.setIfInBounds_toArray, List.set_cons_zero, List.set_cons_succ])
          refine wpAnyH_take (i := 5) (v := ?_) (by simp only [List.getElem?_toArray, List.getElem?_cons_succ, List.getElem?_cons_zero] <;> rfl) (by kernel_rfl) (by kernel_rfl) (by kernel_rfl) (by exact fun _ _ _ h => h) (Or.inl ⟨by rfl, ?_⟩) (by assumption) ?_
          rotate_left
          · intro w hSw
            try dsimp only at hSw
            go_simp <;> with_reducible rfl
          (try simp only [Act.put, List.setIfInBounds_toArray, List.set_cons_zero, List.set_cons_succ])
          refine wpAnyH_take (i := 6) (v := ?_) (by simp only [List.getElem?_toArray, List.getElem?_cons_succ, List.getElem?_cons_zero] <;> rfl) (by kernel_rfl) (by kernel_rfl) (by kernel_rfl) (by exact fun _ _ _ h => h) (Or.inl ⟨by rfl, ?_⟩) (by assumption) ?_
          rotate_left
          · intro w hSw
            try dsimp only at hSw
            go_simp <;> with_reducible rfl
          (try simp only [Act.put, List.setIfInBounds_toArray, List.set_cons_zero, List.set_cons_succ])
          refine wpAnyH_take (i := 7) (v := ?_) (by simp only [List.getElem?_toArray, List.getElem?_cons_succ, List.getElem?_cons_zero] <;> rfl) (by kernel_rfl) (by kernel_rfl) (by kernel_rfl) (by exact fun _ _ _ h => h) (Or.inl ⟨by rfl, ?_⟩) (by assumption) ?_
          rotate_left
          · intro w hSw
            try dsimp only at hSw
            go_simp <;> with_reducible rfl
          (try simp only [Act.put, List.setIfInBounds_toArray, List.set_cons_zero, List.set_cons_succ])
          refine wpAnyH_take (i := 8) (v := ?_) (by simp only [List.getElem?_toArray, List.getElem?_cons_succ, List.getElem?_cons_zero] <;> rfl) (by kernel_rfl) (by kernel_rfl) (by kernel_rfl) (by exact fun _ _ _ h => h) (Or.inl ⟨by rfl, ?_⟩) (by assumption) ?_
          rotate_left
          · intro w hSw
            try dsimp only at hSw
            go_simp <;> with_reducible rfl
          (try simp only [Act.put, List.setIfInBounds_toArray, List.set_cons_zero, List.set_cons_succ])
          refine wpAnyH_take (i := 9) (v := ?_) (by simp only [List.getElem?_toArray, List.getElem?_cons_succ, List.getElem?_cons_zero] <;> rfl) (by kernel_rfl) (by kernel_rfl) (by kernel_rfl) (by exact fun _ _ _ h => h) (Or.inl ⟨by rfl, ?_⟩) (by assumption) ?_
          rotate_left
          · intro w hSw
            try dsimp only at hSw
            go_simp <;> with_reducible rfl
          (try simp only [Act.put, List.setIfInBounds_toArray, List.set_cons_zero, List.set_cons_succ])
          refine wpAnyH_take (i := 10) (v := ?_) (by simp only [List.getElem?_toArray, List.getElem?_cons_succ, List.getElem?_cons_zero] <;> rfl) (by kernel_rfl) (by kernel_rfl) (by kernel_rfl) (by exact fun _ _ _ h => h) (Or.inl ⟨by rfl, ?_⟩) (by assumption) ?_
          rotate_left
          · intro w hSw
            try dsimp only at hSw
            go_simp <;> with_reducible rfl
          (try simp only [Act.put, List.setIfInBounds_toArray, List.set_cons_zero, List.set_cons_succ])
          refine wpAnyH_take (i := 11) (v := ?_) (by simp only [List.getElem?_toArray, List.getElem?_cons_succ, List.getElem?_cons_zero] <;> rfl) (by kernel_rfl) (by kernel_rfl) (by kernel_rfl) (by exact fun _ _ _ h => h) (Or.inl ⟨by rfl, ?_⟩) (by assumption) ?_
          rotate_left
          · intro w hSw
            try dsimp only at hSw
            go_simp <;> with_reducible rfl
          (try simp only [Act.put, List.setIfInBounds_toArray, List.set_cons_zero, List.set_cons_succ])
          refine wpAnyH_take (i := 12) (v := ?_) (by simp only [List.getElem?_toArray, List.getElem?_cons_succ, List.getElem?_cons_zero] <;> rfl) (by kernel_rfl) (by kernel_rfl) (by kernel_rfl) (by exact fun _ _ _ h => h) (Or.inl ⟨by rfl, ?_⟩) (by assumption) ?_
          rotate_left
          · intro w hSw
            try dsimp only at hSw
            go_simp <;> with_reducible rfl
          (try simp only [Act.put, List.setIfInBounds_toArray, List.set_cons_zero, List.set_cons_succ])
          refine wpAnyH_take (i := 13) (v := ?_) (by simp only [List.getElem?_toArray, List.getElem?_cons_succ, List.getElem?_cons_zero] <;> rfl) (by kernel_rfl) (by kernel_rfl) (by kernel_rfl) (by exact fun _ _ _ h => h) (Or.inl ⟨by rfl, ?_⟩) (by assumption) ?_
          rotate_left
          · intro w hSw
            try dsimp only at hSw
            go_simp <;> with_reducible rfl
          (try simp only [Act.put, List.setIfInBounds_toArray, List.set_cons_zero, List.set_cons_succ])
          refine wpAnyH_take (i := 14) (v := ?_) (by simp only [List.getElem?_toArray, List.getElem?_cons_succ, List.getElem?_cons_zero] <;> rfl) (by kernel_rfl) (by kernel_rfl) (by kernel_rfl) (by exact fun _ _ _ h => h) (Or.inl ⟨by rfl, ?_⟩) (by assumption) ?_
          rotate_left
          · intro w hSw
            try dsimp only at hSw
            go_simp <;> with_reducible rfl
          (try simp only [Act.put, List.setIfInBounds_toArray, List.set_cons_zero, List.set_cons_succ])
          refine wpAnyH_take (i := 15) (v := ?_) (by simp only [List.getElem?_toArray, List.getElem?_cons_succ, List.getElem?_cons_zero] <;> rfl) (by kernel_rfl) (by kernel_rfl) (by kernel_rfl) (by exact fun _ _ _ h => h) (Or.inl ⟨by rfl, ?_⟩) (by assumption) ?_
          rotate_left
          · intro w hSw
            try dsimp only at hSw
            go_simp <;> with_reducible rfl
          (try simp only [Act.put, List.setIfInBounds_toArray, List.set_cons_zero, List.set_cons_succ])
          refine wpAnyH_take (i := 16) (v := ?_) (by simp only [List.getElem?_toArray, List.getElem?_cons_succ, List.getElem?_cons_zero] <;> rfl) (by kernel_rfl) (by kernel_rfl) (by kernel_rfl) (by exact fun _ _ _ h => h) (Or.inl ⟨by rfl, ?_⟩) (by assumption) ?_
          rotate_left
          · intro w hSw
            try dsimp only at hSw
            go_simp <;> with_reducible rfl
          (try simp only [Act.put, List.setIfInBounds_toArray, List.set_cons_zero, List.set_cons_succ])
          refine wpAnyH_take (i := 17) (v := ?_) (by simp only [List.getElem?_toArray, List.getElem?_cons_succ, List.getElem?_cons_zero] <;> rfl) (by kernel_rfl) (by kernel_rfl) (by kernel_rfl) (by exact fun _ _ _ h => h) (Or.inl ⟨by rfl, ?_⟩) (by assumption) ?_
          rotate_left
          · intro w hSw
            try dsimp only at hSw
            go_simp <;> with_reducible rfl
          (try simp only [Act.put, List.setIfInBounds_toArray, List.set_cons_zero, List.set_cons_succ])
          refine wpAnyH_take (i := 18) (v := ?_) (by simp only [List.getElem?_toArray, List.getElem?_cons_succ, List.getElem?_cons_zero] <;> rfl) (by kernel_rfl) (by kernel_rfl) (by kernel_rfl) (by exact fun _ _ _ h => h) (Or.inl ⟨by rfl, ?_⟩) (by assumption) ?_
          rotate_left
          · intro w hSw
            try dsimp only at hSw
            go_simp <;> with_reducible rfl
          (try simp only [Act.put, List.setIfInBounds_toArray, List.set_cons_zero, List.set_cons_succ])
          refine wpAnyH_take (i := 19) (v := ?_) (by simp only [List.getElem?_toArray, List.getElem?_cons_succ, List.getElem?_cons_zero] <;> rfl) (by kernel_rfl) (by kernel_rfl) (by kernel_rfl) (by exact fun _ _ _ h => h) (Or.inl ⟨by rfl, ?_⟩) (by assumption) ?_
          rotate_left
          · intro w hSw
            try dsimp only at hSw
            go_simp <;> with_reducible rfl
          (try simp only [Act.put, List.setIfInBounds_toArray, List.set_cons_zero, List.set_cons_succ])
          refine wpAnyH_take (i := 20) (v := ?_) (by simp only [List.getElem?_toArray, List.getElem?_cons_succ, List.getElem?_cons_zero] <;> rfl) (by kernel_rfl) (by kernel_rfl) (by kernel_rfl) (by exact fun _ _ _ h => h) (Or.inl ⟨by rfl, ?_⟩) (by assumption) ?_
          rotate_left
          · intro w hSw
            try dsimp only at hSw
            go_simp <;> with_reducible rfl
          (try simp only [Act.put, List.setIfInBounds_toArray, List.set_cons_zero, List.set_cons_succ])
          refine wpAnyH_done (by kernel_rfl) ?_ _
          go_wp2_with fail
          refine wp_region_held_drew (S := (fun w' : World => w'.cell? ⟨bx, 2, none⟩ = some (.int .i64 (xf : Int)) ∧ w'.cell? ⟨bx, 3, none⟩ = some (.int .i64 (xt : Int)) ∧ w'.cell? ⟨b, 0, none⟩ = some (.int .i64 (f0 : Int)) ∧ w'.cell? ⟨b, 1, none⟩ = some (.int .i64 (t0 : Int)))) (by kernel_rfl) (⟨x2, x3, y0, y1⟩) (fun hHeld => ?_)
          refine wpAnyH_take (i := 0) (v := ?_) (by simp only [List.getElem?_toArray, List.getElem?_cons_zero] <;> rfl) (by kernel_rfl) (by kernel_rfl) (by kernel_rfl) (by exact fun _ _ _ h => h) (Or.inl ⟨by rfl, ?_⟩) (by assumption) ?_
          rotate_left
          · intro w hSw
            try dsimp only at hSw
            go_simp <;> with_reducible rfl
          (try simp only [Act.put, List.setIfInBounds_toArray, List.set_cons_zero, List.set_cons_succ])
          refine wpAnyH_take (i := 1) (v := ?_) (by simp only [List.getElem?_toArray, List.getElem?_cons_succ, List.getElem?_cons_zero] <;> rfl) (by kernel_rfl) (by kernel_rfl) (by kernel_rfl) (by exact fun _ _ _ h => h) (Or.inl ⟨by rfl, ?_⟩) (by assumption) ?_
          rotate_left
          · intro w hSw
            try dsimp only at hSw
            go_simp <;> with_reducible rfl
          (try simp only [Act.put, List.setIfInBounds_toArray, List.set_cons_zero, List.set_cons_succ])
          refine wpAnyH_take (i := 2) (v := ?_) (by simp only [List.getElem?_toArray, List.getElem?_cons_succ, List.getElem?_cons_zero] <;> rfl) (by kernel_rfl) (by kernel_rfl) (by kernel_rfl) (by exact fun _ _ _ h => h) (Or.inl ⟨by rfl, ?_⟩) (by assumption) ?_
          rotate_left
          · intro w hSw
            try dsimp only at hSw
            go_simp <;> with_reducible rfl
          (try simp only [Act.put, List.setIfInBounds_toArray, List.set_cons_zero, List.set_cons_succ])
          refine wpAnyH_take (i := 3) (v := ?_) (by simp only [List.getElem?_toArray, List.getElem?_cons_succ, List.getElem?_cons_zero] <;> rfl) (by kernel_rfl) (by kernel_rfl) (by kernel_rfl) (by exact fun _ _ _ h => h) (Or.inl ⟨by rfl, ?_⟩) (by assumption) ?_
          rotate_left
          · intro w hSw
            try dsimp only at hSw
            go_simp <;> with_reducible rfl
          (try simp only [Act.put, List.setIfInBounds_toArray, List.set_cons_zero, List.set_cons_succ])
          refine wpAnyH_take (i := 4) (v := ?_) (by simp only [List.getElem?_toArray, List.getElem?_cons_succ, List.getElem?_cons_zero] <;> rfl) (by kernel_rfl) (by kernel_rfl) (by kernel_rfl) (by exact fun _ _ _ h => h) (Or.inl ⟨by rfl, ?_⟩) (by assumption) ?_
          rotate_left
          · intro w hSw
            try dsimp only at hSw
            go_simp <;> with_reducible rfl
          (try simp only [Act.put, List.setIfInBounds_toArray, List.set_cons_zero, List.set_cons_succ])
          refine wpAnyH_take (i := 5) (v := ?_) (by simp only [List.getElem?_toArray, List.getElem?_cons_succ, List.getElem?_cons_zero] <;> rfl) (by kernel_rfl) (by kernel_rfl) (by kernel_rfl) (by exact fun _ _ _ h => h) (Or.inl ⟨by rfl, ?_⟩) (by assumption) ?_
          rotate_left
          · intro w hSw
            try dsimp only at hSw
            go_simp <;> with_reducible rfl
          (try simp only [Act.put, List.setIfInBounds_toArray, List.set_cons_zero, List.set_cons_succ])
          refine wpAnyH_take (i := 6) (v := ?_) (by simp only [List.getElem?_toArray, List.getElem?_cons_succ, List.getElem?_cons_zero] <;> rfl) (by kernel_rfl) (by kernel_rfl) (by kernel_rfl) (by exact fun _ _ _ h => h) (Or.inl ⟨by rfl, ?_⟩) (by assumption) ?_
          rotate_left
          · intro w hSw
            try dsimp only at hSw
            go_simp <;> with_reducible rfl
          (try simp only [Act.put, List.setIfInBounds_toArray, List.set_cons_zero, List.set_cons_succ])
          refine wpAnyH_take (i := 7) (v := ?_) (by simp only [List.getElem?_toArray, List.getElem?_cons_succ, List.getElem?_cons_zero] <;> rfl) (by kernel_rfl) (by kernel_rfl) (by kernel_rfl) (by exact fun _ _ _ h => h) (Or.inl ⟨by rfl, ?_⟩) (by assumption) ?_
          rotate_left
          · intro w hSw
            try dsimp only at hSw
            go_simp <;> with_reducible rfl
          (try simp only [Act.put, List.setIfInBounds_toArray, List.set_cons_zero, List.set_cons_succ])
          refine wpAnyH_take (i := 8) (v := undef) (by simp only [List.getElem?_toArray, List.getElem?_cons_succ, List.getElem?_cons_zero] <;> rfl) (by kernel_rfl) (by kernel_rfl) (by kernel_rfl) (by exact fun _ _ _ h => h) (Or.inr ⟨by rfl, rfl⟩) (by assumption) ?_
          (try simp only [Act.put, List.setIfInBounds_toArray, List.set_cons_zero, List.set_cons_succ])
          refine wpAnyH_take (i := 9) (v := undef) (by simp only [List.getElem?_toArray, List.getElem?_cons_succ, List.getElem?_cons_zero] <;> rfl) (by kernel_rfl) (by kernel_rfl) (by kernel_rfl) (by exact fun _ _ _ h => h) (Or.inr ⟨by rfl, rfl⟩) (by assumption) ?_
          (try simp only [Act.put, List.setIfInBounds_toArray, List.set_cons_zero, List.set_cons_succ])
          refine wpAnyH_take (i := 10) (v := undef) (by simp only [List.getElem?_toArray, List.getElem?_cons_succ, List.getElem?_cons_zero] <;> rfl) (by kernel_rfl) (by kernel_rfl) (by kernel_rfl) (by exact fun _ _ _ h => h) (Or.inr ⟨by rfl, rfl⟩) (by assumption) ?_
          (try simp only [Act.put, List.setIfInBounds_toArray, List.set_cons_zero, List.set_cons_succ])
          refine wpAnyH_take (i := 11) (v := undef) (by simp only [List.getElem?_toArray, List.getElem?_cons_succ, List.getElem?_cons_zero] <;> rfl) (by kernel_rfl) (by kernel_rfl) (by kernel_rfl) (by exact fun _ _ _ h => h) (Or.inr ⟨by rfl, rfl⟩) (by assumption) ?_
          (try simp only [Act.put, List.setIfInBounds_toArray, List.set_cons_zero, List.set_cons_succ])
          refine wpAnyH_take (i := 12) (v := undef) (by simp only [List.getElem?_toArray, List.getElem?_cons_succ, List.getElem?_cons_zero] <;> rfl) (by kernel_rfl) (by kernel_rfl) (by kernel_rfl) (by exact fun _ _ _ h => h) (Or.inr ⟨by rfl, rfl⟩) (by assumption) ?_
          (try simp only [Act.put, List.setIfInBounds_toArray, List.set_cons_zero, List.set_cons_succ])
          refine wpAnyH_take (i := 13) (v := undef) (by simp only [List.getElem?_toArray, List.getElem?_cons_succ, List.getElem?_cons_zero] <;> rfl) (by kernel_rfl) (by kernel_rfl) (by kernel_rfl) (by exact fun _ _ _ h => h) (Or.inr ⟨by rfl, rfl⟩) (by assumption) ?_
          (try simp only [Act.put, List.setIfInBounds_toArray, List.set_cons_zero, List.set_cons_succ])
          refine wpAnyH_take (i := 14) (v := undef) (by simp only [List.getElem?_toArray, List.getElem?_cons_succ, List.getElem?_cons_zero] <;> rfl) (by kernel_rfl) (by kernel_rfl) (by kernel_rfl) (by exact fun _ _ _ h => h) (Or.inr ⟨by rfl, rfl⟩) (by assumption) ?_
          (try simp only [Act.put, List.setIfInBounds_toArray, List.set_cons_zero, List.set_cons_succ])
          refine wpAnyH_take (i := 15) (v := ?_) (by simp only [List.getElem?_toArray, List.getElem?_cons_succ, List.getElem?_cons_zero] <;> rfl) (by kernel_rfl) (by kernel_rfl) (by kernel_rfl) (by exact fun _ _ _ h => h) (Or.inl ⟨by rfl, ?_⟩) (by assumption) ?_
          rotate_left
          · intro w hSw
            try dsimp only at hSw
            go_simp <;> with_reducible rfl
          (try simp only [Act.put, List.setIfInBounds_toArray, List.set_cons_zero, List.set_cons_succ])
          refine wpAnyH_take (i := 16) (v := ?_) (by simp only [List.getElem?_toArray, List.getElem?_cons_succ, List.getElem?_cons_zero] <;> rfl) (by kernel_rfl) (by kernel_rfl) (by kernel_rfl) (by exact fun _ _ _ h => h) (Or.inl ⟨by rfl, ?_⟩) (by assumption) ?_
          rotate_left
          · intro w hSw
            try dsimp only at hSw
            go_simp <;> with_reducible rfl
          (try simp only [Act.put, List.setIfInBounds_toArray, List.set_cons_zero, List.set_cons_succ])
          refine wpAnyH_done (by kernel_rfl) ?_ _
          go_wp2_with fail
          have hwr := HWR.out
          clear d1 d1' d2 d2' d3 d3' y0 y1 y2 hwb hbx
          have nbx : ¬ (Nl bx ∨ Nr bx) := fun h => by have := Hsz.out.2.2.1; exact h.elim (fun h => by have := Hr.out.2.2.2.2.2.2.2.1 _ h; omega) (fun h => by have := Hr.out.2.2.2.2.2.2.2.2 _ h; omega)
          have nb : ¬ (Nl b ∨ Nr b) := fun h => h.elim Hr.out.2.2.2.2.1 Hr.out.2.2.2.2.2.1
          have keyG : ∀ w', Fr (fun k => Nl k ∨ Nr k) wb w' → w'.cell? ⟨b, 3, none⟩ = some (.pointer pl) ∧ w'.cell? ⟨b, 4, none⟩ = some (.pointer pr) ∧ w'.cell? ⟨bx, 0, none⟩ = some (.int .i64 (xa : Int)) ∧ w'.cell? ⟨bx, 1, none⟩ = some (.int .i64 (xb : Int)) ∧ w'.cell? ⟨bx, 2, none⟩ = some (.int .i64 (xf : Int)) ∧ w'.cell? ⟨bx, 3, none⟩ = some (.int .i64 (xt : Int)) := fun w' f => ⟨f.cell y3 nb, f.cell y4 nb, f.cell x0 nbx, f.cell x1 nbx, f.cell x2 nbx, f.cell x3 nbx⟩
          replace keyG := Lib.hid keyG
          clear nb nbx
          go_region_held3 (fun w' => w'.cell? ⟨b, 3, none⟩ = some (.pointer pl) ∧ w'.cell? ⟨b, 4, none⟩ = some (.pointer pr) ∧ w'.cell? ⟨bx, 0, none⟩ = some (.int .i64 (xa : Int)) ∧ w'.cell? ⟨bx, 1, none⟩ = some (.int .i64 (xb : Int)) ∧ w'.cell? ⟨bx, 2, none⟩ = some (.int .i64 (xf : Int)) ∧ w'.cell? ⟨bx, 3, none⟩ = some (.int .i64 (xt : Int))) (go_keep)
            (first
              | (go_at_call 56; (with_reducible refine (HIL.out _ (by repeat (first | exact HFB.out | refine Fr.drew ?_))).mono ?_); rintro e w2 ⟨rfl, T2, F2⟩; have HN2 : Hid (Fr Nl w w2) := Lib.hid (Fr.trans (by repeat (first | exact HFB.out.mono (fun _ _ h => h.elim) | refine Fr.drew ?_)) F2 (fun _ _ h => h)); have HG2 : Hid (Fr (fun k => Nl k ∨ Nr k) wb w2) := Lib.hid (Fr.trans (by repeat (first | exact Fr.refl _ _ | refine Fr.drew ?_)) F2 (fun _ _ h => .inl h)); have HT2 : Hid (TM w2 B (putT (xa, xb, xf, xt) l) (ext Nl wb w2)) := Lib.hid T2; obtain ⟨k1, k2, k3, k4, k5, k6⟩ := keyG.out w2 HG2.out; clear T2 F2)
              | (go_at_call 56; (with_reducible refine (HIR.out _ (by repeat (first | exact HN2.out | refine Fr.drew ?_))).mono ?_); rintro e w3 ⟨rfl, T3, F3⟩; have HF3 : Hid (Fr Nr w2 w3) := Lib.hid (Fr.trans (by repeat (first | exact Fr.refl _ _ | refine Fr.drew ?_)) F3 (fun _ _ h => h)); have HT3 : Hid (TM w3 B (putT (xa, xb, xf, xt) r) (ext Nr w2 w3)) := Lib.hid T3; obtain ⟨j1, j2, j3, j4, j5, j6⟩ := keyG.out w3 (HG2.out.trans (Fr.trans (S := Nr) (by repeat (first | exact Fr.refl _ _ | refine Fr.drew ?_)) F3 (fun _ _ h => h)) (fun _ _ h => .inr h)); clear T3 F3)
              | fail)
          go_wp2_with fail
          go_ret
          unfold PtP
          rw [E1.out.1, E1.out.2, Int.natCast_add, ← Hnl.out.1, ← Hnl.out.2]
          obtain ⟨r1, r2, r3, r4, r5, r6, r7, r8, r9⟩ := Hr.out
          obtain ⟨a1, a2, a3, a4, a5⟩ := Hae.out
          have b0 := Hb.out
          have sz := Hsz.out
          have W3 : Fr (fun k => Nl k ∨ Nr k) w w3 := (HN2.out.mono (fun _ _ h => .inl h)).trans HF3.out (fun _ _ h => .inr h)
          have W4 : Fr N w w3 := W3.mono (fun k _ h => h.elim (r3 k) (r4 k))
          have s2 : wb.heap.size ≤ w2.heap.size := HG2.out.size
          have s3 := HF3.out.size
          have hbl := Hw1.out.lt
          have hal : ∀ k, onBlk ae k → k < w.heap.size := fun k hk => (OwnZ.blk a1 k hk).2
          refine ⟨rfl, ⟨ae, ce, ext Nl wb w2, ext Nr w2 w3, ?_, OwnZ.fr a1 W3 (fun k hk h => h.elim (a4 k hk) (a5 k hk)), ?_, HT3.out, hf, ht, by omega, b0.1, .inl b0.2, fun k hk => .inl (a2 k hk), fun k hk => ?_, fun k hk => ?_, a3, fun h => ?_, fun h => ?_, fun k hk h => ?_, fun k hk h => ?_, fun k hk h => ?_, fun k hk => ?_, fun k hk => ?_⟩, W4⟩
          · have h1 := Hw1.out.fr W3 (fun h => h.elim r5 r6)
            unfold Sg.ptr at h1 ⊢
            rw [putT_adr, putT_adr]
            exact h1
          · exact TM.fr HF3.out HT2.out (fun k hk h => hk.elim (fun h1 => r7 k h1 h) (fun h1 => by have := r9 k h; omega))
          · exact hk.elim (fun h => .inl (r3 k h)) (fun h => .inr ⟨by omega, by omega⟩)
          · exact hk.elim (fun h => .inl (r4 k h)) (fun h => .inr ⟨by omega, by omega⟩)
          · exact h.elim r5 (fun h => by omega)
          · exact h.elim r6 (fun h => by omega)
          · exact h.elim (a4 k hk) (fun h => by have := hal k hk; omega)
          · exact h.elim (a5 k hk) (fun h => by have := hal k hk; omega)
          · rcases hk with hk | hk
            · exact h.elim (r7 k hk) (fun h => by have := r8 k hk; omega)
            · exact h.elim (fun h => by have := r9 k h; omega) (fun h => by omega)
          · exact hk.elim (fun h => by have := r8 k h; omega) (fun h => by omega)
          · exact hk.elim (fun h => by have := r9 k h; omega) (fun h => by omega)
      · exfalso; omega
end Go.Proofs.Ytihcaemheknjbaa
