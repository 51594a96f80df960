/- Buffer trees: Get. -/
import Derived.Test.YtkmnnfflibamnaaG25
namespace Go.Proofs.Ytkmnnfflibamnaa
open Go.RowKit Go.Shelf
attribute [local go_sem] Oper.semAt_some
def gOf (a : Act) : Nat → Value := fun i => a.tmps.getD i undef
def GF (t s : Nat) (k : Int) (c7 c8 c46 c47 c48 : Value) (g : Nat → Value) (ds : List Deferred) : Act := ⟨#[.pointer (some ⟨t, 0, none⟩), .int .i64 k, .pointer (some ⟨s, 0, none⟩), .pointer (some ⟨s + 1, 0, none⟩), .pointer (some ⟨s + 2, 0, none⟩), .pointer (some ⟨s + 3, 0, none⟩), .pointer (some ⟨s + 4, 0, none⟩), c7, c8, g 9, g 10, g 11, g 12, g 13, g 14, g 15, g 16, g 17, g 18, g 19, g 20, g 21, g 22, g 23, g 24, g 25, g 26, g 27, g 28, g 29, g 30, g 31, g 32, g 33, g 34, g 35, g 36, g 37, g 38, g 39, g 40, g 41, g 42, g 43, g 44, g 45, c46, c47, c48, g 49, g 50, g 51, g 52, g 53, g 54, g 55, g 56, g 57, g 58, g 59, g 60, g 61, g 62, g 63, g 64, g 65, g 66, g 67, g 68, g 69, g 70, g 71, g 72, g 73, g 74, g 75, g 76, g 77, g 78], ds⟩
theorem wp_step {P : Program} {c : Code} {R : Act → World → Prop} {Q : Exit → Act → World → Prop} {a : Act} {w : World} (h : c.wp P (Exit.then R fun _ _ _ => False) a w) (hQ : ∀ a w, R a w → Q .normal a w) : c.wp P Q a w := by
  refine wp_mono h (fun e a w he => ?_)
  cases e with
  | normal => exact hQ a w he
  | _ => exact he.elim
theorem wpIn_step {F : Fence} {n : Nat} {P : Program} {c : Code} {R : Act → World → Prop} {Q : Exit → Act → World → Prop} {a : Act} {w : World} (h : c.wpIn F n P (Exit.then R fun _ _ _ => False) a w) (hQ : ∀ a w, R a w → Q .normal a w) : c.wpIn F n P Q a w := by
  refine wpIn_mono h (fun e a w he => ?_)
  cases e with
  | normal => exact hQ a w he
  | _ => exact he.elim
/-- Under way in Get: s the world's size at the beginning. -/
structure GS (w W : World) (t B M s : Nat) (T : TV) (k : Int) (m : Nat) (v e : Int) : Prop where
  blk : Blk W t 77 (tcells B M { T with mv := m })
  fr : Fr (fun x => x = t) w W
  bt : One W s 26 (.pointer (some ⟨t, 0, none⟩))
  bk : One W (s + 1) 3 (.int .i64 k)
  br : One W (s + 2) 3 (.int .i64 v)
  be : One W (s + 3) 27 (.int .i64 e)
  bf : One W (s + 4) 106 (.func (.func 58) #[] #[])
  hs : s = w.heap.size
section
variable {w W W' : World} {col : Nat → Nat} {t B M s m : Nat} {T : TV} {k v e : Int}
theorem GS.fr0 (h : GS w W t B M s T k m v e) (F : Fr F0 W W') : GS w W' t B M s T k m v e := ⟨h.blk.fr F id, h.fr.trans0 F, h.bt.fr F id, h.bk.fr F id, h.br.fr F id, h.be.fr F id, h.bf.fr F id, h.hs⟩
theorem GS.frS {S : Nat → Prop} (h : GS w W t B M s T k m v e) (F : Fr S W W') (ht : ¬ S t) (hS : ∀ x, x < s + 5 → ¬ S x) : GS w W' t B M s T k m v e := ⟨h.blk.fr F ht, h.fr.trans F (fun x hx e => absurd e (hS x (by have := h.hs; omega))), h.bt.fr F (hS _ (by omega)), h.bk.fr F (hS _ (by omega)), h.br.fr F (hS _ (by omega)), h.be.fr F (hS _ (by omega)), h.bf.fr F (hS _ (by omega)), h.hs⟩
theorem GS.ts (h : GS w W t B M s T k m v e) (H : TS w col t B M T) : TS W col t B M { T with mv := m } ∧ Ch w W col col := by
  have K : Kq w W col col (fun c => c = 1) := ⟨h.fr.mono (fun x _ e => by subst e; exact H.ct), fun _ _ => rfl⟩
  have kb := H.kbuf K (by omega)
  have kl := H.klev K (by omega)
  exact ⟨⟨h.blk, H.ct, kb.1, H.cb, kl.1, H.cl, fun i L hL => H.keach K (by omega) (by omega) hL, fun x hx => H.up x (Nat.le_trans h.fr.size hx)⟩, K.ch (by omega)⟩
theorem GS.mvd (h : GS w W t B M s T k m v e) (ht : t < w.heap.size) (m' : Nat) : GS w (W.setCell ⟨t, 4, none⟩ (.int .i64 (m' : Int))) t B M s T k m' v e := by
  have := h.hs
  exact ⟨h.blk.set 4 _, h.fr.setCell (fun _ => rfl) _, h.bt.other (by dsimp only; omega) _, h.bk.other (by dsimp only; omega) _, h.br.other (by dsimp only; omega) _, h.be.other (by dsimp only; omega) _, h.bf.other (by dsimp only; omega) _, h.hs⟩
theorem GS.setR (h : GS w W t B M s T k m v e) (ht : t < w.heap.size) (v' e' : Int) : GS w ((W.setCell ⟨s + 2, 0, none⟩ (.int .i64 v')).setCell ⟨s + 3, 0, none⟩ (.int .i64 e')) t B M s T k m v' e' := by
  have := h.hs
  exact ⟨(h.blk.other (by dsimp only; omega) _).other (by dsimp only; omega) _, (h.fr.setCell (fun hx => by dsimp only at hx; omega) _).setCell (fun hx => by dsimp only at hx; omega) _, (h.bt.other (by dsimp only; omega) _).other (by dsimp only; omega) _, (h.bk.other (by dsimp only; omega) _).other (by dsimp only; omega) _, (h.br.set _).other (by dsimp only; omega) _, (h.be.other (by dsimp only; omega) _).set _, (h.bf.other (by dsimp only; omega) _).other (by dsimp only; omega) _, h.hs⟩
end
theorem newT_len (lv : Lv) : (newT lv).length = runsN lv := by
  induction lv with
  | nil => rfl
  | cons x lv ih =>
    unfold newT runsN at *
    rw [List.flatMap_cons, List.length_append, List.length_reverse, ih, List.map_cons, List.sum_cons]
theorem LvOK.getr {w : World} {col : Nat → Nat} {t B M i a b c : Nat} {T : TV} {L : LV} (h : LvOK w col i L) (_ : TS w col t B M T) (hP : PI T.tt a b c) (hL : T.lv[i]? = some L) (x : Nat) :
    (RdZ w 3 (rget L.rv x).a (rget L.rv x).l.length (ents (rget L.rv x).l) ∧ ∀ j, onBlk (rget L.rv x).a j → col j = 0) ∧ Sd (rget L.rv x).l ∧ (rget L.rv x).l.length ≤ a := by
  unfold rget
  rw [List.getD_eq_getElem?_getD]
  cases hx : L.rv[x]? with
  | none => exact ⟨⟨RdZ.none w, fun j hj => absurd hj (onBlk_none _)⟩, List.Pairwise.nil, Nat.zero_le _⟩
  | some r =>
    have hr := List.mem_of_getElem? hx
    have hm : ls L.rv ∈ T.tt.lv := lvT_mem (List.mem_of_getElem? hL)
    have hm2 : r.l ∈ ls L.rv := List.mem_map_of_mem hr
    obtain ⟨h1, _, h3⟩ := h.2.2 r hr
    exact ⟨⟨h1, fun j hj => (h3 j hj).2⟩, hP.sd _ hm _ hm2, Nat.le_trans (len1_mem hm2) (Nat.le_trans (totT_mem hm).1 hP.tot)⟩
theorem Fr.rowd {S : Nat → Prop} {w W W' : World} (h : Fr S w W) {row : Option Nat} (hr : ∀ r, row = some r → w.heap.size ≤ r) (hg : W.grownBy W' row) : Fr S w W' :=
  ⟨hg.os.trans h.os, hg.tape.trans h.tape, hg.output.trans h.output, Nat.le_trans h.size hg.size, fun k hk hn => (hg.block k (Nat.lt_of_lt_of_le hk h.size) (fun e => by have := hr k e.symm; omega)).trans (h.block k hk hn)⟩
theorem GS.rowd {w W W' : World} {t B M s m : Nat} {T : TV} {k v e : Int} (h : GS w W t B M s T k m v e) {row : Option Nat} (hr : ∀ r, row = some r → s + 5 ≤ r) (ht : t < w.heap.size) (hg : W.grownBy W' row) : GS w W' t B M s T k m v e :=
  h.frS (S := fun x => row = some x) ⟨hg.os, hg.tape, hg.output, hg.size, fun k hk hn => hg.block k hk (fun e => hn e.symm)⟩ (fun e => by have := hr t e; have := h.hs; omega) (fun x hx e => by have := hr x e; omega)
/-- The loop over the levels. -/
def GI (w : World) (t B M s : Nat) (T : TV) (k : Int) (n : Nat) (a : Act) (W : World) : Prop := ∃ (i : Nat) (ds : List Deferred), a = GF t s k (gOf a 7) (gOf a 8) (.slice T.la n T.lc) (.int .i64 (n : Int)) (.int .i64 (i : Int)) (gOf a) ds ∧ i ≤ n ∧ GS w W t B M s T k (T.mv + (newT ((lvT T.lv).take i)).length) 0 0 ∧ MK W (s + 5) ds ∧ ∀ r ∈ newT ((lvT T.lv).take i), lk r k = none
set_option maxRecDepth 100000 in
set_option maxHeartbeats 4000000 in
theorem Get_any {w : World} {col : Nat → Nat} {t B M k1 k2 k3 : Nat} {T : TV} (k : Int) (h : TS w col t B M T) (hP : PI T.tt k1 k2 k3) (hk1 : k1 + T.buf.length ≤ 400) (hk2 : k2 ≤ 1900) (hk3 : k3 ≤ 900000000) (hbs : Sd T.buf) (hk : inK k = true) :
    Calls Try.prog 29 #[.pointer (some ⟨t, 0, none⟩), .int .i64 k] w fun r w' => ∃ m v e, r = .returned (.tuple #[.int .i64 v, .int .i64 e]) ∧ (⟨T.tt.lv, m⟩, v, e) = getT T.tt T.buf k ∧ TS w' col t B M { T with mv := m } ∧ Ch w w' col col := by
  have HK := Lib.hid (fun w => key_any k w)
  unfold inK at hk
  rw [hk] at HK
  clear hk
  obtain ⟨s, hs⟩ : ∃ s, s = w.heap.size := ⟨_, rfl⟩
  have hs1 : (w.alloc (.cells #[.pointer (some ⟨t, 0, none⟩)] 26)).heap.size = s + 1 := by rw [size_alloc, hs]
  have G5 : GS w (((((w.alloc (.cells #[.pointer (some ⟨t, 0, none⟩)] 26)).alloc (.cells #[.int .i64 k] 3)).alloc (.cells #[.int .i64 0] 3)).alloc (.cells #[.int .i64 0] 27)).alloc (.cells #[.func (.func 58) #[] #[]] 106)) t B M s T k T.mv 0 0 := by
    have b0 := ((((One.new (w := w) 26 (.pointer (some ⟨t, 0, none⟩))).alloc (.cells #[.int .i64 k] 3)).alloc (.cells #[.int .i64 0] 3)).alloc (.cells #[.int .i64 0] 27)).alloc (.cells #[.func (.func 58) #[] #[]] 106)
    have b1 := (((One.new (w := w.alloc (.cells #[.pointer (some ⟨t, 0, none⟩)] 26)) 3 (.int .i64 k)).alloc (.cells #[.int .i64 0] 3)).alloc (.cells #[.int .i64 0] 27)).alloc (.cells #[.func (.func 58) #[] #[]] 106)
    have b2 := ((One.new (w := (w.alloc (.cells #[.pointer (some ⟨t, 0, none⟩)] 26)).alloc (.cells #[.int .i64 k] 3)) 3 (.int .i64 0)).alloc (.cells #[.int .i64 0] 27)).alloc (.cells #[.func (.func 58) #[] #[]] 106)
    have b3 := (One.new (w := ((w.alloc (.cells #[.pointer (some ⟨t, 0, none⟩)] 26)).alloc (.cells #[.int .i64 k] 3)).alloc (.cells #[.int .i64 0] 3)) 27 (.int .i64 0)).alloc (.cells #[.func (.func 58) #[] #[]] 106)
    have b4 := One.new (w := (((w.alloc (.cells #[.pointer (some ⟨t, 0, none⟩)] 26)).alloc (.cells #[.int .i64 k] 3)).alloc (.cells #[.int .i64 0] 3)).alloc (.cells #[.int .i64 0] 27)) 106 (.func (.func 58) #[] #[])
    simp only [size_alloc] at b0 b1 b2 b3 b4
    rw [← hs] at b0 b1 b2 b3 b4
    exact ⟨((((h.blk.alloc _).alloc _).alloc _).alloc _).alloc _, (((((Fr.refl _ _).alloc _).alloc _).alloc _).alloc _).alloc _, b0, b1, b2, b3, b4, hs⟩
  have HG5 := Lib.hid G5
  have HT := Lib.hid h
  have HP := Lib.hid (PI.small rfl hP)
  have Hbs := Lib.hid hbs
  have Hs := Lib.hid hs
  have HP0 := Lib.hid hP
  clear h hP hbs hs1 G5
  refine (callsIn_wide (n := 3)).1 ?_
  refine callsIn_of_wp_marks Try.func29 rfl trivial ?_
  simp only [Try.ntmps29, List.size_toArray, List.length_cons, List.length_nil, Nat.reduceAdd, Nat.reduceSub, Array.replicate_succ, Array.replicate_zero, List.push_toArray, List.append_toArray, List.nil_append, List.cons_append]
  gi_wp2_with (refine ⟨trivial, ?_⟩; gi_at_call 57; refine (callsIn_wide.2 (HK.out _)).mono ?_; rintro r w1 ⟨rfl, rfl⟩)
  obtain ⟨W5, hW5⟩ : ∃ W5, W5 = ((((w.alloc (.cells #[.pointer (some ⟨t, 0, none⟩)] 26)).alloc (.cells #[.int .i64 k] 3)).alloc (.cells #[.int .i64 0] 3)).alloc (.cells #[.int .i64 0] 27)).alloc (.cells #[.func (.func 58) #[] #[]] 106) := ⟨_, rfl⟩
  rw [← hW5] at HG5 ⊢
  rw [← hs, show s + 1 + 1 + 1 + 1 = s + 4 from rfl, show s + 1 + 1 + 1 = s + 3 from rfl, show s + 1 + 1 = s + 2 from rfl]
  clear hW5 hs
  have x0 := HG5.out.bt.cell
  have x1 := HG5.out.bk.cell
  have x2 := HG5.out.blk.cell (i := 2) rfl
  dsimp only at x2
  have HT5 := Lib.hid (HG5.out.ts HT.out)
  obtain ⟨nb, hnb⟩ : ∃ nb, nb = T.buf.length := ⟨_, rfl⟩
  have Hnb := Lib.hid hnb
  have HFi := Lib.hid (fun W (F2 : Fr F0 W5 W) => find_any (c := T.bc) k (HT5.out.1.fr0 F2).bown.rd Hbs.out (by dsimp only; omega))
  rw [← hnb] at x2
  dsimp only at HFi
  rw [← hnb] at HFi
  clear hnb
  refine wpIn_wide.2 (wp_step (R := fun a w2 => ∃ i : Nat, a = GF t s k (.int .i64 (i : Int)) (.bool (lk T.buf k).isSome) (gOf a 46) (gOf a 47) (gOf a 48) (gOf a) [] ∧ Lo T.buf k i ∧ Fr F0 W5 w2) ?_ ?_)
  ·
    refine wp_region_held_drew (S := (fun w' : World => w'.cell? ⟨s, 0, none⟩ = some (.pointer (some ⟨t, 0, none⟩)) ∧ w'.cell? ⟨s + 1, 0, none⟩ = some (.int .i64 k) ∧ w'.cell? ⟨t, 2, none⟩ = some (.slice T.ba nb T.bc))) (by kernel_rfl) (by first | exact ⟨x0, x1, x2⟩ | go_keep) (fun hHeld => ?_)
    refine wpAnyH_take (i := 0) (v := ?_) (by simp only [List.getElem?_toArray, List.getElem?_cons_zero] <;> rfl) (by kernel_rfl) (by kernel_rfl) (by kernel_rfl) (by exact fun _ _ _ h => h) (Or.inl ⟨by rfl, ?_⟩) (by assumption) ?_
    rotate_left
    · intro w hSw
      try dsimp only at hSw
      go_simp <;> with_reducible rfl
    (try simp only [Act.put, List.setIfInBounds_toArray, List.set_cons_zero, List.set_cons_succ])
    refine wpAnyH_take (i := 1) (v := ?_) (by simp only [List.getElem?_toArray, List.getElem?_cons_succ, List.getElem?_cons_zero] <;> rfl) (by kernel_rfl) (by kernel_rfl) (by kernel_rfl) (by exact fun _ _ _ h => h) (Or.inl ⟨by rfl, ?_⟩) (by assumption) ?_
    rotate_left
    · intro w hSw
      try dsimp only at hSw
      go_simp <;> with_reducible rfl
    (try simp only [Act.put, List.setIfInBounds_toArray, List.set_cons_zero, List.set_cons_succ])
    refine wpAnyH_take (i := 2) (v := ?_) (by simp only [List.getElem?_toArray, List.getElem?_cons_succ, List.getElem?_cons_zero] <;> rfl) (by kernel_rfl) (by kernel_rfl) (by kernel_rfl) (by exact fun _ _ _ h => h) (Or.inl ⟨by rfl, ?_⟩) (by assumption) ?_
    rotate_left
    · intro w hSw
      try dsimp only at hSw
      go_simp <;> with_reducible rfl
    (try simp only [Act.put, List.setIfInBounds_toArray, List.set_cons_zero, List.set_cons_succ])
    refine wpAnyH_take (i := 3) (v := ?_) (by simp only [List.getElem?_toArray, List.getElem?_cons_succ, List.getElem?_cons_zero] <;> rfl) (by kernel_rfl) (by kernel_rfl) (by kernel_rfl) (by exact fun _ _ _ h => h) (Or.inl ⟨by rfl, ?_⟩) (by assumption) ?_
    rotate_left
    · intro w hSw
      try dsimp only at hSw
      go_simp <;> with_reducible rfl
    (try simp only [Act.put, List.setIfInBounds_toArray, List.set_cons_zero, List.set_cons_succ])
    refine wpAnyH_take (i := 4) (v := ?_) (by simp only [List.getElem?_toArray, List.getElem?_cons_succ, List.getElem?_cons_zero] <;> rfl) (by kernel_rfl) (by kernel_rfl) (by kernel_rfl) (by exact fun _ _ _ h => h) (Or.inl ⟨by rfl, ?_⟩) (by assumption) ?_
    rotate_left
    · intro w hSw
      try dsimp only at hSw
      go_simp <;> with_reducible rfl
    (try simp only [Act.put, List.setIfInBounds_toArray, List.set_cons_zero, List.set_cons_succ])
    refine wpAnyH_ready (rs := [5]) (by kernel_rfl) (by simp) ?_
    refine AllReadyH.cons (by simp only [List.getElem?_toArray, List.getElem?_cons_succ, List.getElem?_cons_zero] <;> rfl) (fun KK hKK => ?_) AllReadyH.nil
    go_simp
    refine (HFi.out _ (Fr.refl _ _).drew).mono ?_
    rintro r w2 ⟨i, rfl, hL, F2⟩
    have H2 := Lib.hid (And.intro hL ((Fr.refl F0 W5).drew.trans0 F2))
    clear hL F2
    refine hKK.out _ _ (⟨H2.out.2.cell x0 id, H2.out.2.cell x1 id, H2.out.2.cell x2 id⟩) (fun hHeld => ?_)
    clear hKK KK
    (try simp only [Act.put, List.setIfInBounds_toArray, List.set_cons_zero, List.set_cons_succ])
    refine wpAnyH_take (i := 6) (v := ?_) (by simp only [List.getElem?_toArray, List.getElem?_cons_succ, List.getElem?_cons_zero] <;> rfl) (by kernel_rfl) (by kernel_rfl) (by kernel_rfl) (by exact fun _ _ _ h => h) (Or.inl ⟨by rfl, ?_⟩) (by assumption) ?_
    rotate_left
    · intro w hSw
      try dsimp only at hSw
      go_simp <;> with_reducible rfl
    (try simp only [Act.put, List.setIfInBounds_toArray, List.set_cons_zero, List.set_cons_succ])
    refine wpAnyH_take (i := 7) (v := ?_) (by simp only [List.getElem?_toArray, List.getElem?_cons_succ, List.getElem?_cons_zero] <;> rfl) (by kernel_rfl) (by kernel_rfl) (by kernel_rfl) (by exact fun _ _ _ h => h) (Or.inl ⟨by rfl, ?_⟩) (by assumption) ?_
    rotate_left
    · intro w hSw
      try dsimp only at hSw
      go_simp <;> with_reducible rfl
    (try simp only [Act.put, List.setIfInBounds_toArray, List.set_cons_zero, List.set_cons_succ])
    refine wpAnyH_take (i := 8) (v := ?_) (by simp only [List.getElem?_toArray, List.getElem?_cons_succ, List.getElem?_cons_zero] <;> rfl) (by kernel_rfl) (by kernel_rfl) (by kernel_rfl) (by exact fun _ _ _ h => h) (Or.inl ⟨by rfl, ?_⟩) (by assumption) ?_
    rotate_left
    · intro w hSw
      try dsimp only at hSw
      go_simp <;> with_reducible rfl
    (try simp only [Act.put, List.setIfInBounds_toArray, List.set_cons_zero, List.set_cons_succ])
    refine wpAnyH_take (i := 9) (v := ?_) (by simp only [List.getElem?_toArray, List.getElem?_cons_succ, List.getElem?_cons_zero] <;> rfl) (by kernel_rfl) (by kernel_rfl) (by kernel_rfl) (by exact fun _ _ _ h => h) (Or.inl ⟨by rfl, ?_⟩) (by assumption) ?_
    rotate_left
    · intro w hSw
      try dsimp only at hSw
      go_simp <;> with_reducible rfl
    (try simp only [Act.put, List.setIfInBounds_toArray, List.set_cons_zero, List.set_cons_succ])
    refine wpAnyH_take (i := 10) (v := ?_) (by simp only [List.getElem?_toArray, List.getElem?_cons_succ, List.getElem?_cons_zero] <;> rfl) (by kernel_rfl) (by kernel_rfl) (by kernel_rfl) (by exact fun _ _ _ h => h) (Or.inl ⟨by rfl, ?_⟩) (by assumption) ?_
    rotate_left
    · intro w hSw
      try dsimp only at hSw
      go_simp <;> with_reducible rfl
    (try simp only [Act.put, List.setIfInBounds_toArray, List.set_cons_zero, List.set_cons_succ])
    refine wpAnyH_done (by kernel_rfl) ?_ _
    exact ⟨i, rfl, H2.out.1, H2.out.2⟩
  rintro a6 w2 ⟨i, ha6, hL, F2⟩
  rw [ha6]
  clear ha6
  generalize gOf a6 = g
  unfold GF
  have H2 := Lib.hid (And.intro hL F2)
  clear hL F2
  have HG2 := Lib.hid (HG5.out.fr0 H2.out.2)
  have HT2 := Lib.hid (HG2.out.ts HT.out)
  have HGt := Lib.hid (show getT T.tt T.buf k = match lk T.buf k with | some e => (T.tt, eVal (some e)) | none => (⟨T.tt.lv, T.mv + (lkR (newT T.tt.lv) k).1⟩, eVal (lkR (newT T.tt.lv) k).2) from rfl)
  obtain ⟨RR, hRR⟩ : ∃ RR, RR = getT T.tt T.buf k := ⟨_, rfl⟩
  rw [← hRR] at HGt
  have HRR := Lib.hid hRR
  clear x0 x1 x2 hRR HFi HG5 HT5
  cases hlk : lk T.buf k with
  | some y =>
    rw [hlk] at HGt
    have hie := H2.out.1
    have hin : i < nb := by
      rcases Nat.lt_or_ge i nb with h | h
      · exact h
      · have := hie.none (by rw [← Hnb.out]; exact h); rw [hlk] at this; cases this
    obtain ⟨y', hy'⟩ : ∃ y', T.buf[i]? = some y' := ⟨_, List.getElem?_eq_getElem (by rw [← Hnb.out]; exact hin)⟩
    have hyk : y' = y := by
      have := hie.found Hbs.out hy'
      rw [hlk] at this
      by_cases c : y'.1 = k
      · rw [if_pos c] at this; injection this with this; exact this.symm
      · rw [if_neg c] at this; cases this
    subst hyk
    obtain ⟨gb, o, hgg, c0, c1, c2⟩ := HT2.out.1.bown.rd.ent hy'
    dsimp only at hgg
    have x0 := HG2.out.bt.cell
    have x2 := HG2.out.blk.cell (i := 2) rfl
    have x4 := HG2.out.bf.cell
    dsimp only at x2
    rw [← Hnb.out, hgg] at x2
    have HGb : Hid (gb < s) := Lib.hid (by rw [HG2.out.hs]; exact (HT.out.bown.blk gb (by rw [hgg]; exact (onBlk_some _ _ _ _).2 rfl)).2)
    clear hie hy' hlk hgg
    rw [show (some y').isSome = true from rfl]
    obtain ⟨y1, y2, y3⟩ := y'
    dsimp only at c0 c1 c2
    have HCl := Lib.hid (fun W => getCl_any (y1, y2, y3) W)
    obtain ⟨rv, hrv⟩ : ∃ rv, rv = (eVal (some (y1, y2, y3))).1 := ⟨_, rfl⟩
    obtain ⟨re, hre⟩ : ∃ re, re = (eVal (some (y1, y2, y3))).2 := ⟨_, rfl⟩
    rw [← hrv, ← hre] at HCl
    have HRv := Lib.hid (And.intro hrv hre)
    clear hrv hre
    gi_wp2_with fail
    refine wpIn_wide.2 (wp_step (R := fun a w9 => a = GF t s k (gOf a 7) (gOf a 8) (gOf a 46) (gOf a 47) (gOf a 48) (gOf a) [] ∧ GS w w9 t B M s T k T.mv rv re) ?_ ?_)
    ·
      refine wp_region_last 12 (fun w' : World => w'.cell? ⟨s, 0, none⟩ = some (.pointer (some ⟨t, 0, none⟩)) ∧ w'.cell? ⟨s + 4, 0, none⟩ = some (.func (.func 58) #[] #[]) ∧ w'.cell? ⟨t, 2, none⟩ = some (.slice (some ⟨gb, o, none⟩) nb T.bc) ∧ w'.cell? ⟨gb, o + i * 3, none⟩ = some (.int .i64 y1) ∧ w'.cell? ⟨gb, o + i * 3 + 1, none⟩ = some (.int .i64 y2) ∧ w'.cell? ⟨gb, o + i * 3 + 2, none⟩ = some (.bool y3)) (by kernel_rfl) ?_
      have hHeld : (fun w' : World => w'.cell? ⟨s, 0, none⟩ = some (.pointer (some ⟨t, 0, none⟩)) ∧ w'.cell? ⟨s + 4, 0, none⟩ = some (.func (.func 58) #[] #[]) ∧ w'.cell? ⟨t, 2, none⟩ = some (.slice (some ⟨gb, o, none⟩) nb T.bc) ∧ w'.cell? ⟨gb, o + i * 3, none⟩ = some (.int .i64 y1) ∧ w'.cell? ⟨gb, o + i * 3 + 1, none⟩ = some (.int .i64 y2) ∧ w'.cell? ⟨gb, o + i * 3 + 2, none⟩ = some (.bool y3)) _ := ⟨x0, x4, x2, c0, c1, c2⟩
      refine anyP_take 0 (v := ?_) rfl rfl (by kernel_rfl) (fun _ _ _ h => h) (Or.inl ⟨by rfl, ?_⟩) hHeld ?_
      rotate_left 1
      · (intro w0 hSw; (try dsimp only at hSw); go_simp; (try (with_reducible rfl)))
      (try simp only [Act.put, List.setIfInBounds_toArray])
      refine anyP_take 1 (v := ?_) rfl rfl (by kernel_rfl) (fun _ _ _ h => h) (Or.inl ⟨by rfl, ?_⟩) hHeld ?_
      rotate_left 1
      · (intro w0 hSw; (try dsimp only at hSw); go_simp; (try (with_reducible rfl)))
      (try simp only [Act.put])
      refine anyP_takeF 2 (v := ?_) rfl (by kernel_rfl) (fun _ _ _ h => h) (Or.inl ⟨by rfl, ?_⟩) (.inr hHeld) ?_
      rotate_left 1
      · (intro w0 hSw; (try dsimp only at hSw); go_simp; (try (with_reducible rfl)))
      (try simp only [Act.put])
      refine anyP_takeF 3 (v := ?_) rfl (by kernel_rfl) (fun _ _ _ h => h) (Or.inl ⟨by rfl, ?_⟩) (.inr hHeld) ?_
      rotate_left 1
      · (intro w0 hSw; (try dsimp only at hSw); go_simp; (try (with_reducible rfl)))
      (try simp only [Act.put])
      refine anyP_take 4 (v := ?_) rfl rfl (by kernel_rfl) (fun _ _ _ h => h) (Or.inl ⟨by rfl, ?_⟩) hHeld ?_
      rotate_left 1
      · (intro w0 hSw; (try dsimp only at hSw); go_simp; (try (with_reducible rfl)))
      (try simp only [Act.put])
      refine anyP_takeF 5 (v := ?_) rfl (by kernel_rfl) (fun _ _ _ h => h) (Or.inl ⟨by rfl, ?_⟩) (.inr hHeld) ?_
      rotate_left 1
      · (intro w0 hSw; (try dsimp only at hSw); go_simp; (try (with_reducible rfl)))
      (try simp only [Act.put])
      refine anyP_takeF 6 (v := ?_) rfl (by kernel_rfl) (fun _ _ _ h => h) (Or.inl ⟨by rfl, ?_⟩) (.inr hHeld) ?_
      rotate_left 1
      · (intro w0 hSw; (try dsimp only at hSw); go_simp; (try (with_reducible rfl)))
      (try simp only [Act.put])
      refine anyP_take 7 (v := ?_) rfl rfl (by kernel_rfl) (fun _ _ _ h => h) (Or.inl ⟨by rfl, ?_⟩) hHeld ?_
      rotate_left 1
      · (intro w0 hSw; (try dsimp only at hSw); go_simp; (try (with_reducible rfl)))
      (try simp only [Act.put])
      refine anyP_one 8 (by kernel_rfl) rfl (fun K hK => ?_)
      replace hK := Lib.hid hK
      go_simp
      refine (HCl.out _).mono ?_
      rintro r w3 ⟨rfl, F3⟩
      have F4 := (Fr.refl F0 w2).drew.trans0 F3
      have HG3 := Lib.hid (HG2.out.fr0 F4)
      replace hHeld : (fun w' : World => w'.cell? ⟨s, 0, none⟩ = some (.pointer (some ⟨t, 0, none⟩)) ∧ w'.cell? ⟨s + 4, 0, none⟩ = some (.func (.func 58) #[] #[]) ∧ w'.cell? ⟨t, 2, none⟩ = some (.slice (some ⟨gb, o, none⟩) nb T.bc) ∧ w'.cell? ⟨gb, o + i * 3, none⟩ = some (.int .i64 y1) ∧ w'.cell? ⟨gb, o + i * 3 + 1, none⟩ = some (.int .i64 y2) ∧ w'.cell? ⟨gb, o + i * 3 + 2, none⟩ = some (.bool y3)) w3 := ⟨F3.cell x0 id, F3.cell x4 id, F3.cell x2 id, F3.cell c0 id, F3.cell c1 id, F3.cell c2 id⟩
      clear F3 F4
      have z2 := HG3.out.br.cell
      have f2 := HG3.out.br.free
      have z3 := HG3.out.be.cell
      have f3 := HG3.out.be.free
      refine hK.out _ _ (.inr hHeld) ?_
      clear hK K
      (try simp only [Act.put, List.setIfInBounds_toArray, List.set_cons_zero, List.set_cons_succ])
      refine anyP_takeF 9 (v := ?_) rfl (by kernel_rfl) (fun _ _ _ h => h) (Or.inl ⟨by rfl, ?_⟩) (.inr hHeld) ?_
      rotate_left 1
      · (intro w0 hSw; (try dsimp only at hSw); go_simp; (try (with_reducible rfl)))
      (try simp only [Act.put, List.setIfInBounds_toArray])
      refine anyP_takeF 10 (v := ?_) rfl (by kernel_rfl) (fun _ _ _ h => h) (Or.inl ⟨by rfl, ?_⟩) (.inr hHeld) ?_
      rotate_left 1
      · (intro w0 hSw; (try dsimp only at hSw); go_simp; (try (with_reducible rfl)))
      (try simp only [Act.put])
      have ts9 := HT.out.lt
      have hs9 := HG3.out.hs
      have hts : t < s := by omega
      have hne3 : s + 3 ≠ s + 2 := by omega
      have q3 : (w3.setCell ⟨s + 2, 0, none⟩ (.int .i64 rv)).cell? ⟨s + 3, 0, none⟩ = some (.int .i64 0) := (HG3.out.be.other (by dsimp only; omega) _).cell
      have g3 : (w3.setCell ⟨s + 2, 0, none⟩ (.int .i64 rv)).frozen? ⟨s + 3, 0, none⟩ = false := (HG3.out.be.other (by dsimp only; omega) _).free
      have HSet := Lib.hid (HG3.out.setR ts9 rv re)
      have hgb := HGb.out
      clear hs9 ts9
      have FS : Fr (fun x => x = s + 2) w3 (w3.setCell ⟨s + 2, 0, none⟩ (.int .i64 rv)) := Fr.setCell (S := fun x => x = s + 2) (Fr.refl _ _) (fun _ => rfl) _
      refine anyP_one 11 (by kernel_rfl) rfl (fun K hK => ?_)
      replace hK := Lib.hid hK
      go_simp
      have hHeld2 : (fun w' : World => w'.cell? ⟨s, 0, none⟩ = some (.pointer (some ⟨t, 0, none⟩)) ∧ w'.cell? ⟨s + 4, 0, none⟩ = some (.func (.func 58) #[] #[]) ∧ w'.cell? ⟨t, 2, none⟩ = some (.slice (some ⟨gb, o, none⟩) nb T.bc) ∧ w'.cell? ⟨gb, o + i * 3, none⟩ = some (.int .i64 y1) ∧ w'.cell? ⟨gb, o + i * 3 + 1, none⟩ = some (.int .i64 y2) ∧ w'.cell? ⟨gb, o + i * 3 + 2, none⟩ = some (.bool y3)) (w3.setCell ⟨s + 2, 0, none⟩ (.int .i64 rv)) := ⟨FS.cell hHeld.1 (by dsimp only; omega), FS.cell hHeld.2.1 (by dsimp only; omega), FS.cell hHeld.2.2.1 (by dsimp only; omega), FS.cell hHeld.2.2.2.1 (by dsimp only; omega), FS.cell hHeld.2.2.2.2.1 (by dsimp only; omega), FS.cell hHeld.2.2.2.2.2 (by dsimp only; omega)⟩
      refine hK.out _ _ (.inr hHeld2) ?_
      clear hK K
      (try simp only [Act.put, List.setIfInBounds_toArray, List.set_cons_zero, List.set_cons_succ])
      refine anyP_one 12 (by kernel_rfl) rfl (fun K hK => ?_)
      replace hK := Lib.hid hK
      go_simp
      refine hK.out _ _ (.inl (by kernel_rfl)) ?_
      clear hK K
      (try simp only [Act.put, List.setIfInBounds_toArray, List.set_cons_zero, List.set_cons_succ])
      refine anyP_done (by kernel_rfl) ?_ _
      refine NoPanic.normal ?_
      exact ⟨rfl, HSet.out⟩
    · rintro a9 w9 ⟨ha9, HG9⟩
      rw [ha9]
      clear ha9
      generalize gOf a9 = g
      unfold GF
      have HG9' := Lib.hid HG9
      clear HG9
      gi_wp2_with fail
      have q := HG9'.out.ts HT.out
      refine ⟨_, results_get rfl rfl HG9'.out.br HG9'.out.be, T.mv, rv, re, rfl, ?_, q.1, q.2⟩
      rw [← HRR.out, HGt.out]
      rw [HRv.out.1, HRv.out.2]
      rfl
  | none =>
    rw [hlk] at HGt
    clear hlk
    rw [show (none : Option En).isSome = false from rfl]
    have x0 := HG2.out.bt.cell
    have x3 := HG2.out.blk.cell (i := 3) rfl
    dsimp only at x3
    obtain ⟨n, hn⟩ : ∃ n, n = T.lv.length := ⟨_, rfl⟩
    have Hn := Lib.hid hn
    rw [← hn] at x3
    clear hn
    have hn19 : n ≤ 1900 := by have := HP.out.1; have := Hn.out; omega
    gi_wp2_with fail
    clear x0 x3
    refine wpIn_loop (I := GI w t B M s T k n) (μ := fun a _ => n - (intOf (gOf a 48)).toNat) ?_ ?_
    · exact ⟨0, [], rfl, Nat.zero_le _, HG2.out, MK.nil _ _, fun r hr => by cases hr⟩
    · rintro a W ⟨i, ds, ha, hi, hG, hMK, hno⟩
      have hmu : n - (intOf (gOf a 48)).toNat = n - i := by rw [ha]; rfl
      rw [hmu]
      clear hmu
      rw [ha]
      clear ha
      generalize gOf a = g
      unfold GF
      by_cases hlt : i < n
      · have hlt' : (i : Int) < (n : Int) := by omega
        obtain ⟨L, hL⟩ : ∃ L, T.lv[i]? = some L := ⟨_, List.getElem?_eq_getElem (by have := Hn.out; omega)⟩
        obtain ⟨gl, hgl, d0, _, dg⟩ := HT.out.at hL
        have hlev := HT.out.lev i L hL
        have d1 := hG.fr.cell d0 (fun e => by have := HT.out.ct; dsimp only at e; rw [e] at dg; omega)
        obtain ⟨q, hq⟩ : ∃ q, q = L.rv.length := ⟨_, rfl⟩
        rw [← hq] at d1
        rw [hgl]
        have Hq := Lib.hid hq
        have HL := Lib.hid hL
        have HLev := Lib.hid hlev
        have HG := Lib.hid hG
        have HMK := Lib.hid hMK
        have HNo := Lib.hid hno
        have HGl := Lib.hid hgl
        clear hgl d0 dg hlev hq hL hG hMK hno
        gi_wp2_with (refine ⟨trivial, ?_⟩; gi_at_call 60; refine (callsIn_wide.2 (backR_in _ _ _ _)).mono ?_; rintro e w1 ⟨rfl, rfl⟩)
        have hbs : One (W.alloc (.cells #[.slice L.a q L.c] 104)) W.heap.size 104 (.slice L.a q L.c) := One.new 104 _
        have hts := HT.out.lt
        have hsw := HG.out.hs
        have hWs := HG.out.bf.lt
        have hsz : (W.alloc (.cells #[.slice L.a q L.c] 104)).heap.size = W.heap.size + 1 := size_alloc _ _
        have FW : Fr F0 W (W.alloc (.cells #[.slice L.a q L.c] 104)) := (Fr.refl _ _).alloc _
        obtain ⟨b, hb, hbt, hla, hc⟩ : ∃ b, (b < w.heap.size ∨ b = W.heap.size) ∧ b ≠ t ∧ (0 < q → L.a = some ⟨b, 0, none⟩) ∧ ∀ j, j < q → w.cell? ⟨b, j, none⟩ = some (rget L.rv j).v := by
          rcases Nat.eq_zero_or_pos q with h0 | h0
          · exact ⟨W.heap.size, .inr rfl, by omega, fun h => by omega, fun j h => by omega⟩
          · obtain ⟨g9, hg9, _, hl9, hcc, _⟩ := HLev.out.1.at (by rw [← Hq.out]; exact h0)
            refine ⟨g9, .inl hl9, fun e => ?_, fun _ => hg9, fun j hj => hcc j _ ?_⟩
            · have := HLev.out.2.1 g9 (by rw [hg9]; exact (onBlk_some _ _ _ _).2 rfl)
              rw [e, HT.out.ct] at this; omega
            · rw [List.getElem?_map, List.getElem?_eq_getElem (by rw [← Hq.out]; exact hj), rget_some (List.getElem?_eq_getElem (by rw [← Hq.out]; exact hj))]; rfl
        have hq2 : q ≤ 2000 := by rw [Hq.out]; exact Nat.le_trans (HP.out.2.1 L (List.mem_of_getElem? HL.out)) (by omega)
        have hcs : ∀ j, j < q → (W.alloc (.cells #[.slice L.a q L.c] 104)).cell? ⟨b, j, none⟩ = some (rget L.rv j).v := fun j hj => FW.cell (HG.out.fr.cell (hc j hj) (fun e => hbt e)) id
        have seq := backR_stops Fence.wide 2 trivial rfl (by omega) W.heap.size b L.c q L.a (fun x => (rget L.rv x).v) (by omega) hla _ (by rw [hsz]; omega) (by rw [hsz]; omega) hbs.cell hcs
        have Hb := Lib.hid (And.intro hb hbt)
        have Hsz := Lib.hid hsz
        clear hc hcs hb hbt hsz hla
        obtain ⟨m0, hm0⟩ : ∃ m0, m0 = T.mv + (newT ((lvT T.lv).take i)).length := ⟨_, rfl⟩
        rw [← hm0] at HG
        have Hm0 := Lib.hid hm0
        have hm9 : m0 ≤ 1000000000 := by
          have e1 := HP.out.2.2.2.1
          have e2 := HP.out.2.2.2.2
          have e3 : (newT ((lvT T.lv).take i)).length ≤ 1900 := by
            have h1 := newT_len ((lvT T.lv).take i)
            have h2 : runsN ((lvT T.lv).take i) ≤ runsN (lvT T.lv) := by have := runsN_app ((lvT T.lv).take i) ((lvT T.lv).drop i); rw [List.take_append_drop] at this; omega
            have h3 : (lvT T.lv).length + runsN (lvT T.lv) ≤ k2 := HP0.out.len
            omega
          omega
        have hts2 : t < s := by omega
        have HWs := Lib.hid (And.intro hWs hsw)
        clear hm0 hsw hWs
        refine wpIn_rangeFunc_ownF (n := 3) rfl (by omega) (gf := 85) (lb := #[.pointer (some ⟨W.heap.size, 0, none⟩)]) rfl trivial (enters_of Try.func85 (by kernel_rfl) rfl) seq (fun h k => KP.trans h k)
          (fun A l o o' hl ho hc _ => ⟨World.putObj_heap_other (by have := Hb.out; have := Hsz.out; have := HWs.out; omega), World.putObj_heap_other (by have := Hsz.out; omega)⟩) (Below.refl _ _) (fun _ => rfl)
          (fun (pre : List Nat) A => GS w A t B M s T k (m0 + pre.length) 0 0 ∧ (∀ x ∈ pre, lk (rget L.rv x).l k = none) ∧ Fr (fun x => x = t ∨ x = s + 2 ∨ x = s + 3) (W.alloc (.cells #[.slice L.a q L.c] 104)) A)
          (fun c pre A => c = .ret ∧ ∃ pre0 x e, pre = pre0 ++ [x] ∧ (∀ y ∈ pre0, lk (rget L.rv y).l k = none) ∧ lk (rget L.rv x).l k = some e ∧ GS w A t B M s T k (m0 + pre0.length + 1) (eVal (some e)).1 (eVal (some e)).2 ∧ Fr (fun x => x = t ∨ x = s + 2 ∨ x = s + 3) (W.alloc (.cells #[.slice L.a q L.c] 104)) A)
          (fun pre A A' row hs hg hr => ?_)
          (fun c pre A A' row hs hg hr => ?_)
          ⟨HG.out.fr0 FW, fun x hx => (by cases hx), Fr.refl _ _⟩
          (fun x : Nat => (⟨#[.pointer (some ⟨t, 0, none⟩), .int .i64 k, .pointer (some ⟨s, 0, none⟩), .pointer (some ⟨s + 1, 0, none⟩), .pointer (some ⟨s + 2, 0, none⟩), .pointer (some ⟨s + 3, 0, none⟩), .pointer (some ⟨s + 4, 0, none⟩), g 7, g 8, g 9, .slice L.a q L.c, g 11, (rget L.rv x).v, g 13, g 14, g 15, g 16, g 17, g 18, g 19, g 20, g 21, g 22, g 23, g 24, g 25, g 26, g 27, g 28, g 29, g 30, g 31, g 32, g 33, g 34, g 35, g 36, g 37, g 38, g 39, g 40, g 41, g 42, g 43, g 44, g 45, .slice (some ⟨gl, 0, none⟩) n T.lc, .int .i64 (n : Int), .int .i64 (i : Int), .bool true, .pointer (some ⟨gl, i, none⟩), .slice L.a q L.c, .slice L.a q L.c, .func (.func 85) #[] #[.pointer (some ⟨W.heap.size, 0, none⟩)], .int .i64 (x : Nat), (rget L.rv x).v, g 56, g 57, g 58, g 59, g 60, g 61, g 62, g 63, g 64, g 65, g 66, g 67, g 68, g 69, g 70, g 71, g 72, g 73, g 74, g 75, g 76, g 77, g 78], []⟩ : Act)) ?assign ?body ?done ?stop
        · obtain ⟨h1, h2, h3⟩ := hs
          exact ⟨h1.rowd (by rw [Hsz.out] at hr; exact fun r e => Nat.le_trans (by have := HWs.out; omega) (hr r e).1) hts hg, h2, h3.rowd (fun r e => (hr r e).1) hg⟩
        · obtain ⟨h0, pre0, x, e, h1, h2, h3, h4, h5⟩ := hs
          exact ⟨h0, pre0, x, e, h1, h2, h3, h4.rowd (by rw [Hsz.out] at hr; exact fun r e => Nat.le_trans (by have := HWs.out; omega) (hr r e).1) hts hg, h5.rowd (fun r e => (hr r e).1) hg⟩
        case assign =>
          intro l y A K hK
          conv => arg 4; whnf
          gi_wp2
          exact hK
        case body =>
          rintro l pre x A ⟨A1, A2, A3⟩ hpre
          obtain ⟨r1, r2, r3⟩ := HLev.out.getr HT.out HP0.out HL.out x
          generalize hrx : rget L.rv x = r at r1 r2 r3
          obtain ⟨rl, ra, rc⟩ := r
          unfold RV.v
          dsimp only at r1 r2 r3 ⊢
          obtain ⟨p, hp⟩ : ∃ p, p = rl.length := ⟨_, rfl⟩
          obtain ⟨mp, hmp⟩ : ∃ mp, mp = m0 + pre.length := ⟨_, rfl⟩
          rw [← hmp] at A1
          rw [← hp] at r1 r3 ⊢
          have hmp9 : mp ≤ 1000010000 := by omega
          have x0 := A1.bt.cell
          have x1 := A1.bk.cell
          have x4 := A1.blk.cell (i := 4) rfl
          have f4 := A1.blk.free 4
          dsimp only at x4
          have A4 := A1.mvd hts (mp + 1)
          have y1 := A4.bk.cell
          have hcast : ((mp + 1 : Nat) : Int) = (mp : Int) + 1 := rfl
          rw [hcast] at A4 y1
          have HA4 := Lib.hid A4
          have HRr : Hid (∀ W, Fr (fun x => x = t) w W → RdZ W 3 ra p (ents rl)) := Lib.hid (fun W F => r1.1.fr F (fun j hj e => by have := (r1.2 j hj); rw [e, HT.out.ct] at this; omega))
          have HFi := Lib.hid (fun W (F2 : Fr F0 (A.setCell ⟨t, 4, none⟩ (.int .i64 ((mp : Int) + 1))) W) => find_any (c := rc) k (HRr.out W (HA4.out.fr.trans0 F2)) r2 (by omega))
          have H9 := Lib.hid (And.intro A1 (And.intro A2 (And.intro A3 (And.intro r2 (And.intro hp (And.intro hmp hrx))))))
          clear A1 A2 A3 A4 r1 r2 hp hmp hrx hcast seq
          cases hlk : lk rl k with
          | none =>
            rw [hlk] at HFi
            have HLk := Lib.hid hlk
            clear hlk
            gi_wp2_with (refine ⟨trivial, ?_⟩; gi_at_call 59; refine (CallsIn.inRound l (callsIn_wide.2 (HFi.out _ (Fr.refl _ _)))).mono ?_; rintro e w3 ⟨j, rfl, hL, F3⟩; have H3 := Lib.hid (And.intro hL F3); clear hL F3)
            obtain ⟨A1, A2, A3, r2, hp, hmp, hrx⟩ := H9.out
            have FA : Fr (fun x => x = t) A w3 := (Fr.setCell (S := fun x => x = t) (Fr.refl _ _) (fun _ => rfl) _).trans0 H3.out.2
            have hA := A3.size
            have hsz9 := Hsz.out
            have hbb := Hb.out
            have hww := HWs.out
            refine (show ownPostK _ _ _ _ _ .normal _ _ from ⟨⟨FA.size, fun z ob hz ho => (FA.block z (lt_of_block hz) (fun e => ?_)).trans hz⟩, ⟨FA.block b (by omega) hbb.2, FA.block _ (by omega) (by omega)⟩, ?_, ?_, ?_⟩)
            · subst e; have hb9 := A1.blk; unfold Blk at hb9; rw [hb9] at hz; injection hz with hz; rw [← hz] at ho; cases ho
            · have := HA4.out.fr0 H3.out.2
              rw [List.length_append, List.length_singleton, ← Nat.add_assoc, ← hmp]
              exact this
            · intro z hz
              rcases List.mem_append.1 hz with hz | hz
              · exact A2 z hz
              · rw [List.mem_singleton] at hz; subst hz; rw [hrx]; exact HLk.out
            · exact A3.trans FA (fun z _ e => .inl e)
          | some y =>
            rw [hlk] at HFi
            have HLk := Lib.hid hlk
            clear hlk
            gi_wp2_with (refine ⟨trivial, ?_⟩; gi_at_call 59; refine (CallsIn.inRound l (callsIn_wide.2 (HFi.out _ (Fr.refl _ _)))).mono ?_; rintro e w3 ⟨j, rfl, hL, F3⟩; have H3 := Lib.hid (And.intro hL F3); clear hL F3)
            obtain ⟨A1, A2, A3, r2, hp, hmp, hrx⟩ := H9.out
            obtain ⟨y', hy', hyk⟩ : ∃ y', rl[j]? = some y' ∧ y' = y := by
              rcases Nat.lt_or_ge j rl.length with h | h
              · refine ⟨_, List.getElem?_eq_getElem h, ?_⟩
                have := H3.out.1.found r2 (List.getElem?_eq_getElem h)
                rw [HLk.out] at this
                by_cases c : (rl[j]).1 = k
                · rw [if_pos c] at this; injection this with this; exact this.symm
                · rw [if_neg c] at this; cases this
              · have := H3.out.1.none h; rw [HLk.out] at this; cases this
            subst hyk
            have hjp : j < p := by rw [hp]; exact (List.getElem?_eq_some_iff.1 hy').1
            have hjp' : (j : Int) < (p : Int) := by omega
            have hG3 := HA4.out.fr0 H3.out.2
            obtain ⟨b2, o2, hra, c0, c1, c2⟩ := (HRr.out w3 hG3.fr).ent hy'
            have z4 := hG3.bf.cell
            obtain ⟨y1', y2', y3'⟩ := y'
            dsimp only at c0 c1 c2
            have HCl := Lib.hid (fun W => getCl_any (y1', y2', y3') W)
            obtain ⟨rv, hrv⟩ : ∃ rv, rv = (eVal (some (y1', y2', y3'))).1 := ⟨_, rfl⟩
            obtain ⟨re, hre⟩ : ∃ re, re = (eVal (some (y1', y2', y3'))).2 := ⟨_, rfl⟩
            rw [← hrv, ← hre] at HCl
            have HRv := Lib.hid (And.intro hrv hre)
            have HG3 := Lib.hid hG3
            rw [hra]
            clear A1 A2 A3 r2 hp hmp hrx hy' hG3 hrv hre hra x0 x1 x4 f4 y1 HFi
            gi_region_with ((refine ⟨trivial, ?_⟩; gi_at_call 58; refine (CallsIn.inRound l (callsIn_wide.2 (HCl.out _))).mono ?_; rintro e w4 ⟨rfl, F4'⟩; have F4 := (Fr.refl F0 w3).drew.trans0 F4'; have hG4 := HG3.out.fr0 F4; have z2 := hG4.br.cell; have f2 := hG4.br.free; have z3 := hG4.be.cell; have f3 := hG4.be.free; have HG4 := Lib.hid hG4; have HF4 := Lib.hid F4; clear hG4 F4 F4'))
            all_goals (
              gi_wp2_with fail
              obtain ⟨A1, A2, A3, r2, hp, hmp, hrx⟩ := H9.out
              have FA : Fr (fun x => x = t ∨ x = s + 2 ∨ x = s + 3) A ((w4.setCell ⟨s + 2, 0, none⟩ (.int .i64 rv)).setCell ⟨s + 3, 0, none⟩ (.int .i64 re)) := (((((Fr.setCell (S := fun x => x = t ∨ x = s + 2 ∨ x = s + 3) (Fr.refl _ _) (fun _ => .inl rfl) _).trans0 H3.out.2).trans0 HF4.out).setCell (fun _ => .inr (.inl rfl)) _).setCell (fun _ => .inr (.inr rfl)) _)
              refine (show ownPostK _ _ _ _ _ .ret _ _ from ⟨⟨FA.size, fun z ob hz ho => (FA.block z (lt_of_block hz) (fun e => ?_)).trans hz⟩, rfl, pre, x, _, rfl, A2, by rw [hrx]; exact HLk.out, ?_, A3.trans FA (fun _ _ e => e)⟩)
              · rcases e with e | e | e
                · subst e; have hb9 := A1.blk; unfold Blk at hb9; rw [hb9] at hz; injection hz with hz; rw [← hz] at ho; cases ho
                · subst e; have hb9 := A1.br; unfold One at hb9; rw [hb9] at hz; injection hz with hz; rw [← hz] at ho; cases ho
                · subst e; have hb9 := A1.be; unfold One at hb9; rw [hb9] at hz; injection hz with hz; rw [← hz] at ho; cases ho
              · have hh := HG4.out.setR hts rv re
                rw [← HRv.out.1, ← HRv.out.2, ← hmp]
                exact hh)
        case done =>
          rintro D xs A hD rfl ⟨A1, A2, A3⟩ hK
          have H9 := Lib.hid (And.intro A1 (And.intro A2 (And.intro A3 hK)))
          clear A1 A2 A3 hK seq
          gi_wp2_with fail
          obtain ⟨A1, A2, A3, hK⟩ := H9.out
          have hlt9 : ((lvT T.lv))[i]? = some (ls L.rv) := by unfold lvT; rw [List.getElem?_map, HL.out]; rfl
          have hnt := newT_take hlt9
          have hw9 := HWs.out.1
          refine ⟨⟨i + 1, _, by rw [HGl.out]; rfl, by omega, ?_, ?_, ?_⟩, ?_⟩
          · rw [hnt, List.length_append, List.length_reverse, ls_len, ← Nat.add_assoc, ← Hm0.out]
            rw [came_length, Nat.sub_zero, Hq.out] at A1
            exact A1
          · refine ((HMK.out.fr FW (fun _ _ _ h => h)).fr A3 (fun r hr _ h => by omega)).cons (by rw [Hsz.out] at hD; omega) hK (fun hm => ?_)
            obtain ⟨r, e, _, hr⟩ := HMK.out.all _ hm
            injection e with e _
            injection e with e
            subst e
            have := lt_of_block hr
            rw [Hsz.out] at hD; omega
          · intro r hr
            rw [hnt] at hr
            rcases List.mem_append.1 hr with hr | hr
            · exact HNo.out r hr
            · rw [List.mem_reverse] at hr
              obtain ⟨j, hj⟩ := List.getElem?_of_mem hr
              have hjl := (List.getElem?_eq_some_iff.1 hj).1
              rw [ls_len] at hjl
              have := A2 j (by unfold came; simp; refine ⟨q - 1 - j, ?_, ?_⟩ <;> rw [Hq.out] <;> omega)
              rw [rget_some (List.getElem?_eq_getElem hjl)] at this
              unfold ls at hj
              rw [List.getElem?_map, List.getElem?_eq_getElem hjl] at hj
              injection hj with hj
              rw [← hj]; exact this
          · show n - (intOf (.int .i64 ((i : Int) + 1))).toNat < n - i
            simp [intOf]; omega
        case stop =>
          rintro D c pre A hD ⟨kk, hsp⟩ ⟨rfl, pre0, x, e, B1, B2, B3, B4, B5⟩ hK
          have H9 := Lib.hid (And.intro B1 (And.intro B2 (And.intro B3 (And.intro B4 (And.intro B5 (And.intro hsp hK))))))
          clear B1 B2 B3 B4 B5 hsp hK seq
          gi_wp2_with fail
          obtain ⟨B1, B2, B3, B4, B5, hsp, hK⟩ := H9.out
          have hw9 := HWs.out.1
          have hMK9 : MK A (s + 5) ({ target := .collected D, args := #[] } :: ds) := by
            refine ((HMK.out.fr FW (fun _ _ _ h => h)).fr B5 (fun r hr _ h => by omega)).cons (by rw [Hsz.out] at hD; omega) hK (fun hm => ?_)
            obtain ⟨r, e, _, hr⟩ := HMK.out.all _ hm
            injection e with e _
            injection e with e
            subst e
            have := lt_of_block hr
            rw [Hsz.out] at hD; omega
          refine leaves_marks (B := s + 5) _ hMK9 (fun w' F' => ?_)
          have hG9 := B4.frS F' (fun e => by omega) (fun x hx e => by omega)
          have q9 := hG9.ts HT.out
          refine ⟨_, results_get rfl rfl hG9.br hG9.be, _, _, _, rfl, ?_, q9.1, q9.2⟩
          rw [← HRR.out, HGt.out]
          have hlt9 : ((lvT T.lv))[i]? = some (ls L.rv) := by unfold lvT; rw [List.getElem?_map, HL.out]; rfl
          have hsplit := newT_split hlt9
          have hrev : (came id q 0).map (fun y => (rget L.rv y).l) = (ls L.rv).reverse := by
            have := came_map (fun y => (rget L.rv y).l) (ls L.rv) (fun m hm => by
              rw [ls_len] at hm
              rw [rget_some (List.getElem?_eq_getElem hm)]
              simp [ls])
            rwa [ls_len, ← Hq.out] at this
          have hpre : came id q 0 = (pre0 ++ [x]) ++ (came id q 0).drop (q - kk) := by
            rw [← B1, hsp, came_take q kk, List.take_append_drop]
          rw [← hrev, hpre, List.map_append, List.map_append] at hsplit
          have hsplit2 : newT T.tt.lv = (newT ((lvT T.lv).take i) ++ pre0.map (fun y => (rget L.rv y).l)) ++ (rget L.rv x).l :: (((came id q 0).drop (q - kk)).map (fun y => (rget L.rv y).l) ++ newT ((lvT T.lv).drop (i + 1))) := by
            show newT (lvT T.lv) = _
            rw [hsplit]; simp
          rw [hsplit2, lkR_hit (fun r hr => ?_) B3]
          · rw [List.length_append, List.length_map]
            have e9 : m0 + pre0.length + 1 = T.mv + ((newT ((lvT T.lv).take i)).length + pre0.length + 1) := by have := Hm0.out; omega
            rw [e9]
          · rcases List.mem_append.1 hr with hr | hr
            · exact HNo.out r hr
            · obtain ⟨y, hy, rfl⟩ := List.mem_map.1 hr
              exact B2 y hy
      · obtain rfl : n = i := by omega
        have HG := Lib.hid hG
        have HMK := Lib.hid hMK
        have HNo := Lib.hid hno
        have z2 := HG.out.br.cell
        have f2 := HG.out.br.free
        have q3 : (W.setCell ⟨s + 2, 0, none⟩ (.int .i64 0)).cell? ⟨s + 3, 0, none⟩ = some (.int .i64 0) := (HG.out.be.other (by dsimp only; omega) _).cell
        have g3 : (W.setCell ⟨s + 2, 0, none⟩ (.int .i64 0)).frozen? ⟨s + 3, 0, none⟩ = false := (HG.out.be.other (by dsimp only; omega) _).free
        clear hG hMK hno
        gi_wp2_with fail
        have hts := HT.out.lt
        have hsw := HG.out.hs
        have hMK9 := HMK.out.fr (S := fun x => x = s + 2 ∨ x = s + 3) (w' := (W.setCell ⟨s + 2, 0, none⟩ (.int .i64 0)).setCell ⟨s + 3, 0, none⟩ (.int .i64 12)) (Fr.setCell (Fr.setCell (Fr.refl _ _) (fun _ => .inl rfl) _) (fun _ => .inr rfl) _) (fun r hr _ h => by omega)
        refine leaves_marks (B := s + 5) ds hMK9 (fun w' F' => ?_)
        have hG9 := (HG.out.setR hts 0 12).frS F' (fun e => by omega) (fun x hx e => by omega)
        have q := hG9.ts HT.out
        refine ⟨_, results_get rfl rfl hG9.br hG9.be, _, 0, 12, rfl, ?_, q.1, q.2⟩
        rw [← HRR.out, HGt.out]
        have hnT : newT ((lvT T.lv).take n) = newT T.tt.lv := by rw [List.take_of_length_le (by rw [lvT_len, ← Hn.out]; exact Nat.le_refl _)]; rfl
        have hno := HNo.out
        rw [hnT] at hno ⊢
        have hlk := lkR_none (b := []) hno
        rw [List.append_nil] at hlk
        rw [hlk]
        rfl
end Go.Proofs.Ytkmnnfflibamnaa
