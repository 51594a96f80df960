/- The search for bridges: the visit. -/
import Derived.Test.YtihcaemheknjbaaF24
import Derived.Lib.MinMax
namespace Go.Proofs.Ytihcaemheknjbaa
open Go.RowKit
attribute [local go_sem ↓] Go.wp_at_zero Go.wp_at_succ
/-- What a visit leaves. -/
def BP (w : World) (col : Nat → Nat) (x n m : Nat) (aX : Option Addr) (cX : Nat) (aG : Option Addr) (cG gN cN gL cL : Nat) (X : List Ed) (adj : Nat → List Nat) (D : DS) (e : Ending) (w' : World) : Prop :=
  e = .returned (.tuple #[]) ∧ ∃ col' aB cB, SS w' col' x n m aX cX aG cG gN cN gL cL X adj D aB cB ∧ Gw col col' w w'
theorem Gw.undrewN {c1 c2 : Nat → Nat} {w w' : World} {q : Nat} (h : Gw c1 c2 (w.drewN q) w') : Gw c1 c2 w w' := ⟨⟨h.fr.os, h.fr.tape, h.fr.output, h.fr.size, h.fr.block⟩, h.eq⟩
theorem treeD_br (v w i : Nat) (s : DS) : (treeD v w i s).br.length ≤ s.br.length + 1 := by
  unfold treeD
  split
  · show (s.br ++ [i]).length ≤ _; simp
  · exact Nat.le_succ _
/-- Each bridge costs a vertex. -/
theorem Lp.brz {n : Nat} {X : List Ed} {adj : Nat → List Nat} (hA : Adj n X adj) {v : Nat} {th : Int} {is : List Nat} {s s' : DS} (h : Lp X adj v th is s s') : (∀ i ∈ is, i ∈ adj v) → DOk n s → s'.br.length + zer s' ≤ s.br.length + zer s := by
  induction h with
  | nil => exact fun _ _ => Nat.le_refl _
  | skip _ _ ih => exact fun hi h => ih (fun i hh => hi i (List.mem_cons_of_mem _ hh)) h
  | back _ _ _ ih => exact fun hi h => ih (fun i hh => hi i (List.mem_cons_of_mem _ hh)) h.back
  | @tree v i th is s s2 s' _ h0 hs2 _ ih1 ih2 =>
    intro hi h
    obtain ⟨e, _, hlt, _⟩ := hA.oth (hi i (by simp))
    obtain ⟨g1, g2⟩ := h.start hlt h0
    obtain ⟨g3, g4⟩ := hs2.ok hA (fun _ h => h) g1
    have j1 := ih1 (fun _ h => h) g1
    have j2 := ih2 (fun i hh => hi i (List.mem_cons_of_mem _ hh)) g3.tree
    have j3 := treeD_br v (oth X i v) i s2
    have j4 : zer (treeD v (oth X i v) i s2) = zer s2 := by unfold zer; rw [treeD_num]
    have j5 : (startD (oth X i v) s).br = s.br := rfl
    rw [j5] at j1
    omega
set_option maxRecDepth 100000 in
set_option maxHeartbeats 16000000 in
theorem dfs_any {x n m : Nat} {aX : Option Addr} {cX : Nat} {aG : Option Addr} {cG gN cN gL cL : Nat} {X : List Ed} {adj : Nat → List Nat} (hA : Adj n X adj) (hn : n ≤ 1000) (hm : m ≤ 1000) :
    ∀ (U : Nat) (w : World) (col : Nat → Nat) (v : Nat) (th : Int) (s s' : DS) (aB : Option Addr) (cB : Nat), SS w col x n m aX cX aG cG gN cN gL cL X adj s aB cB → DOk n s → v < n → s.num.getD v 0 = 0 → zer s ≤ U → s.br.length + zer s ≤ 2000 → Lp X adj v th (adj v) (startD v s) s' →
      Calls Try.prog 51 #[.pointer (some ⟨x, 0, none⟩), .int .i64 v, .int .i64 th] w (BP w col x n m aX cX aG cG gN cN gL cL X adj s') := by
  intro U
  induction U with
  | zero =>
    intro w col v th s s' aB cB _ hok hv h0 hz _ _
    have h1 := getD0 hok.ln hv
    rw [h0] at h1
    have : 0 < s.num.count 0 := List.count_pos_iff.2 (List.mem_of_getElem? h1)
    unfold zer at hz; omega
  | succ U ih =>
    intro w col v th s s' aB cB hS hok hv h0 hz hbl hL
    have HS := Lib.hid hS
    have HA := Lib.hid hA
    have HL := Lib.hid hL
    obtain ⟨hok1, hz1⟩ := hok.start hv h0
    have HOK := Lib.hid hok1
    have HZ : Hid (zer (startD v s) ≤ U) := Lib.hid (by omega)
    have HBL : Hid ((startD v s).br.length + zer (startD v s) + 1 ≤ 2000) := Lib.hid (by show s.br.length + _ + 1 ≤ 2000; omega)
    have IH := Lib.hid ih
    have hmet : s.met ≤ 1000 := by have := hok.mz; omega
    have H0 := Lib.hid h0
    have e4 := hS.bk.cell (i := 4) rfl
    have f4 := hS.bk.free 4
    have hvn : (v : Int) < (n : Int) := by omega
    clear hS hA hL hok hok1 hz1 hz hbl ih h0
    go_enter Try.func51, Try.ntmps51
    go_wp2_with fail
    clear e4 f4
    have H1 := Lib.hid (HS.out.setM (s.met + 1))
    rw [show ((s.met + 1 : Nat) : Int) = (s.met : Int) + 1 from rfl] at H1
    obtain ⟨w1, hw1⟩ : ∃ w1, w1 = w.setCell ⟨x, 4, none⟩ (.int .i64 ((s.met : Int) + 1)) := ⟨_, rfl⟩
    rw [← hw1] at H1 ⊢
    clear hw1
    obtain ⟨w2, hw2⟩ : ∃ w2, w2 = w1.drew := ⟨_, rfl⟩
    have F12 : Fr F0 w1 w2 := by rw [hw2]; exact (Fr.refl _ _).drew
    have H2 := Lib.hid (And.intro (H1.out.1.fr0 F12) (H1.out.2.fr0 F12))
    have hShow : ∀ (W : World) (D : DS), D.met = s.met + 1 → SS W col x n m aX cX aG cG gN cN gL cL X adj D aB cB → (fun w' : World => w'.cell? ⟨x, 2, none⟩ = some (.slice (some ⟨gN, 0, none⟩) n cN) ∧ w'.cell? ⟨x, 3, none⟩ = some (.slice (some ⟨gL, 0, none⟩) n cL) ∧ w'.cell? ⟨x, 4, none⟩ = some (.int .i64 ((s.met : Int) + 1))) W := fun W D hD h => ⟨h.bk.cell (i := 2) rfl, h.bk.cell (i := 3) rfl, by have := h.bk.cell (i := 4) rfl; rw [hD] at this; exact this⟩
    have HSh := Lib.hid hShow
    clear hShow
    refine wp_region_held_drew (S := (fun w' : World => w'.cell? ⟨x, 2, none⟩ = some (.slice (some ⟨gN, 0, none⟩) n cN) ∧ w'.cell? ⟨x, 3, none⟩ = some (.slice (some ⟨gL, 0, none⟩) n cL) ∧ w'.cell? ⟨x, 4, none⟩ = some (.int .i64 ((s.met : Int) + 1)))) (by kernel_rfl) (HSh.out w1 _ rfl H1.out.1) (fun hHeld => ?_)
    rw [← hw2]
    clear hw2 F12 hHeld
    have hHeld := HSh.out w2 _ rfl H2.out.1
    have q1 := cellO H2.out.1.on (getD0 (i := v) (by have := H2.out.1.on.len; rwa [nv_len] at this) hv)
    have q2 := freeO H2.out.1.on (by omega) v
    have H3 := Lib.hid (H2.out.1.setN v (s.met + 1))
    rw [show ((s.met + 1 : Nat) : Int) = (s.met : Int) + 1 from rfl] at H3
    refine wpAnyH_take (i := 0) (v := ?_) (by simp only [List.getElem?_toArray, List.getElem?_cons_zero] <;> rfl) (by kernel_rfl) (by kernel_rfl) (by kernel_rfl) (by exact fun _ _ _ h => h) (Or.inl ⟨by rfl, ?_⟩) (by assumption) ?_
    rotate_left
    · intro w hSw
      try dsimp only at hSw
      go_simp <;> with_reducible rfl
    (try simp only [Act.put, List.setIfInBounds_toArray, List.set_cons_zero, List.set_cons_succ])
    refine wpAnyH_take (i := 1) (v := ?_) (by simp only [List.getElem?_toArray, List.getElem?_cons_succ, List.getElem?_cons_zero] <;> rfl) (by kernel_rfl) (by kernel_rfl) (by kernel_rfl) (by exact fun _ _ _ h => h) (Or.inl ⟨by rfl, ?_⟩) (by assumption) ?_
    rotate_left
    · intro w hSw
      try dsimp only at hSw
      go_simp <;> with_reducible rfl
    (try simp only [Act.put, List.setIfInBounds_toArray, List.set_cons_zero, List.set_cons_succ])
    refine wpAnyH_take (i := 2) (v := ?_) (by simp only [List.getElem?_toArray, List.getElem?_cons_succ, List.getElem?_cons_zero] <;> rfl) (by kernel_rfl) (by kernel_rfl) (by kernel_rfl) (by exact fun _ _ _ h => h) (Or.inl ⟨by rfl, ?_⟩) (by assumption) ?_
    rotate_left
    · intro w hSw
      try dsimp only at hSw
      go_simp <;> with_reducible rfl
    (try simp only [Act.put, List.setIfInBounds_toArray, List.set_cons_zero, List.set_cons_succ])
    refine wpAnyH_take (i := 3) (v := ?_) (by simp only [List.getElem?_toArray, List.getElem?_cons_succ, List.getElem?_cons_zero] <;> rfl) (by kernel_rfl) (by kernel_rfl) (by kernel_rfl) (by exact fun _ _ _ h => h) (Or.inl ⟨by rfl, ?_⟩) (by assumption) ?_
    rotate_left
    · intro w hSw
      try dsimp only at hSw
      go_simp <;> with_reducible rfl
    (try simp only [Act.put, List.setIfInBounds_toArray, List.set_cons_zero, List.set_cons_succ])
    refine wpAnyH_take (i := 4) (v := ?_) (by simp only [List.getElem?_toArray, List.getElem?_cons_succ, List.getElem?_cons_zero] <;> rfl) (by kernel_rfl) (by kernel_rfl) (by kernel_rfl) (by exact fun _ _ _ h => h) (Or.inl ⟨by rfl, ?_⟩) (by assumption) ?_
    rotate_left
    · intro w hSw
      try dsimp only at hSw
      go_simp <;> with_reducible rfl
    (try simp only [Act.put, List.setIfInBounds_toArray, List.set_cons_zero, List.set_cons_succ])
    refine wpAnyH_take (i := 5) (v := ?_) (by simp only [List.getElem?_toArray, List.getElem?_cons_succ, List.getElem?_cons_zero] <;> rfl) (by kernel_rfl) (by kernel_rfl) (by kernel_rfl) (by exact fun _ _ _ h => h) (Or.inl ⟨by rfl, ?_⟩) (by assumption) ?_
    rotate_left
    · intro w hSw
      try dsimp only at hSw
      go_simp <;> with_reducible rfl
    (try simp only [Act.put, List.setIfInBounds_toArray, List.set_cons_zero, List.set_cons_succ])
    refine wpAnyH_take (i := 6) (v := ?_) (by simp only [List.getElem?_toArray, List.getElem?_cons_succ, List.getElem?_cons_zero] <;> rfl) (by kernel_rfl) (by kernel_rfl) (by kernel_rfl) (by exact fun _ _ _ h => h) (Or.inl ⟨by rfl, ?_⟩) (by assumption) ?_
    rotate_left
    · intro w hSw
      try dsimp only at hSw
      go_simp <;> with_reducible rfl
    (try simp only [Act.put, List.setIfInBounds_toArray, List.set_cons_zero, List.set_cons_succ])
    refine wpAnyH_take (i := 7) (v := ?_) (by simp only [List.getElem?_toArray, List.getElem?_cons_succ, List.getElem?_cons_zero] <;> rfl) (by kernel_rfl) (by kernel_rfl) (by kernel_rfl) (by exact fun _ _ _ h => h) (Or.inl ⟨by rfl, ?_⟩) (by assumption) ?_
    rotate_left
    · intro w hSw
      try dsimp only at hSw
      go_simp <;> with_reducible rfl
    (try simp only [Act.put, List.setIfInBounds_toArray, List.set_cons_zero, List.set_cons_succ])
    refine wpAnyH_take (i := 8) (v := ?_) (by simp only [List.getElem?_toArray, List.getElem?_cons_succ, List.getElem?_cons_zero] <;> rfl) (by kernel_rfl) (by kernel_rfl) (by kernel_rfl) (by exact fun _ _ _ h => h) (Or.inl ⟨by rfl, ?_⟩) (by assumption) ?_
    rotate_left
    · intro w hSw
      try dsimp only at hSw
      go_simp <;> with_reducible rfl
    (try simp only [Act.put, List.setIfInBounds_toArray, List.set_cons_zero, List.set_cons_succ])
    refine wpAnyH_take (i := 9) (v := ?_) (by simp only [List.getElem?_toArray, List.getElem?_cons_succ, List.getElem?_cons_zero] <;> rfl) (by kernel_rfl) (by kernel_rfl) (by kernel_rfl) (by exact fun _ _ _ h => h) (Or.inl ⟨by rfl, ?_⟩) (by assumption) ?_
    rotate_left
    · intro w hSw
      try dsimp only at hSw
      go_simp <;> with_reducible rfl
    (try simp only [Act.put, List.setIfInBounds_toArray, List.set_cons_zero, List.set_cons_succ])
    refine wpAnyH_take (i := 10) (v := ?_) (by simp only [List.getElem?_toArray, List.getElem?_cons_succ, List.getElem?_cons_zero] <;> rfl) (by kernel_rfl) (by kernel_rfl) (by kernel_rfl) (by exact fun _ _ _ h => h) (Or.inl ⟨by rfl, ?_⟩) (by assumption) ?_
    rotate_left
    · intro w hSw
      try dsimp only at hSw
      go_simp <;> with_reducible rfl
    (try simp only [Act.put, List.setIfInBounds_toArray, List.set_cons_zero, List.set_cons_succ])
    refine wpAnyH_take (i := 11) (v := ?_) (by simp only [List.getElem?_toArray, List.getElem?_cons_succ, List.getElem?_cons_zero] <;> rfl) (by kernel_rfl) (by kernel_rfl) (by kernel_rfl) (by exact fun _ _ _ h => h) (Or.inl ⟨by rfl, ?_⟩) (by assumption) ?_
    rotate_left
    · intro w hSw
      try dsimp only at hSw
      go_simp <;> with_reducible rfl
    (try simp only [Act.put, List.setIfInBounds_toArray, List.set_cons_zero, List.set_cons_succ])
    refine wpAnyH_take (i := 12) (v := ?_) (by simp only [List.getElem?_toArray, List.getElem?_cons_succ, List.getElem?_cons_zero] <;> rfl) (by kernel_rfl) (by kernel_rfl) (by kernel_rfl) (by exact fun _ _ _ h => h) (Or.inl ⟨by rfl, ?_⟩) (by assumption) ?_
    rotate_left
    · intro w hSw
      try dsimp only at hSw
      go_simp <;> with_reducible rfl
    (try simp only [Act.put, List.setIfInBounds_toArray, List.set_cons_zero, List.set_cons_succ])
    refine wpAnyH_take (i := 13) (v := ?_) (by simp only [List.getElem?_toArray, List.getElem?_cons_succ, List.getElem?_cons_zero] <;> rfl) (by kernel_rfl) (by kernel_rfl) (by kernel_rfl) (by exact fun _ _ _ h => h) (Or.inl ⟨by rfl, ?_⟩) (by assumption) ?_
    rotate_left
    · intro w hSw
      try dsimp only at hSw
      go_simp <;> with_reducible rfl
    (try simp only [Act.put, List.setIfInBounds_toArray, List.set_cons_zero, List.set_cons_succ])
    refine wpAnyH_take (i := 14) (v := ?_) (by simp only [List.getElem?_toArray, List.getElem?_cons_succ, List.getElem?_cons_zero] <;> rfl) (by kernel_rfl) (by kernel_rfl) (by kernel_rfl) (by exact fun _ _ _ h => h) (Or.inl ⟨by rfl, ?_⟩) (by assumption) ?_
    rotate_left
    · intro w hSw
      try dsimp only at hSw
      go_simp <;> with_reducible rfl
    (try simp only [Act.put, List.setIfInBounds_toArray, List.set_cons_zero, List.set_cons_succ])
    refine wpAnyH_take (i := 15) (v := ?_) (by simp only [List.getElem?_toArray, List.getElem?_cons_succ, List.getElem?_cons_zero] <;> rfl) (by kernel_rfl) (by kernel_rfl) (by kernel_rfl) (by exact fun _ _ _ h => h) (Or.inl ⟨by rfl, ?_⟩) (by assumption) ?_
    rotate_left
    · intro w hSw
      try dsimp only at hSw
      go_simp <;> with_reducible rfl
    (try simp only [Act.put, List.setIfInBounds_toArray, List.set_cons_zero, List.set_cons_succ])
    refine wpAnyH_take (i := 16) (v := ?_) (by simp only [List.getElem?_toArray, List.getElem?_cons_succ, List.getElem?_cons_zero] <;> rfl) (by kernel_rfl) (by kernel_rfl) (by kernel_rfl) (by exact fun _ _ _ h => h) (Or.inl ⟨by rfl, ?_⟩) (by assumption) ?_
    rotate_left
    · intro w hSw
      try dsimp only at hSw
      go_simp <;> with_reducible rfl
    (try simp only [Act.put, List.setIfInBounds_toArray, List.set_cons_zero, List.set_cons_succ])
    refine wpAnyH_take (i := 17) (v := ?_) (by simp only [List.getElem?_toArray, List.getElem?_cons_succ, List.getElem?_cons_zero] <;> rfl) (by kernel_rfl) (by kernel_rfl) (by kernel_rfl) (by exact fun _ _ _ h => h) (Or.inl ⟨by rfl, ?_⟩) (by assumption) ?_
    rotate_left
    · intro w hSw
      try dsimp only at hSw
      go_simp <;> with_reducible rfl
    (try simp only [Act.put, List.setIfInBounds_toArray, List.set_cons_zero, List.set_cons_succ])
    refine wpAnyH_take (i := 18) (v := ?_) (by simp only [List.getElem?_toArray, List.getElem?_cons_succ, List.getElem?_cons_zero] <;> rfl) (by kernel_rfl) (by kernel_rfl) (by kernel_rfl) (by exact fun _ _ _ h => h) (Or.inl ⟨by rfl, ?_⟩) (by assumption) ?_
    rotate_left
    · intro w hSw
      try dsimp only at hSw
      go_simp <;> with_reducible rfl
    (try simp only [Act.put, List.setIfInBounds_toArray, List.set_cons_zero, List.set_cons_succ])
    refine wpAnyH_ready (rs := [19]) (by kernel_rfl) (by simp) ?_
    refine AllReadyH.cons (by simp only [List.getElem?_toArray, List.getElem?_cons_succ, List.getElem?_cons_zero] <;> rfl) (fun KK hKK => ?_) AllReadyH.nil
    go_simp
    refine hKK.out _ _ (HSh.out _ _ rfl H3.out.1) (fun hHeld => ?_)
    clear hKK KK
    (try simp only [Act.put, List.setIfInBounds_toArray, List.set_cons_zero, List.set_cons_succ])
    obtain ⟨w4, hw4⟩ : ∃ wz, wz = w2.setCell ⟨gN, v, none⟩ (.int .i64 ((s.met : Int) + 1)) := ⟨_, rfl⟩
    rw [← hw4] at H3 ⊢
    clear hw4 q1 q2 hHeld
    have hHeld := HSh.out w4 _ rfl H3.out.1
    have q1 := cellO H3.out.1.ol (getD0 (i := v) (by have := H3.out.1.ol.len; rwa [nv_len] at this) hv)
    have q2 := freeO H3.out.1.ol (by omega) v
    have H4 := Lib.hid (H3.out.1.setL v (s.met + 1))
    rw [show ((s.met + 1 : Nat) : Int) = (s.met : Int) + 1 from rfl] at H4
    refine wpAnyH_take (i := 20) (v := ?_) (by simp only [List.getElem?_toArray, List.getElem?_cons_succ, List.getElem?_cons_zero] <;> rfl) (by kernel_rfl) (by kernel_rfl) (by kernel_rfl) (by exact fun _ _ _ h => h) (Or.inl ⟨by rfl, ?_⟩) (by assumption) ?_
    rotate_left
    · intro w hSw
      try dsimp only at hSw
      go_simp <;> with_reducible rfl
    (try simp only [Act.put, List.setIfInBounds_toArray, List.set_cons_zero, List.set_cons_succ])
    refine wpAnyH_ready (rs := [21]) (by kernel_rfl) (by simp) ?_
    refine AllReadyH.cons (by simp only [List.getElem?_toArray, List.getElem?_cons_succ, List.getElem?_cons_zero] <;> rfl) (fun KK hKK => ?_) AllReadyH.nil
    go_simp
    refine hKK.out _ _ (HSh.out _ _ rfl H4.out.1) (fun hHeld => ?_)
    clear hKK KK
    (try simp only [Act.put, List.setIfInBounds_toArray, List.set_cons_zero, List.set_cons_succ])
    obtain ⟨w5, hw5⟩ : ∃ wz, wz = w4.setCell ⟨gL, v, none⟩ (.int .i64 ((s.met : Int) + 1)) := ⟨_, rfl⟩
    rw [← hw5] at H4 ⊢
    clear hw5 q1 q2 hHeld
    refine wpAnyH_done (by kernel_rfl) ?_ _
    have H5 : Hid (SS w5 col x n m aX cX aG cG gN cN gL cL X adj (startD v s) aB cB ∧ Gw col col w w5) := Lib.hid ⟨H4.out.1, (H2.out.2.trans H3.out.2).trans H4.out.2⟩
    clear H1 H2 H3 H4 HS
    obtain ⟨bG, oG, ar, cr, hGe, hGc, hGr, hGk⟩ := H5.out.1.eg v hv
    subst hGe
    have e1 := H5.out.1.bk.cell (i := 1) rfl
    obtain ⟨k, hk⟩ : ∃ k, k = (adj v).length := ⟨_, rfl⟩
    rw [← hk] at hGc hGr hGk
    have hk3 : Hid (k = (adj v).length) := Lib.hid hk
    have HRo : Hid (∀ (W : World) (c' : Nat → Nat), Gw col c' w5 W → Rd W ar k (nv (adj v))) := Lib.hid (fun W c' g => hGr.frc g.fr (fun h0 j hj hs => by unfold Mw at hs; rw [(hGk h0 j hj).1] at hs; omega))
    have hkb : k ≤ 9223372036854775807 := hGr.max
    clear hk hGr hGk
    go_wp2_with fail
    clear e1 hGc
    go_loopw [44] (fun s44 wr => ∃ (j : Nat) (c1 : Nat → Nat) (D : DS) (aB1 : Option Addr) (cB1 : Nat), j ≤ k ∧ s44 = .int .i64 j ∧ Hid (SS wr c1 x n m aX cX (some ⟨bG, oG, none⟩) cG gN cN gL cL X adj D aB1 cB1 ∧ Gw col c1 w wr ∧ Gw col c1 w5 wr) ∧ Hid (Lp X adj v th ((adj v).drop j) D s' ∧ DOk n D ∧ zer D ≤ U ∧ D.br.length + zer D + 1 ≤ 2000)) (fun s44 _ => k - (intOf s44).toNat)
    case atStart => exact ⟨0, col, startD v s, aB, cB, Nat.zero_le _, rfl, Lib.hid ⟨H5.out.1, H5.out.2, Gw.refl _ _⟩, Lib.hid ⟨HL.out, HOK.out, HZ.out, HBL.out⟩⟩
    case round =>
      obtain ⟨j, c1, D, aB1, cB1, hj, rfl, H, HP⟩ := hrel
      by_cases hlt : j < k
      · obtain ⟨i, hi⟩ : ∃ i, (adj v)[j]? = some i := ⟨_, List.getElem?_eq_getElem (by rw [← hk3.out]; exact hlt)⟩
        have hdrop : (adj v).drop j = i :: (adj v).drop (j + 1) := by rw [List.drop_eq_getElem_cons (by rw [← hk3.out]; exact hlt)]; congr 1; have := (List.getElem?_eq_some_iff.1 hi).2; exact this
        have him : i ∈ adj v := List.mem_of_getElem? hi
        obtain ⟨⟨e1, e2⟩, he, hul, hend, hsum⟩ := HA.out.oth him
        obtain ⟨u, hu⟩ : ∃ u, u = oth X i v := ⟨_, rfl⟩
        rw [← hu] at hul hend hsum
        dsimp only at hsum hend
        have helt := HA.out.lt _ (List.mem_of_getElem? he)
        dsimp only at helt
        have hil : i < m := by have h1 := (List.getElem?_eq_some_iff.1 he).1; have h2 := H.out.1.ex.len; rw [eds_len] at h2; omega
        obtain ⟨br, orr, hra, hrc⟩ := (HRo.out wr c1 H.out.2.2).cells (by omega)
        subst hra
        have ri := hrc j _ (nv_get hi)
        have hjk : (j : Int) < (k : Int) := by omega
        have him' : (i : Int) < (m : Int) := by omega
        obtain ⟨bX, oX, hXa, hXc⟩ := H.out.1.ex.cells (by omega)
        subst hXa
        have hx0 := hXc _ _ (eds_get he).1
        have hx1 := hXc _ _ (eds_get he).2
        rw [← Nat.add_assoc] at hx1
        dsimp only at hx0 hx1
        have y0 := H.out.1.bk.cell (i := 0) rfl
        have hw0 : IntKind.i64.wrap ((e1 : Int) + (e2 : Int)) = (e1 : Int) + (e2 : Int) := wI (by omega) (by omega)
        have hw1 : (e1 : Int) + (e2 : Int) - (v : Int) = (u : Int) := by omega
        have hw2 : IntKind.i64.wrap (u : Int) = (u : Int) := wI (by omega) (by omega)
        have HD := Lib.hid hdrop
        have Hu := Lib.hid hu
        have hun : (u : Int) < (n : Int) := by omega
        clear hi hdrop him he hend hu hrc hXc
        go_wp2_with fail
        go_quiet (fail)
        clear hw0 hw1 hw2 hx0 hx1 y0 ri hjk
        obtain ⟨w6, hw6⟩ : ∃ w6, w6 = World.drewN wr nq := ⟨_, rfl⟩
        have F6 : Fr F0 wr w6 := by rw [hw6]; exact (Fr.refl _ _).drewN nq
        have H6 := Lib.hid (And.intro (H.out.1.fr0 F6) (And.intro (H.out.2.1.fr0 F6) (H.out.2.2.fr0 F6)))
        rw [← hw6]
        clear hw6 F6 H
        rw [HD.out] at HP
        by_cases g1 : (i : Int) = th
        · have k1 : ((i : Int) == th) = true := by simpa using g1
          have HP2 : Hid (Lp X adj v th ((adj v).drop (j + 1)) D s') := Lib.hid (by
            cases HP.out.1 with
            | skip _ h => exact h
            | back h _ _ => exact absurd g1 h
            | tree h _ _ _ => exact absurd g1 h)
          clear g1
          go_wp2_with fail
          go_roundw
          case rel => exact ⟨j + 1, c1, D, aB1, cB1, by omega, by go_num, H6, Lib.hid ⟨HP2.out, HP.out.2⟩⟩
          case measure => simp [intOf]; omega
        have k1 : ((i : Int) == th) = false := by simpa using g1
        have hnu := getD0 HP.out.2.1.ln hul
        have hlv := getD0 HP.out.2.1.ll hv
        have y2 := H6.out.1.bk.cell (i := 2) rfl
        have zu := cellO H6.out.1.on hnu
        obtain ⟨nu, hnu0⟩ : ∃ q, q = D.num.getD u 0 := ⟨_, rfl⟩
        rw [← hnu0] at zu hnu
        have Hnu := Lib.hid (And.intro hnu hnu0)
        obtain ⟨lv, hlv0⟩ : ∃ q, q = D.low.getD v 0 := ⟨_, rfl⟩
        rw [← hlv0] at hlv
        have Hlv := Lib.hid (And.intro hlv hlv0)
        clear hnu hnu0 hlv hlv0
        by_cases g2 : 0 < nu
        · have k2 : decide (0 < nu) = true := decide_eq_true g2
          have k2' : decide ((0 : Int) < (nu : Int)) = true := decide_eq_true (by omega)
          have HP2 : Hid (Lp X adj v th ((adj v).drop (j + 1)) (backD v u D) s') := Lib.hid (by
            cases HP.out.1 with
            | skip h _ => exact absurd h g1
            | back _ _ h => rw [← Hu.out] at h; exact h
            | tree _ h _ _ => rw [← Hu.out, ← Hnu.out.2] at h; omega)
          clear g1 g2
          go_wp2_with fail
          clear k1 k2 k2' y2 zu
          obtain ⟨w8, hw8⟩ : ∃ wz, wz = World.drew w6 := ⟨_, rfl⟩
          have F8 : Fr F0 w6 w8 := by rw [hw8]; exact (Fr.refl _ _).drew
          have H8 := Lib.hid (And.intro (H6.out.1.fr0 F8) (And.intro (H6.out.2.1.fr0 F8) (H6.out.2.2.fr0 F8)))
          refine wp_region_last 21 (fun w' : World => w'.cell? ⟨x, 3, none⟩ = some (.slice (some ⟨gL, 0, none⟩) n cL) ∧ w'.cell? ⟨x, 2, none⟩ = some (.slice (some ⟨gN, 0, none⟩) n cN) ∧ w'.cell? ⟨gL, v, none⟩ = some (.int .i64 (lv : Int)) ∧ w'.cell? ⟨gN, u, none⟩ = some (.int .i64 (nu : Int))) (by kernel_rfl) ?_
          rw [← hw8]
          clear hw8 F8
          have hHeld : (fun w' : World => w'.cell? ⟨x, 3, none⟩ = some (.slice (some ⟨gL, 0, none⟩) n cL) ∧ w'.cell? ⟨x, 2, none⟩ = some (.slice (some ⟨gN, 0, none⟩) n cN) ∧ w'.cell? ⟨gL, v, none⟩ = some (.int .i64 (lv : Int)) ∧ w'.cell? ⟨gN, u, none⟩ = some (.int .i64 (nu : Int))) w8 := ⟨H8.out.1.bk.cell (i := 3) rfl, H8.out.1.bk.cell (i := 2) rfl, cellO H8.out.1.ol Hlv.out.1, cellO H8.out.1.on Hnu.out.1⟩
          have q1 := cellO H8.out.1.ol Hlv.out.1
          have q2 := freeO H8.out.1.ol (by omega) v
          refine anyP_takeF 0 (v := ?_) rfl (by kernel_rfl) (fun _ _ _ h => h) (Or.inl ⟨by rfl, ?_⟩) (.inr hHeld) ?_
          rotate_left 1
          · (intro w0 hSw; (try dsimp only at hSw); go_simp; (try (with_reducible rfl)))
          (try simp only [Act.put, List.setIfInBounds_toArray])
          refine anyP_takeF 1 (v := ?_) rfl (by kernel_rfl) (fun _ _ _ h => h) (Or.inl ⟨by rfl, ?_⟩) (.inr hHeld) ?_
          rotate_left 1
          · (intro w0 hSw; (try dsimp only at hSw); go_simp; (try (with_reducible rfl)))
          (try simp only [Act.put])
          refine anyP_takeF 2 (v := ?_) rfl (by kernel_rfl) (fun _ _ _ h => h) (Or.inl ⟨by rfl, ?_⟩) (.inr hHeld) ?_
          rotate_left 1
          · (intro w0 hSw; (try dsimp only at hSw); go_simp; (try (with_reducible rfl)))
          (try simp only [Act.put])
          refine anyP_take 3 (v := ?_) rfl rfl (by kernel_rfl) (fun _ _ _ h => h) (Or.inl ⟨by rfl, ?_⟩) hHeld ?_
          rotate_left 1
          · (intro w0 hSw; (try dsimp only at hSw); go_simp; (try (with_reducible rfl)))
          (try simp only [Act.put])
          refine anyP_takeF 4 (v := ?_) rfl (by kernel_rfl) (fun _ _ _ h => h) (Or.inl ⟨by rfl, ?_⟩) (.inr hHeld) ?_
          rotate_left 1
          · (intro w0 hSw; (try dsimp only at hSw); go_simp; (try (with_reducible rfl)))
          (try simp only [Act.put])
          refine anyP_takeF 5 (v := ?_) rfl (by kernel_rfl) (fun _ _ _ h => h) (Or.inl ⟨by rfl, ?_⟩) (.inr hHeld) ?_
          rotate_left 1
          · (intro w0 hSw; (try dsimp only at hSw); go_simp; (try (with_reducible rfl)))
          (try simp only [Act.put])
          refine anyP_takeF 6 (v := ?_) rfl (by kernel_rfl) (fun _ _ _ h => h) (Or.inl ⟨by rfl, ?_⟩) (.inr hHeld) ?_
          rotate_left 1
          · (intro w0 hSw; (try dsimp only at hSw); go_simp; (try (with_reducible rfl)))
          (try simp only [Act.put])
          refine anyP_takeF 7 (v := ?_) rfl (by kernel_rfl) (fun _ _ _ h => h) (Or.inl ⟨by rfl, ?_⟩) (.inr hHeld) ?_
          rotate_left 1
          · (intro w0 hSw; (try dsimp only at hSw); go_simp; (try (with_reducible rfl)))
          (try simp only [Act.put])
          refine anyP_take 8 (v := ?_) rfl rfl (by kernel_rfl) (fun _ _ _ h => h) (Or.inl ⟨by rfl, ?_⟩) hHeld ?_
          rotate_left 1
          · (intro w0 hSw; (try dsimp only at hSw); go_simp; (try (with_reducible rfl)))
          (try simp only [Act.put])
          refine anyP_takeF 9 (v := ?_) rfl (by kernel_rfl) (fun _ _ _ h => h) (Or.inl ⟨by rfl, ?_⟩) (.inr hHeld) ?_
          rotate_left 1
          · (intro w0 hSw; (try dsimp only at hSw); go_simp; (try (with_reducible rfl)))
          (try simp only [Act.put])
          refine anyP_takeF 10 (v := ?_) rfl (by kernel_rfl) (fun _ _ _ h => h) (Or.inl ⟨by rfl, ?_⟩) (.inr hHeld) ?_
          rotate_left 1
          · (intro w0 hSw; (try dsimp only at hSw); go_simp; (try (with_reducible rfl)))
          (try simp only [Act.put])
          refine anyP_take 11 (v := ?_) rfl rfl (by kernel_rfl) (fun _ _ _ h => h) (Or.inl ⟨by rfl, ?_⟩) hHeld ?_
          rotate_left 1
          · (intro w0 hSw; (try dsimp only at hSw); go_simp; (try (with_reducible rfl)))
          (try simp only [Act.put])
          refine anyP_takeF 12 (v := ?_) rfl (by kernel_rfl) (fun _ _ _ h => h) (Or.inl ⟨by rfl, ?_⟩) (.inr hHeld) ?_
          rotate_left 1
          · (intro w0 hSw; (try dsimp only at hSw); go_simp; (try (with_reducible rfl)))
          (try simp only [Act.put])
          refine anyP_takeF 13 (v := ?_) rfl (by kernel_rfl) (fun _ _ _ h => h) (Or.inl ⟨by rfl, ?_⟩) (.inr hHeld) ?_
          rotate_left 1
          · (intro w0 hSw; (try dsimp only at hSw); go_simp; (try (with_reducible rfl)))
          (try simp only [Act.put])
          refine anyP_takeF 14 (v := ?_) rfl (by kernel_rfl) (fun _ _ _ h => h) (Or.inl ⟨by rfl, ?_⟩) (.inr hHeld) ?_
          rotate_left 1
          · (intro w0 hSw; (try dsimp only at hSw); go_simp; (try (with_reducible rfl)))
          (try simp only [Act.put])
          refine anyP_take 15 (v := ?_) rfl rfl (by kernel_rfl) (fun _ _ _ h => h) (Or.inl ⟨by rfl, ?_⟩) hHeld ?_
          rotate_left 1
          · (intro w0 hSw; (try dsimp only at hSw); go_simp; (try (with_reducible rfl)))
          (try simp only [Act.put])
          refine anyP_takeF 16 (v := ?_) rfl (by kernel_rfl) (fun _ _ _ h => h) (Or.inl ⟨by rfl, ?_⟩) (.inr hHeld) ?_
          rotate_left 1
          · (intro w0 hSw; (try dsimp only at hSw); go_simp; (try (with_reducible rfl)))
          (try simp only [Act.put])
          refine anyP_takeF 17 (v := ?_) rfl (by kernel_rfl) (fun _ _ _ h => h) (Or.inl ⟨by rfl, ?_⟩) (.inr hHeld) ?_
          rotate_left 1
          · (intro w0 hSw; (try dsimp only at hSw); go_simp; (try (with_reducible rfl)))
          (try simp only [Act.put])
          refine anyP_take 18 (v := ?_) rfl rfl (by kernel_rfl) (fun _ _ _ h => h) (Or.inl ⟨by rfl, ?_⟩) hHeld ?_
          rotate_left 1
          · (intro w0 hSw; (try dsimp only at hSw); go_simp; (try (with_reducible rfl)))
          (try simp only [Act.put])
          refine anyP_takeF 19 (v := ?_) rfl (by kernel_rfl) (fun _ _ _ h => h) (Or.inl ⟨by rfl, ?_⟩) (.inr hHeld) ?_
          rotate_left 1
          · (intro w0 hSw; (try dsimp only at hSw); go_simp; (try (with_reducible rfl)))
          (try simp only [Act.put])
          refine anyP_takeF 20 (v := ?_) rfl (by kernel_rfl) (fun _ _ _ h => h) (Or.inl ⟨by rfl, ?_⟩) (.inr hHeld) ?_
          rotate_left 1
          · (intro w0 hSw; (try dsimp only at hSw); go_simp; (try (with_reducible rfl)))
          (try simp only [Act.put])
          refine anyP_one 21 (by kernel_rfl) rfl (fun K hK => ?_)
          replace hK := Lib.hid hK
          go_simp
          refine hK.out _ _ (.inl (by kernel_rfl)) ?_
          clear hK K
          (try simp only [Act.put, List.setIfInBounds_toArray, List.set_cons_zero, List.set_cons_succ])
          refine anyP_done (by kernel_rfl) ?_ _
          refine NoPanic.normal ?_
          have H9 := Lib.hid (H8.out.1.setL v (min lv nu))
          rw [nmin] at H9
          obtain ⟨w9, hw9⟩ : ∃ wz, wz = w8.setCell ⟨gL, v, none⟩ (.int .i64 (min (lv : Int) (nu : Int))) := ⟨_, rfl⟩
          rw [← hw9] at H9 ⊢
          clear hw9 q1 q2 hHeld
          have H10 : Hid (SS w9 c1 x n m (some ⟨bX, oX, none⟩) cX (some ⟨bG, oG, none⟩) cG gN cN gL cL X adj (backD v u D) aB1 cB1 ∧ Gw col c1 w w9 ∧ Gw col c1 w5 w9) := Lib.hid ⟨by have h := H9.out.1; rw [Hlv.out.2, Hnu.out.2] at h; exact h, H8.out.2.1.trans H9.out.2, H8.out.2.2.trans H9.out.2⟩
          clear H8 H9 H6
          go_wp2_with fail
          go_roundw
          case rel => exact ⟨j + 1, c1, backD v u D, aB1, cB1, by omega, by go_num, H10, Lib.hid ⟨HP2.out, HP.out.2.1.back, HP.out.2.2⟩⟩
          case measure => simp [intOf]; omega
        · have k2 : decide (0 < nu) = false := decide_eq_false g2
          have k2' : decide ((0 : Int) < (nu : Int)) = false := decide_eq_false (by omega)
          have hex : ∃ s2, Lp X adj u i (adj u) (startD u D) s2 ∧ Lp X adj v th ((adj v).drop (j + 1)) (treeD v u i s2) s' := by
            cases HP.out.1 with
            | skip h _ => exact absurd h g1
            | back _ h _ => rw [← Hu.out, ← Hnu.out.2] at h; omega
            | tree _ _ h1 h2 => rw [← Hu.out] at h1 h2; exact ⟨_, h1, h2⟩
          obtain ⟨s2, hs2, hs2'⟩ := hex
          have hnu0 : D.num.getD u 0 = 0 := by rw [← Hnu.out.2]; omega
          have HP1 := Lib.hid hs2
          have HP2 := Lib.hid hs2'
          obtain ⟨dk1, dk2⟩ := HP.out.2.1.start hul hnu0
          obtain ⟨dk3, dk4⟩ := hs2.ok HA.out (fun _ h => h) dk1
          have hbr2 : s2.br.length + zer s2 + 2 ≤ 2000 := by
            have h1 := hs2.brz HA.out (fun _ h => h) dk1
            have h2 := HP.out.2.2.2
            have h3 : (startD u D).br = D.br := rfl
            rw [h3] at h1
            omega
          have HDk := Lib.hid (And.intro dk3 (And.intro (show zer s2 + 1 ≤ U by have := HP.out.2.2.1; omega) hbr2))
          have HC := Lib.hid (IH.out w6 c1 u i D s2 aB1 cB1 H6.out.1 HP.out.2.1 hul hnu0 HP.out.2.2.1 (by have := HP.out.2.2.2; omega) hs2)
          clear g1 g2 hs2 hs2' hnu0 dk1 dk2 dk3 dk4 hbr2
          go_wp2_with fail
          clear k1 k2 k2' y2 zu
          refine HC.out.mono ?_
          rintro e w7 ⟨rfl, c7, aB7, cB7, S7, G7⟩
          have H7 := Lib.hid (And.intro S7 (And.intro (H6.out.2.1.trans G7) (H6.out.2.2.trans G7)))
          clear S7 G7 HC
          go_wp2_with fail
          have hlv2 := getD0 HDk.out.1.ll hv
          have hlu2 := getD0 HDk.out.1.ll hul
          have hnv2 := getD0 HDk.out.1.ln hv
          clear Hlv Hnu
          obtain ⟨lv, hlv0⟩ : ∃ q, q = s2.low.getD v 0 := ⟨_, rfl⟩
          rw [← hlv0] at hlv2
          have Hlv := Lib.hid (And.intro hlv2 hlv0)
          obtain ⟨lu, hlu0⟩ : ∃ q, q = s2.low.getD u 0 := ⟨_, rfl⟩
          rw [← hlu0] at hlu2
          have Hlu := Lib.hid (And.intro hlu2 hlu0)
          obtain ⟨nv0, hnv0⟩ : ∃ q, q = s2.num.getD v 0 := ⟨_, rfl⟩
          rw [← hnv0] at hnv2
          have Hnv := Lib.hid (And.intro hnv2 hnv0)
          clear hlv2 hlv0 hlu2 hlu0 hnv2 hnv0
          obtain ⟨w8, hw8⟩ : ∃ wz, wz = World.drew w7 := ⟨_, rfl⟩
          have F8 : Fr F0 w7 w8 := by rw [hw8]; exact (Fr.refl _ _).drew
          have H8 := Lib.hid (And.intro (H7.out.1.fr0 F8) (And.intro (H7.out.2.1.fr0 F8) (H7.out.2.2.fr0 F8)))
          refine wp_region_last 21 (fun w' : World => w'.cell? ⟨x, 3, none⟩ = some (.slice (some ⟨gL, 0, none⟩) n cL) ∧ w'.cell? ⟨x, 3, none⟩ = some (.slice (some ⟨gL, 0, none⟩) n cL) ∧ w'.cell? ⟨gL, v, none⟩ = some (.int .i64 (lv : Int)) ∧ w'.cell? ⟨gL, u, none⟩ = some (.int .i64 (lu : Int))) (by kernel_rfl) ?_
          rw [← hw8]
          clear hw8 F8
          have hHeld : (fun w' : World => w'.cell? ⟨x, 3, none⟩ = some (.slice (some ⟨gL, 0, none⟩) n cL) ∧ w'.cell? ⟨x, 3, none⟩ = some (.slice (some ⟨gL, 0, none⟩) n cL) ∧ w'.cell? ⟨gL, v, none⟩ = some (.int .i64 (lv : Int)) ∧ w'.cell? ⟨gL, u, none⟩ = some (.int .i64 (lu : Int))) w8 := ⟨H8.out.1.bk.cell (i := 3) rfl, H8.out.1.bk.cell (i := 3) rfl, cellO H8.out.1.ol Hlv.out.1, cellO H8.out.1.ol Hlu.out.1⟩
          have q1 := cellO H8.out.1.ol Hlv.out.1
          have q2 := freeO H8.out.1.ol (by omega) v
          refine anyP_takeF 0 (v := ?_) rfl (by kernel_rfl) (fun _ _ _ h => h) (Or.inl ⟨by rfl, ?_⟩) (.inr hHeld) ?_
          rotate_left 1
          · (intro w0 hSw; (try dsimp only at hSw); go_simp; (try (with_reducible rfl)))
          (try simp only [Act.put, List.setIfInBounds_toArray])
          refine anyP_takeF 1 (v := ?_) rfl (by kernel_rfl) (fun _ _ _ h => h) (Or.inl ⟨by rfl, ?_⟩) (.inr hHeld) ?_
          rotate_left 1
          · (intro w0 hSw; (try dsimp only at hSw); go_simp; (try (with_reducible rfl)))
          (try simp only [Act.put])
          refine anyP_takeF 2 (v := ?_) rfl (by kernel_rfl) (fun _ _ _ h => h) (Or.inl ⟨by rfl, ?_⟩) (.inr hHeld) ?_
          rotate_left 1
          · (intro w0 hSw; (try dsimp only at hSw); go_simp; (try (with_reducible rfl)))
          (try simp only [Act.put])
          refine anyP_take 3 (v := ?_) rfl rfl (by kernel_rfl) (fun _ _ _ h => h) (Or.inl ⟨by rfl, ?_⟩) hHeld ?_
          rotate_left 1
          · (intro w0 hSw; (try dsimp only at hSw); go_simp; (try (with_reducible rfl)))
          (try simp only [Act.put])
          refine anyP_takeF 4 (v := ?_) rfl (by kernel_rfl) (fun _ _ _ h => h) (Or.inl ⟨by rfl, ?_⟩) (.inr hHeld) ?_
          rotate_left 1
          · (intro w0 hSw; (try dsimp only at hSw); go_simp; (try (with_reducible rfl)))
          (try simp only [Act.put])
          refine anyP_takeF 5 (v := ?_) rfl (by kernel_rfl) (fun _ _ _ h => h) (Or.inl ⟨by rfl, ?_⟩) (.inr hHeld) ?_
          rotate_left 1
          · (intro w0 hSw; (try dsimp only at hSw); go_simp; (try (with_reducible rfl)))
          (try simp only [Act.put])
          refine anyP_takeF 6 (v := ?_) rfl (by kernel_rfl) (fun _ _ _ h => h) (Or.inl ⟨by rfl, ?_⟩) (.inr hHeld) ?_
          rotate_left 1
          · (intro w0 hSw; (try dsimp only at hSw); go_simp; (try (with_reducible rfl)))
          (try simp only [Act.put])
          refine anyP_takeF 7 (v := ?_) rfl (by kernel_rfl) (fun _ _ _ h => h) (Or.inl ⟨by rfl, ?_⟩) (.inr hHeld) ?_
          rotate_left 1
          · (intro w0 hSw; (try dsimp only at hSw); go_simp; (try (with_reducible rfl)))
          (try simp only [Act.put])
          refine anyP_take 8 (v := ?_) rfl rfl (by kernel_rfl) (fun _ _ _ h => h) (Or.inl ⟨by rfl, ?_⟩) hHeld ?_
          rotate_left 1
          · (intro w0 hSw; (try dsimp only at hSw); go_simp; (try (with_reducible rfl)))
          (try simp only [Act.put])
          refine anyP_takeF 9 (v := ?_) rfl (by kernel_rfl) (fun _ _ _ h => h) (Or.inl ⟨by rfl, ?_⟩) (.inr hHeld) ?_
          rotate_left 1
          · (intro w0 hSw; (try dsimp only at hSw); go_simp; (try (with_reducible rfl)))
          (try simp only [Act.put])
          refine anyP_takeF 10 (v := ?_) rfl (by kernel_rfl) (fun _ _ _ h => h) (Or.inl ⟨by rfl, ?_⟩) (.inr hHeld) ?_
          rotate_left 1
          · (intro w0 hSw; (try dsimp only at hSw); go_simp; (try (with_reducible rfl)))
          (try simp only [Act.put])
          refine anyP_take 11 (v := ?_) rfl rfl (by kernel_rfl) (fun _ _ _ h => h) (Or.inl ⟨by rfl, ?_⟩) hHeld ?_
          rotate_left 1
          · (intro w0 hSw; (try dsimp only at hSw); go_simp; (try (with_reducible rfl)))
          (try simp only [Act.put])
          refine anyP_takeF 12 (v := ?_) rfl (by kernel_rfl) (fun _ _ _ h => h) (Or.inl ⟨by rfl, ?_⟩) (.inr hHeld) ?_
          rotate_left 1
          · (intro w0 hSw; (try dsimp only at hSw); go_simp; (try (with_reducible rfl)))
          (try simp only [Act.put])
          refine anyP_takeF 13 (v := ?_) rfl (by kernel_rfl) (fun _ _ _ h => h) (Or.inl ⟨by rfl, ?_⟩) (.inr hHeld) ?_
          rotate_left 1
          · (intro w0 hSw; (try dsimp only at hSw); go_simp; (try (with_reducible rfl)))
          (try simp only [Act.put])
          refine anyP_takeF 14 (v := ?_) rfl (by kernel_rfl) (fun _ _ _ h => h) (Or.inl ⟨by rfl, ?_⟩) (.inr hHeld) ?_
          rotate_left 1
          · (intro w0 hSw; (try dsimp only at hSw); go_simp; (try (with_reducible rfl)))
          (try simp only [Act.put])
          refine anyP_take 15 (v := ?_) rfl rfl (by kernel_rfl) (fun _ _ _ h => h) (Or.inl ⟨by rfl, ?_⟩) hHeld ?_
          rotate_left 1
          · (intro w0 hSw; (try dsimp only at hSw); go_simp; (try (with_reducible rfl)))
          (try simp only [Act.put])
          refine anyP_takeF 16 (v := ?_) rfl (by kernel_rfl) (fun _ _ _ h => h) (Or.inl ⟨by rfl, ?_⟩) (.inr hHeld) ?_
          rotate_left 1
          · (intro w0 hSw; (try dsimp only at hSw); go_simp; (try (with_reducible rfl)))
          (try simp only [Act.put])
          refine anyP_takeF 17 (v := ?_) rfl (by kernel_rfl) (fun _ _ _ h => h) (Or.inl ⟨by rfl, ?_⟩) (.inr hHeld) ?_
          rotate_left 1
          · (intro w0 hSw; (try dsimp only at hSw); go_simp; (try (with_reducible rfl)))
          (try simp only [Act.put])
          refine anyP_take 18 (v := ?_) rfl rfl (by kernel_rfl) (fun _ _ _ h => h) (Or.inl ⟨by rfl, ?_⟩) hHeld ?_
          rotate_left 1
          · (intro w0 hSw; (try dsimp only at hSw); go_simp; (try (with_reducible rfl)))
          (try simp only [Act.put])
          refine anyP_takeF 19 (v := ?_) rfl (by kernel_rfl) (fun _ _ _ h => h) (Or.inl ⟨by rfl, ?_⟩) (.inr hHeld) ?_
          rotate_left 1
          · (intro w0 hSw; (try dsimp only at hSw); go_simp; (try (with_reducible rfl)))
          (try simp only [Act.put])
          refine anyP_takeF 20 (v := ?_) rfl (by kernel_rfl) (fun _ _ _ h => h) (Or.inl ⟨by rfl, ?_⟩) (.inr hHeld) ?_
          rotate_left 1
          · (intro w0 hSw; (try dsimp only at hSw); go_simp; (try (with_reducible rfl)))
          (try simp only [Act.put])
          refine anyP_one 21 (by kernel_rfl) rfl (fun K hK => ?_)
          replace hK := Lib.hid hK
          go_simp
          refine hK.out _ _ (.inl (by kernel_rfl)) ?_
          clear hK K
          (try simp only [Act.put, List.setIfInBounds_toArray, List.set_cons_zero, List.set_cons_succ])
          refine anyP_done (by kernel_rfl) ?_ _
          refine NoPanic.normal ?_
          have H9 := Lib.hid (H8.out.1.setL v (min lv lu))
          rw [nmin] at H9
          obtain ⟨w9, hw9⟩ : ∃ wz, wz = w8.setCell ⟨gL, v, none⟩ (.int .i64 (min (lv : Int) (lu : Int))) := ⟨_, rfl⟩
          rw [← hw9] at H9 ⊢
          clear hw9 q1 q2 hHeld
          have H10 : Hid (SS w9 c7 x n m (some ⟨bX, oX, none⟩) cX (some ⟨bG, oG, none⟩) cG gN cN gL cL X adj (lowD v u s2) aB7 cB7 ∧ Gw col c7 w w9 ∧ Gw col c7 w5 w9) := Lib.hid ⟨by have h := H9.out.1; rw [Hlv.out.2, Hlu.out.2] at h; exact h, H8.out.2.1.trans H9.out.2, H8.out.2.2.trans H9.out.2⟩
          clear H8 H9 H6 H7
          have hlu3 := getD0 (HDk.out.1.lowr (v := v) (w := u)).ll hul
          obtain ⟨l3, hl3⟩ : ∃ q, q = (lowD v u s2).low.getD u 0 := ⟨_, rfl⟩
          rw [← hl3] at hlu3
          have Hl3 := Lib.hid (And.intro hlu3 hl3)
          have y2 := H10.out.1.bk.cell (i := 2) rfl
          have y3 := H10.out.1.bk.cell (i := 3) rfl
          have z1 := cellO H10.out.1.ol hlu3
          have z2 := cellO H10.out.1.on (show (lowD v u s2).num[v]? = some nv0 from Hnv.out.1)
          clear hlu3 hl3
          have htd : treeD v u i s2 = if nv0 < l3 then addD i (lowD v u s2) else lowD v u s2 := by unfold treeD; rw [show (lowD v u s2).num.getD v 0 = nv0 from Hnv.out.2.symm, ← Hl3.out.2]
          have Htd := Lib.hid htd
          clear htd
          by_cases g3 : nv0 < l3
          · have k3 : decide (nv0 < l3) = true := decide_eq_true g3
            have k3' : decide ((nv0 : Int) < (l3 : Int)) = true := decide_eq_true (by omega)
            have HT : Hid (treeD v u i s2 = addD i (lowD v u s2)) := Lib.hid (by rw [Htd.out, if_pos g3])
            have hbl2 : ((lowD v u s2).br.length + 1) * 8 ≤ 140737488355328 ∧ (lowD v u s2).br.length + 1 ≤ 9223372036854775807 := by have h := HDk.out.2.2; have h2 : (lowD v u s2).br = s2.br := rfl; rw [h2]; omega
            clear g3
            go_wp2_with fail
            go_quiet (fail)
            clear y2 y3 z1 z2
            obtain ⟨w11, hw11⟩ : ∃ wz, wz = World.drewN w9 nq := ⟨_, rfl⟩
            have F11 : Fr F0 w9 w11 := by rw [hw11]; exact (Fr.refl _ _).drewN nq
            have H11 := Lib.hid (And.intro (H10.out.1.fr0 F11) (And.intro (H10.out.2.1.fr0 F11) (H10.out.2.2.fr0 F11)))
            rw [← hw11]
            clear hw11 F11 H10
            have y5 := H11.out.1.bk.cell (i := 5) rfl
            go_wp2_with (at_builtin; refine wpAppAt E3 H11.out.1.ob hbl2.1 hbl2.2 (Nat.zero_le _) (u := .int .i64 (i : Int)) rfl rfl rfl ?_; intro a12 c12 w12 own' fr' at'; have b12 := H11.out.1.bk.fr fr' (fun h => by have h1 := H11.out.1.kB x h; have h2 := H11.out.1.kx; omega); have y12 := b12.cell (i := 5) rfl; have z12 := b12.free 5; have H12 := Lib.hid (H11.out.1.add own' fr' at'); clear own' fr' at' b12)
            clear k3 k3' y5 y12 z12 hbl2
            go_roundw
            case rel => exact ⟨j + 1, recol c7 w11 4, treeD v u i s2, a12, c12, by omega, by go_num, Lib.hid ⟨by rw [HT.out]; exact H12.out.1, H11.out.2.1.trans H12.out.2, H11.out.2.2.trans H12.out.2⟩, Lib.hid ⟨HP2.out, HDk.out.1.tree, by have h := HDk.out.2.1; have h2 : zer (treeD v u i s2) = zer s2 := (by unfold zer; rw [treeD_num]); omega, by have h := HDk.out.2.2; have h2 : zer (treeD v u i s2) = zer s2 := (by unfold zer; rw [treeD_num]); rw [h2, HT.out]; have h3 : (addD i (lowD v u s2)).br.length = s2.br.length + 1 := (by show (s2.br ++ [i]).length = _; simp); rw [h3]; omega⟩⟩
            case measure => simp [intOf]; omega
          · have k3 : decide (nv0 < l3) = false := decide_eq_false g3
            have k3' : decide ((nv0 : Int) < (l3 : Int)) = false := decide_eq_false (by omega)
            have HT : Hid (treeD v u i s2 = lowD v u s2) := Lib.hid (by rw [Htd.out, if_neg g3])
            clear g3
            go_wp2_with fail
            go_quiet (fail)
            clear y2 y3 z1 z2
            obtain ⟨w11, hw11⟩ : ∃ wz, wz = World.drewN w9 nq := ⟨_, rfl⟩
            have F11 : Fr F0 w9 w11 := by rw [hw11]; exact (Fr.refl _ _).drewN nq
            have H11 := Lib.hid (And.intro (H10.out.1.fr0 F11) (And.intro (H10.out.2.1.fr0 F11) (H10.out.2.2.fr0 F11)))
            rw [← hw11]
            clear hw11 F11 H10
            go_wp2_with fail
            clear k3 k3'
            go_roundw
            case rel => exact ⟨j + 1, c7, treeD v u i s2, aB7, cB7, by omega, by go_num, Lib.hid ⟨by rw [HT.out]; exact H11.out.1, H11.out.2.1, H11.out.2.2⟩, Lib.hid ⟨HP2.out, HDk.out.1.tree, by have h := HDk.out.2.1; have h2 : zer (treeD v u i s2) = zer s2 := (by unfold zer; rw [treeD_num]); omega, by have h := HDk.out.2.2; have h2 : zer (treeD v u i s2) = zer s2 := (by unfold zer; rw [treeD_num]); rw [h2, HT.out]; have h3 : (lowD v u s2).br.length = s2.br.length := rfl; rw [h3]; omega⟩⟩
            case measure => simp [intOf]; omega
      · obtain rfl : k = j := by omega
        have hd : (adj v).drop k = [] := List.drop_eq_nil_of_le (by rw [← hk3.out]; exact Nat.le_refl _)
        have HP2 := HP.out.1
        rw [hd] at HP2
        cases HP2
        have HH := H
        go_wp2_with fail
        go_end0
        exact ⟨rfl, c1, aB1, cB1, HH.out.1, HH.out.2.1⟩
end Go.Proofs.Ytihcaemheknjbaa
