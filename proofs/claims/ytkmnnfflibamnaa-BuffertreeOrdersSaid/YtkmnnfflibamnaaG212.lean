/- Common texts of this seat, one behind another. -/
import Derived.Test.YtkmnnfflibamnaaG201
import Derived.BigQuiet
/- Buffer trees: an update. -/
namespace Go.Proofs.Ytkmnnfflibamnaa
open Go.RowKit
attribute [local go_sem ↓] Go.wp_at_zero Go.wp_at_succ
def inK (k : Int) : Bool := decide (-1048576 ≤ k) && decide (k ≤ 1048576)
abbrev env (e : En) : Value := .agg #[.int .i64 e.1, .int .i64 e.2.1, .bool e.2.2]
section
variable {w w' : World} {col : Nat → Nat} {t B M : Nat} {T : TV}
/-- An entry more in the buffer. -/
theorem TS.insB (h : TS w col t B M T) {ba' : Option Addr} {bc' n : Nat} {l : List En} (hn : l.length = n) (own' : OwnZ w' 0 80 3 ba' n bc' (ents l)) (F : Fr (onBlk T.ba) w w') (at' : ∀ k, onBlk ba' k → onBlk T.ba k ∨ w.heap.size ≤ k) :
    TS (w'.setCell ⟨t, 2, none⟩ (.slice ba' n bc')) (rcol col ba' 2) t B M { T with buf := l, ba := ba', bc := bc' } ∧ Kq w (w'.setCell ⟨t, 2, none⟩ (.slice ba' n bc')) col (rcol col ba' 2) (fun c => c = 1 ∨ c = 2) := by
  subst hn
  have K := Kq.recol F at' h.cb
  have b := h.kblk K (by omega)
  have K1 : Kq w' (w'.setCell ⟨t, 2, none⟩ (.slice ba' l.length bc')) (rcol col ba' 2) (rcol col ba' 2) (fun c => c = 1) := ⟨Fr.setCell (Fr.refl _ _) (fun _ => b.2) _, fun _ _ => rfl⟩
  have K2 := (K.mono (Q' := fun c => c = 1 ∨ c = 2) (fun _ e => .inr e)).trans (K1.mono (fun _ e => .inl e))
  have kl := h.klev K2 (by omega)
  refine ⟨⟨b.1.set 2 _, b.2, own'.other (fun hk => by have := rcol_on (col := col) (q := 2) hk; rw [b.2] at this; omega) _, fun k hk => rcol_on hk, kl.1, kl.2, fun i L hL => h.keach K2 (by omega) (by omega) hL, up_rcol (s := w.heap.size) (by have := F.size; simpa using this) (fun k hk => by have := (own'.blk k hk).2; simpa using this) h.up⟩, K2⟩
/-- An entry of the buffer is written. -/
theorem TS.setB (h : TS w col t B M T) {g i : Nat} {e : En} (hg : T.ba = some ⟨g, 0, none⟩) :
    TS (((w.setCell ⟨g, i * 3, none⟩ (.int .i64 e.1)).setCell ⟨g, i * 3 + 1, none⟩ (.int .i64 e.2.1)).setCell ⟨g, i * 3 + 2, none⟩ (.bool e.2.2)) col t B M { T with buf := T.buf.set i e } ∧ Kq w (((w.setCell ⟨g, i * 3, none⟩ (.int .i64 e.1)).setCell ⟨g, i * 3 + 1, none⟩ (.int .i64 e.2.1)).setCell ⟨g, i * 3 + 2, none⟩ (.bool e.2.2)) col col (fun c => c = 2) := by
  have hgc := h.cb g (by rw [hg]; exact (onBlk_some _ _ _ _).2 rfl)
  have K : Kq w (((w.setCell ⟨g, i * 3, none⟩ (.int .i64 e.1)).setCell ⟨g, i * 3 + 1, none⟩ (.int .i64 e.2.1)).setCell ⟨g, i * 3 + 2, none⟩ (.bool e.2.2)) col col (fun c => c = 2) := ⟨Fr.setCell (Fr.setCell (Fr.setCell (Fr.refl _ _) (fun _ => hgc) _) (fun _ => hgc) _) (fun _ => hgc) _, fun _ _ => rfl⟩
  have kb := h.kblk K (by omega)
  have kl := h.klev K (by omega)
  refine ⟨⟨?_, h.ct, ?_, h.cb, kl.1, h.cl, fun i L hL => h.keach K (by omega) (by omega) hL, fun k hk => h.up k (by simpa using hk)⟩, K⟩
  · show Blk _ _ _ (tcells B M { T with buf := T.buf.set i e })
    unfold tcells
    dsimp only
    rw [List.length_set]
    exact kb.1
  · dsimp only
    have o := h.bown
    rw [hg] at o ⊢
    rw [List.length_set, ← ents_set]
    exact OwnZ.set (OwnZ.set (OwnZ.set o _) _) _
end
theorem Fr.fr0l {S : Nat → Prop} {w1 w2 w3 : World} {o : Obj} (h : Fr S (w2.alloc o) w3) (F : Fr F0 w1 w2) : Fr S w1 w3 := ((F.alloc o).mono (S' := S) (fun _ _ h => h.elim)).trans h (fun _ _ h => h)
theorem at8l {a a' : Option Addr} {w1 w2 : World} {o : Obj} (h : ∀ k, onBlk a' k → onBlk a k ∨ (w2.alloc o).heap.size ≤ k) (F : Fr F0 w1 w2) : ∀ k, onBlk a' k → onBlk a k ∨ w1.heap.size ≤ k := fun k hk => (h k hk).imp id (fun h => by rw [size_alloc] at h; have := F.size; omega)
theorem update_nil (e : En) (w : World) : Calls Try.prog 35 #[.pointer none, env e] w fun r w' => r = .returned (.int .i64 1) ∧ Fr F0 w w' := by
  have FB : Hid (Fr F0 w (w.alloc (.cells #[.int .i64 e.1, .int .i64 e.2.1, .bool e.2.2] 80))) := Lib.hid ((Fr.refl _ _).alloc _)
  go_enter Try.func35, Try.ntmps35
  go_wp2_with fail
  go_ret
  exact ⟨rfl, FB.out⟩
set_option maxRecDepth 100000 in
theorem update_bad {w : World} {t : Nat} (e : En) (h : inK e.1 = false ∨ inK e.2.1 = false) : Calls Try.prog 35 #[.pointer (some ⟨t, 0, none⟩), env e] w fun r w' => r = .returned (.int .i64 2) ∧ Fr F0 w w' := by
  obtain ⟨k, v, rm⟩ := e
  dsimp only at h
  have FB : Hid (Fr F0 w (w.alloc (.cells #[.int .i64 k, .int .i64 v, .bool rm] 80))) := Lib.hid ((Fr.refl _ _).alloc _)
  have HK := Lib.hid (fun w => key_any k w)
  have HV := Lib.hid (fun w => key_any v w)
  unfold inK at h
  generalize (decide (-1048576 ≤ k) && decide (k ≤ 1048576)) = b1 at h HK
  generalize (decide (-1048576 ≤ v) && decide (v ≤ 1048576)) = b2 at h HV
  cases b1 with
  | false =>
    clear h
    go_enter Try.func35, Try.ntmps35
    go_wp2_with (go_at_call 57; refine (HK.out _).mono ?_; rintro r w1 ⟨rfl, rfl⟩)
    go_ret
    exact ⟨rfl, FB.out⟩
  | true =>
    have hb : b2 = false := by rcases h with h | h
                               · cases h
                               · exact h
    subst hb
    clear h
    go_enter Try.func35, Try.ntmps35
    go_wp2_with (first | (go_at_call 57; refine (HK.out _).mono ?_; rintro r w1 ⟨rfl, rfl⟩; clear HK) | (go_at_call 57; refine (HV.out _).mono ?_; rintro r w1 ⟨rfl, rfl⟩))
    go_ret
    exact ⟨rfl, FB.out⟩
def updT (B F M : Nat) (t : TT) (buf : List En) (e : En) : TT × List En := if M ≤ (ins buf e).length then (spillT B F t (ins buf e), []) else (t, ins buf e)
set_option maxRecDepth 100000 in
set_option maxHeartbeats 4000000 in
theorem update_any {w : World} {col : Nat → Nat} {t B M k1 k2 k3 : Nat} {T : TV} (e : En) (h : TS w col t B M T) (hP : PI T.tt k1 k2 k3) (hk1 : k1 + T.buf.length ≤ 399) (hk2 : k2 ≤ 1900) (hk3 : k3 ≤ 900000000) (hbs : Sd T.buf) (hB : 1 ≤ B ∧ B ≤ 64) (hM : 2 * B ≤ M ∧ M ≤ 1000) (e1 : inK e.1 = true) (e2 : inK e.2.1 = true) :
    Calls Try.prog 35 #[.pointer (some ⟨t, 0, none⟩), env e] w fun r w' => r = .returned (.int .i64 0) ∧ ∃ col' T', TS w' col' t B M T' ∧ (T'.tt, T'.buf) = updT B (fanN B M) M T.tt T.buf e ∧ Ch w w' col col' := by
  obtain ⟨k, v, rm⟩ := e
  dsimp only at e1 e2
  have HK := Lib.hid (fun w => key_any k w)
  have HV := Lib.hid (fun w => key_any v w)
  unfold inK at e1 e2
  rw [e1] at HK
  rw [e2] at HV
  obtain ⟨F, hFd⟩ : ∃ F, F = fanN B M := ⟨_, rfl⟩
  have HSp := Lib.hid (fun (W : World) (col1 : Nat → Nat) (T1 : TV) (q1 : TS W col1 t B M T1) (q2 : T1.tt = T.tt) (q3 : T1.buf.length ≤ T.buf.length + 1) (q4 : 0 < T1.buf.length) (q5 : Sd T1.buf) => spill_any q1 (by rw [q2]; exact hP) (by omega) hk2 hk3 q4 q5 hB hM)
  rw [← hFd] at HSp ⊢
  have HU := Lib.hid (show updT B F M T.tt T.buf (k, v, rm) = if M ≤ (ins T.buf (k, v, rm)).length then (spillT B F T.tt (ins T.buf (k, v, rm)), []) else (T.tt, ins T.buf (k, v, rm)) from rfl)
  obtain ⟨R, hR⟩ : ∃ R, R = updT B F M T.tt T.buf (k, v, rm) := ⟨_, rfl⟩
  rw [← hR] at HU ⊢
  have F1 : Fr F0 w (w.alloc (.cells #[.int .i64 k, .int .i64 v, .bool rm] 80)) := (Fr.refl _ _).alloc _
  have T1 := h.fr0 F1
  have hbx : Blk (w.alloc (.cells #[.int .i64 k, .int .i64 v, .bool rm] 80)) w.heap.size 80 (en3 (k, v, rm)) := Blk.new w 80 (en3 (k, v, rm))
  have x0 := hbx.cell (i := 0) rfl
  have x1 := hbx.cell (i := 1) rfl
  have x2 := hbx.cell (i := 2) rfl
  dsimp only at x0 x1 x2
  have y0 := T1.blk.cell (i := 0) rfl
  have y1 := T1.blk.cell (i := 1) rfl
  have y2 := T1.blk.cell (i := 2) rfl
  obtain ⟨nb, hnb⟩ : ∃ nb, nb = T.buf.length := ⟨_, rfl⟩
  rw [← hnb] at y2
  have HFi := Lib.hid (fun W (F2 : Fr F0 (w.alloc (.cells #[.int .i64 k, .int .i64 v, .bool rm] 80)) W) => find_any (c := T.bc) k (T1.fr0 F2).bown.rd hbs (by omega))
  rw [← hnb] at HFi
  have HT := Lib.hid T1
  have HX := Lib.hid hbx
  have HF1 := Lib.hid F1
  have Hnb := Lib.hid hnb
  have Hbs := Lib.hid hbs
  have Hup := Lib.hid h.up
  have hlv : T.lv.length ≤ 2000 := by have : (lvT T.lv).length + runsN (lvT T.lv) ≤ k2 := hP.len; rw [lvT_len] at this; omega
  have hlr : ∀ L' ∈ T.lv, L'.rv.length ≤ 2000 := fun L' hL' => by
    have := (totT_mem (lvT_mem hL')).2; rw [ls_len] at this
    have h2 : (lvT T.lv).length + runsN (lvT T.lv) ≤ k2 := hP.len
    omega
  have htv : totV T.lv ≤ 400 := by
    have e : totV T.lv = totT (lvT T.lv) := by
      unfold totV totT lvT
      rw [List.map_map]
      congr 1
      refine List.map_congr_left (fun L _ => ?_)
      show totL L.rv = len1 (ls L.rv)
      unfold totL len1 ls
      rw [List.map_map]; rfl
    have : totT (lvT T.lv) ≤ k1 := hP.tot
    omega
  have HLr := Lib.hid (And.intro hlv (And.intro htv hlr))
  have hk1' : nb ≤ 399 := by omega
  clear hFd hR h hP F1 T1 hnb hbs hbx hlv hlr htv hk1 e1 e2
  go_enter Try.func35, Try.ntmps35
  go_wp2_with (first | (go_at_call 57; refine (HK.out _).mono ?_; rintro r w1 ⟨rfl, rfl⟩; clear HK) | (go_at_call 57; refine (HV.out _).mono ?_; rintro r w1 ⟨rfl, rfl⟩; clear HV))
  refine wp_region_held_drew (S := (fun w' : World => w'.cell? ⟨t, 2, none⟩ = some (.slice T.ba nb T.bc) ∧ w'.cell? ⟨w.heap.size, 0, none⟩ = some (.int .i64 k))) (by kernel_rfl) (by first | exact ⟨y2, x0⟩ | go_keep) (fun hHeld => ?_)
  refine wpAnyH_take (i := 0) (v := ?_) (by simp only [List.getElem?_toArray, List.getElem?_cons_zero] <;> rfl) (by kernel_rfl) (by kernel_rfl) (by kernel_rfl) (by exact fun _ _ _ h => h) (Or.inl ⟨by rfl, ?_⟩) (by assumption) ?_
  rotate_left
  · intro w hSw
    try dsimp only at hSw
    go_simp <;> with_reducible rfl
  (try simp only [Act.put, List.setIfInBounds_toArray, List.set_cons_zero, List.set_cons_succ])
  refine wpAnyH_take (i := 1) (v := ?_) (by simp only [List.getElem?_toArray, List.getElem?_cons_succ, List.getElem?_cons_zero] <;> rfl) (by kernel_rfl) (by kernel_rfl) (by kernel_rfl) (by exact fun _ _ _ h => h) (Or.inl ⟨by rfl, ?_⟩) (by assumption) ?_
  rotate_left
  · intro w hSw
    try dsimp only at hSw
    go_simp <;> with_reducible rfl
  (try simp only [Act.put, List.setIfInBounds_toArray, List.set_cons_zero, List.set_cons_succ])
  refine wpAnyH_take (i := 2) (v := ?_) (by simp only [List.getElem?_toArray, List.getElem?_cons_succ, List.getElem?_cons_zero] <;> rfl) (by kernel_rfl) (by kernel_rfl) (by kernel_rfl) (by exact fun _ _ _ h => h) (Or.inl ⟨by rfl, ?_⟩) (by assumption) ?_
  rotate_left
  · intro w hSw
    try dsimp only at hSw
    go_simp <;> with_reducible rfl
  (try simp only [Act.put, List.setIfInBounds_toArray, List.set_cons_zero, List.set_cons_succ])
  refine wpAnyH_take (i := 3) (v := ?_) (by simp only [List.getElem?_toArray, List.getElem?_cons_succ, List.getElem?_cons_zero] <;> rfl) (by kernel_rfl) (by kernel_rfl) (by kernel_rfl) (by exact fun _ _ _ h => h) (Or.inl ⟨by rfl, ?_⟩) (by assumption) ?_
  rotate_left
  · intro w hSw
    try dsimp only at hSw
    go_simp <;> with_reducible rfl
  (try simp only [Act.put, List.setIfInBounds_toArray, List.set_cons_zero, List.set_cons_succ])
  refine wpAnyH_take (i := 4) (v := ?_) (by simp only [List.getElem?_toArray, List.getElem?_cons_succ, List.getElem?_cons_zero] <;> rfl) (by kernel_rfl) (by kernel_rfl) (by kernel_rfl) (by exact fun _ _ _ h => h) (Or.inl ⟨by rfl, ?_⟩) (by assumption) ?_
  rotate_left
  · intro w hSw
    try dsimp only at hSw
    go_simp <;> with_reducible rfl
  (try simp only [Act.put, List.setIfInBounds_toArray, List.set_cons_zero, List.set_cons_succ])
  refine wpAnyH_take (i := 5) (v := ?_) (by simp only [List.getElem?_toArray, List.getElem?_cons_succ, List.getElem?_cons_zero] <;> rfl) (by kernel_rfl) (by kernel_rfl) (by kernel_rfl) (by exact fun _ _ _ h => h) (Or.inl ⟨by rfl, ?_⟩) (by assumption) ?_
  rotate_left
  · intro w hSw
    try dsimp only at hSw
    go_simp <;> with_reducible rfl
  (try simp only [Act.put, List.setIfInBounds_toArray, List.set_cons_zero, List.set_cons_succ])
  refine wpAnyH_ready (rs := [6]) (by kernel_rfl) (by simp) ?_
  refine AllReadyH.cons (by simp only [List.getElem?_toArray, List.getElem?_cons_succ, List.getElem?_cons_zero] <;> rfl) (fun KK hKK => ?_) AllReadyH.nil
  go_simp
  refine (HFi.out _ (Fr.refl _ _).drew).mono ?_
  rintro r w2 ⟨i, rfl, hL, F2⟩
  have H2 := Lib.hid (And.intro hL ((Fr.refl F0 (w.alloc (.cells #[.int .i64 k, .int .i64 v, .bool rm] 80))).drew.trans0 F2))
  clear hL F2
  refine hKK.out _ _ (⟨H2.out.2.cell y2 id, H2.out.2.cell x0 id⟩) (fun hHeld => ?_)
  clear hKK KK
  (try simp only [Act.put, List.setIfInBounds_toArray, List.set_cons_zero, List.set_cons_succ])
  refine wpAnyH_take (i := 7) (v := ?_) (by simp only [List.getElem?_toArray, List.getElem?_cons_succ, List.getElem?_cons_zero] <;> rfl) (by kernel_rfl) (by kernel_rfl) (by kernel_rfl) (by exact fun _ _ _ h => h) (Or.inl ⟨by rfl, ?_⟩) (by assumption) ?_
  rotate_left
  · intro w hSw
    try dsimp only at hSw
    go_simp <;> with_reducible rfl
  (try simp only [Act.put, List.setIfInBounds_toArray, List.set_cons_zero, List.set_cons_succ])
  refine wpAnyH_take (i := 8) (v := ?_) (by simp only [List.getElem?_toArray, List.getElem?_cons_succ, List.getElem?_cons_zero] <;> rfl) (by kernel_rfl) (by kernel_rfl) (by kernel_rfl) (by exact fun _ _ _ h => h) (Or.inl ⟨by rfl, ?_⟩) (by assumption) ?_
  rotate_left
  · intro w hSw
    try dsimp only at hSw
    go_simp <;> with_reducible rfl
  (try simp only [Act.put, List.setIfInBounds_toArray, List.set_cons_zero, List.set_cons_succ])
  refine wpAnyH_take (i := 9) (v := ?_) (by simp only [List.getElem?_toArray, List.getElem?_cons_succ, List.getElem?_cons_zero] <;> rfl) (by kernel_rfl) (by kernel_rfl) (by kernel_rfl) (by exact fun _ _ _ h => h) (Or.inl ⟨by rfl, ?_⟩) (by assumption) ?_
  rotate_left
  · intro w hSw
    try dsimp only at hSw
    go_simp <;> with_reducible rfl
  (try simp only [Act.put, List.setIfInBounds_toArray, List.set_cons_zero, List.set_cons_succ])
  refine wpAnyH_take (i := 10) (v := ?_) (by simp only [List.getElem?_toArray, List.getElem?_cons_succ, List.getElem?_cons_zero] <;> rfl) (by kernel_rfl) (by kernel_rfl) (by kernel_rfl) (by exact fun _ _ _ h => h) (Or.inl ⟨by rfl, ?_⟩) (by assumption) ?_
  rotate_left
  · intro w hSw
    try dsimp only at hSw
    go_simp <;> with_reducible rfl
  (try simp only [Act.put, List.setIfInBounds_toArray, List.set_cons_zero, List.set_cons_succ])
  refine wpAnyH_take (i := 11) (v := ?_) (by simp only [List.getElem?_toArray, List.getElem?_cons_succ, List.getElem?_cons_zero] <;> rfl) (by kernel_rfl) (by kernel_rfl) (by kernel_rfl) (by exact fun _ _ _ h => h) (Or.inl ⟨by rfl, ?_⟩) (by assumption) ?_
  rotate_left
  · intro w hSw
    try dsimp only at hSw
    go_simp <;> with_reducible rfl
  (try simp only [Act.put, List.setIfInBounds_toArray, List.set_cons_zero, List.set_cons_succ])
  refine wpAnyH_done (by kernel_rfl) ?_ _
  have T2 := HT.out.fr0 H2.out.2
  have y2b := H2.out.2.cell y2 id
  have x0b := H2.out.2.cell x0 id
  have x1b := H2.out.2.cell x1 id
  have x2b := H2.out.2.cell x2 id
  have HF2 := Lib.hid (HF1.out.trans0 H2.out.2)
  have HT2 := Lib.hid T2
  clear y0 y1 y2 x0 x1 x2 T2
  cases hlk : lk T.buf k with
  | some y =>
    have hie := H2.out.1
    have hin : i < nb := by
      rcases Nat.lt_or_ge i nb with h | h
      · exact h
      · have := hie.none (by rw [← Hnb.out]; exact h); rw [hlk] at this; cases this
    obtain ⟨y', hy'⟩ : ∃ y', T.buf[i]? = some y' := ⟨_, List.getElem?_eq_getElem (by rw [← Hnb.out]; exact hin)⟩
    have hyk : y'.1 = k := by
      have := hie.found Hbs.out hy'
      rw [hlk] at this
      by_cases c : y'.1 = k
      · exact c
      · rw [if_neg c] at this; cases this
    have HIe := Lib.hid (Lo_ins_eq (e := (k, v, rm)) hie hy' hyk)
    obtain ⟨g, hg, _, hgl, hcc, hff⟩ := HT2.out.bown.at (by rw [← Hnb.out]; omega)
    obtain ⟨_, _, hgg, c0, c1, c2⟩ := HT2.out.bown.rd.ent hy'
    rw [hg] at hgg; injection hgg with hgg; injection hgg with hgg1 hgg2; subst hgg1; subst hgg2
    rw [Nat.zero_add] at c0 c1 c2
    have f0 := hff (i * 3)
    have f1 := hff (i * 3 + 1)
    have f2 := hff (i * 3 + 2)
    rw [hg] at y2b
    have HG := Lib.hid hg
    have hlk' : (lk T.buf k).isSome = true := by rw [hlk]; rfl
    have HB := Lib.hid (HT2.out.setB (i := i) (e := (k, v, rm)) hg)
    clear hie hy' hyk hgl hcc hff hg hlk
    clear hlk'
    rw [show (some y).isSome = true from rfl]
    go_wp2_with fail
    refine wp_region_last 7 (fun w' : World => w'.cell? ⟨t, 2, none⟩ = some (.slice (some ⟨g, 0, none⟩) nb T.bc) ∧ w'.cell? ⟨w.heap.size, 0, none⟩ = some (.int .i64 k) ∧ w'.cell? ⟨w.heap.size, 1, none⟩ = some (.int .i64 v) ∧ w'.cell? ⟨w.heap.size, 2, none⟩ = some (.bool rm)) (by kernel_rfl) ?_
    have hHeld : (fun w' : World => w'.cell? ⟨t, 2, none⟩ = some (.slice (some ⟨g, 0, none⟩) nb T.bc) ∧ w'.cell? ⟨w.heap.size, 0, none⟩ = some (.int .i64 k) ∧ w'.cell? ⟨w.heap.size, 1, none⟩ = some (.int .i64 v) ∧ w'.cell? ⟨w.heap.size, 2, none⟩ = some (.bool rm)) _ := ⟨y2b, x0b, x1b, x2b⟩
    refine anyP_takeF 0 (v := ?_) rfl (by kernel_rfl) (fun _ _ _ h => h) (Or.inl ⟨by rfl, ?_⟩) (.inr hHeld) ?_
    rotate_left 1
    · (intro w0 hSw; (try dsimp only at hSw); go_simp; (try (with_reducible rfl)))
    (try simp only [Act.put, List.setIfInBounds_toArray])
    refine anyP_takeF 1 (v := ?_) rfl (by kernel_rfl) (fun _ _ _ h => h) (Or.inl ⟨by rfl, ?_⟩) (.inr hHeld) ?_
    rotate_left 1
    · (intro w0 hSw; (try dsimp only at hSw); go_simp; (try (with_reducible rfl)))
    (try simp only [Act.put])
    refine anyP_takeF 2 (v := ?_) rfl (by kernel_rfl) (fun _ _ _ h => h) (Or.inl ⟨by rfl, ?_⟩) (.inr hHeld) ?_
    rotate_left 1
    · (intro w0 hSw; (try dsimp only at hSw); go_simp; (try (with_reducible rfl)))
    (try simp only [Act.put])
    refine anyP_take 3 (v := ?_) rfl rfl (by kernel_rfl) (fun _ _ _ h => h) (Or.inl ⟨by rfl, ?_⟩) hHeld ?_
    rotate_left 1
    · (intro w0 hSw; (try dsimp only at hSw); go_simp; (try (with_reducible rfl)))
    (try simp only [Act.put])
    refine anyP_takeF 4 (v := ?_) rfl (by kernel_rfl) (fun _ _ _ h => h) (Or.inl ⟨by rfl, ?_⟩) (.inr hHeld) ?_
    rotate_left 1
    · (intro w0 hSw; (try dsimp only at hSw); go_simp; (try (with_reducible rfl)))
    (try simp only [Act.put])
    refine anyP_take 5 (v := ?_) rfl rfl (by kernel_rfl) (fun _ _ _ h => h) (Or.inl ⟨by rfl, ?_⟩) hHeld ?_
    rotate_left 1
    · (intro w0 hSw; (try dsimp only at hSw); go_simp; (try (with_reducible rfl)))
    (try simp only [Act.put])
    refine anyP_takeF 6 (v := ?_) rfl (by kernel_rfl) (fun _ _ _ h => h) (Or.inl ⟨by rfl, ?_⟩) (.inr hHeld) ?_
    rotate_left 1
    · (intro w0 hSw; (try dsimp only at hSw); go_simp; (try (with_reducible rfl)))
    (try simp only [Act.put])
    refine anyP_one 7 (by kernel_rfl) rfl (fun K hK => ?_)
    replace hK := Lib.hid hK
    go_simp
    refine hK.out _ _ (.inl (by kernel_rfl)) ?_
    clear hK K
    (try simp only [Act.put, List.setIfInBounds_toArray, List.set_cons_zero, List.set_cons_succ])
    refine anyP_done (by kernel_rfl) ?_ _
    refine NoPanic.normal ?_
    obtain ⟨w9, hw9⟩ : ∃ w9, w9 = (((w2.setCell ⟨g, i * 3, none⟩ (.int .i64 k)).setCell ⟨g, i * 3 + 1, none⟩ (.int .i64 v)).setCell ⟨g, i * 3 + 2, none⟩ (.bool rm)).drew := ⟨_, rfl⟩
    have T9 := HB.out.1.fr0 (Fr.refl F0 _).drew
    have K9 := HB.out.2.fr0 (Fr.refl F0 _).drew
    rw [← hw9] at T9 K9 ⊢
    have HT9 := Lib.hid T9
    obtain ⟨nb9, hnb9⟩ : ∃ n, n = nb := ⟨_, rfl⟩
    have HL9 : Hid ((T.buf.set i (k, v, rm)).length = nb9) := Lib.hid (by rw [List.length_set, hnb9]; exact Hnb.out.symm)
    have hb9 : 0 < nb9 ∧ nb9 ≤ nb + 1 := by omega
    have HI9 : Hid (T.buf.set i (k, v, rm) = ins T.buf (k, v, rm)) := Lib.hid HIe.out.symm
    have H9s : Hid (Sd (T.buf.set i (k, v, rm))) := Lib.hid (by rw [HI9.out]; exact Hbs.out.ins _)
    have HC9 : Hid (Ch w w9 col col) := Lib.hid (((Ch.refl w col).fr0 HF2.out).trans (K9.ch (by omega)))
    clear hw9 T9 K9 hHeld c0 c1 c2 f0 f1 f2 y2b x0b x1b x2b HB HIe hin hnb9
    have q1 := HT9.out.blk.cell (i := 1) rfl
    have q2 := HT9.out.blk.cell (i := 2) rfl
    rw [HL9.out] at q2
    by_cases hM9 : M ≤ nb9
    · have hM9' : (M : Int) ≤ (nb9 : Int) := by omega
      have HM9 := Lib.hid hM9
      clear hM9
      go_wp2_with fail
      go_quiet (fail)
      have HTq := Lib.hid (HT9.out.fr0 ((Fr.refl F0 w9).drewN nq))
      have HCq := Lib.hid (HC9.out.fr0 ((Fr.refl F0 w9).drewN nq))
      go_wp2_with (go_at_call 61; refine (HSp.out _ _ _ HTq.out rfl (by dsimp only; rw [HL9.out]; have := Hnb.out; omega) (by dsimp only; rw [HL9.out]; omega) H9s.out).mono ?_; rintro r w10 ⟨rfl, col10, T10, a1, a2, a3, a4⟩; have H10 := Lib.hid (And.intro a1 (And.intro a2 (And.intro a3 a4))); clear a1 a2 a3 a4)
      go_ret
      refine ⟨rfl, col10, T10, H10.out.1, ?_, HCq.out.trans H10.out.2.2.2⟩
      rw [HU.out, if_pos (by rw [← HI9.out, HL9.out]; exact HM9.out), H10.out.2.1, H10.out.2.2.1]
      rw [HI9.out]
      rfl
    · have hM9' : ¬ (M : Int) ≤ (nb9 : Int) := by omega
      have HM9 := Lib.hid hM9
      clear hM9
      go_wp2_with fail
      go_quiet (fail)
      have HTq := Lib.hid (HT9.out.fr0 ((Fr.refl F0 w9).drewN nq))
      have HCq := Lib.hid (HC9.out.fr0 ((Fr.refl F0 w9).drewN nq))
      go_wp2_with fail
      go_ret
      refine ⟨rfl, _, _, HTq.out, ?_, HCq.out⟩
      rw [HU.out, if_neg (by rw [← HI9.out, HL9.out]; exact HM9.out), ← HI9.out]
      rfl
  | none =>
    have hie := H2.out.1
    have HIe := Lib.hid (Lo_ins Hbs.out (e := (k, v, rm)) hie hlk)
    obtain ⟨m, hm⟩ : ∃ m, m = T.buf.length + totV T.lv := ⟨_, rfl⟩
    have HSt : Hid (Calls Try.prog 64 #[.pointer (some ⟨t, 0, none⟩)] w2 fun e w' => e = .returned (.int .i64 (m : Int)) ∧ w2 = w') := Lib.hid (by rw [hm]; exact stored_any HT2.out (by rw [← Hnb.out]; omega) (by have := HLr.out.1; omega) (by have := HLr.out.2.1; omega) (fun L hL => Nat.le_trans (HLr.out.2.2 L hL) (by omega)))
    have hm4 : ¬ 4096 ≤ (m : Int) := by have := HLr.out.2.1; have := Hnb.out; omega
    have hil : i ≤ nb := by rw [Hnb.out]; exact hie.le
    clear hie hlk hm
    rw [show (none : Option En).isSome = false from rfl]
    go_wp2_with (go_at_call 64; refine HSt.out.mono ?_; rintro r w3 ⟨rfl, rfl⟩)
    obtain ⟨w7, hw7⟩ : ∃ wz, wz = w2.drew := ⟨_, rfl⟩
    have F7 : Fr F0 w2 w7 := by rw [hw7]; exact (Fr.refl _ _).drew
    have HX7 : Hid (∀ W, Fr F0 w2 W → (fun w' : World => w'.cell? ⟨t, 2, none⟩ = some (.slice T.ba nb T.bc) ∧ w'.cell? ⟨w.heap.size, 0, none⟩ = some (.int .i64 k) ∧ w'.cell? ⟨w.heap.size, 1, none⟩ = some (.int .i64 v) ∧ w'.cell? ⟨w.heap.size, 2, none⟩ = some (.bool rm)) W) := Lib.hid (fun W F => ⟨F.cell y2b id, F.cell x0b id, F.cell x1b id, F.cell x2b id⟩)
    refine wp_region_last 11 (fun w' : World => w'.cell? ⟨t, 2, none⟩ = some (.slice T.ba nb T.bc) ∧ w'.cell? ⟨w.heap.size, 0, none⟩ = some (.int .i64 k) ∧ w'.cell? ⟨w.heap.size, 1, none⟩ = some (.int .i64 v) ∧ w'.cell? ⟨w.heap.size, 2, none⟩ = some (.bool rm)) (by kernel_rfl) ?_
    rw [← hw7]
    have hHeld := HX7.out w7 F7
    have FF7 := Lib.hid F7
    clear hw7 F7 y2b x0b x1b x2b
    refine anyP_takeF 0 (v := ?_) rfl (by kernel_rfl) (fun _ _ _ h => h) (Or.inl ⟨by rfl, ?_⟩) (.inr hHeld) ?_
    rotate_left 1
    · (intro w0 hSw; (try dsimp only at hSw); go_simp; (try (with_reducible rfl)))
    (try simp only [Act.put, List.setIfInBounds_toArray])
    refine anyP_takeF 1 (v := ?_) rfl (by kernel_rfl) (fun _ _ _ h => h) (Or.inl ⟨by rfl, ?_⟩) (.inr hHeld) ?_
    rotate_left 1
    · (intro w0 hSw; (try dsimp only at hSw); go_simp; (try (with_reducible rfl)))
    (try simp only [Act.put])
    refine anyP_takeF 2 (v := ?_) rfl (by kernel_rfl) (fun _ _ _ h => h) (Or.inl ⟨by rfl, ?_⟩) (.inr hHeld) ?_
    rotate_left 1
    · (intro w0 hSw; (try dsimp only at hSw); go_simp; (try (with_reducible rfl)))
    (try simp only [Act.put])
    refine anyP_takeF 3 (v := ?_) rfl (by kernel_rfl) (fun _ _ _ h => h) (Or.inl ⟨by rfl, ?_⟩) (.inr hHeld) ?_
    rotate_left 1
    · (intro w0 hSw; (try dsimp only at hSw); go_simp; (try (with_reducible rfl)))
    (try simp only [Act.put])
    refine anyP_take 4 (v := ?_) rfl rfl (by kernel_rfl) (fun _ _ _ h => h) (Or.inl ⟨by rfl, ?_⟩) hHeld ?_
    rotate_left 1
    · (intro w0 hSw; (try dsimp only at hSw); go_simp; (try (with_reducible rfl)))
    (try simp only [Act.put])
    refine anyP_takeF 5 (v := ?_) rfl (by kernel_rfl) (fun _ _ _ h => h) (Or.inl ⟨by rfl, ?_⟩) (.inr hHeld) ?_
    rotate_left 1
    · (intro w0 hSw; (try dsimp only at hSw); go_simp; (try (with_reducible rfl)))
    (try simp only [Act.put])
    refine anyP_take 6 (v := ?_) rfl rfl (by kernel_rfl) (fun _ _ _ h => h) (Or.inl ⟨by rfl, ?_⟩) hHeld ?_
    rotate_left 1
    · (intro w0 hSw; (try dsimp only at hSw); go_simp; (try (with_reducible rfl)))
    (try simp only [Act.put])
    refine anyP_one 7 (by kernel_rfl) rfl (fun K hK => ?_)
    replace hK := Lib.hid hK
    go_simp
    refine hK.out _ _ (.inr (HX7.out _ (FF7.out.alloc _))) ?_
    clear hK K
    (try simp only [Act.put, List.setIfInBounds_toArray, List.set_cons_zero, List.set_cons_succ])
    have hI := Insert_any (w := w7.alloc (.cells #[.int .i64 k, .int .i64 v, .bool rm] 80)) (B := 0) (i := i) (e := (k, v, rm)) ((HT2.out.bown.fr0 FF7.out).alloc _) (Blk.new w7 80 (en3 (k, v, rm))) (fun h => by have := ((HT2.out.bown.fr0 FF7.out).blk _ h).2; omega) (Nat.zero_le _) (by rw [← Hnb.out]; exact hil) (by rw [← Hnb.out]; omega)
    rw [← Hnb.out] at hI
    have HI := Lib.hid hI
    clear hI hHeld
    refine anyP_one 8 (by kernel_rfl) rfl (fun K hK => ?_)
    replace hK := Lib.hid hK
    go_simp
    refine HI.out.mono ?_
    rintro r w8 ⟨a8, c8, rfl, own8, fr8, at8⟩
    have K8 := Kq.recol (fr8.fr0l FF7.out) (at8l at8 FF7.out) HT2.out.cb
    have b8 := HT2.out.kblk K8 (by omega)
    have y8 := b8.1.cell (i := 2) rfl
    have z8 := b8.1.free 2
    rw [← Hnb.out] at y8
    have hl8 : (insAt T.buf i (k, v, rm)).length = nb + 1 := by have := own8.1; rw [ents_len] at this; omega
    have HB := Lib.hid (HT2.out.insB hl8 own8 (fr8.fr0l FF7.out) (at8l at8 FF7.out))
    have Hl8 := Lib.hid hl8
    have xa := HX7.out w7 FF7.out
    have hw8 : ∀ j u, w7.cell? ⟨w.heap.size, j, none⟩ = some u → w8.cell? ⟨w.heap.size, j, none⟩ = some u := fun j u hu => (fr8.cell ((Fr.refl F0 _).alloc _ |>.cell hu id) (fun hk => by have e2 : col w.heap.size = 2 := HT2.out.cb _ hk; have := Hup.out w.heap.size (Nat.le_refl _); omega))
    have hHeld : (fun w' : World => w'.cell? ⟨t, 2, none⟩ = some (.slice T.ba nb T.bc) ∧ w'.cell? ⟨w.heap.size, 0, none⟩ = some (.int .i64 k) ∧ w'.cell? ⟨w.heap.size, 1, none⟩ = some (.int .i64 v) ∧ w'.cell? ⟨w.heap.size, 2, none⟩ = some (.bool rm)) w8 := ⟨y8, hw8 _ _ xa.2.1, hw8 _ _ xa.2.2.1, hw8 _ _ xa.2.2.2⟩
    clear own8 fr8 at8 K8 b8 hl8 xa hw8
    refine hK.out _ _ (.inr hHeld) ?_
    clear hK K
    (try simp only [Act.put, List.setIfInBounds_toArray, List.set_cons_zero, List.set_cons_succ])
    refine anyP_takeF 9 (v := ?_) rfl (by kernel_rfl) (fun _ _ _ h => h) (Or.inl ⟨by rfl, ?_⟩) (.inr hHeld) ?_
    rotate_left 1
    · (intro w0 hSw; (try dsimp only at hSw); go_simp; (try (with_reducible rfl)))
    (try simp only [Act.put, List.setIfInBounds_toArray])
    refine anyP_takeF 10 (v := ?_) rfl (by kernel_rfl) (fun _ _ _ h => h) (Or.inl ⟨by rfl, ?_⟩) (.inr hHeld) ?_
    rotate_left 1
    · (intro w0 hSw; (try dsimp only at hSw); go_simp; (try (with_reducible rfl)))
    (try simp only [Act.put])
    refine anyP_one 11 (by kernel_rfl) rfl (fun K hK => ?_)
    replace hK := Lib.hid hK
    go_simp
    refine hK.out _ _ (.inl (by kernel_rfl)) ?_
    clear hK K
    (try simp only [Act.put, List.setIfInBounds_toArray, List.set_cons_zero, List.set_cons_succ])
    refine anyP_done (by kernel_rfl) ?_ _
    refine NoPanic.normal ?_
    obtain ⟨w9, hw9⟩ : ∃ w9, w9 = w8.setCell ⟨t, 2, none⟩ (.slice a8 (nb + 1) c8) := ⟨_, rfl⟩
    have T9 := HB.out.1
    have K9 := HB.out.2
    rw [← hw9] at T9 K9 ⊢
    have HT9 := Lib.hid T9
    obtain ⟨nb9, hnb9⟩ : ∃ n, n = nb + 1 := ⟨_, rfl⟩
    have HL9 : Hid ((insAt T.buf i (k, v, rm)).length = nb9) := Lib.hid (by rw [hnb9]; exact Hl8.out)
    have hb9 : 0 < nb9 ∧ nb9 ≤ nb + 1 := by omega
    have HI9 : Hid (insAt T.buf i (k, v, rm) = ins T.buf (k, v, rm)) := HIe
    have H9s : Hid (Sd (insAt T.buf i (k, v, rm))) := Lib.hid (by rw [HI9.out]; exact Hbs.out.ins _)
    have HC9 : Hid (Ch w w9 col (rcol col a8 2)) := Lib.hid (((Ch.refl w col).fr0 HF2.out).trans (K9.ch (by omega)))
    clear hw9 T9 K9 hHeld y8 z8 HB HIe hnb9 hil HX7
    have q1 := HT9.out.blk.cell (i := 1) rfl
    have q2 := HT9.out.blk.cell (i := 2) rfl
    rw [HL9.out] at q2
    by_cases hM9 : M ≤ nb9
    · have hM9' : (M : Int) ≤ (nb9 : Int) := by omega
      have HM9 := Lib.hid hM9
      clear hM9
      go_wp2_with fail
      go_quiet (fail)
      have HTq := Lib.hid (HT9.out.fr0 ((Fr.refl F0 w9).drewN nq))
      have HCq := Lib.hid (HC9.out.fr0 ((Fr.refl F0 w9).drewN nq))
      go_wp2_with (go_at_call 61; refine (HSp.out _ _ _ HTq.out rfl (by dsimp only; rw [HL9.out]; have := Hnb.out; omega) (by dsimp only; rw [HL9.out]; omega) H9s.out).mono ?_; rintro r w10 ⟨rfl, col10, T10, a1, a2, a3, a4⟩; have H10 := Lib.hid (And.intro a1 (And.intro a2 (And.intro a3 a4))); clear a1 a2 a3 a4)
      go_ret
      refine ⟨rfl, col10, T10, H10.out.1, ?_, HCq.out.trans H10.out.2.2.2⟩
      rw [HU.out, if_pos (by rw [← HI9.out, HL9.out]; exact HM9.out), H10.out.2.1, H10.out.2.2.1]
      rw [HI9.out]
      rfl
    · have hM9' : ¬ (M : Int) ≤ (nb9 : Int) := by omega
      have HM9 := Lib.hid hM9
      clear hM9
      go_wp2_with fail
      go_quiet (fail)
      have HTq := Lib.hid (HT9.out.fr0 ((Fr.refl F0 w9).drewN nq))
      have HCq := Lib.hid (HC9.out.fr0 ((Fr.refl F0 w9).drewN nq))
      go_wp2_with fail
      go_ret
      refine ⟨rfl, _, _, HTq.out, ?_, HCq.out⟩
      rw [HU.out, if_neg (by rw [← HI9.out, HL9.out]; exact HM9.out), ← HI9.out]
      rfl
end Go.Proofs.Ytkmnnfflibamnaa
/- Buffer trees: small methods; all runs. -/
namespace Go.Proofs.Ytkmnnfflibamnaa
open Go.RowKit Go.Shelf
section
attribute [local go_sem ↓] Go.wp_at_zero Go.wp_at_succ
abbrev enb (k v : Int) (r : Bool) : Value := .agg #[.int .i64 k, .int .i64 v, .bool r]
theorem Put_any {p : Option Addr} {k v z : Int} {w : World} {Q : World → Prop} (H : Calls Try.prog 35 #[.pointer p, enb k v false] w fun e w' => e = .returned (.int .i64 z) ∧ Q w') :
    Calls Try.prog 14 #[.pointer p, .int .i64 k, .int .i64 v] w fun e w' => e = .returned (.int .i64 z) ∧ Q w' := by
  have HH := Lib.hid H
  clear H
  go_enter Try.func14, Try.ntmps14
  go_wp2_with (go_at_call 35; refine HH.out.mono ?_; rintro e w1 ⟨rfl, hq⟩; replace hq := Lib.hid hq)
  go_ret
  exact ⟨rfl, hq.out⟩
theorem Remove_any {p : Option Addr} {k z : Int} {w : World} {Q : World → Prop} (H : Calls Try.prog 35 #[.pointer p, enb k 0 true] w fun e w' => e = .returned (.int .i64 z) ∧ Q w') :
    Calls Try.prog 13 #[.pointer p, .int .i64 k] w fun e w' => e = .returned (.int .i64 z) ∧ Q w' := by
  have HH := Lib.hid H
  clear H
  go_enter Try.func13, Try.ntmps13
  go_wp2_with (go_at_call 35; refine HH.out.mono ?_; rintro e w1 ⟨rfl, hq⟩; replace hq := Lib.hid hq)
  go_ret
  exact ⟨rfl, hq.out⟩
theorem Blocks_nil (w : World) : Calls Try.prog 15 #[.pointer none] w fun e w' => e = .returned (.int .i64 0) ∧ w = w' := by
  go_enter Try.func15, Try.ntmps15
  go_wp2_with fail
  go_ret
  exact ⟨rfl, rfl⟩
theorem Buffered_nil (w : World) : Calls Try.prog 31 #[.pointer none] w fun e w' => e = .returned (.int .i64 0) ∧ w = w' := by
  go_enter Try.func31, Try.ntmps31
  go_wp2_with fail
  go_ret
  exact ⟨rfl, rfl⟩
theorem Height_nil (w : World) : Calls Try.prog 32 #[.pointer none] w fun e w' => e = .returned (.int .i64 0) ∧ w = w' := by
  go_enter Try.func32, Try.ntmps32
  go_wp2_with fail
  go_ret
  exact ⟨rfl, rfl⟩
variable {w : World} {col : Nat → Nat} {t B M : Nat} {T : TV}
theorem Blocks_any (h : TS w col t B M T) : Calls Try.prog 15 #[.pointer (some ⟨t, 0, none⟩)] w fun e w' => e = .returned (.int .i64 (T.mv : Int)) ∧ w = w' := by
  have y := h.blk.cell (i := 4) rfl
  clear h
  go_enter Try.func15, Try.ntmps15
  go_wp2_with fail
  go_ret
  exact ⟨rfl, rfl⟩
theorem Buffered_any (h : TS w col t B M T) : Calls Try.prog 31 #[.pointer (some ⟨t, 0, none⟩)] w fun e w' => e = .returned (.int .i64 (T.buf.length : Int)) ∧ w = w' := by
  have y := h.blk.cell (i := 2) rfl
  clear h
  go_enter Try.func31, Try.ntmps31
  go_wp2_with fail
  go_ret
  exact ⟨rfl, rfl⟩
/-- k is the height. -/
def IsH (lv : Lv) (k : Nat) : Prop := k ≤ lv.length ∧ (∀ i, k ≤ i → (lv.getD i []).length = 0) ∧ (k = 0 ∨ 0 < (lv.getD (k - 1) []).length)
theorem Height_any (h : TS w col t B M T) (hl : T.lv.length ≤ 100000) : Calls Try.prog 32 #[.pointer (some ⟨t, 0, none⟩)] w fun e w' => ∃ k : Nat, e = .returned (.int .i64 (k : Int)) ∧ IsH (lvT T.lv) k ∧ w = w' := by
  have y3 := h.blk.cell (i := 3) rfl
  have HT := Lib.hid h
  obtain ⟨n, hn⟩ : ∃ n, n = T.lv.length := ⟨_, rfl⟩
  rw [← hn] at y3 hl
  have Hn := Lib.hid hn
  clear h hn
  go_enter Try.func32, Try.ntmps32
  go_wp2_with fail
  go_loop [3] (fun s3 => ∃ i : Nat, i ≤ n ∧ s3 = .int .i64 (i : Int) ∧ Hid (∀ j, i ≤ j → ((lvT T.lv).getD j []).length = 0)) (fun s3 => (intOf s3).toNat)
  case atStart => exact ⟨n, Nat.le_refl _, rfl, Lib.hid (fun j hj => by rw [List.getD_eq_getElem?_getD, List.getElem?_eq_none (by rw [lvT_len, ← Hn.out]; exact hj)]; rfl)⟩
  case round =>
    obtain ⟨i, hi, rfl, H⟩ := hrel
    by_cases h0 : 0 < i
    · obtain ⟨m, rfl⟩ : ∃ m, i = m + 1 := ⟨i - 1, by omega⟩
      have h0' : (0 : Int) < (m : Int) + 1 := by omega
      obtain ⟨L, hL⟩ : ∃ L, T.lv[m]? = some L := ⟨_, List.getElem?_eq_getElem (by have := Hn.out; omega)⟩
      obtain ⟨g, hg, d0, _, _⟩ := HT.out.at hL
      have hat := lvT_at hL
      have hq : ((lvT T.lv).getD m []).length = L.rv.length := by rw [hat, ls_len]
      obtain ⟨q, hqd⟩ : ∃ q, q = L.rv.length := ⟨_, rfl⟩
      rw [← hqd] at d0 hq
      have Hq := Lib.hid hq
      rw [hg] at y3
      clear hL hat hq hqd hg
      by_cases hz : 0 < q
      · have hz' : (0 : Int) < (q : Int) := by omega
        go_wp2_with fail
        go_ret
        exact ⟨m + 1, by simp, ⟨by rw [lvT_len, ← Hn.out]; exact hi, H.out, .inr (by rw [Nat.add_sub_cancel, Hq.out]; exact hz)⟩, rfl⟩
      · have hz' : ¬ (0 : Int) < (q : Int) := by omega
        go_wp2_with fail
        go_round
        case rel => exact ⟨m, by omega, by go_num, Lib.hid (fun j hj => by
          rcases Nat.lt_or_ge m j with c | c
          · exact H.out j c
          · have : j = m := by omega
            subst this
            rw [Hq.out]; omega)⟩
        case measure => simp [intOf]
    · obtain rfl : i = 0 := by omega
      go_wp2_with fail
      go_ret
      exact ⟨0, rfl, ⟨Nat.zero_le _, fun j _ => H.out j (Nat.zero_le _), .inl rfl⟩, rfl⟩
end
end Go.Proofs.Ytkmnnfflibamnaa
