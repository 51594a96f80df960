/- Buffer trees: List. -/
import Derived.Test.YtkmnnfflibamnaaG26
namespace Go.Proofs.Ytkmnnfflibamnaa
open Go.RowKit
attribute [local go_sem ↓] Go.wp_at_zero Go.wp_at_succ
def LF (t : Nat) (a5 : Option Addr) (n5 c5 : Nat) (g : Nat → Value) : Act := ⟨#[.pointer (some ⟨t, 0, none⟩), g 1, g 2, .slice none 0 0, g 4, g 5, g 6, g 7, g 8, g 9, g 10, g 11, g 12, g 13, g 14, g 15, .slice a5 n5 c5, .int .i64 (n5 : Int), .int .i64 0, g 19, g 20, g 21, g 22, g 23, g 24, g 25, g 26, g 27, g 28, g 29, g 30, g 31], []⟩
theorem E59 : ElemZ Try.prog 55 59 (.agg #[.int .i64 0, .int .i64 0]) 2 16 := ⟨by kernel_rfl, by kernel_rfl, rfl⟩
def pr2 (e : En) : List Value := [.int .i64 e.1, .int .i64 e.2.1]
def prs (l : List En) : List Value := l.flatMap pr2
theorem prs_app (l m : List En) : prs (l ++ m) = prs l ++ prs m := by unfold prs; rw [List.flatMap_append]
theorem prs_len : ∀ l : List En, (prs l).length = l.length * 2
  | [] => rfl
  | x :: l => by
    have := prs_len l
    unfold prs at this ⊢
    rw [List.flatMap_cons, List.length_append, this, List.length_cons]; show 2 + _ = _; omega
theorem len1_ge : ∀ {l : List (List En)}, (∀ r ∈ l, 0 < r.length) → l.length ≤ len1 l
  | [], _ => Nat.le_refl _
  | x :: l, h => by
    have h1 := h x (List.mem_cons_self ..)
    have h2 := len1_ge (l := l) (fun r hr => h r (List.mem_cons_of_mem _ hr))
    unfold len1 at *
    rw [List.map_cons, List.sum_cons, List.length_cons]; omega
theorem List_nil (w : World) : Calls Try.prog 27 #[.pointer none] w fun e w' => e = .returned (.slice none 0 0) ∧ w = w' := by
  go_enter Try.func27, Try.ntmps27
  go_wp2_with fail
  go_ret
  exact ⟨rfl, rfl⟩
set_option maxRecDepth 100000 in
set_option maxHeartbeats 4000000 in
theorem List_any {w : World} {col : Nat → Nat} {t B M k1 k2 k3 : Nat} {T : TV} (h : TS w col t B M T) (hP : PI T.tt k1 k2 k3) (hk1 : k1 + T.buf.length ≤ 200) (hk2 : k2 ≤ 1900) (hbs : Sd T.buf) :
    Calls Try.prog 27 #[.pointer (some ⟨t, 0, none⟩)] w fun e w' => ∃ a n c, e = .returned (.slice a n c) ∧ n = (listT (lvT T.lv) T.buf).length ∧ OwnZ w' w.heap.size 59 2 a n c (prs (listT (lvT T.lv) T.buf)) ∧ Fr F0 w w' := by
  have y2 := h.blk.cell (i := 2) rfl
  obtain ⟨nb, hnb⟩ : ∃ nb, nb = T.buf.length := ⟨_, rfl⟩
  rw [← hnb] at y2
  have Hnb := Lib.hid hnb
  have HT := Lib.hid h
  have HP := Lib.hid hP
  have Hbs := Lib.hid hbs
  have hL4 : (listT (lvT T.lv) T.buf).length ≤ 200 := by
    unfold listT
    refine Nat.le_trans (drp_len _) (Nat.le_trans (jn_len _) ?_)
    rw [len1_app, runsT_tot]
    have h1 : totT (lvT T.lv) ≤ k1 := hP.tot
    have h2 : len1 [T.buf] = T.buf.length := by unfold len1; simp
    omega
  have HRu := Lib.hid (fun W (F : Fr F0 w W) => runs_of (h.fr0 F) rfl hP (by omega))
  obtain ⟨LL, hLL⟩ : ∃ LL, LL = listT (lvT T.lv) T.buf := ⟨_, rfl⟩
  rw [← hLL] at hL4 ⊢
  have HLL := Lib.hid hLL
  -- the runs and the buffer are joined
  have HJ : Hid (∀ (W : World) (a9 : Option Addr) (n9 c9 : Nat) (R : List RV), R.length = n9 → ls R = runsT (lvT T.lv) → (∀ r ∈ R, RunOK W col r) → Fr F0 w W → Own W w.heap.size 74 a9 (n9 + 1) c9 (rvs R ++ [.slice T.ba nb T.bc]) → Calls Try.prog 55 #[.slice a9 (n9 + 1) c9, .bool false] W fun e w' => ∃ a' c', e = .returned (.slice a' LL.length c') ∧ OwnZ w' W.heap.size 80 3 a' LL.length c' (ents LL) ∧ Fr F0 W w') := Lib.hid (fun W a9 n9 c9 R hRl hRs hRo hF own => by
    have hsr := short_runs (l := runsT (lvT T.lv)) (k := 200) (fun r hr => by obtain ⟨l, hl, hr⟩ := runsT_mem hr; exact hP.ne l hl r hr) (by rw [runsT_tot]; have : totT (lvT T.lv) ≤ k1 := hP.tot; omega) (by omega)
    have hrn : (runsT (lvT T.lv)).length ≤ 200 := by
      have := runsT_len (lvT T.lv)
      have h2 := short_runs (l := runsT (lvT T.lv)) (k := 200) (fun r hr => by obtain ⟨l, hl, hr⟩ := runsT_mem hr; exact hP.ne l hl r hr) (by rw [runsT_tot]; have : totT (lvT T.lv) ≤ k1 := hP.tot; omega) (by omega)
      have h3 : (runsT (lvT T.lv)).length ≤ len1 (runsT (lvT T.lv)) := len1_ge (fun r hr => by obtain ⟨l, hl, hr⟩ := runsT_mem hr; exact hP.ne l hl r hr)
      rw [runsT_tot] at h3
      have : totT (lvT T.lv) ≤ k1 := hP.tot
      omega
    rw [← hRs, ls_len, hRl] at hrn
    have e1 : rvs R ++ [.slice T.ba nb T.bc] = rvs (R ++ [⟨T.buf, T.ba, T.bc⟩]) := by simp [RV.v, hnb]
    rw [e1] at own
    have e2 : LL = jres false (ls (R ++ [⟨T.buf, T.ba, T.bc⟩])) := by
      rw [hLL]; unfold listT jres
      rw [← hRs]; simp [ls]
    rw [e2]
    refine joined_any (R := 201) false own (fun r hr => ?_) (by omega) (by omega) (by have : (n9 + 1) * 201 ≤ 201 * 201 := Nat.mul_le_mul_right _ (by omega); omega)
    rcases List.mem_append.1 hr with hr | hr
    · have hm : r.l ∈ runsT (lvT T.lv) := by rw [← hRs]; exact List.mem_map_of_mem hr
      have := hsr.2.1 _ hm
      obtain ⟨l, hl, hr'⟩ := runsT_mem hm
      exact ⟨(hRo r hr).1, hP.sd l hl _ hr', by omega⟩
    · rw [List.mem_singleton] at hr
      subst hr
      exact ⟨(h.fr0 hF).bown.rd, hbs, by show T.buf.length ≤ 201; omega⟩)
  clear h hP hbs hnb hLL hk1
  go_enter Try.func27, Try.ntmps27
  go_wp2_with fail
  refine wp_step (R := fun a W => ∃ a5 c5, a = LF t a5 LL.length c5 (gOf a) ∧ OwnZ W w.heap.size 80 3 a5 LL.length c5 (ents LL) ∧ Fr F0 w W) ?_ ?_
  · obtain ⟨wd, hwd⟩ : ∃ wz, wz = w.drew := ⟨_, rfl⟩
    have Fd : Fr F0 w wd := by rw [hwd]; exact (Fr.refl _ _).drew
    have HX : Hid (∀ W, Fr F0 w W → W.cell? ⟨t, 2, none⟩ = some (.slice T.ba nb T.bc)) := Lib.hid (fun W F => F.cell y2 id)
    refine wp_region_last 6 (fun w' : World => w'.cell? ⟨t, 2, none⟩ = some (.slice T.ba nb T.bc)) (by kernel_rfl) ?_
    rw [← hwd]
    have hHeld := HX.out wd Fd
    have FFd := Lib.hid Fd
    clear hwd Fd y2
    refine anyP_takeF 0 (v := ?_) rfl (by kernel_rfl) (fun _ _ _ h => h) (Or.inl ⟨by rfl, ?_⟩) (.inr hHeld) ?_
    rotate_left 1
    · (intro w0 hSw; (try dsimp only at hSw); go_simp; (try (with_reducible rfl)))
    (try simp only [Act.put, List.setIfInBounds_toArray])
    refine anyP_takeF 2 (v := ?_) rfl (by kernel_rfl) (fun _ _ _ h => h) (Or.inl ⟨by rfl, ?_⟩) (.inr hHeld) ?_
    rotate_left 1
    · (intro w0 hSw; (try dsimp only at hSw); go_simp; (try (with_reducible rfl)))
    (try simp only [Act.put])
    refine anyP_takeF 3 (v := ?_) rfl (by kernel_rfl) (fun _ _ _ h => h) (Or.inl ⟨by rfl, ?_⟩) (.inr hHeld) ?_
    rotate_left 1
    · (intro w0 hSw; (try dsimp only at hSw); go_simp; (try (with_reducible rfl)))
    (try simp only [Act.put])
    refine anyP_takeF 4 (v := ?_) rfl (by kernel_rfl) (fun _ _ _ h => h) (Or.inl ⟨by rfl, ?_⟩) (.inr hHeld) ?_
    rotate_left 1
    · (intro w0 hSw; (try dsimp only at hSw); go_simp; (try (with_reducible rfl)))
    (try simp only [Act.put])
    refine anyP_take 5 (v := ?_) rfl rfl (by kernel_rfl) (fun _ _ _ h => h) (Or.inl ⟨by rfl, ?_⟩) hHeld ?_
    rotate_left 1
    · (intro w0 hSw; (try dsimp only at hSw); go_simp; (try (with_reducible rfl)))
    (try simp only [Act.put])
    refine anyP_takeF 10 (v := ?_) rfl (by kernel_rfl) (fun _ _ _ h => h) (Or.inl ⟨by rfl, ?_⟩) (.inr hHeld) ?_
    rotate_left 1
    · (intro w0 hSw; (try dsimp only at hSw); go_simp; (try (with_reducible rfl)))
    (try simp only [Act.put])
    refine anyP_more [1, 6] (by kernel_rfl) (by decide) ?_
    intro j hj
    simp only [List.mem_cons, List.not_mem_nil, or_false] at hj
    rcases hj with rfl | rfl
    · refine ⟨_, rfl, fun K hK => ?_⟩
      replace hK := Lib.hid hK
      go_simp
      refine (HRu.out _ FFd.out).mono ?_
      rintro e w2 ⟨a2, c2, n2, R, rfl, r1, r2, r3, r4, r5, pre9, hpre9⟩
      have FF2 := Lib.hid (FFd.out.trans0 r5)
      have HR := Lib.hid (And.intro r1 (And.intro r2 (And.intro r3 (And.intro (r4.mono FFd.out.size) r5))))
      refine hK.out _ _ (.inr (HX.out _ FF2.out)) ?_
      have hn2 : n2 ≤ 200000 := by have h1 := runsT_len (lvT T.lv); have h2 : (lvT T.lv).length + runsN (lvT T.lv) ≤ k2 := HP.out.len; have h3 : ls R = runsT (lvT T.lv) := r2; rw [← h3, ls_len, r1] at h1; omega
      have HRk := Lib.hid (fun r (hr : r ∈ R) => HT.out.runOK (pre := pre9) (by rw [← hpre9]; exact hr))
      clear hK K r1 r2 r3 r4 r5 hpre9
      (try simp only [Act.put, List.setIfInBounds_toArray, List.set_cons_zero, List.set_cons_succ])
      refine anyP_one 6 (by kernel_rfl) rfl (fun K hK => ?_)
      replace hK := Lib.hid hK
      go_simp
      refine hK.out _ _ (.inr (HX.out _ (FF2.out.alloc _))) ?_
      clear hK K
      (try simp only [Act.put, List.setIfInBounds_toArray, List.set_cons_zero, List.set_cons_succ])
      have lit := Lib.hid (Own.rd (Own.lit (w := w2) (B := 0) (T := 74) [.slice T.ba nb T.bc] 1 rfl (Nat.zero_le _) (by omega)))
      have own3 := Lib.hid (HR.out.2.2.2.1.alloc (.cells [.slice T.ba nb T.bc].toArray 74))
      have FF3 := Lib.hid (FF2.out.alloc (.cells [.slice T.ba nb T.bc].toArray 74))
      obtain ⟨w3, hw3⟩ : ∃ W, W = w2.alloc (.cells [.slice T.ba nb T.bc].toArray 74) := ⟨_, rfl⟩
      obtain ⟨g8, hg8⟩ : ∃ g, g = w2.heap.size := ⟨_, rfl⟩
      change anyP _ _ _ _ _ _ _ _ _ (w2.alloc (.cells [.slice T.ba nb T.bc].toArray 74))
      rw [← hw3] at lit own3 FF3 ⊢
      rw [← hg8] at lit ⊢
      clear hw3 hg8
      refine anyP_one 7 (by kernel_rfl) rfl (fun K hK => ?_)
      replace hK := Lib.hid hK
      refine stepAppRd E74 (by rfl) (by rfl) (by rfl) (by rfl) own3.out lit.out (fun u hu => by simp at hu; subst hu; rfl) (by omega) (by omega) FF3.out.size (n2 + 1) rfl ?_
      intro a9 c9 w9 own9 fr9 at9
      have F9 : Fr F0 w w9 := FF3.out.trans fr9 (fun k hk h => by have := (Own.blk own3.out k h).1; omega)
      have HC := Lib.hid (HJ.out w9 a9 n2 c9 R HR.out.1 HR.out.2.1 (fun r hr => (HRk.out r hr).fr F9 (fun _ _ h => h.elim) (fun _ _ h => h)) F9 own9)
      have FF9 := Lib.hid F9
      refine hK.out _ _ (.inr (HX.out _ F9)) ?_
      clear hK K own9 fr9 at9 F9
      (try simp only [Act.put, List.setIfInBounds_toArray])
      have hHeld := HX.out _ FF9.out
      refine anyP_one 8 (by kernel_rfl) rfl (fun K hK => ?_)
      replace hK := Lib.hid hK
      go_simp
      refine HC.out.mono ?_
      rintro e w10 ⟨a10, c10, rfl, own10, F10⟩
      have H10 := Lib.hid (And.intro (own10.mono FF9.out.size) (FF9.out.trans0 F10))
      refine hK.out _ _ (.inr (HX.out _ (FF9.out.trans0 F10))) ?_
      clear hK K
      (try simp only [Act.put, List.setIfInBounds_toArray, List.set_cons_zero, List.set_cons_succ])
      have hHeld := HX.out _ H10.out.2
      clear own10 F10
      refine anyP_one 9 (by kernel_rfl) rfl (fun K hK => ?_)
      replace hK := Lib.hid hK
      go_simp
      refine hK.out _ _ (.inl (by kernel_rfl)) ?_
      clear hK K
      (try simp only [Act.put, List.setIfInBounds_toArray, List.set_cons_zero, List.set_cons_succ])
      refine anyP_done (by kernel_rfl) ?_ _
      refine NoPanic.normal ?_
      exact ⟨_, _, rfl, H10.out.1, H10.out.2⟩
    · refine ⟨_, rfl, fun K hK => ?_⟩
      replace hK := Lib.hid hK
      go_simp
      refine hK.out _ _ (.inr (HX.out _ (FFd.out.alloc _))) ?_
      clear hK K
      (try simp only [Act.put, List.setIfInBounds_toArray, List.set_cons_zero, List.set_cons_succ])
      have lit0 := Lib.hid (Own.rd (Own.lit (w := wd) (B := 0) (T := 74) [.slice T.ba nb T.bc] 1 rfl (Nat.zero_le _) (by omega)))
      have FF1 := Lib.hid (FFd.out.alloc (.cells [.slice T.ba nb T.bc].toArray 74))
      obtain ⟨w1, hw1⟩ : ∃ W, W = wd.alloc (.cells [.slice T.ba nb T.bc].toArray 74) := ⟨_, rfl⟩
      obtain ⟨g8, hg8⟩ : ∃ g, g = wd.heap.size := ⟨_, rfl⟩
      change anyP _ _ _ _ _ _ _ _ _ (wd.alloc (.cells [.slice T.ba nb T.bc].toArray 74))
      rw [← hw1] at lit0 FF1 ⊢
      rw [← hg8] at lit0 ⊢
      clear hw1 hg8
      refine anyP_one 1 (by kernel_rfl) rfl (fun K hK => ?_)
      replace hK := Lib.hid hK
      go_simp
      refine (HRu.out _ FF1.out).mono ?_
      rintro e w2 ⟨a2, c2, n2, R, rfl, r1, r2, r3, r4, r5, pre9, hpre9⟩
      have FF2 := Lib.hid (FF1.out.trans0 r5)
      have HR := Lib.hid (And.intro r1 (And.intro r2 (And.intro r3 (And.intro (r4.mono FF1.out.size) r5))))
      refine hK.out _ _ (.inr (HX.out _ FF2.out)) ?_
      have hn2 : n2 ≤ 200000 := by have h1 := runsT_len (lvT T.lv); have h2 : (lvT T.lv).length + runsN (lvT T.lv) ≤ k2 := HP.out.len; have h3 : ls R = runsT (lvT T.lv) := r2; rw [← h3, ls_len, r1] at h1; omega
      have HRk := Lib.hid (fun r (hr : r ∈ R) => HT.out.runOK (pre := pre9) (by rw [← hpre9]; exact hr))
      clear hK K r1 r2 r3 r4 r5 hpre9
      (try simp only [Act.put, List.setIfInBounds_toArray, List.set_cons_zero, List.set_cons_succ])
      have lit := Lib.hid (lit0.out.fr0 HR.out.2.2.2.2)
      refine anyP_one 7 (by kernel_rfl) rfl (fun K hK => ?_)
      replace hK := Lib.hid hK
      refine stepAppRd E74 (by rfl) (by rfl) (by rfl) (by rfl) HR.out.2.2.2.1 lit.out (fun u hu => by simp at hu; subst hu; rfl) (by omega) (by omega) FF2.out.size (n2 + 1) rfl ?_
      intro a9 c9 w9 own9 fr9 at9
      have F9 : Fr F0 w w9 := FF2.out.trans fr9 (fun k hk h => by have := (Own.blk HR.out.2.2.2.1 k h).1; omega)
      have HC := Lib.hid (HJ.out w9 a9 n2 c9 R HR.out.1 HR.out.2.1 (fun r hr => (HRk.out r hr).fr F9 (fun _ _ h => h.elim) (fun _ _ h => h)) F9 own9)
      have FF9 := Lib.hid F9
      refine hK.out _ _ (.inr (HX.out _ F9)) ?_
      clear hK K own9 fr9 at9 F9
      (try simp only [Act.put, List.setIfInBounds_toArray])
      have hHeld := HX.out _ FF9.out
      refine anyP_one 8 (by kernel_rfl) rfl (fun K hK => ?_)
      replace hK := Lib.hid hK
      go_simp
      refine HC.out.mono ?_
      rintro e w10 ⟨a10, c10, rfl, own10, F10⟩
      have H10 := Lib.hid (And.intro (own10.mono FF9.out.size) (FF9.out.trans0 F10))
      refine hK.out _ _ (.inr (HX.out _ (FF9.out.trans0 F10))) ?_
      clear hK K
      (try simp only [Act.put, List.setIfInBounds_toArray, List.set_cons_zero, List.set_cons_succ])
      have hHeld := HX.out _ H10.out.2
      clear own10 F10
      refine anyP_one 9 (by kernel_rfl) rfl (fun K hK => ?_)
      replace hK := Lib.hid hK
      go_simp
      refine hK.out _ _ (.inl (by kernel_rfl)) ?_
      clear hK K
      (try simp only [Act.put, List.setIfInBounds_toArray, List.set_cons_zero, List.set_cons_succ])
      refine anyP_done (by kernel_rfl) ?_ _
      refine NoPanic.normal ?_
      exact ⟨_, _, rfl, H10.out.1, H10.out.2⟩
  · rintro a W ⟨a5, c5, ha, ho, hf⟩
    rw [ha]
    clear ha
    generalize gOf a = g
    unfold LF
    obtain ⟨n, hn⟩ : ∃ n, n = LL.length := ⟨_, rfl⟩
    rw [← hn] at ho hL4
    have HO := Lib.hid (And.intro ho hf)
    have Hn := Lib.hid hn
    rw [← hn]
    have hsW := hf.size
    clear ho hf hn HRu HJ y2
    go_wp2_with fail
    go_loopw [3, 18] (fun s3 s18 wr => ∃ (i : Nat) (a' : Option Addr) (c' : Nat), i ≤ n ∧ s18 = .int .i64 (i : Int) ∧ s3 = .slice a' i c' ∧ Hid (OwnZ wr W.heap.size 59 2 a' i c' (prs (LL.take i)) ∧ Fr F0 W wr)) (fun _ s18 _ => n - (intOf s18).toNat)
    case atStart => exact ⟨0, none, 0, Nat.zero_le _, rfl, rfl, Lib.hid ⟨OwnZ.nil _ _ _ _, Fr.refl _ _⟩⟩
    case round =>
      obtain ⟨i, a', c', hi, rfl, rfl, H⟩ := hrel
      by_cases hlt : i < n
      · have hlt' : (i : Int) < (n : Int) := by omega
        obtain ⟨x, hx⟩ : ∃ x, LL[i]? = some x := ⟨_, List.getElem?_eq_getElem (by have := Hn.out; omega)⟩
        obtain ⟨b, o, rfl, d0, d1, d2⟩ := (HO.out.1.rd.fr0 H.out.2).ent hx
        have htk : prs (LL.take (i + 1)) = prs (LL.take i) ++ pr2 x := by
          rw [List.take_add_one, hx, prs_app]; rfl
        obtain ⟨x1, x2, x3⟩ := x
        dsimp only at d0 d1 d2 htk
        have HTk := Lib.hid htk
        have F1 : Fr F0 wr (wr.alloc (.cells #[.int .i64 x1, .int .i64 x2, .bool x3] 80)) := (Fr.refl _ _).alloc _
        have hbx : Blk (wr.alloc (.cells #[.int .i64 x1, .int .i64 x2, .bool x3] 80)) wr.heap.size 80 (en3 (x1, x2, x3)) := Blk.new wr 80 (en3 (x1, x2, x3))
        have z0 := hbx.cell (i := 0) rfl
        have z1 := hbx.cell (i := 1) rfl
        dsimp only at z0 z1
        have HF1 := Lib.hid F1
        clear hx htk hbx F1
        go_wp2_with (at_builtin; refine wpAppZAt E59 (by omega) (H.out.1.fr0 HF1.out) (us := [.int .i64 x1, .int .i64 x2]) rfl (fun u hu => by simp at hu; rcases hu with rfl | rfl <;> rfl) (by omega) (by omega) (Nat.le_trans H.out.2.size HF1.out.size) (by rfl) (by rw [size_alloc]; rfl) ?_; intro a9 c9 w9 own9 fr9 at9; have H9 := Lib.hid (And.intro own9 ((H.out.2.trans0 HF1.out).trans fr9 (fun k hk hs => by have := (OwnZ.blk (H.out.1.fr0 HF1.out) k hs).1; omega))); clear own9 fr9 at9)
        go_roundw
        case rel => exact ⟨i + 1, a9, c9, by omega, by go_num, rfl, Lib.hid ⟨by rw [HTk.out]; exact H9.out.1, H9.out.2⟩⟩
        case measure => simp [intOf]; omega
      · obtain rfl : n = i := by omega
        go_wp2_with fail
        go_ret
        have h1 := H.out.1
        rw [List.take_of_length_le (by rw [Hn.out]; exact Nat.le_refl _)] at h1
        exact ⟨a', _, c', rfl, Hn.out, h1.mono hsW, HO.out.2.trans0 H.out.2⟩
end Go.Proofs.Ytkmnnfflibamnaa
