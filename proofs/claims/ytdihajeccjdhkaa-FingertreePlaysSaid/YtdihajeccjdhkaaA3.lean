/- A node between two trees. -/
import Derived.Test.YtdihajeccjdhkaaA2
namespace Go.Proofs.Ytdihajeccjdhkaa
open Go.RowKit
attribute [local go_sem ↓] Go.wp_at_zero Go.wp_at_succ
/-- A tree was made. -/
def MkPost (t : Tr) (w : World) (e : Ending) (w' : World) : Prop := ∃ p, e = .returned (.pointer p) ∧ TM w' t p ∧ Fr F0 w w'
theorem wI2 {x : Int} (h0 : -9223372036854775808 ≤ x) (h1 : x ≤ 9223372036854775807) : IntKind.i64.wrap x = x := IntWalk.i64_in _ (by omega)
theorem TM.shape {w : World} {t : Tr} {p : Option Addr} (h : TM w t p) : (t.isNil = true ∧ p = none) ∨ (t.isNil = false ∧ ∃ b, p = some ⟨b, 0, none⟩ ∧ b < w.heap.size ∧ w.cell? ⟨b, 6, none⟩ = some (.int .i64 t.best)) := by
  cases t with
  | nil => exact .inl ⟨rfl, h⟩
  | nd l x r =>
    obtain ⟨b, pl, pr, h1, h2, _, _⟩ := h
    have c := h2.cell (i := 6) rfl
    exact .inr ⟨rfl, b, h1, World.block_lt_of_cell? _ _ c, c⟩
/-- What a new node shows. -/
theorem TM.mk {w W : World} {l r : Tr} {pl pr : Option Addr} {x : Int} {vs : List Value} (hl : TM w l pl) (hr : TM w r pr) (f : Fr F0 w W) (hB : Blk W w.heap.size 70 vs) (e : vs = ndV l x r pl pr) : TM W (.nd l x r) (some ⟨w.heap.size, 0, none⟩) :=
  ⟨w.heap.size, pl, pr, rfl, ⟨⟨_, _, hB⟩, fun i u hu => hB.cell (by rw [e]; exact hu)⟩, hl.fr0 f, hr.fr0 f⟩
set_option maxHeartbeats 4000000 in
theorem build_any {l r : Tr} {pl pr : Option Addr} (x : Int) {w : World} (hl : TM w l pl) (hr : TM w r pr) (hf : Fit (.nd l x r)) :
    Calls Try.prog 56 #[.pointer pl, .int .i64 x, .pointer pr] w (MkPost (.nd l x r) w) := by
  obtain ⟨fl, ⟨hx1, hx2⟩, fr⟩ := hf.nd
  have hsz := hf.len
  rw [Tr.len_nd] at hsz
  obtain ⟨s1, s2⟩ := fl.sumB
  obtain ⟨s3, s4⟩ := fr.sumB
  obtain ⟨b1, b2⟩ := fl.bestB
  obtain ⟨b3, b4⟩ := fr.bestB
  have sl := hl.shape
  have sr := hr.shape
  have h1 := Tr.ht_le_len l
  have h2 := Tr.ht_le_len r
  have cl := Lib.hid (fun (w' : World) (f : Fr F0 w w') => len_any (hl.fr0 f))
  have cr := Lib.hid (fun (w' : World) (f : Fr F0 w w') => len_any (hr.fr0 f))
  have hcl := Lib.hid (fun (w' : World) (f : Fr F0 w w') => height_any (hl.fr0 f))
  have hcr := Lib.hid (fun (w' : World) (f : Fr F0 w w') => height_any (hr.fr0 f))
  have tcl := Lib.hid (fun (w' : World) (f : Fr F0 w w') => total_any (hl.fr0 f))
  have tcr := Lib.hid (fun (w' : World) (f : Fr F0 w w') => total_any (hr.fr0 f))
  obtain ⟨nl, hnl⟩ : ∃ n, n = l.len := ⟨_, rfl⟩
  obtain ⟨nr, hnr⟩ : ∃ n, n = r.len := ⟨_, rfl⟩
  obtain ⟨dl, hdl⟩ : ∃ n, n = l.ht := ⟨_, rfl⟩
  obtain ⟨dr, hdr⟩ : ∃ n, n = r.ht := ⟨_, rfl⟩
  obtain ⟨tl, htl⟩ : ∃ n, n = l.sum := ⟨_, rfl⟩
  obtain ⟨tr, htr⟩ : ∃ n, n = r.sum := ⟨_, rfl⟩
  obtain ⟨bl, hbl⟩ : ∃ n, n = l.best := ⟨_, rfl⟩
  obtain ⟨br, hbr⟩ : ∃ n, n = r.best := ⟨_, rfl⟩
  rw [← hnl] at hsz h1 cl
  rw [← hnr] at hsz h2 cr
  rw [← hdl] at h1 hcl
  rw [← hdr] at h2 hcr
  rw [← htl] at s1 s2 tcl
  rw [← htr] at s3 s4 tcr
  rw [← hbl] at b1 b2 sl
  rw [← hbr] at b3 b4 sr
  obtain ⟨dm, hdm⟩ : ∃ m, m = max dl dr := ⟨_, rfl⟩
  have hmx : max (dl : Int) (dr : Int) = (dm : Int) := by omega
  have hdm2 : dm ≤ 100000 := by omega
  have E3 : (Tr.nd l x r).len = nl + 1 + nr := by rw [Tr.len_nd, hnl, hnr]
  have E4 : (Tr.nd l x r).ht = 1 + dm := by rw [hdm, hdl, hdr]; rfl
  have E5 : (Tr.nd l x r).sum = tl + x + tr := by rw [Tr.sum_nd, htl, htr]
  have E6 := Tr.best_nd l x r
  rw [← htl, ← hbl, ← hbr] at E6
  have He := Lib.hid (And.intro E3 (And.intro E4 (And.intro E5 E6)))
  have Hl := Lib.hid hl
  have Hr := Lib.hid hr
  clear hnl hnr hdl hdr htl htr hbl hbr hdm E3 E4 E5 E6 fl fr hf
  go_enter Try.func56, Try.ntmps56
  go_wp2_with fail
  refine (cl.out w (Fr.refl _ _)).mono ?_; rintro e w1 ⟨rfl, rfl⟩
  go_wp2_with fail
  refine (cr.out w (Fr.refl _ _)).mono ?_; rintro e w1 ⟨rfl, rfl⟩
  go_wp2_with fail
  refine (hcl.out w (Fr.refl _ _)).mono ?_; rintro e w1 ⟨rfl, rfl⟩
  go_wp2_with fail
  refine (hcr.out w (Fr.refl _ _)).mono ?_; rintro e w1 ⟨rfl, rfl⟩
  go_wp2_with fail
  refine (tcl.out w (Fr.refl _ _)).mono ?_; rintro e w1 ⟨rfl, rfl⟩
  go_wp2_with fail
  refine (tcr.out w (Fr.refl _ _)).mono ?_; rintro e w1 ⟨rfl, rfl⟩
  go_wp2_with fail
  have A1 : Fr F0 w (w.alloc (.cells #[.pointer pl, .pointer pr, .int .i64 x, .int .i64 ((nl : Int) + 1 + nr), .int .i64 (1 + (dm : Int)), .int .i64 (tl + x + tr), .int .i64 0] 70)) := (Fr.refl _ _).alloc _
  refine (tcl.out _ A1).mono ?_; rintro e w1 ⟨rfl, rfl⟩
  have B1 := Blk.new w 70 [.pointer pl, .pointer pr, .int .i64 x, .int .i64 ((nl : Int) + 1 + nr), .int .i64 (1 + (dm : Int)), .int .i64 (tl + x + tr), .int .i64 0]
  have B2 := Blk.new w 70 [.pointer pl, .pointer pr, .int .i64 x, .int .i64 ((nl : Int) + 1 + nr), .int .i64 (1 + (dm : Int)), .int .i64 (tl + x + tr), .int .i64 (tl + x)]
  have k6 := B1.cell (i := 6) rfl
  have f6 := B1.free 6
  have k6' := B2.cell (i := 6) rfl
  have f6' := B2.free 6
  have HB2 := Lib.hid B2
  clear B1 B2 A1
  rcases sl with ⟨nl1, rfl⟩ | ⟨nl1, bL, rfl, hbL, cL⟩
  · rcases sr with ⟨nr1, rfl⟩ | ⟨nr1, bR, rfl, hbR, cR⟩
    · go_wp2_with fail
      go_ret
      refine ⟨_, rfl, TM.mk Hl.out Hr.out ((Fr.refl _ _).alloc _) HB2.out ?_, (Fr.refl _ _).alloc _⟩
      obtain ⟨e3, e4, e5, e6⟩ := He.out
      unfold ndV
      rw [e3, e4, e5, e6, nl1, nr1]
      simp
    · have FW0 : Fr F0 w (w.alloc (.cells #[.pointer none, .pointer (some ⟨bR, 0, none⟩), .int .i64 x, .int .i64 ((nl : Int) + 1 + nr), .int .i64 (1 + (dm : Int)), .int .i64 (tl + x + tr), .int .i64 (tl + x)] 70)) := (Fr.refl _ _).alloc _
      go_wp2_with fail
      clear k6 f6 k6' f6'
      have HB := HB2
      obtain ⟨bN, hbN⟩ : ∃ b, b = w.heap.size := ⟨_, rfl⟩
      rw [← hbN] at HB
      rw [← hbN]
      replace hbN := Lib.hid hbN
      generalize (w.alloc (.cells #[.pointer none, .pointer (some ⟨bR, 0, none⟩), .int .i64 x, .int .i64 ((nl : Int) + 1 + nr), .int .i64 (1 + (dm : Int)), .int .i64 (tl + x + tr), .int .i64 (tl + x)] 70)) = W at *
      clear HB2
      have FWW := FW0
      have t1 : IntKind.i64.wrap (tl + x) = tl + x := wI2 (by omega) (by omega)
      have t2 : IntKind.i64.wrap (tl + x + br) = tl + x + br := wI2 (by omega) (by omega)
      have cC := FW0.cell cR id
      have hHeld : (fun w' : World => w'.cell? ⟨bN, 6, none⟩ = some (.int .i64 (tl + x)) ∧ w'.cell? ⟨bR, 6, none⟩ = some (.int .i64 br)) W.drew := ⟨HB.out.cell (i := 6) rfl, cC⟩
      refine wp_region_last 17 (fun w' : World => w'.cell? ⟨bN, 6, none⟩ = some (.int .i64 (tl + x)) ∧ w'.cell? ⟨bR, 6, none⟩ = some (.int .i64 br)) (by kernel_rfl) ?_
      refine anyP_take 0 (v := ?_) rfl rfl (by kernel_rfl) (fun _ _ _ h => h) (Or.inl ⟨by rfl, ?_⟩) hHeld ?_
      rotate_left 1
      · (intro w0 hSw; (try dsimp only at hSw); go_simp; (try (with_reducible rfl)))
      try simp only [Act.put, List.setIfInBounds_toArray]
      refine anyP_take 1 (v := ?_) rfl rfl (by kernel_rfl) (fun _ _ _ h => h) (Or.inl ⟨by rfl, ?_⟩) hHeld ?_
      rotate_left 1
      · (intro w0 hSw; (try dsimp only at hSw); go_simp; (try (with_reducible rfl)))
      try simp only [Act.put]
      refine anyP_take 2 (v := ?_) rfl rfl (by kernel_rfl) (fun _ _ _ h => h) (Or.inl ⟨by rfl, ?_⟩) hHeld ?_
      rotate_left 1
      · (intro w0 hSw; (try dsimp only at hSw); go_simp; (try (with_reducible rfl)))
      try simp only [Act.put]
      refine anyP_take 3 (v := ?_) rfl rfl (by kernel_rfl) (fun _ _ _ h => h) (Or.inl ⟨by rfl, ?_⟩) hHeld ?_
      rotate_left 1
      · (intro w0 hSw; (try dsimp only at hSw); go_simp; (try (with_reducible rfl)))
      try simp only [Act.put]
      refine anyP_take 4 (v := ?_) rfl rfl (by kernel_rfl) (fun _ _ _ h => h) (Or.inl ⟨by rfl, ?_⟩) hHeld ?_
      rotate_left 1
      · (intro w0 hSw; (try dsimp only at hSw); go_simp; (try (with_reducible rfl)))
      try simp only [Act.put]
      refine anyP_take 5 (v := ?_) rfl rfl (by kernel_rfl) (fun _ _ _ h => h) (Or.inl ⟨by rfl, ?_⟩) hHeld ?_
      rotate_left 1
      · (intro w0 hSw; (try dsimp only at hSw); go_simp; (try (with_reducible rfl)))
      try simp only [Act.put]
      refine anyP_take 7 (v := ?_) rfl rfl (by kernel_rfl) (fun _ _ _ h => h) (Or.inl ⟨by rfl, ?_⟩) hHeld ?_
      rotate_left 1
      · (intro w0 hSw; (try dsimp only at hSw); go_simp; (try (with_reducible rfl)))
      try simp only [Act.put]
      refine anyP_take 9 (v := ?_) rfl rfl (by kernel_rfl) (fun _ _ _ h => h) (Or.inl ⟨by rfl, ?_⟩) hHeld ?_
      rotate_left 1
      · (intro w0 hSw; (try dsimp only at hSw); go_simp; (try (with_reducible rfl)))
      try simp only [Act.put]
      refine anyP_take 10 (v := ?_) rfl rfl (by kernel_rfl) (fun _ _ _ h => h) (Or.inl ⟨by rfl, ?_⟩) hHeld ?_
      rotate_left 1
      · (intro w0 hSw; (try dsimp only at hSw); go_simp; (try (with_reducible rfl)))
      try simp only [Act.put]
      refine anyP_take 11 (v := ?_) rfl rfl (by kernel_rfl) (fun _ _ _ h => h) (Or.inl ⟨by rfl, ?_⟩) hHeld ?_
      rotate_left 1
      · (intro w0 hSw; (try dsimp only at hSw); go_simp; (try (with_reducible rfl)))
      try simp only [Act.put]
      refine anyP_take 12 (v := ?_) rfl rfl (by kernel_rfl) (fun _ _ _ h => h) (Or.inl ⟨by rfl, ?_⟩) hHeld ?_
      rotate_left 1
      · (intro w0 hSw; (try dsimp only at hSw); go_simp; (try (with_reducible rfl)))
      try simp only [Act.put]
      refine anyP_one 6 (by kernel_rfl) rfl (fun K hK => ?_)
      replace hK := Lib.hid hK
      go_simp
      refine (tcl.out _ FWW.drew).mono ?_
      rintro e w1 ⟨rfl, rfl⟩
      go_simp
      refine hK.out _ _ (.inr hHeld) ?_
      clear hK K
      try simp only [Act.put, List.setIfInBounds_toArray, List.set_cons_zero, List.set_cons_succ]
      refine anyP_take 8 (v := ?_) rfl rfl (by kernel_rfl) (fun _ _ _ h => h) (Or.inl ⟨by rfl, ?_⟩) hHeld ?_
      rotate_left 1
      · (intro w0 hSw; (try dsimp only at hSw); go_simp; (try (with_reducible rfl)))
      try simp only [Act.put, List.setIfInBounds_toArray]
      refine anyP_take 13 (v := ?_) rfl rfl (by kernel_rfl) (fun _ _ _ h => h) (Or.inl ⟨by rfl, ?_⟩) hHeld ?_
      rotate_left 1
      · (intro w0 hSw; (try dsimp only at hSw); go_simp; (try (with_reducible rfl)))
      try simp only [Act.put]
      refine anyP_take 14 (v := ?_) rfl rfl (by kernel_rfl) (fun _ _ _ h => h) (Or.inl ⟨by rfl, ?_⟩) hHeld ?_
      rotate_left 1
      · (intro w0 hSw; (try dsimp only at hSw); go_simp; (try (with_reducible rfl)))
      try simp only [Act.put]
      refine anyP_one 15 (by kernel_rfl) rfl (fun K hK => ?_)
      replace hK := Lib.hid hK
      go_simp
      refine hK.out _ _ (.inr hHeld) ?_
      clear hK K
      try simp only [Act.put, List.setIfInBounds_toArray, List.set_cons_zero, List.set_cons_succ]
      refine anyP_one 16 (by kernel_rfl) rfl (fun K hK => ?_)
      replace hK := Lib.hid hK
      go_simp
      refine hK.out _ _ (.inr hHeld) ?_
      clear hK K
      try simp only [Act.put, List.setIfInBounds_toArray, List.set_cons_zero, List.set_cons_succ]
      refine anyP_one 17 (by kernel_rfl) rfl (fun K hK => ?_)
      replace hK := Lib.hid hK
      have hz1 := HB.out.cell (i := 6) rfl
      have hz2 := HB.out.free 6
      go_simp
      refine hK.out _ _ (.inl (by kernel_rfl)) ?_
      refine anyP_done (by kernel_rfl) ?_ _
      refine NoPanic.normal ?_
      clear hK K
      try simp only [Act.put, List.setIfInBounds_toArray, List.set_cons_zero, List.set_cons_succ]
      clear hz1 hz2 hHeld
      have HBn : Hid (Blk (W.setCell ⟨bN, 6, none⟩ (.int .i64 (max (tl + x) (tl + x + br)))).drew bN 70 ([.pointer none, .pointer (some ⟨bR, 0, none⟩), .int .i64 x, .int .i64 ((nl : Int) + 1 + nr), .int .i64 (1 + (dm : Int)), .int .i64 (tl + x + tr), .int .i64 (max (tl + x) (tl + x + br))])) := Lib.hid (by
        have h := HB.out.set 6 (.int .i64 (max (tl + x) (tl + x + br)))
        exact h)
      have FWn : Hid (Fr F0 w (W.setCell ⟨bN, 6, none⟩ (.int .i64 (max (tl + x) (tl + x + br)))).drew) := Lib.hid (Fr.setCell (p := ⟨bN, 6, none⟩) FWW (fun h => absurd (show bN < w.heap.size from h) (by have := hbN.out; omega)) _).drew
      go_wp2_with fail
      go_ret
      refine ⟨_, rfl, ?_, FWn.out⟩
      have hb := hbN.out
      clear hbN
      subst hb
      refine TM.mk Hl.out Hr.out FWn.out HBn.out ?_
      obtain ⟨e3, e4, e5, e6⟩ := He.out
      unfold ndV
      rw [e3, e4, e5, e6, nl1, nr1]
      simp
  · rcases sr with ⟨nr1, rfl⟩ | ⟨nr1, bR, rfl, hbR, cR⟩
    · have FW0 : Fr F0 w (w.alloc (.cells #[.pointer (some ⟨bL, 0, none⟩), .pointer none, .int .i64 x, .int .i64 ((nl : Int) + 1 + nr), .int .i64 (1 + (dm : Int)), .int .i64 (tl + x + tr), .int .i64 (tl + x)] 70)) := (Fr.refl _ _).alloc _
      go_wp2_with fail
      clear k6 f6 k6' f6'
      have HB := HB2
      obtain ⟨bN, hbN⟩ : ∃ b, b = w.heap.size := ⟨_, rfl⟩
      rw [← hbN] at HB
      rw [← hbN]
      replace hbN := Lib.hid hbN
      generalize (w.alloc (.cells #[.pointer (some ⟨bL, 0, none⟩), .pointer none, .int .i64 x, .int .i64 ((nl : Int) + 1 + nr), .int .i64 (1 + (dm : Int)), .int .i64 (tl + x + tr), .int .i64 (tl + x)] 70)) = W at *
      clear HB2
      have FWW := FW0
      have t1 : IntKind.i64.wrap (tl + x) = tl + x := wI2 (by omega) (by omega)
      have t2 : IntKind.i64.wrap (tl + x + br) = tl + x + br := wI2 (by omega) (by omega)
      have cC := FW0.cell cL id
      have hHeld : (fun w' : World => w'.cell? ⟨bN, 6, none⟩ = some (.int .i64 (tl + x)) ∧ w'.cell? ⟨bL, 6, none⟩ = some (.int .i64 bl)) W.drew := ⟨HB.out.cell (i := 6) rfl, cC⟩
      refine wp_region_last 12 (fun w' : World => w'.cell? ⟨bN, 6, none⟩ = some (.int .i64 (tl + x)) ∧ w'.cell? ⟨bL, 6, none⟩ = some (.int .i64 bl)) (by kernel_rfl) ?_
      refine anyP_take 0 (v := ?_) rfl rfl (by kernel_rfl) (fun _ _ _ h => h) (Or.inl ⟨by rfl, ?_⟩) hHeld ?_
      rotate_left 1
      · (intro w0 hSw; (try dsimp only at hSw); go_simp; (try (with_reducible rfl)))
      try simp only [Act.put, List.setIfInBounds_toArray]
      refine anyP_take 1 (v := ?_) rfl rfl (by kernel_rfl) (fun _ _ _ h => h) (Or.inl ⟨by rfl, ?_⟩) hHeld ?_
      rotate_left 1
      · (intro w0 hSw; (try dsimp only at hSw); go_simp; (try (with_reducible rfl)))
      try simp only [Act.put]
      refine anyP_take 2 (v := ?_) rfl rfl (by kernel_rfl) (fun _ _ _ h => h) (Or.inl ⟨by rfl, ?_⟩) hHeld ?_
      rotate_left 1
      · (intro w0 hSw; (try dsimp only at hSw); go_simp; (try (with_reducible rfl)))
      try simp only [Act.put]
      refine anyP_take 3 (v := ?_) rfl rfl (by kernel_rfl) (fun _ _ _ h => h) (Or.inl ⟨by rfl, ?_⟩) hHeld ?_
      rotate_left 1
      · (intro w0 hSw; (try dsimp only at hSw); go_simp; (try (with_reducible rfl)))
      try simp only [Act.put]
      refine anyP_take 4 (v := ?_) rfl rfl (by kernel_rfl) (fun _ _ _ h => h) (Or.inl ⟨by rfl, ?_⟩) hHeld ?_
      rotate_left 1
      · (intro w0 hSw; (try dsimp only at hSw); go_simp; (try (with_reducible rfl)))
      try simp only [Act.put]
      refine anyP_take 5 (v := ?_) rfl rfl (by kernel_rfl) (fun _ _ _ h => h) (Or.inl ⟨by rfl, ?_⟩) hHeld ?_
      rotate_left 1
      · (intro w0 hSw; (try dsimp only at hSw); go_simp; (try (with_reducible rfl)))
      try simp only [Act.put]
      refine anyP_take 6 (v := ?_) rfl rfl (by kernel_rfl) (fun _ _ _ h => h) (Or.inl ⟨by rfl, ?_⟩) hHeld ?_
      rotate_left 1
      · (intro w0 hSw; (try dsimp only at hSw); go_simp; (try (with_reducible rfl)))
      try simp only [Act.put]
      refine anyP_take 7 (v := ?_) rfl rfl (by kernel_rfl) (fun _ _ _ h => h) (Or.inl ⟨by rfl, ?_⟩) hHeld ?_
      rotate_left 1
      · (intro w0 hSw; (try dsimp only at hSw); go_simp; (try (with_reducible rfl)))
      try simp only [Act.put]
      refine anyP_take 8 (v := ?_) rfl rfl (by kernel_rfl) (fun _ _ _ h => h) (Or.inl ⟨by rfl, ?_⟩) hHeld ?_
      rotate_left 1
      · (intro w0 hSw; (try dsimp only at hSw); go_simp; (try (with_reducible rfl)))
      try simp only [Act.put]
      refine anyP_take 9 (v := ?_) rfl rfl (by kernel_rfl) (fun _ _ _ h => h) (Or.inl ⟨by rfl, ?_⟩) hHeld ?_
      rotate_left 1
      · (intro w0 hSw; (try dsimp only at hSw); go_simp; (try (with_reducible rfl)))
      try simp only [Act.put]
      refine anyP_one 10 (by kernel_rfl) rfl (fun K hK => ?_)
      replace hK := Lib.hid hK
      go_simp
      refine hK.out _ _ (.inr hHeld) ?_
      clear hK K
      try simp only [Act.put, List.setIfInBounds_toArray, List.set_cons_zero, List.set_cons_succ]
      refine anyP_one 11 (by kernel_rfl) rfl (fun K hK => ?_)
      replace hK := Lib.hid hK
      go_simp
      refine hK.out _ _ (.inr hHeld) ?_
      clear hK K
      try simp only [Act.put, List.setIfInBounds_toArray, List.set_cons_zero, List.set_cons_succ]
      refine anyP_one 12 (by kernel_rfl) rfl (fun K hK => ?_)
      replace hK := Lib.hid hK
      have hz1 := HB.out.cell (i := 6) rfl
      have hz2 := HB.out.free 6
      go_simp
      refine hK.out _ _ (.inl (by kernel_rfl)) ?_
      refine anyP_done (by kernel_rfl) ?_ _
      refine NoPanic.normal ?_
      clear hK K
      try simp only [Act.put, List.setIfInBounds_toArray, List.set_cons_zero, List.set_cons_succ]
      clear hz1 hz2 hHeld
      have HBn : Hid (Blk (W.setCell ⟨bN, 6, none⟩ (.int .i64 (max (tl + x) bl))).drew bN 70 ([.pointer (some ⟨bL, 0, none⟩), .pointer none, .int .i64 x, .int .i64 ((nl : Int) + 1 + nr), .int .i64 (1 + (dm : Int)), .int .i64 (tl + x + tr), .int .i64 (max (tl + x) bl)])) := Lib.hid (by
        have h := HB.out.set 6 (.int .i64 (max (tl + x) bl))
        exact h)
      have FWn : Hid (Fr F0 w (W.setCell ⟨bN, 6, none⟩ (.int .i64 (max (tl + x) bl))).drew) := Lib.hid (Fr.setCell (p := ⟨bN, 6, none⟩) FWW (fun h => absurd (show bN < w.heap.size from h) (by have := hbN.out; omega)) _).drew
      go_wp2_with fail
      go_ret
      refine ⟨_, rfl, ?_, FWn.out⟩
      have hb := hbN.out
      clear hbN
      subst hb
      refine TM.mk Hl.out Hr.out FWn.out HBn.out ?_
      obtain ⟨e3, e4, e5, e6⟩ := He.out
      unfold ndV
      rw [e3, e4, e5, e6, nl1, nr1]
      simp
    · have FW0 : Fr F0 w (w.alloc (.cells #[.pointer (some ⟨bL, 0, none⟩), .pointer (some ⟨bR, 0, none⟩), .int .i64 x, .int .i64 ((nl : Int) + 1 + nr), .int .i64 (1 + (dm : Int)), .int .i64 (tl + x + tr), .int .i64 (tl + x)] 70)) := (Fr.refl _ _).alloc _
      go_wp2_with fail
      clear k6 f6 k6' f6'
      have HB := HB2
      obtain ⟨bN, hbN⟩ : ∃ b, b = w.heap.size := ⟨_, rfl⟩
      rw [← hbN] at HB
      rw [← hbN]
      replace hbN := Lib.hid hbN
      generalize (w.alloc (.cells #[.pointer (some ⟨bL, 0, none⟩), .pointer (some ⟨bR, 0, none⟩), .int .i64 x, .int .i64 ((nl : Int) + 1 + nr), .int .i64 (1 + (dm : Int)), .int .i64 (tl + x + tr), .int .i64 (tl + x)] 70)) = W at *
      clear HB2
      have FWW := FW0
      have t1 : IntKind.i64.wrap (tl + x) = tl + x := wI2 (by omega) (by omega)
      have t2 : IntKind.i64.wrap (tl + x + br) = tl + x + br := wI2 (by omega) (by omega)
      have cC := FW0.cell cL id
      have hHeld : (fun w' : World => w'.cell? ⟨bN, 6, none⟩ = some (.int .i64 (tl + x)) ∧ w'.cell? ⟨bL, 6, none⟩ = some (.int .i64 bl)) W.drew := ⟨HB.out.cell (i := 6) rfl, cC⟩
      refine wp_region_last 12 (fun w' : World => w'.cell? ⟨bN, 6, none⟩ = some (.int .i64 (tl + x)) ∧ w'.cell? ⟨bL, 6, none⟩ = some (.int .i64 bl)) (by kernel_rfl) ?_
      refine anyP_take 0 (v := ?_) rfl rfl (by kernel_rfl) (fun _ _ _ h => h) (Or.inl ⟨by rfl, ?_⟩) hHeld ?_
      rotate_left 1
      · (intro w0 hSw; (try dsimp only at hSw); go_simp; (try (with_reducible rfl)))
      try simp only [Act.put, List.setIfInBounds_toArray]
      refine anyP_take 1 (v := ?_) rfl rfl (by kernel_rfl) (fun _ _ _ h => h) (Or.inl ⟨by rfl, ?_⟩) hHeld ?_
      rotate_left 1
      · (intro w0 hSw; (try dsimp only at hSw); go_simp; (try (with_reducible rfl)))
      try simp only [Act.put]
      refine anyP_take 2 (v := ?_) rfl rfl (by kernel_rfl) (fun _ _ _ h => h) (Or.inl ⟨by rfl, ?_⟩) hHeld ?_
      rotate_left 1
      · (intro w0 hSw; (try dsimp only at hSw); go_simp; (try (with_reducible rfl)))
      try simp only [Act.put]
      refine anyP_take 3 (v := ?_) rfl rfl (by kernel_rfl) (fun _ _ _ h => h) (Or.inl ⟨by rfl, ?_⟩) hHeld ?_
      rotate_left 1
      · (intro w0 hSw; (try dsimp only at hSw); go_simp; (try (with_reducible rfl)))
      try simp only [Act.put]
      refine anyP_take 4 (v := ?_) rfl rfl (by kernel_rfl) (fun _ _ _ h => h) (Or.inl ⟨by rfl, ?_⟩) hHeld ?_
      rotate_left 1
      · (intro w0 hSw; (try dsimp only at hSw); go_simp; (try (with_reducible rfl)))
      try simp only [Act.put]
      refine anyP_take 5 (v := ?_) rfl rfl (by kernel_rfl) (fun _ _ _ h => h) (Or.inl ⟨by rfl, ?_⟩) hHeld ?_
      rotate_left 1
      · (intro w0 hSw; (try dsimp only at hSw); go_simp; (try (with_reducible rfl)))
      try simp only [Act.put]
      refine anyP_take 6 (v := ?_) rfl rfl (by kernel_rfl) (fun _ _ _ h => h) (Or.inl ⟨by rfl, ?_⟩) hHeld ?_
      rotate_left 1
      · (intro w0 hSw; (try dsimp only at hSw); go_simp; (try (with_reducible rfl)))
      try simp only [Act.put]
      refine anyP_take 7 (v := ?_) rfl rfl (by kernel_rfl) (fun _ _ _ h => h) (Or.inl ⟨by rfl, ?_⟩) hHeld ?_
      rotate_left 1
      · (intro w0 hSw; (try dsimp only at hSw); go_simp; (try (with_reducible rfl)))
      try simp only [Act.put]
      refine anyP_take 8 (v := ?_) rfl rfl (by kernel_rfl) (fun _ _ _ h => h) (Or.inl ⟨by rfl, ?_⟩) hHeld ?_
      rotate_left 1
      · (intro w0 hSw; (try dsimp only at hSw); go_simp; (try (with_reducible rfl)))
      try simp only [Act.put]
      refine anyP_take 9 (v := ?_) rfl rfl (by kernel_rfl) (fun _ _ _ h => h) (Or.inl ⟨by rfl, ?_⟩) hHeld ?_
      rotate_left 1
      · (intro w0 hSw; (try dsimp only at hSw); go_simp; (try (with_reducible rfl)))
      try simp only [Act.put]
      refine anyP_one 10 (by kernel_rfl) rfl (fun K hK => ?_)
      replace hK := Lib.hid hK
      go_simp
      refine hK.out _ _ (.inr hHeld) ?_
      clear hK K
      try simp only [Act.put, List.setIfInBounds_toArray, List.set_cons_zero, List.set_cons_succ]
      refine anyP_one 11 (by kernel_rfl) rfl (fun K hK => ?_)
      replace hK := Lib.hid hK
      go_simp
      refine hK.out _ _ (.inr hHeld) ?_
      clear hK K
      try simp only [Act.put, List.setIfInBounds_toArray, List.set_cons_zero, List.set_cons_succ]
      refine anyP_one 12 (by kernel_rfl) rfl (fun K hK => ?_)
      replace hK := Lib.hid hK
      have hz1 := HB.out.cell (i := 6) rfl
      have hz2 := HB.out.free 6
      go_simp
      refine hK.out _ _ (.inl (by kernel_rfl)) ?_
      refine anyP_done (by kernel_rfl) ?_ _
      refine NoPanic.normal ?_
      clear hK K
      try simp only [Act.put, List.setIfInBounds_toArray, List.set_cons_zero, List.set_cons_succ]
      clear hz1 hz2 hHeld
      have HBn : Hid (Blk (W.setCell ⟨bN, 6, none⟩ (.int .i64 (max (tl + x) bl))).drew bN 70 ([.pointer (some ⟨bL, 0, none⟩), .pointer (some ⟨bR, 0, none⟩), .int .i64 x, .int .i64 ((nl : Int) + 1 + nr), .int .i64 (1 + (dm : Int)), .int .i64 (tl + x + tr), .int .i64 (max (tl + x) bl)])) := Lib.hid (by
        have h := HB.out.set 6 (.int .i64 (max (tl + x) bl))
        exact h)
      have FWn : Hid (Fr F0 w (W.setCell ⟨bN, 6, none⟩ (.int .i64 (max (tl + x) bl))).drew) := Lib.hid (Fr.setCell (p := ⟨bN, 6, none⟩) FWW (fun h => absurd (show bN < w.heap.size from h) (by have := hbN.out; omega)) _).drew
      go_wp2_with fail
      generalize hm2 : max (tl + x) bl = b1m at *
      replace hm2 := Lib.hid hm2
      generalize (W.setCell ⟨bN, 6, none⟩ (.int .i64 b1m)).drew = V at *
      have HB3 := HBn
      have FWW3 := FWn.out
      clear HB HBn FWn FWW cC
      have HB := HB3
      have FWW := FWW3
      clear HB3 FWW3
      have cC := FWW.cell cR id
      have hHeld : (fun w' : World => w'.cell? ⟨bN, 6, none⟩ = some (.int .i64 b1m) ∧ w'.cell? ⟨bR, 6, none⟩ = some (.int .i64 br)) V.drew := ⟨HB.out.cell (i := 6) rfl, cC⟩
      refine wp_region_last 17 (fun w' : World => w'.cell? ⟨bN, 6, none⟩ = some (.int .i64 b1m) ∧ w'.cell? ⟨bR, 6, none⟩ = some (.int .i64 br)) (by kernel_rfl) ?_
      refine anyP_take 0 (v := ?_) rfl rfl (by kernel_rfl) (fun _ _ _ h => h) (Or.inl ⟨by rfl, ?_⟩) hHeld ?_
      rotate_left 1
      · (intro w0 hSw; (try dsimp only at hSw); go_simp; (try (with_reducible rfl)))
      try simp only [Act.put, List.setIfInBounds_toArray]
      refine anyP_take 1 (v := ?_) rfl rfl (by kernel_rfl) (fun _ _ _ h => h) (Or.inl ⟨by rfl, ?_⟩) hHeld ?_
      rotate_left 1
      · (intro w0 hSw; (try dsimp only at hSw); go_simp; (try (with_reducible rfl)))
      try simp only [Act.put]
      refine anyP_take 2 (v := ?_) rfl rfl (by kernel_rfl) (fun _ _ _ h => h) (Or.inl ⟨by rfl, ?_⟩) hHeld ?_
      rotate_left 1
      · (intro w0 hSw; (try dsimp only at hSw); go_simp; (try (with_reducible rfl)))
      try simp only [Act.put]
      refine anyP_take 3 (v := ?_) rfl rfl (by kernel_rfl) (fun _ _ _ h => h) (Or.inl ⟨by rfl, ?_⟩) hHeld ?_
      rotate_left 1
      · (intro w0 hSw; (try dsimp only at hSw); go_simp; (try (with_reducible rfl)))
      try simp only [Act.put]
      refine anyP_take 4 (v := ?_) rfl rfl (by kernel_rfl) (fun _ _ _ h => h) (Or.inl ⟨by rfl, ?_⟩) hHeld ?_
      rotate_left 1
      · (intro w0 hSw; (try dsimp only at hSw); go_simp; (try (with_reducible rfl)))
      try simp only [Act.put]
      refine anyP_take 5 (v := ?_) rfl rfl (by kernel_rfl) (fun _ _ _ h => h) (Or.inl ⟨by rfl, ?_⟩) hHeld ?_
      rotate_left 1
      · (intro w0 hSw; (try dsimp only at hSw); go_simp; (try (with_reducible rfl)))
      try simp only [Act.put]
      refine anyP_take 7 (v := ?_) rfl rfl (by kernel_rfl) (fun _ _ _ h => h) (Or.inl ⟨by rfl, ?_⟩) hHeld ?_
      rotate_left 1
      · (intro w0 hSw; (try dsimp only at hSw); go_simp; (try (with_reducible rfl)))
      try simp only [Act.put]
      refine anyP_take 9 (v := ?_) rfl rfl (by kernel_rfl) (fun _ _ _ h => h) (Or.inl ⟨by rfl, ?_⟩) hHeld ?_
      rotate_left 1
      · (intro w0 hSw; (try dsimp only at hSw); go_simp; (try (with_reducible rfl)))
      try simp only [Act.put]
      refine anyP_take 10 (v := ?_) rfl rfl (by kernel_rfl) (fun _ _ _ h => h) (Or.inl ⟨by rfl, ?_⟩) hHeld ?_
      rotate_left 1
      · (intro w0 hSw; (try dsimp only at hSw); go_simp; (try (with_reducible rfl)))
      try simp only [Act.put]
      refine anyP_take 11 (v := ?_) rfl rfl (by kernel_rfl) (fun _ _ _ h => h) (Or.inl ⟨by rfl, ?_⟩) hHeld ?_
      rotate_left 1
      · (intro w0 hSw; (try dsimp only at hSw); go_simp; (try (with_reducible rfl)))
      try simp only [Act.put]
      refine anyP_take 12 (v := ?_) rfl rfl (by kernel_rfl) (fun _ _ _ h => h) (Or.inl ⟨by rfl, ?_⟩) hHeld ?_
      rotate_left 1
      · (intro w0 hSw; (try dsimp only at hSw); go_simp; (try (with_reducible rfl)))
      try simp only [Act.put]
      refine anyP_one 6 (by kernel_rfl) rfl (fun K hK => ?_)
      replace hK := Lib.hid hK
      go_simp
      refine (tcl.out _ FWW.drew).mono ?_
      rintro e w1 ⟨rfl, rfl⟩
      go_simp
      refine hK.out _ _ (.inr hHeld) ?_
      clear hK K
      try simp only [Act.put, List.setIfInBounds_toArray, List.set_cons_zero, List.set_cons_succ]
      refine anyP_take 8 (v := ?_) rfl rfl (by kernel_rfl) (fun _ _ _ h => h) (Or.inl ⟨by rfl, ?_⟩) hHeld ?_
      rotate_left 1
      · (intro w0 hSw; (try dsimp only at hSw); go_simp; (try (with_reducible rfl)))
      try simp only [Act.put, List.setIfInBounds_toArray]
      refine anyP_take 13 (v := ?_) rfl rfl (by kernel_rfl) (fun _ _ _ h => h) (Or.inl ⟨by rfl, ?_⟩) hHeld ?_
      rotate_left 1
      · (intro w0 hSw; (try dsimp only at hSw); go_simp; (try (with_reducible rfl)))
      try simp only [Act.put]
      refine anyP_take 14 (v := ?_) rfl rfl (by kernel_rfl) (fun _ _ _ h => h) (Or.inl ⟨by rfl, ?_⟩) hHeld ?_
      rotate_left 1
      · (intro w0 hSw; (try dsimp only at hSw); go_simp; (try (with_reducible rfl)))
      try simp only [Act.put]
      refine anyP_one 15 (by kernel_rfl) rfl (fun K hK => ?_)
      replace hK := Lib.hid hK
      go_simp
      refine hK.out _ _ (.inr hHeld) ?_
      clear hK K
      try simp only [Act.put, List.setIfInBounds_toArray, List.set_cons_zero, List.set_cons_succ]
      refine anyP_one 16 (by kernel_rfl) rfl (fun K hK => ?_)
      replace hK := Lib.hid hK
      go_simp
      refine hK.out _ _ (.inr hHeld) ?_
      clear hK K
      try simp only [Act.put, List.setIfInBounds_toArray, List.set_cons_zero, List.set_cons_succ]
      refine anyP_one 17 (by kernel_rfl) rfl (fun K hK => ?_)
      replace hK := Lib.hid hK
      have hz1 := HB.out.cell (i := 6) rfl
      have hz2 := HB.out.free 6
      go_simp
      refine hK.out _ _ (.inl (by kernel_rfl)) ?_
      refine anyP_done (by kernel_rfl) ?_ _
      refine NoPanic.normal ?_
      clear hK K
      try simp only [Act.put, List.setIfInBounds_toArray, List.set_cons_zero, List.set_cons_succ]
      clear hz1 hz2 hHeld
      have HBn : Hid (Blk (V.setCell ⟨bN, 6, none⟩ (.int .i64 (max b1m (tl + x + br)))).drew bN 70 ([.pointer (some ⟨bL, 0, none⟩), .pointer (some ⟨bR, 0, none⟩), .int .i64 x, .int .i64 ((nl : Int) + 1 + nr), .int .i64 (1 + (dm : Int)), .int .i64 (tl + x + tr), .int .i64 (max b1m (tl + x + br))])) := Lib.hid (by
        have h := HB.out.set 6 (.int .i64 (max b1m (tl + x + br)))
        exact h)
      have FWn : Hid (Fr F0 w (V.setCell ⟨bN, 6, none⟩ (.int .i64 (max b1m (tl + x + br)))).drew) := Lib.hid (Fr.setCell (p := ⟨bN, 6, none⟩) FWW (fun h => absurd (show bN < w.heap.size from h) (by have := hbN.out; omega)) _).drew
      go_wp2_with fail
      go_ret
      refine ⟨_, rfl, ?_, FWn.out⟩
      have hb := hbN.out
      clear hbN
      subst hb
      refine TM.mk Hl.out Hr.out FWn.out HBn.out ?_
      obtain ⟨e3, e4, e5, e6⟩ := He.out
      unfold ndV
      rw [e3, e4, e5, e6, nl1, nr1, ← hm2.out]
      simp
end Go.Proofs.Ytdihajeccjdhkaa
