/- Adding a tree. -/
import Derived.Test.YtdihajeccjdhkaaA21
namespace Go.Proofs.Ytdihajeccjdhkaa
open Go.RowKit
attribute [local go_sem ↓] Go.wp_at_zero Go.wp_at_succ
set_option maxRecDepth 100000 in
set_option maxHeartbeats 16000000 in
theorem add_ok {w : World} {bx K : Nat} {L : List Ent} {t : Option Addr} {ct : Nat} {l : Option Addr} {cl k : Nat} {b a m c : _} {xs : List Int} (H : XS w bx K L t ct l cl k) (hT : TK w xs (some ⟨b, 0, none⟩)) (hE : EOk (Nb bx t l) w K (some ⟨b, 0, none⟩, ⟨a, m, c, xs⟩)) (hK : K ≤ 100000) (hk : k ≤ 100000) :
    Calls Try.prog 33 #[.pointer (some ⟨bx, 0, none⟩), .pointer (some ⟨b, 0, none⟩), .int .i64 0, .slice a m c] w (XPost w bx K L t l (fun M => M = [(some ⟨b, 0, none⟩, ⟨a, m, c, xs⟩)])) := by

  have his := Lib.hid (is_tk hT (Nat.le_trans hE.k hK) hE.r.now (c := c))
  have HE := Lib.hid hE
  have Hh := Lib.hid H
  have HN := Lib.hid (And.intro hK hk)
  clear hT hE H
  go_enter Try.func33, Try.ntmps33
  go_wp2_with fail
  refine his.out.mono ?_
  rintro e w1 ⟨rfl, F⟩
  replace HE := Lib.hid (HE.out.go (F.mono (fun _ _ h => h.elim)) (fun _ _ h => h))
  have H1 := Lib.hid (Hh.out.fr0 F)
  have FW := Lib.hid F
  obtain ⟨k0, k1⟩ : w1.cell? ⟨bx, 0, none⟩ = some (.slice t k ct) ∧ w1.cell? ⟨bx, 1, none⟩ = some (.slice l k cl) := ⟨H1.out.blk.cell rfl, H1.out.blk.cell rfl⟩
  clear his F
  go_wp2_with fail
  refine wp_region_last 18 (fun w' : World => w'.cell? ⟨bx, 0, none⟩ = some (.slice t k ct) ∧ w'.cell? ⟨bx, 1, none⟩ = some (.slice l k cl)) (by kernel_rfl) ?_
  obtain ⟨w2, hw2⟩ : ∃ w2, w2 = w1.drew := ⟨_, rfl⟩
  rw [← hw2]
  have F2 : Fr F0 w1 w2 := by rw [hw2]; exact (Fr.refl F0 w1).drew
  have FW2 := Lib.hid (FW.out.trans0 F2)
  have A0 : Hid (AA w1 w2 bx k t ct l cl t l k k ct cl (L.map fun e => ptr e.1) (L.map fun e => e.2.val)) := Lib.hid (by
    have C := H1.out.fr0 F2
    exact ⟨C.blk, C.ot, C.ol, C.ap, fun j hj => .inl hj, F2.mono (fun _ _ h => h.elim), H1.out.lt⟩)
  have hHeld : (fun w' : World => w'.cell? ⟨bx, 0, none⟩ = some (.slice t k ct) ∧ w'.cell? ⟨bx, 1, none⟩ = some (.slice l k cl)) w2 := A0.out.held
  clear hw2 k0 k1 F2
  refine anyP_takeF 0 (v := ?_) rfl (by kernel_rfl) (fun _ _ _ h => h) (Or.inl ⟨by rfl, ?_⟩) (.inr hHeld) ?_
  rotate_left 1
  · (intro w0 hSw; (try dsimp only at hSw); go_simp; (try (with_reducible rfl)))
  (try simp only [Act.put, List.setIfInBounds_toArray])
  refine anyP_takeF 1 (v := ?_) rfl (by kernel_rfl) (fun _ _ _ h => h) (Or.inl ⟨by rfl, ?_⟩) (.inr hHeld) ?_
  rotate_left 1
  · (intro w0 hSw; (try dsimp only at hSw); go_simp; (try (with_reducible rfl)))
  (try simp only [Act.put])
  refine anyP_takeF 2 (v := ?_) rfl (by kernel_rfl) (fun _ _ _ h => h) (Or.inl ⟨by rfl, ?_⟩) (.inr hHeld) ?_
  rotate_left 1
  · (intro w0 hSw; (try dsimp only at hSw); go_simp; (try (with_reducible rfl)))
  (try simp only [Act.put])
  refine anyP_takeF 3 (v := ?_) rfl (by kernel_rfl) (fun _ _ _ h => h) (Or.inl ⟨by rfl, ?_⟩) (.inr hHeld) ?_
  rotate_left 1
  · (intro w0 hSw; (try dsimp only at hSw); go_simp; (try (with_reducible rfl)))
  (try simp only [Act.put])
  refine anyP_takeF 4 (v := ?_) rfl (by kernel_rfl) (fun _ _ _ h => h) (Or.inl ⟨by rfl, ?_⟩) (.inr hHeld) ?_
  rotate_left 1
  · (intro w0 hSw; (try dsimp only at hSw); go_simp; (try (with_reducible rfl)))
  (try simp only [Act.put])
  refine anyP_take 5 (v := ?_) rfl rfl (by kernel_rfl) (fun _ _ _ h => h) (Or.inl ⟨by rfl, ?_⟩) hHeld ?_
  rotate_left 1
  · (intro w0 hSw; (try dsimp only at hSw); go_simp; (try (with_reducible rfl)))
  (try simp only [Act.put])
  refine anyP_takeF 6 (v := ?_) rfl (by kernel_rfl) (fun _ _ _ h => h) (Or.inl ⟨by rfl, ?_⟩) (.inr hHeld) ?_
  rotate_left 1
  · (intro w0 hSw; (try dsimp only at hSw); go_simp; (try (with_reducible rfl)))
  (try simp only [Act.put])
  refine anyP_takeF 9 (v := ?_) rfl (by kernel_rfl) (fun _ _ _ h => h) (Or.inl ⟨by rfl, ?_⟩) (.inr hHeld) ?_
  rotate_left 1
  · (intro w0 hSw; (try dsimp only at hSw); go_simp; (try (with_reducible rfl)))
  (try simp only [Act.put])
  refine anyP_takeF 10 (v := ?_) rfl (by kernel_rfl) (fun _ _ _ h => h) (Or.inl ⟨by rfl, ?_⟩) (.inr hHeld) ?_
  rotate_left 1
  · (intro w0 hSw; (try dsimp only at hSw); go_simp; (try (with_reducible rfl)))
  (try simp only [Act.put])
  refine anyP_takeF 11 (v := ?_) rfl (by kernel_rfl) (fun _ _ _ h => h) (Or.inl ⟨by rfl, ?_⟩) (.inr hHeld) ?_
  rotate_left 1
  · (intro w0 hSw; (try dsimp only at hSw); go_simp; (try (with_reducible rfl)))
  (try simp only [Act.put])
  refine anyP_take 12 (v := ?_) rfl rfl (by kernel_rfl) (fun _ _ _ h => h) (Or.inl ⟨by rfl, ?_⟩) hHeld ?_
  rotate_left 1
  · (intro w0 hSw; (try dsimp only at hSw); go_simp; (try (with_reducible rfl)))
  (try simp only [Act.put])
  refine anyP_takeF 13 (v := ?_) rfl (by kernel_rfl) (fun _ _ _ h => h) (Or.inl ⟨by rfl, ?_⟩) (.inr hHeld) ?_
  rotate_left 1
  · (intro w0 hSw; (try dsimp only at hSw); go_simp; (try (with_reducible rfl)))
  (try simp only [Act.put])
  refine with_tail (fun ops Q S => ∀ (l' : Array Bool), l' = #[true, true, true, true, true, true, true, true, true, true, true, true, true, true, true, true, false, false, false, false, false, false] → ∀ (g7 g14 : Nat) (tA lA : Option Addr) (tC lC : Nat) (wc : World), Hid (AA w1 wc bx k t ct l cl tA lA (k + 1) (k + 1) tC lC (L.map (fun e => ptr e.1) ++ [ptr (some ⟨b, 0, none⟩)]) (L.map (fun e => e.2.val) ++ [.slice a m c])) → anyP Try.prog .any ops Q S 18 6 l' { tmps := #[.pointer (some ⟨bx, 0, none⟩), .pointer (some ⟨b, 0, none⟩), .int .i64 0, .slice a m c, undef, undef, undef, undef, .bool false, .int .i64 0, .bool false, .bool false, .pointer (some ⟨b, 0, none⟩), .slice a m c, .bool true, .bool false, .bool false, .pointer (some ⟨bx, 0, none⟩), .pointer (some ⟨bx, 0, none⟩), .pointer (some ⟨bx, 0, none⟩), .pointer (some ⟨bx, 0, none⟩), .pointer (some ⟨bx, 0, none⟩), .slice t k ct, .pointer (some ⟨b, 0, none⟩), .slice (some ⟨g7, 0, none⟩) 1 1, .slice tA (k + 1) tC, .pointer (some ⟨bx, 0, none⟩), .pointer (some ⟨bx, 0, none⟩), .pointer (some ⟨bx, 1, none⟩), .slice l k cl, .slice a m c, .slice (some ⟨g14, 0, none⟩) 1 1, .slice lA (k + 1) lC, undef, undef, undef, undef], defers := [] } wc) ?_ ?_
  · intro l' hl g7 g14 tA lA tC lC wc hA
    subst hl
    obtain ⟨r0, r1⟩ := hA.out.held
    have z0 : wc.frozen? ⟨bx, 0, none⟩ = false := hA.out.kx.free 0
    have z1 : wc.frozen? ⟨bx, 1, none⟩ = false := hA.out.kx.free 1
    have q1 : (wc.setCell ⟨bx, 0, none⟩ (.slice tA (k + 1) tC)).cell? ⟨bx, 1, none⟩ = some (.slice l k cl) := (hA.out.kx.set 0 _).cell rfl
    have hHeld2 : (fun w' : World => w'.cell? ⟨bx, 0, none⟩ = some (.slice t k ct) ∧ w'.cell? ⟨bx, 1, none⟩ = some (.slice l k cl)) wc := hA.out.held
    refine anyP_one 16 (by kernel_rfl) rfl (fun K' hK' => ?_)
    replace hK' := Lib.hid hK'
    go_simp
    refine hK'.out _ _ (.inr hHeld2) ?_
    clear hK' K'
    (try simp only [List.setIfInBounds_toArray, List.set_cons_zero, List.set_cons_succ])
    refine anyP_one 17 (by kernel_rfl) rfl (fun K' hK' => ?_)
    replace hK' := Lib.hid hK'
    go_simp
    refine hK'.out _ _ (.inr hHeld2) ?_
    clear hK' K'
    (try simp only [List.setIfInBounds_toArray, List.set_cons_zero, List.set_cons_succ])
    refine anyP_one 18 (by kernel_rfl) rfl (fun K' hK' => ?_)
    replace hK' := Lib.hid hK'
    go_simp
    refine hK'.out _ _ (.inl (by kernel_rfl)) ?_
    clear hK' K'
    (try simp only [List.setIfInBounds_toArray, List.set_cons_zero, List.set_cons_succ])
    refine anyP_one 19 (by kernel_rfl) rfl (fun K' hK' => ?_)
    replace hK' := Lib.hid hK'
    go_simp
    refine hK'.out _ _ (.inl (by kernel_rfl)) ?_
    clear hK' K'
    (try simp only [List.setIfInBounds_toArray, List.set_cons_zero, List.set_cons_succ])
    refine anyP_one 20 (by kernel_rfl) rfl (fun K' hK' => ?_)
    replace hK' := Lib.hid hK'
    go_simp
    refine hK'.out _ _ (.inl (by kernel_rfl)) ?_
    clear hK' K'
    (try simp only [List.setIfInBounds_toArray, List.set_cons_zero, List.set_cons_succ])
    refine anyP_one 21 (by kernel_rfl) rfl (fun K' hK' => ?_)
    replace hK' := Lib.hid hK'
    go_simp
    refine hK'.out _ _ (.inl (by kernel_rfl)) ?_
    clear hK' K'
    (try simp only [List.setIfInBounds_toArray, List.set_cons_zero, List.set_cons_succ])
    refine anyP_done (by kernel_rfl) ?_ _
    refine NoPanic.normal ?_
    have hD := Lib.hid (hA.out.done (r := ⟨a, m, c, xs⟩) H1.out.all HE.out H1.out.len)
    clear hA hHeld2 r0 r1 z0 z1 q1
    obtain ⟨W5, hW5⟩ : ∃ W5, W5 = (wc.setCell ⟨bx, 0, none⟩ (.slice tA (k + 1) tC)).setCell ⟨bx, 1, none⟩ (.slice lA (k + 1) lC) := ⟨_, rfl⟩
    rw [← hW5] at hD ⊢
    clear hW5
    go_wp2_with fail
    go_ret
    obtain ⟨d1, d2, d3⟩ := hD.out
    exact ⟨rfl, _, rfl, tA, tC, lA, lC, k + 1, d1, (FW.out.mono (fun _ _ h => h.elim)).trans d2 (fun _ _ h => h), fun j hj hk => d3 j (Nat.lt_of_lt_of_le hj FW.out.size) hk⟩
  · intro tail
    refine anyP_more [7, 14] (by kernel_rfl) (by decide) ?_
    intro j hj
    simp only [List.mem_cons, List.not_mem_nil, or_false] at hj
    rcases hj with rfl | rfl
    · refine ⟨_, rfl, fun K' hK' => ?_⟩
      replace hK' := Lib.hid hK'
      go_simp
      refine hK'.out _ _ (.inr (A0.out.alloc _).held) ?_
      clear hK' K'
      (try simp only [Act.put, List.setIfInBounds_toArray, List.set_cons_zero, List.set_cons_succ])
      have L3 := Lib.hid (A0.out.lit (.pointer (some ⟨b, 0, none⟩)) 24)
      have A1 := Lib.hid (A0.out.alloc (.cells #[.pointer (some ⟨b, 0, none⟩)] 24))
      obtain ⟨wy2, hwy2⟩ : ∃ wz, wz = w2.alloc (.cells #[.pointer (some ⟨b, 0, none⟩)] 24) := ⟨_, rfl⟩
      obtain ⟨g4, hg4⟩ : ∃ g, g = w2.heap.size := ⟨_, rfl⟩
      rw [← hwy2] at L3 A1 ⊢
      rw [← hg4] at L3 ⊢
      clear hwy2 hg4
      refine anyP_more [8, 14] (by kernel_rfl) (by decide) ?_
      intro j hj
      simp only [List.mem_cons, List.not_mem_nil, or_false] at hj
      rcases hj with rfl | rfl
      · refine ⟨_, rfl, fun K' hK' => ?_⟩
        replace hK' := Lib.hid hK'
        refine stepAppRd E53 (by rfl) (by rfl) (by rfl) (by rfl) A1.out.ot L3.out.rd (fun u hu => by simp at hu; subst hu; rfl) (by have := HN.out; omega) (by have := HN.out; omega) A1.out.size (k + 1) rfl ?_
        intro a7 c8 wy6 own' fr' at'
        refine hK'.out _ _ (.inr (A1.out.appT own' fr' at').held) ?_
        clear hK' K'
        (try simp only [Act.put, List.setIfInBounds_toArray])
        have A5 := Lib.hid (A1.out.appT own' fr' at')
        clear own' fr' at'
        refine anyP_more [14] (by kernel_rfl) (by decide) ?_
        intro j hj
        simp only [List.mem_cons, List.not_mem_nil, or_false] at hj
        subst hj
        refine ⟨_, rfl, fun K' hK' => ?_⟩
        replace hK' := Lib.hid hK'
        go_simp
        refine hK'.out _ _ (.inr (A5.out.alloc _).held) ?_
        clear hK' K'
        (try simp only [Act.put, List.setIfInBounds_toArray, List.set_cons_zero, List.set_cons_succ])
        have L11 := Lib.hid (A5.out.lit (.slice a m c) 22)
        have A9 := Lib.hid (A5.out.alloc (.cells #[.slice a m c] 22))
        obtain ⟨wy10, hwy10⟩ : ∃ wz, wz = wy6.alloc (.cells #[.slice a m c] 22) := ⟨_, rfl⟩
        obtain ⟨g12, hg12⟩ : ∃ g, g = wy6.heap.size := ⟨_, rfl⟩
        rw [← hwy10] at L11 A9 ⊢
        rw [← hg12] at L11 ⊢
        clear hwy10 hg12
        refine anyP_more [15] (by kernel_rfl) (by decide) ?_
        intro j hj
        simp only [List.mem_cons, List.not_mem_nil, or_false] at hj
        subst hj
        refine ⟨_, rfl, fun K' hK' => ?_⟩
        replace hK' := Lib.hid hK'
        refine stepAppRd E54 (by rfl) (by rfl) (by rfl) (by rfl) A9.out.ol L11.out.rd (fun u hu => by simp at hu; subst hu; rfl) (by have := HN.out; omega) (by have := HN.out; omega) A9.out.size (k + 1) rfl ?_
        intro a15 c16 wy14 own' fr' at'
        refine hK'.out _ _ (.inr (A9.out.appL own' fr' at').held) ?_
        clear hK' K'
        (try simp only [Act.put, List.setIfInBounds_toArray])
        have A13 := Lib.hid (A9.out.appL own' fr' at')
        clear own' fr' at'
        exact tail _ (by kernel_rfl) _ _ _ _ _ _ _ A13
      · refine ⟨_, rfl, fun K' hK' => ?_⟩
        replace hK' := Lib.hid hK'
        go_simp
        refine hK'.out _ _ (.inr (A1.out.alloc _).held) ?_
        clear hK' K'
        (try simp only [Act.put, List.setIfInBounds_toArray, List.set_cons_zero, List.set_cons_succ])
        have L19 := Lib.hid (A1.out.lit (.slice a m c) 22)
        have A17 := Lib.hid (A1.out.alloc (.cells #[.slice a m c] 22))
        have L21 := Lib.hid (L3.out.alloc (.cells #[.slice a m c] 22))
        obtain ⟨wy18, hwy18⟩ : ∃ wz, wz = wy2.alloc (.cells #[.slice a m c] 22) := ⟨_, rfl⟩
        obtain ⟨g20, hg20⟩ : ∃ g, g = wy2.heap.size := ⟨_, rfl⟩
        rw [← hwy18] at L19 A17 L21 ⊢
        rw [← hg20] at L19 ⊢
        clear hwy18 hg20
        refine anyP_more [8] (by kernel_rfl) (by decide) ?_
        intro j hj
        simp only [List.mem_cons, List.not_mem_nil, or_false] at hj
        subst hj
        refine ⟨_, rfl, fun K' hK' => ?_⟩
        replace hK' := Lib.hid hK'
        refine stepAppRd E53 (by rfl) (by rfl) (by rfl) (by rfl) A17.out.ot L21.out.rd (fun u hu => by simp at hu; subst hu; rfl) (by have := HN.out; omega) (by have := HN.out; omega) A17.out.size (k + 1) rfl ?_
        intro a24 c25 wy23 own' fr' at'
        refine hK'.out _ _ (.inr (A17.out.appT own' fr' at').held) ?_
        clear hK' K'
        (try simp only [Act.put, List.setIfInBounds_toArray])
        have A22 := Lib.hid (A17.out.appT own' fr' at')
        have L26 := Lib.hid (L19.out.appT fr' at')
        clear own' fr' at'
        refine anyP_more [15] (by kernel_rfl) (by decide) ?_
        intro j hj
        simp only [List.mem_cons, List.not_mem_nil, or_false] at hj
        subst hj
        refine ⟨_, rfl, fun K' hK' => ?_⟩
        replace hK' := Lib.hid hK'
        refine stepAppRd E54 (by rfl) (by rfl) (by rfl) (by rfl) A22.out.ol L26.out.rd (fun u hu => by simp at hu; subst hu; rfl) (by have := HN.out; omega) (by have := HN.out; omega) A22.out.size (k + 1) rfl ?_
        intro a29 c30 wy28 own' fr' at'
        refine hK'.out _ _ (.inr (A22.out.appL own' fr' at').held) ?_
        clear hK' K'
        (try simp only [Act.put])
        have A27 := Lib.hid (A22.out.appL own' fr' at')
        clear own' fr' at'
        exact tail _ (by kernel_rfl) _ _ _ _ _ _ _ A27
    · refine ⟨_, rfl, fun K' hK' => ?_⟩
      replace hK' := Lib.hid hK'
      go_simp
      refine hK'.out _ _ (.inr (A0.out.alloc _).held) ?_
      clear hK' K'
      (try simp only [Act.put, List.setIfInBounds_toArray, List.set_cons_zero, List.set_cons_succ])
      have L33 := Lib.hid (A0.out.lit (.slice a m c) 22)
      have A31 := Lib.hid (A0.out.alloc (.cells #[.slice a m c] 22))
      obtain ⟨wy32, hwy32⟩ : ∃ wz, wz = w2.alloc (.cells #[.slice a m c] 22) := ⟨_, rfl⟩
      obtain ⟨g34, hg34⟩ : ∃ g, g = w2.heap.size := ⟨_, rfl⟩
      rw [← hwy32] at L33 A31 ⊢
      rw [← hg34] at L33 ⊢
      clear hwy32 hg34
      refine anyP_more [7] (by kernel_rfl) (by decide) ?_
      intro j hj
      simp only [List.mem_cons, List.not_mem_nil, or_false] at hj
      subst hj
      refine ⟨_, rfl, fun K' hK' => ?_⟩
      replace hK' := Lib.hid hK'
      go_simp
      refine hK'.out _ _ (.inr (A31.out.alloc _).held) ?_
      clear hK' K'
      (try simp only [Act.put, List.setIfInBounds_toArray, List.set_cons_zero, List.set_cons_succ])
      have L37 := Lib.hid (A31.out.lit (.pointer (some ⟨b, 0, none⟩)) 24)
      have A35 := Lib.hid (A31.out.alloc (.cells #[.pointer (some ⟨b, 0, none⟩)] 24))
      have L39 := Lib.hid (L33.out.alloc (.cells #[.pointer (some ⟨b, 0, none⟩)] 24))
      obtain ⟨wy36, hwy36⟩ : ∃ wz, wz = wy32.alloc (.cells #[.pointer (some ⟨b, 0, none⟩)] 24) := ⟨_, rfl⟩
      obtain ⟨g38, hg38⟩ : ∃ g, g = wy32.heap.size := ⟨_, rfl⟩
      rw [← hwy36] at L37 A35 L39 ⊢
      rw [← hg38] at L37 ⊢
      clear hwy36 hg38
      refine anyP_more [8] (by kernel_rfl) (by decide) ?_
      intro j hj
      simp only [List.mem_cons, List.not_mem_nil, or_false] at hj
      subst hj
      refine ⟨_, rfl, fun K' hK' => ?_⟩
      replace hK' := Lib.hid hK'
      refine stepAppRd E53 (by rfl) (by rfl) (by rfl) (by rfl) A35.out.ot L37.out.rd (fun u hu => by simp at hu; subst hu; rfl) (by have := HN.out; omega) (by have := HN.out; omega) A35.out.size (k + 1) rfl ?_
      intro a42 c43 wy41 own' fr' at'
      refine hK'.out _ _ (.inr (A35.out.appT own' fr' at').held) ?_
      clear hK' K'
      (try simp only [Act.put, List.setIfInBounds_toArray])
      have A40 := Lib.hid (A35.out.appT own' fr' at')
      have L44 := Lib.hid (L39.out.appT fr' at')
      clear own' fr' at'
      refine anyP_more [15] (by kernel_rfl) (by decide) ?_
      intro j hj
      simp only [List.mem_cons, List.not_mem_nil, or_false] at hj
      subst hj
      refine ⟨_, rfl, fun K' hK' => ?_⟩
      replace hK' := Lib.hid hK'
      refine stepAppRd E54 (by rfl) (by rfl) (by rfl) (by rfl) A40.out.ol L44.out.rd (fun u hu => by simp at hu; subst hu; rfl) (by have := HN.out; omega) (by have := HN.out; omega) A40.out.size (k + 1) rfl ?_
      intro a47 c48 wy46 own' fr' at'
      refine hK'.out _ _ (.inr (A40.out.appL own' fr' at').held) ?_
      clear hK' K'
      (try simp only [Act.put])
      have A45 := Lib.hid (A40.out.appL own' fr' at')
      clear own' fr' at'
      exact tail _ (by kernel_rfl) _ _ _ _ _ _ _ A45
end Go.Proofs.Ytdihajeccjdhkaa
