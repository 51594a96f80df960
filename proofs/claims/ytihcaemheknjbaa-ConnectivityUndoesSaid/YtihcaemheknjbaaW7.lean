/- The law Undoes: the walk. -/
import Derived.Test.YtihcaemheknjbaaF37
import Derived.Test.YtihcaemheknjbaaF38
import Derived.Test.YtihcaemheknjbaaF19
import Derived.Test.YtihcaemheknjbaaU1
import Derived.Deep.DeepCutAuto
import Derived.BigQuiet
namespace Go.Proofs.Ytihcaemheknjbaa
open Go.RowKit
attribute [local go_sem ↓] Go.wp_at_zero Go.wp_at_succ
theorem cntP_range (n : Nat) : cntP (List.range n) = n := by
  have := (pt_start n).cnt
  exact this.symm
theorem last_one {ps : List (List Nat)} {p q : List Nat} (h : ps ++ [p] = [q]) : ps = [] ∧ p = q := by
  obtain ⟨e1, e2⟩ := List.append_inj' (t₁ := [p]) (s₂ := []) (t₂ := [q]) (by simpa using h) rfl
  injection e2 with e2
  exact ⟨e1, e2⟩
theorem take_back {X : List (List Nat)} {k : Nat} (h : k < X.length) : ∃ y, X.take (k + 1) = X.take k ++ [y] := ⟨X[k], take_snoc (List.getElem?_eq_getElem h)⟩
set_option maxRecDepth 100000 in
set_option maxHeartbeats 16000000 in
theorem law7_go {w : World} {nn : Nat} (hn : 1 ≤ nn ∧ nn ≤ 40) {a1 a2 : Option Addr} {m1 c1 m2 c2 : Nat} {l1 l2 : List Pr} (h1 : ArgP w a1 m1 c1 l1) (h2 : ArgP w a2 m2 c2 l2) (hm1 : m1 ≤ 40) (hm2 : m2 ≤ 40) :
    Calls Try.prog 7 #[.int .i64 (nn : Int), .slice a1 m1 c1, .slice a2 m2 c2] w fun e w' => e = .returned (.bool true) ∧ Fr F0 w w' := by
  have HA := Lib.hid (And.intro h1 h2)
  have HW := Lib.hid awake_any
  have HM := Lib.hid (fun w => made_ok nn w hn.1 (by omega))
  have FB : Hid (Fr F0 w (w.alloc (.cells #[.int .i64 (nn : Int)] 3))) := Lib.hid ((Fr.refl _ _).alloc _)
  obtain ⟨w0, hw1⟩ : ∃ wb, w.alloc (.cells #[.int .i64 (nn : Int)] 3) = wb := ⟨_, rfl⟩
  obtain ⟨q, hq⟩ : ∃ b, w.heap.size = b := ⟨_, rfl⟩
  have BX : Blk w0 q 3 [.int .i64 (nn : Int)] := by rw [← hw1, ← hq]; exact Blk.new w 3 _
  rw [hw1] at FB
  have x0 := BX.cell (i := 0) rfl
  have hqw : Hid (q < w0.heap.size) := Lib.hid BX.lt
  clear h1 h2 BX
  go_enter Try.func7, Try.ntmps7
  go_wp2_with (go_at_call 9; refine (HW.out w0).mono ?_; rintro e w1 ⟨rfl, F1⟩; have xq := F1.cell x0 id; have HF1 := Lib.hid (And.intro (FB.out.trans0 F1) F1); clear F1)
  refine (HM.out w1).mono ?_
  rintro e w2 ⟨f, rfl, hFh, F2⟩
  have hF2 := Fh.low (Nat.le_refl _) hFh
  have xq2 := F2.cell xq id
  have HF2 := Lib.hid F2
  have HFh := Lib.hid hF2
  clear hFh F2 hF2 xq x0 HW HM
  go_upto_region 6 with fail
  have F3 := (Fr.refl F0 w2).alloc (.cells #[.pointer (some ⟨f, 0, none⟩)] 46)
  have P3 := Blk.new w2 46 [.pointer (some ⟨f, 0, none⟩)]
  obtain ⟨bf, hg⟩ : ∃ b, b = w2.heap.size := ⟨_, rfl⟩
  obtain ⟨w3, hw3⟩ : ∃ W, W = w2.alloc (.cells #[.pointer (some ⟨f, 0, none⟩)] 46) := ⟨_, rfl⟩
  change Blk (w2.alloc (.cells #[.pointer (some ⟨f, 0, none⟩)] 46)) _ _ _ at P3
  rw [← hw3] at F3 P3 ⊢
  rw [← hg] at P3 ⊢
  have xb := P3.cell (i := 0) rfl
  have xq3 := F3.cell xq2 id
  have HF3 := Lib.hid F3
  have Hbf : Hid (bf = w2.heap.size ∧ bf < w3.heap.size) := Lib.hid ⟨hg, P3.lt⟩
  obtain ⟨N0, hN0⟩ : ∃ N : Nat → Prop, N = (fun k => w1.heap.size ≤ k ∧ k < w2.heap.size) := ⟨_, rfl⟩
  have HN0 : Hid (∀ k, N0 k → w1.heap.size ≤ k ∧ k < w2.heap.size) := Lib.hid (fun k hk => by rw [hN0] at hk; exact hk)
  have HFh3 : Hid (Fh w3 w1.heap.size N0 f nn [] (List.range nn)) := Lib.hid (by rw [hN0]; exact HFh.out.fr0 F3)
  clear hw3 hg F3 P3 hN0 HFh xq2
  have HJ1 := Lib.hid (join_any HFh3.out hn.2 (by simp) xb (fun h => by have := HN0.out _ h; have := Hbf.out; omega)
    (HA.out.1.fr0 ((HF1.out.1.trans0 HF2.out).trans0 HF3.out)) (fun h0 k hk hN => by have := HN0.out _ hN; have := HA.out.1.lt h0 k hk; have := HF1.out.1.size; omega) hm1)
  go_wp2_with fail
  refine HJ1.out.mono ?_
  rintro e w4 ⟨X1, rfl, hX1, hJ1⟩
  obtain ⟨N1, hs, p1, hF4, hh1, hN1⟩ := hJ1.ex
  rw [List.nil_append] at hF4
  have hsl : hs.length = X1.length := by have := congrArg List.length hh1; simpa using this
  have xb4 := hJ1.fr.cell xb (fun (h : N0 bf) => by have := HN0.out _ h; have := Hbf.out; omega)
  have xq4 := hJ1.fr.cell xq3 (fun (h : N0 q) => by have := HN0.out _ h; have := HF1.out.2.size; have := hqw.out; omega)
  have HF4 := Lib.hid hF4
  have HH1 := Lib.hid hh1
  have HN1 : Hid (∀ k, N1 k → (w1.heap.size ≤ k ∧ k < w2.heap.size) ∨ (w3.heap.size ≤ k ∧ k < w4.heap.size)) := Lib.hid (fun k hk => (hN1 k hk).imp (HN0.out k) id)
  have HG4 : Hid (Fr F0 w w4) := Lib.hid (((HF1.out.1.trans0 HF2.out).trans0 HF3.out).trans hJ1.fr (fun k hk hN => by have := HN0.out _ hN; have := HF1.out.1.size; omega))
  have HS4 : Hid (w1.heap.size ≤ w2.heap.size ∧ w2.heap.size ≤ w3.heap.size ∧ w3.heap.size ≤ w4.heap.size ∧ w.heap.size ≤ w1.heap.size ∧ q < w1.heap.size) := Lib.hid ⟨HF2.out.size, HF3.out.size, hJ1.fr.size, HF1.out.1.size, by have := HF1.out.2.size; have := hqw.out; omega⟩
  clear hF4 hh1 hN1 hJ1 HJ1 HFh3 HN0 xb xq3 HF2 HF3 FB HF1
  go_upto_region 11 with fail
  go_cut [12, 13] (fun s12 s13 wx => ∃ aW cW, s12 = .slice aW nn cW ∧ s13 = .int .i64 (cntP p1 : Int) ∧ Hid (Fr F0 w4 wx ∧ Own wx w4.heap.size 3 aW nn cW (nv p1)))
  case first =>
    obtain ⟨w5, hw5⟩ : ∃ wz, wz = w4.drew := ⟨_, rfl⟩
    have F5 : Fr F0 w4 w5 := by rw [hw5]; exact (Fr.refl F0 _).drew
    have HF5 := Lib.hid (HF4.out.fr0 F5)
    have HFr5 := Lib.hid F5
    have xb5 := F5.cell xb4 id
    have xq5 := F5.cell xq4 id
    clear F5
    refine wp_region_held_drew (S := (fun w' : World => w'.cell? ⟨bf, 0, none⟩ = some (.pointer (some ⟨f, 0, none⟩)) ∧ w'.cell? ⟨q, 0, none⟩ = some (.int .i64 (nn : Int)))) (by kernel_rfl) (⟨xb4, xq4⟩) (fun hHeld => ?_)
    change wpAnyH _ _ _ _ _ _ _ _ w4.drew
    rw [← hw5]
    clear hw5
    have hHeld : (fun w' : World => w'.cell? ⟨bf, 0, none⟩ = some (.pointer (some ⟨f, 0, none⟩)) ∧ w'.cell? ⟨q, 0, none⟩ = some (.int .i64 (nn : Int))) w5 := ⟨xb5, xq5⟩
    refine wpAnyH_take (i := 0) (v := ?_) (by simp only [List.getElem?_toArray, List.getElem?_cons_succ, List.getElem?_cons_zero] <;> rfl) (by kernel_rfl) (by kernel_rfl) (by kernel_rfl) (by exact fun _ _ _ h => h) (Or.inl ⟨by rfl, ?_⟩) (by assumption) ?_
    rotate_left
    · intro w hSw
      try dsimp only at hSw
      go_simp <;> with_reducible rfl
    (try simp only [Act.put, List.setIfInBounds_toArray, List.set_cons_zero, List.set_cons_succ])
    refine wpAnyH_take (i := 2) (v := ?_) (by simp only [List.getElem?_toArray, List.getElem?_cons_succ, List.getElem?_cons_zero] <;> rfl) (by kernel_rfl) (by kernel_rfl) (by kernel_rfl) (by exact fun _ _ _ h => h) (Or.inl ⟨by rfl, ?_⟩) (by assumption) ?_
    rotate_left
    · intro w hSw
      try dsimp only at hSw
      go_simp <;> with_reducible rfl
    (try simp only [Act.put, List.setIfInBounds_toArray, List.set_cons_zero, List.set_cons_succ])
    refine wpAnyH_ready (rs := [1]) (by kernel_rfl) (by simp) ?_
    refine AllReadyH.cons (by simp only [List.getElem?_toArray, List.getElem?_cons_succ, List.getElem?_cons_zero] <;> rfl) (fun KK hKK => ?_) AllReadyH.nil
    go_simp
    refine (names_any HF5.out hn.2 xq5 xb5).mono ?_
    rintro e w6 ⟨aW, cW, rfl, oW, F6⟩
    have HF6 := Lib.hid (HF5.out.fr0 F6)
    have HO6 : Hid (Fr F0 w4 w6 ∧ Own w6 w4.heap.size 3 aW nn cW (nv p1)) := Lib.hid ⟨HFr5.out.trans0 F6, oW.mono HFr5.out.size⟩
    have s6 : (fun w' : World => w'.cell? ⟨bf, 0, none⟩ = some (.pointer (some ⟨f, 0, none⟩)) ∧ w'.cell? ⟨q, 0, none⟩ = some (.int .i64 (nn : Int))) w6 := ⟨F6.cell xb5 id, F6.cell xq5 id⟩
    clear oW F6
    refine hKK.out _ _ (s6) (fun hHeld => ?_)
    clear hKK KK
    (try simp only [Act.put, List.setIfInBounds_toArray, List.set_cons_zero, List.set_cons_succ])
    refine wpAnyH_ready (rs := [3]) (by kernel_rfl) (by simp) ?_
    refine AllReadyH.cons (by simp only [List.getElem?_toArray, List.getElem?_cons_succ, List.getElem?_cons_zero] <;> rfl) (fun KK hKK => ?_) AllReadyH.nil
    go_simp
    refine (Count_h HF6.out).mono ?_
    rintro e w7 ⟨rfl, rfl⟩
    refine hKK.out _ _ (s6) (fun hHeld => ?_)
    clear hKK KK
    (try simp only [Act.put, List.setIfInBounds_toArray, List.set_cons_zero, List.set_cons_succ])
    refine wpAnyH_take (i := 4) (v := ?_) (by simp only [List.getElem?_toArray, List.getElem?_cons_succ, List.getElem?_cons_zero] <;> rfl) (by kernel_rfl) (by kernel_rfl) (by kernel_rfl) (by exact fun _ _ _ h => h) (Or.inl ⟨by rfl, ?_⟩) (by assumption) ?_
    rotate_left
    · intro w hSw
      try dsimp only at hSw
      go_simp <;> with_reducible rfl
    (try simp only [Act.put, List.setIfInBounds_toArray, List.set_cons_zero, List.set_cons_succ])
    refine wpAnyH_take (i := 5) (v := ?_) (by simp only [List.getElem?_toArray, List.getElem?_cons_succ, List.getElem?_cons_zero] <;> rfl) (by kernel_rfl) (by kernel_rfl) (by kernel_rfl) (by exact fun _ _ _ h => h) (Or.inl ⟨by rfl, ?_⟩) (by assumption) ?_
    rotate_left
    · intro w hSw
      try dsimp only at hSw
      go_simp <;> with_reducible rfl
    (try simp only [Act.put, List.setIfInBounds_toArray, List.set_cons_zero, List.set_cons_succ])
    refine wpAnyH_done (by kernel_rfl) ?_ _
    go_wp2_with fail
    go_meet
    exact ⟨aW, cW, rfl, rfl, HO6⟩
  case rest =>
    obtain ⟨aW, cW, rfl, rfl, HW⟩ := hcut
    have xb5 := HW.out.1.cell xb4 id
    have xq5 := HW.out.1.cell xq4 id
    have HJ2 := Lib.hid (join_any (HF4.out.fr0 HW.out.1) hn.2 (by omega) xb5 (fun h => by have := HN1.out _ h; have := Hbf.out; omega)
      (HA.out.2.fr0 (HG4.out.trans0 HW.out.1)) (fun h0 k hk hN => by have := HN1.out _ hN; have := HA.out.2.lt h0 k hk; have := HS4.out; omega) hm2)
    go_wp2_with fail
    refine HJ2.out.mono ?_
    rintro e w6 ⟨X2, rfl, hX2, hJ2⟩
    obtain ⟨N2, hs2, p2, hF6, hh2, hN2⟩ := hJ2.ex
    have nbf1 : ¬ N1 bf := fun h => by have := HN1.out _ h; have := Hbf.out; omega
    have nq1 : ¬ N1 q := fun h => by have := HN1.out _ h; have := HS4.out; omega
    have xb6 := hJ2.fr.cell xb5 nbf1
    have xq6 := hJ2.fr.cell xq5 nq1
    have hwb : bf < wc.heap.size := Nat.lt_of_lt_of_le Hbf.out.2 (Nat.le_trans HS4.out.2.2.1 HW.out.1.size)
    have hwq : q < wc.heap.size := by have := HS4.out; have := HW.out.1.size; omega
    have HNb : Hid (¬ N2 bf ∧ ¬ N2 q) := Lib.hid ⟨fun h => (hN2 _ h).elim nbf1 (fun h => by omega), fun h => (hN2 _ h).elim nq1 (fun h => by omega)⟩
    have HWs : Hid (Own w6 w4.heap.size 3 aW nn cW (nv p1) ∧ ∀ k, onBlk aW k → ¬ N2 k) := Lib.hid ⟨HW.out.2.fr hJ2.fr (fun k hk hN => by have := HW.out.2.blk k hk; have := HN1.out _ hN; have := HS4.out; omega), fun k hk hN => by
      have h1 := HW.out.2.blk k hk
      rcases hN2 k hN with h | h
      · have := HN1.out _ h; have := HS4.out; omega
      · omega⟩
    have HG6 : Hid (Fr F0 w w6) := Lib.hid ((HG4.out.trans0 HW.out.1).trans hJ2.fr (fun k hk hN => by have := HN1.out _ hN; have := HS4.out; omega))
    have HN2w : Hid (∀ k, N2 k → w.heap.size ≤ k) := Lib.hid (fun k hk => by
      have h3 := HS4.out
      have h4 := HW.out.1.size
      rcases hN2 k hk with h | h
      · have := HN1.out _ h; omega
      · omega)
    have hful : (hs ++ hs2) ++ [p2] = (hs ++ [p1]) ++ X2 := by rw [List.append_assoc, hh2]; simp
    have hs2l : hs2.length = X2.length := by have := congrArg List.length hh2; simpa using this
    obtain ⟨ps2, hps2⟩ : ∃ ps, ps = hs ++ hs2 := ⟨_, rfl⟩
    rw [← hps2] at hF6 hful
    have hps2l : ps2.length ≤ 1000 := by rw [hps2, List.length_append]; omega
    have HF6 := Lib.hid hF6
    have HFul := Lib.hid hful
    clear hF6 hful hh2 hN2 hJ2 HJ2 nbf1 nq1 xb4 xb5 xq4 xq5 HW HF4 HN1 hwb hwq hps2 hs2l HA HS4 Hbf hqw HG4
    go_wp2_with fail
    go_loopw [59] (fun s59 wr => ∃ (i : Nat) (ps : List (List Nat)) (p : List Nat), i ≤ X2.length ∧ s59 = .int .i64 i ∧ ps.length ≤ 1000 ∧ Hid (Fh wr w1.heap.size N2 f nn ps p ∧ ps ++ [p] = (hs ++ [p1]) ++ X2.take (X2.length - i) ∧ Fr N2 w6 wr)) (fun s59 _ => X2.length - (intOf s59).toNat)
    case atStart => exact ⟨0, ps2, p2, Nat.zero_le _, rfl, hps2l, Lib.hid ⟨HF6.out, by rw [Nat.sub_zero, List.take_length]; exact HFul.out, Fr.refl _ _⟩⟩
    case round =>
      obtain ⟨i, ps, p, hi, rfl, hpsl, H⟩ := hrel
      have xbr := H.out.2.2.cell xb6 HNb.out.1
      by_cases hlt : i < X2.length
      · have hlt' : (i : Int) < (X2.length : Int) := by omega
        have hU : Hid (Calls Try.prog 29 #[.pointer (some ⟨f, 0, none⟩)] wr fun e w' => e = .returned (.int .i64 0) ∧ ∃ ps' p', Fh w' w1.heap.size N2 f nn ps' p' ∧ ps' ++ [p'] = (hs ++ [p1]) ++ X2.take (X2.length - (i + 1)) ∧ ps'.length ≤ 1000 ∧ Fr N2 wr w') := Lib.hid (by
          obtain ⟨y, hy⟩ := take_back (X := X2) (k := X2.length - (i + 1)) (by omega)
          have he := H.out.2.1
          rw [show X2.length - i = X2.length - (i + 1) + 1 by omega, hy] at he
          exact undo_step H.out.1 (by omega) (by simp) he hpsl)
        go_wp2_with fail
        refine hU.out.mono ?_
        rintro e w7 ⟨rfl, ps', p', g1, g2, g3, g4⟩
        have H7 : Hid (Fh w7 w1.heap.size N2 f nn ps' p' ∧ ps' ++ [p'] = (hs ++ [p1]) ++ X2.take (X2.length - (i + 1)) ∧ Fr N2 w6 w7) := Lib.hid ⟨g1, g2, H.out.2.2.trans g4 (fun _ _ h => h)⟩
        clear g1 g2 g4 hU
        go_wp2_with fail
        go_roundw
        case rel => exact ⟨i + 1, ps', p', by omega, by go_num, g3, H7⟩
        case measure => simp [intOf]; omega
      · obtain rfl : X2.length = i := by omega
        have heq := H.out.2.1
        rw [Nat.sub_self, List.take_zero, List.append_nil] at heq
        obtain ⟨e1, e2⟩ := List.append_inj' heq rfl
        injection e2 with e2
        subst e1 e2
        have HFr := Lib.hid H.out.1
        have xqr := H.out.2.2.cell xq6 HNb.out.2
        have HWr := Lib.hid (HWs.out.1.fr H.out.2.2 (fun k hk => HWs.out.2 k hk))
        have HGr : Hid (Fr F0 w wr) := Lib.hid (HG6.out.trans H.out.2.2 (fun k hk hN => by have := HN2w.out k hN; omega))
        have HNm := Lib.hid (names_any HFr.out hn.2 xqr xbr)
        clear heq xb6 xq6 HWs HF6 HFul H HG6
        obtain ⟨wq, hwq⟩ : ∃ z, z = wr := ⟨_, rfl⟩
        subst hwq
        go_wp2_with fail
        refine HNm.out.mono ?_
        rintro e w8 ⟨a8, c8, rfl, o8, F8⟩
        have xb8 := F8.cell xbr id
        have xq8 := F8.cell xqr id
        have HF8 := Lib.hid (HFr.out.fr0 F8)
        have HG8 := Lib.hid (HGr.out.trans0 F8)
        have hEq := Equal_any aW a8 nn nn cW c8 _ _ w8 (by rw [← nv_ints]; exact HWr.out.rd.fr F8 (fun _ _ h => h)) (by rw [← nv_ints]; exact o8.rd)
        rw [decide_eq_true rfl] at hEq
        have HEq := Lib.hid hEq
        clear o8 F8 hEq xbr xqr HFr HWr HNm HGr
        go_wp2_with fail
        refine HEq.out.mono ?_
        rintro e w9 ⟨rfl, hq9⟩
        have F9 : Fr F0 w8 w9 := by obtain ⟨z, rfl⟩ := hq9; exact (Fr.refl F0 _).drewN z
        have xb9 := F9.cell xb8 id
        have xq9 := F9.cell xq8 id
        have HF9 := Lib.hid (HF8.out.fr0 F9)
        have HG9 := Lib.hid (HG8.out.trans0 F9)
        have HC9 := Lib.hid (Count_h HF9.out)
        have HD9 := Lib.hid (Depth_h HF9.out)
        rw [hsl] at HD9
        clear hq9 F9 xb8 xq8 HF8 HG8 HEq
        go_wp2_with fail
        refine HC9.out.mono ?_
        rintro e w10 ⟨rfl, rfl⟩
        go_wp2_with fail
        refine HD9.out.mono ?_
        rintro e w10 ⟨rfl, rfl⟩
        clear HC9 HD9
        go_wp2_with fail
        go_loopw [89] (fun s89 wr => ∃ (i : Nat) (ps : List (List Nat)) (p : List Nat), i ≤ X1.length ∧ s89 = .int .i64 i ∧ ps.length ≤ 1000 ∧ Hid (Fh wr w1.heap.size N2 f nn ps p ∧ ps ++ [p] = [List.range nn] ++ X1.take (X1.length - i) ∧ Fr N2 w9 wr)) (fun s89 _ => X1.length - (intOf s89).toNat)
        case atStart => exact ⟨0, _, _, Nat.zero_le _, rfl, hpsl, Lib.hid ⟨HF9.out, by rw [Nat.sub_zero, List.take_length]; exact HH1.out, Fr.refl _ _⟩⟩
        case round =>
          obtain ⟨i, ps, p, hi, rfl, hpsl, H⟩ := hrel
          have xbr := H.out.2.2.cell xb9 HNb.out.1
          by_cases hlt : i < X1.length
          · have hlt' : (i : Int) < (X1.length : Int) := by omega
            have hU : Hid (Calls Try.prog 29 #[.pointer (some ⟨f, 0, none⟩)] wr fun e w' => e = .returned (.int .i64 0) ∧ ∃ ps' p', Fh w' w1.heap.size N2 f nn ps' p' ∧ ps' ++ [p'] = [List.range nn] ++ X1.take (X1.length - (i + 1)) ∧ ps'.length ≤ 1000 ∧ Fr N2 wr w') := Lib.hid (by
              obtain ⟨y, hy⟩ := take_back (X := X1) (k := X1.length - (i + 1)) (by omega)
              have he := H.out.2.1
              rw [show X1.length - i = X1.length - (i + 1) + 1 by omega, hy] at he
              exact undo_step H.out.1 (by omega) (by simp) he hpsl)
            go_wp2_with fail
            refine hU.out.mono ?_
            rintro e w7 ⟨rfl, ps', p', g1, g2, g3, g4⟩
            have H7 : Hid (Fh w7 w1.heap.size N2 f nn ps' p' ∧ ps' ++ [p'] = [List.range nn] ++ X1.take (X1.length - (i + 1)) ∧ Fr N2 w9 w7) := Lib.hid ⟨g1, g2, H.out.2.2.trans g4 (fun _ _ h => h)⟩
            clear g1 g2 g4 hU
            go_wp2_with fail
            go_roundw
            case rel => exact ⟨i + 1, ps', p', by omega, by go_num, g3, H7⟩
            case measure => simp [intOf]; omega
          · obtain rfl : X1.length = i := by omega
            have heq := H.out.2.1
            rw [Nat.sub_self, List.take_zero, List.append_nil] at heq
            obtain ⟨e1, e2⟩ := last_one heq
            subst e1 e2
            have HFr := Lib.hid H.out.1
            have xqr := H.out.2.2.cell xq9 HNb.out.2
            have HGr : Hid (Fr F0 w wr) := Lib.hid (HG9.out.trans H.out.2.2 (fun k hk hN => by have := HN2w.out k hN; omega))
            have HNm := Lib.hid (names_any HFr.out hn.2 xqr xbr)
            clear heq xb9 xq9 HF9 HG9 H
            obtain ⟨wq, hwq⟩ : ∃ z, z = wr := ⟨_, rfl⟩
            subst hwq
            go_wp2_with fail
            refine HNm.out.mono ?_
            rintro e w8 ⟨a8, c8, rfl, o8, F8⟩
            have xb8 := F8.cell xbr id
            have xq8 := F8.cell xqr id
            have HF8 := Lib.hid (HFr.out.fr0 F8)
            have HG8 := Lib.hid (HGr.out.trans0 F8)
            have HO8 := Lib.hid o8
            clear o8 F8 xbr xqr HFr HNm HGr
            go_wp2_with fail
            go_loop [98] (fun s98 => ∃ i : Nat, i ≤ nn ∧ s98 = .int .i64 i) (fun s98 => nn - (intOf s98).toNat)
            case atStart => exact ⟨0, Nat.zero_le _, rfl⟩
            case round =>
              obtain ⟨i, hi, rfl⟩ := hrel
              by_cases hlt : i < nn
              · have hlt' : (i : Int) < (nn : Int) := by omega
                obtain ⟨b8, o8, rfl, cc⟩ := HO8.out.rd.cells (by omega)
                have d8 := cc i _ (nv_get (range_get hlt))
                clear cc
                go_wp2_with fail
                go_round
                case rel => exact ⟨i + 1, by omega, by go_num⟩
                case measure => simp [intOf]; omega
              · obtain rfl : nn = i := by omega
                go_wp2_with fail
                obtain ⟨w11, hw11⟩ : ∃ wz, wz = w8.drew := ⟨_, rfl⟩
                have F11 : Fr F0 w8 w11 := by rw [hw11]; exact (Fr.refl F0 _).drew
                have HF11 := Lib.hid (HF8.out.fr0 F11)
                have HG11 := Lib.hid (HG8.out.trans0 F11)
                have HU11 := Lib.hid (Undo_start HF11.out)
                have HC11 := Lib.hid (Count_h HF11.out)
                rw [cntP_range] at HC11
                have HD11 : Hid (Calls Try.prog 31 #[.pointer (some ⟨f, 0, none⟩)] w11 fun e w' => e = .returned (.int .i64 0) ∧ w11 = w') := Lib.hid (Depth_h HF11.out)
                have xb11 := F11.cell xb8 id
                have xq11 := F11.cell xq8 id
                clear F11
                refine wp_region_held_drew (S := (fun w' : World => w'.cell? ⟨bf, 0, none⟩ = some (.pointer (some ⟨f, 0, none⟩)) ∧ w'.cell? ⟨q, 0, none⟩ = some (.int .i64 (nn : Int)))) (by kernel_rfl) (⟨xb8, xq8⟩) (fun hHeld => ?_)
                change wpAnyH _ _ _ _ _ _ _ _ w8.drew
                rw [← hw11]
                clear hw11
                have hHeld : (fun w' : World => w'.cell? ⟨bf, 0, none⟩ = some (.pointer (some ⟨f, 0, none⟩)) ∧ w'.cell? ⟨q, 0, none⟩ = some (.int .i64 (nn : Int))) w11 := ⟨xb11, xq11⟩
                refine wpAnyH_take (i := 0) (v := ?_) (by simp only [List.getElem?_toArray, List.getElem?_cons_succ, List.getElem?_cons_zero] <;> rfl) (by kernel_rfl) (by kernel_rfl) (by kernel_rfl) (by exact fun _ _ _ h => h) (Or.inl ⟨by rfl, ?_⟩) (by assumption) ?_
                rotate_left
                · intro w hSw
                  try dsimp only at hSw
                  go_simp <;> with_reducible rfl
                (try simp only [Act.put, List.setIfInBounds_toArray, List.set_cons_zero, List.set_cons_succ])
                refine wpAnyH_ready (rs := [1]) (by kernel_rfl) (by simp) ?_
                refine AllReadyH.cons (by simp only [List.getElem?_toArray, List.getElem?_cons_succ, List.getElem?_cons_zero] <;> rfl) (fun KK hKK => ?_) AllReadyH.nil
                go_simp
                refine HU11.out.mono ?_
                rintro e w' ⟨rfl, rfl⟩
                refine hKK.out _ _ (⟨xb11, xq11⟩) (fun hHeld => ?_)
                clear hKK KK
                (try simp only [Act.put, List.setIfInBounds_toArray, List.set_cons_zero, List.set_cons_succ])
                refine wpAnyH_take (i := 2) (v := ?_) (by simp only [List.getElem?_toArray, List.getElem?_cons_succ, List.getElem?_cons_zero] <;> rfl) (by kernel_rfl) (by kernel_rfl) (by kernel_rfl) (by exact fun _ _ _ h => h) (Or.inl ⟨by rfl, ?_⟩) (by assumption) ?_
                rotate_left
                · intro w hSw
                  try dsimp only at hSw
                  go_simp <;> with_reducible rfl
                (try simp only [Act.put, List.setIfInBounds_toArray, List.set_cons_zero, List.set_cons_succ])
                refine wpAnyH_take (i := 3) (v := ?_) (by simp only [List.getElem?_toArray, List.getElem?_cons_succ, List.getElem?_cons_zero] <;> rfl) (by kernel_rfl) (by kernel_rfl) (by kernel_rfl) (by exact fun _ _ _ h => h) (Or.inl ⟨by rfl, ?_⟩) (by assumption) ?_
                rotate_left
                · intro w hSw
                  try dsimp only at hSw
                  go_simp <;> with_reducible rfl
                (try simp only [Act.put, List.setIfInBounds_toArray, List.set_cons_zero, List.set_cons_succ])
                refine wpAnyH_take (i := 4) (v := ?_) (by simp only [List.getElem?_toArray, List.getElem?_cons_succ, List.getElem?_cons_zero] <;> rfl) (by kernel_rfl) (by kernel_rfl) (by kernel_rfl) (by exact fun _ _ _ h => h) (Or.inl ⟨by rfl, ?_⟩) (by assumption) ?_
                rotate_left
                · intro w hSw
                  try dsimp only at hSw
                  go_simp <;> with_reducible rfl
                (try simp only [Act.put, List.setIfInBounds_toArray, List.set_cons_zero, List.set_cons_succ])
                refine wpAnyH_take (i := 6) (v := ?_) (by simp only [List.getElem?_toArray, List.getElem?_cons_succ, List.getElem?_cons_zero] <;> rfl) (by kernel_rfl) (by kernel_rfl) (by kernel_rfl) (by exact fun _ _ _ h => h) (Or.inl ⟨by rfl, ?_⟩) (by assumption) ?_
                rotate_left
                · intro w hSw
                  try dsimp only at hSw
                  go_simp <;> with_reducible rfl
                (try simp only [Act.put, List.setIfInBounds_toArray, List.set_cons_zero, List.set_cons_succ])
                refine wpAnyH_ready (rs := [5]) (by kernel_rfl) (by simp) ?_
                refine AllReadyH.cons (by simp only [List.getElem?_toArray, List.getElem?_cons_succ, List.getElem?_cons_zero] <;> rfl) (fun KK hKK => ?_) AllReadyH.nil
                go_simp
                refine HC11.out.mono ?_
                rintro e w' ⟨rfl, rfl⟩
                refine hKK.out _ _ (⟨xb11, xq11⟩) (fun hHeld => ?_)
                clear hKK KK
                (try simp only [Act.put, List.setIfInBounds_toArray, List.set_cons_zero, List.set_cons_succ])
                refine wpAnyH_take (i := 7) (v := ?_) (by simp only [List.getElem?_toArray, List.getElem?_cons_succ, List.getElem?_cons_zero] <;> rfl) (by kernel_rfl) (by kernel_rfl) (by kernel_rfl) (by exact fun _ _ _ h => h) (Or.inl ⟨by rfl, ?_⟩) (by assumption) ?_
                rotate_left
                · intro w hSw
                  try dsimp only at hSw
                  go_simp <;> with_reducible rfl
                (try simp only [Act.put, List.setIfInBounds_toArray, List.set_cons_zero, List.set_cons_succ])
                refine wpAnyH_take (i := 8) (v := ?_) (by simp only [List.getElem?_toArray, List.getElem?_cons_succ, List.getElem?_cons_zero] <;> rfl) (by kernel_rfl) (by kernel_rfl) (by kernel_rfl) (by exact fun _ _ _ h => h) (Or.inl ⟨by rfl, ?_⟩) (by assumption) ?_
                rotate_left
                · intro w hSw
                  try dsimp only at hSw
                  go_simp <;> with_reducible rfl
                (try simp only [Act.put, List.setIfInBounds_toArray, List.set_cons_zero, List.set_cons_succ])
                refine wpAnyH_take (i := 9) (v := ?_) (by simp only [List.getElem?_toArray, List.getElem?_cons_succ, List.getElem?_cons_zero] <;> rfl) (by kernel_rfl) (by kernel_rfl) (by kernel_rfl) (by exact fun _ _ _ h => h) (Or.inl ⟨by rfl, ?_⟩) (by assumption) ?_
                rotate_left
                · intro w hSw
                  try dsimp only at hSw
                  go_simp <;> with_reducible rfl
                (try simp only [Act.put, List.setIfInBounds_toArray, List.set_cons_zero, List.set_cons_succ])
                refine wpAnyH_take (i := 10) (v := ?_) (by simp only [List.getElem?_toArray, List.getElem?_cons_succ, List.getElem?_cons_zero] <;> rfl) (by kernel_rfl) (by kernel_rfl) (by kernel_rfl) (by exact fun _ _ _ h => h) (Or.inl ⟨by rfl, ?_⟩) (by assumption) ?_
                rotate_left
                · intro w hSw
                  try dsimp only at hSw
                  go_simp <;> with_reducible rfl
                (try simp only [Act.put, List.setIfInBounds_toArray, List.set_cons_zero, List.set_cons_succ])
                refine wpAnyH_ready (rs := [11]) (by kernel_rfl) (by simp) ?_
                refine AllReadyH.cons (by simp only [List.getElem?_toArray, List.getElem?_cons_succ, List.getElem?_cons_zero] <;> rfl) (fun KK hKK => ?_) AllReadyH.nil
                go_simp
                refine HD11.out.mono ?_
                rintro e w' ⟨rfl, rfl⟩
                refine hKK.out _ _ (⟨xb11, xq11⟩) (fun hHeld => ?_)
                clear hKK KK
                (try simp only [Act.put, List.setIfInBounds_toArray, List.set_cons_zero, List.set_cons_succ])
                refine wpAnyH_take (i := 12) (v := ?_) (by simp only [List.getElem?_toArray, List.getElem?_cons_succ, List.getElem?_cons_zero] <;> rfl) (by kernel_rfl) (by kernel_rfl) (by kernel_rfl) (by exact fun _ _ _ h => h) (Or.inl ⟨by rfl, ?_⟩) (by assumption) ?_
                rotate_left
                · intro w hSw
                  try dsimp only at hSw
                  go_simp <;> with_reducible rfl
                (try simp only [Act.put, List.setIfInBounds_toArray, List.set_cons_zero, List.set_cons_succ])
                refine wpAnyH_take (i := 13) (v := ?_) (by simp only [List.getElem?_toArray, List.getElem?_cons_succ, List.getElem?_cons_zero] <;> rfl) (by kernel_rfl) (by kernel_rfl) (by kernel_rfl) (by exact fun _ _ _ h => h) (Or.inl ⟨by rfl, ?_⟩) (by assumption) ?_
                rotate_left
                · intro w hSw
                  try dsimp only at hSw
                  go_simp <;> with_reducible rfl
                (try simp only [Act.put, List.setIfInBounds_toArray, List.set_cons_zero, List.set_cons_succ])
                refine wpAnyH_take (i := 14) (v := ?_) (by simp only [List.getElem?_toArray, List.getElem?_cons_succ, List.getElem?_cons_zero] <;> rfl) (by kernel_rfl) (by kernel_rfl) (by kernel_rfl) (by exact fun _ _ _ h => h) (Or.inl ⟨by rfl, ?_⟩) (by assumption) ?_
                rotate_left
                · intro w hSw
                  try dsimp only at hSw
                  go_simp <;> with_reducible rfl
                (try simp only [Act.put, List.setIfInBounds_toArray, List.set_cons_zero, List.set_cons_succ])
                refine wpAnyH_done (by kernel_rfl) ?_ _
                go_wp2_with fail
                go_ret
                exact ⟨rfl, HG11.out⟩
theorem law7 {w : World} {n : Int} {a1 a2 : Option Addr} {m1 c1 m2 c2 : Nat} {l1 l2 : List Pr} (h1 : ArgP w a1 m1 c1 l1) (h2 : ArgP w a2 m2 c2 l2) :
    Calls Try.prog 7 #[.int .i64 n, .slice a1 m1 c1, .slice a2 m2 c2] w fun e w' => e = .returned (.bool true) ∧ Fr F0 w w' := by
  by_cases hg : 1 ≤ n ∧ n ≤ 40 ∧ m1 ≤ 40 ∧ m2 ≤ 40
  · obtain ⟨nn, rfl⟩ := Int.eq_ofNat_of_zero_le (show 0 ≤ n by omega)
    exact law7_go (by omega) h1 h2 hg.2.2.1 hg.2.2.2
  · have hb : n < 1 ∨ (¬ n < 1 ∧ 40 < n) ∨ (¬ n < 1 ∧ ¬ 40 < n ∧ 40 < (m1 : Int)) ∨ (¬ n < 1 ∧ ¬ 40 < n ∧ ¬ 40 < (m1 : Int) ∧ 40 < (m2 : Int)) := by omega
    have HW := Lib.hid awake_any
    have FB : Hid (Fr F0 w (w.alloc (.cells #[.int .i64 n] 3))) := Lib.hid ((Fr.refl _ _).alloc _)
    obtain ⟨w0, hw1⟩ : ∃ wb, w.alloc (.cells #[.int .i64 n] 3) = wb := ⟨_, rfl⟩
    obtain ⟨q, hq⟩ : ∃ b, w.heap.size = b := ⟨_, rfl⟩
    have BX : Blk w0 q 3 [.int .i64 n] := by rw [← hw1, ← hq]; exact Blk.new w 3 _
    rw [hw1] at FB
    have x0 := BX.cell (i := 0) rfl
    have hc1 := h1.cap
    have hc2 := h2.cap
    have hx1 := h1.max
    have hx2 := h2.max
    clear h1 h2 BX hg
    rcases hb with b1 | ⟨b1, b2⟩ | ⟨b1, b2, b3⟩ | ⟨b1, b2, b3, b4⟩
    all_goals
      go_enter Try.func7, Try.ntmps7
      go_wp2_with (go_at_call 9; refine (HW.out w0).mono ?_; rintro e w1 ⟨rfl, F1⟩; have xq := F1.cell x0 id; have HF1 := Lib.hid (FB.out.trans0 F1); clear F1)
      go_ret
      exact ⟨rfl, HF1.out⟩
theorem walkUndoes (n : Int) (a1 : Option Addr) (m1 c1 : Nat) (R1 : Nat → Nat → Int) (a2 : Option Addr) (m2 c2 : Nat) (R2 : Nat → Nat → Int) (W : World) (h1 : ArgSt W a1 m1 c1 [.i64, .i64] R1) (h2 : ArgSt W a2 m2 c2 [.i64, .i64] R2) :
    Calls Try.prog 7 #[.int .i64 n, .slice a1 m1 c1, .slice a2 m2 c2] W fun e w' => e = .returned (.bool true) ∧ Fr F0 W w' := law7 (argP_of h1) (argP_of h2)
end Go.Proofs.Ytihcaemheknjbaa
