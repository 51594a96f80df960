/- Bridges. -/
import Derived.Test.YtihcaemheknjbaaF30s
import Derived.Deep.DeepCutAuto
namespace Go.Proofs.Ytihcaemheknjbaa
open Go.RowKit
attribute [local go_sem ↓] Go.wp_at_zero Go.wp_at_succ
set_option maxRecDepth 100000 in
set_option maxHeartbeats 16000000 in
theorem Bridges_ok {w : World} {n : Nat} {a : Option Addr} {m c : Nat} {l : List Pr} (h : ArgP w a m c l) (hn : 1 ≤ n ∧ n ≤ 1000) (hm : m ≤ 1000) (hl : ∀ e ∈ l, inP n e = true) :
    Calls Try.prog 34 #[.int .i64 n, .slice a m c] w (BrR w n l) := by
  have FB : Hid (Fr F0 w (w.alloc (.cells #[.int .i64 (n : Int)] 3))) := Lib.hid ((Fr.refl _ _).alloc _)
  obtain ⟨w1, hw1⟩ : ∃ wb, w.alloc (.cells #[.int .i64 (n : Int)] 3) = wb := ⟨_, rfl⟩
  obtain ⟨q, hq⟩ : ∃ b, w.heap.size = b := ⟨_, rfl⟩
  have BX : Blk w1 q 3 [.int .i64 (n : Int)] := by rw [← hw1, ← hq]; exact Blk.new w 3 _
  rw [hw1] at FB
  have x0 := BX.cell (i := 0) rfl
  have hany : l.any (fun e => !inP n e) = false := by
    rw [List.any_eq_false]; intro e he; rw [hl e he]; decide
  have HC := Lib.hid (ContainsFunc_any (n : Int) q a m c l w1 (h.fr0 FB.out) x0)
  rw [hany] at HC
  have HX : Hid (BX = BX) := Lib.hid rfl
  have HBX := Lib.hid BX
  have HA := Lib.hid h
  have HL := Lib.hid hl
  have hn1 : ¬ (n : Int) < 1 := by omega
  have hn2 : ¬ (1000 : Int) < (n : Int) := by omega
  have hm2 : ¬ (1000 : Int) < (m : Int) := by omega
  have mkA : ∀ W : World, (Instr.makeSlice 55 (.int .i64 (n : Int)) (.int .i64 (n : Int))).run Try.prog W = .ok (.slice (some ⟨W.heap.size, 0, none⟩) n n) (W.alloc (.cells (Array.replicate n (.slice none 0 0)) 26)) := fun W => run_mk E26g rfl n (by omega) (by omega) W
  have mkN : ∀ W : World, (Instr.makeSlice 26 (.int .i64 (n : Int)) (.int .i64 (n : Int))).run Try.prog W = .ok (.slice (some ⟨W.heap.size, 0, none⟩) n n) (W.alloc (.cells (Array.replicate n (.int .i64 0)) 3)) := fun W => run_mk E3 rfl n (by omega) (by omega) W
  clear h hl hany BX HX
  go_enter Try.func34, Try.ntmps34
  go_wp2_with (go_at_call 49; refine HC.out.mono ?_; rintro e w2 ⟨rfl, F2⟩; have x02 := F2.cell x0 id; have HF2 := Lib.hid (FB.out.trans0 F2); clear F2)
  go_cut [6] (fun s6 wx => ∃ x gA gN gL : Nat, s6 = .pointer (some ⟨x, 0, none⟩) ∧ Hid (Mk w2 wx x gA gN gL n m a c))
  case first =>
    have hK : Hid (∀ W, Fr F0 w2 W → (fun w' : World => w'.cell? ⟨q, 0, none⟩ = some (.int .i64 (n : Int))) W) := Lib.hid (fun W F => F.cell x02 id)
    go_region_held3 (fun w' => w'.cell? ⟨q, 0, none⟩ = some (.int .i64 (n : Int))) (first | (with_reducible refine hK.out _ ?_; repeat (first | exact Fr.refl _ _ | refine Fr.drew ?_ | refine Fr.alloc ?_ _)) | go_keep) (fail)
    all_goals (go_wp2_with fail; go_meet; first | exact ⟨_, _, _, _, rfl, Lib.hid (mk_ANL hn.2)⟩ | exact ⟨_, _, _, _, rfl, Lib.hid (mk_ALN hn.2)⟩ | exact ⟨_, _, _, _, rfl, Lib.hid (mk_NAL hn.2)⟩ | exact ⟨_, _, _, _, rfl, Lib.hid (mk_NLA hn.2)⟩ | exact ⟨_, _, _, _, rfl, Lib.hid (mk_LAN hn.2)⟩ | exact ⟨_, _, _, _, rfl, Lib.hid (mk_LNA hn.2)⟩)
  case rest =>
    obtain ⟨x, gA, gN, gL, rfl, HM⟩ := hcut
    have hx2 : w2.heap.size ≤ x := by have h1 := (HM.out.oA.blk gA ((onBlk_some _ _ _ _).2 rfl)).1; have h2 := HM.out.ne; omega
    obtain ⟨col, hG⟩ := HM.out.gr hx2
    obtain ⟨X, hXd⟩ : ∃ X, X = l.map natE := ⟨_, rfl⟩
    have HG := Lib.hid hG
    clear hG HM hx2
    have HXd := Lib.hid hXd
    clear hXd
    go_wp2_with fail
    go_loopw [35] (fun s35 wr => ∃ (i : Nat) (col : Nat → Nat) (rows : Nat → Option Addr × Nat), i ≤ m ∧ s35 = .int .i64 i ∧ Hid (Gr w2 wr col x gA gN gL n m a c rows (adjF X i))) (fun s35 _ => m - (intOf s35).toNat)
    case atStart => exact ⟨0, col, _, Nat.zero_le _, rfl, HG⟩
    case round =>
      obtain ⟨i, col, rows, hi, rfl, HR⟩ := hrel
      have xq := HR.out.fr.cell x02 id
      by_cases hlt : i < m
      · have hlt' : (i : Int) < (m : Int) := by omega
        obtain ⟨e, he⟩ : ∃ e, l[i]? = some e := ⟨_, List.getElem?_eq_getElem (by rw [HA.out.len]; exact hlt)⟩
        have hin := inP_iff.1 (HL.out e (List.mem_of_getElem? he))
        obtain ⟨z1, z2⟩ := e
        dsimp only at hin
        obtain ⟨e1, rfl⟩ := Int.eq_ofNat_of_zero_le hin.1
        obtain ⟨e2, rfl⟩ := Int.eq_ofNat_of_zero_le hin.2.1
        have hX : X[i]? = some (e1, e2) := by rw [HXd.out, List.getElem?_map, he]; rfl
        have HXi := Lib.hid hX
        obtain ⟨b, o, hb, c1, c2⟩ := (HA.out.fr0 (HF2.out.trans0 HR.out.fr)).cells i _ he
        subst hb
        dsimp only at c1 c2
        have hen : e1 < n ∧ e2 < n := by omega
        clear he hX hin
        go_wp2_with fail
        have F5 := (Fr.refl F0 wr).alloc (.cells #[.int .i64 (e1 : Int), .int .i64 (e2 : Int)] 62)
        have P5 := Blk.new wr 62 [.int .i64 (e1 : Int), .int .i64 (e2 : Int)]
        obtain ⟨p, hp⟩ : ∃ b, b = wr.heap.size := ⟨_, rfl⟩
        obtain ⟨w5, hw5⟩ : ∃ W, W = wr.alloc (.cells #[.int .i64 (e1 : Int), .int .i64 (e2 : Int)] 62) := ⟨_, rfl⟩
        change Blk (wr.alloc (.cells #[.int .i64 (e1 : Int), .int .i64 (e2 : Int)] 62)) _ _ _ at P5
        rw [← hw5] at F5 P5 ⊢
        rw [← hp] at P5 ⊢
        have H5 := Lib.hid (HR.out.fr0 F5)
        have NP := Lib.hid (HR.out.np (w' := wr) (p := p) (by omega))
        replace P5 := Lib.hid P5
        clear hw5 hp F5
        have Ha1 := Lib.hid (H5.out.fr0 (Fr.refl F0 _).drew)
        have Ba1 := Lib.hid (P5.out.fr (Fr.refl F0 _).drew id)
        have Na1 := Lib.hid (And.intro (And.intro (NP.out.1 e1 hen.1) NP.out.2) (Ha1.out.xrow hen.1))
        have Oa1 := Lib.hid (And.intro (Ha1.out.ow e1 hen.1) (Ha1.out.cell hen.1))
        have La1 := Lib.hid (adjF_len X i e1)
        obtain ⟨a1A, ha1A⟩ : ∃ v, v = (rows e1).1 := ⟨_, rfl⟩
        obtain ⟨a1C, ha1C⟩ : ∃ v, v = (rows e1).2 := ⟨_, rfl⟩
        obtain ⟨a1L, ha1L⟩ : ∃ v, v = (adjF X i e1).length := ⟨_, rfl⟩
        rw [← ha1A, ← ha1C, ← ha1L] at Oa1
        rw [← ha1A] at Na1
        rw [← ha1L] at La1
        have Ea1 := Lib.hid (And.intro ha1A (And.intro ha1C ha1L))
        have hla1 := La1.out
        clear ha1A ha1C ha1L
        refine wp_region_last 18 (fun w' : World => w'.cell? ⟨x, 1, none⟩ = some (.slice (some ⟨gA, 0, none⟩) n n) ∧ w'.cell? ⟨p, 0, none⟩ = some (.int .i64 (e1 : Int)) ∧ w'.cell? ⟨gA, e1, none⟩ = some (.slice a1A a1L a1C)) (by kernel_rfl) ?_
        generalize hWa1 : World.drew w5 = Wa1 at Ha1 Ba1 Na1 Oa1 La1 ⊢
        clear hWa1
        have sh : Hid (∀ W, Fr F0 Wa1 W → (fun w' : World => w'.cell? ⟨x, 1, none⟩ = some (.slice (some ⟨gA, 0, none⟩) n n) ∧ w'.cell? ⟨p, 0, none⟩ = some (.int .i64 (e1 : Int)) ∧ w'.cell? ⟨gA, e1, none⟩ = some (.slice a1A a1L a1C)) W) := Lib.hid (fun W F => ⟨F.cell (Ha1.out.bk.cell (i := 1) rfl) id, F.cell (Ba1.out.cell (i := 0) rfl) id, F.cell Oa1.out.2.1 id⟩)
        have hHeld : (fun w' : World => w'.cell? ⟨x, 1, none⟩ = some (.slice (some ⟨gA, 0, none⟩) n n) ∧ w'.cell? ⟨p, 0, none⟩ = some (.int .i64 (e1 : Int)) ∧ w'.cell? ⟨gA, e1, none⟩ = some (.slice a1A a1L a1C)) Wa1 := sh.out _ (Fr.refl _ _)
        refine anyP_takeF 0 (v := ?_) rfl (by kernel_rfl) (fun _ _ _ h => h) (Or.inl ⟨by rfl, ?_⟩) (.inr hHeld) ?_
        rotate_left 1
        · (intro w0 hSw; (try dsimp only at hSw); go_simp; (try (with_reducible rfl)))
        (try simp only [Act.put, List.setIfInBounds_toArray, List.set_cons_zero, List.set_cons_succ])
        refine anyP_takeF 1 (v := ?_) rfl (by kernel_rfl) (fun _ _ _ h => h) (Or.inl ⟨by rfl, ?_⟩) (.inr hHeld) ?_
        rotate_left 1
        · (intro w0 hSw; (try dsimp only at hSw); go_simp; (try (with_reducible rfl)))
        (try simp only [Act.put, List.setIfInBounds_toArray, List.set_cons_zero, List.set_cons_succ])
        refine anyP_takeF 2 (v := ?_) rfl (by kernel_rfl) (fun _ _ _ h => h) (Or.inl ⟨by rfl, ?_⟩) (.inr hHeld) ?_
        rotate_left 1
        · (intro w0 hSw; (try dsimp only at hSw); go_simp; (try (with_reducible rfl)))
        (try simp only [Act.put, List.setIfInBounds_toArray, List.set_cons_zero, List.set_cons_succ])
        refine anyP_take 3 (v := ?_) rfl rfl (by kernel_rfl) (fun _ _ _ h => h) (Or.inl ⟨by rfl, ?_⟩) hHeld ?_
        rotate_left 1
        · (intro w0 hSw; (try dsimp only at hSw); go_simp; (try (with_reducible rfl)))
        (try simp only [Act.put, List.setIfInBounds_toArray, List.set_cons_zero, List.set_cons_succ])
        refine anyP_takeF 4 (v := ?_) rfl (by kernel_rfl) (fun _ _ _ h => h) (Or.inl ⟨by rfl, ?_⟩) (.inr hHeld) ?_
        rotate_left 1
        · (intro w0 hSw; (try dsimp only at hSw); go_simp; (try (with_reducible rfl)))
        (try simp only [Act.put, List.setIfInBounds_toArray, List.set_cons_zero, List.set_cons_succ])
        refine anyP_take 5 (v := ?_) rfl rfl (by kernel_rfl) (fun _ _ _ h => h) (Or.inl ⟨by rfl, ?_⟩) hHeld ?_
        rotate_left 1
        · (intro w0 hSw; (try dsimp only at hSw); go_simp; (try (with_reducible rfl)))
        (try simp only [Act.put, List.setIfInBounds_toArray, List.set_cons_zero, List.set_cons_succ])
        refine anyP_takeF 6 (v := ?_) rfl (by kernel_rfl) (fun _ _ _ h => h) (Or.inl ⟨by rfl, ?_⟩) (.inr hHeld) ?_
        rotate_left 1
        · (intro w0 hSw; (try dsimp only at hSw); go_simp; (try (with_reducible rfl)))
        (try simp only [Act.put, List.setIfInBounds_toArray, List.set_cons_zero, List.set_cons_succ])
        refine anyP_takeF 7 (v := ?_) rfl (by kernel_rfl) (fun _ _ _ h => h) (Or.inl ⟨by rfl, ?_⟩) (.inr hHeld) ?_
        rotate_left 1
        · (intro w0 hSw; (try dsimp only at hSw); go_simp; (try (with_reducible rfl)))
        (try simp only [Act.put, List.setIfInBounds_toArray, List.set_cons_zero, List.set_cons_succ])
        refine anyP_takeF 8 (v := ?_) rfl (by kernel_rfl) (fun _ _ _ h => h) (Or.inl ⟨by rfl, ?_⟩) (.inr hHeld) ?_
        rotate_left 1
        · (intro w0 hSw; (try dsimp only at hSw); go_simp; (try (with_reducible rfl)))
        (try simp only [Act.put, List.setIfInBounds_toArray, List.set_cons_zero, List.set_cons_succ])
        refine anyP_take 9 (v := ?_) rfl rfl (by kernel_rfl) (fun _ _ _ h => h) (Or.inl ⟨by rfl, ?_⟩) hHeld ?_
        rotate_left 1
        · (intro w0 hSw; (try dsimp only at hSw); go_simp; (try (with_reducible rfl)))
        (try simp only [Act.put, List.setIfInBounds_toArray, List.set_cons_zero, List.set_cons_succ])
        refine anyP_takeF 10 (v := ?_) rfl (by kernel_rfl) (fun _ _ _ h => h) (Or.inl ⟨by rfl, ?_⟩) (.inr hHeld) ?_
        rotate_left 1
        · (intro w0 hSw; (try dsimp only at hSw); go_simp; (try (with_reducible rfl)))
        (try simp only [Act.put, List.setIfInBounds_toArray, List.set_cons_zero, List.set_cons_succ])
        refine anyP_take 11 (v := ?_) rfl rfl (by kernel_rfl) (fun _ _ _ h => h) (Or.inl ⟨by rfl, ?_⟩) hHeld ?_
        rotate_left 1
        · (intro w0 hSw; (try dsimp only at hSw); go_simp; (try (with_reducible rfl)))
        (try simp only [Act.put, List.setIfInBounds_toArray, List.set_cons_zero, List.set_cons_succ])
        refine anyP_takeF 12 (v := ?_) rfl (by kernel_rfl) (fun _ _ _ h => h) (Or.inl ⟨by rfl, ?_⟩) (.inr hHeld) ?_
        rotate_left 1
        · (intro w0 hSw; (try dsimp only at hSw); go_simp; (try (with_reducible rfl)))
        (try simp only [Act.put, List.setIfInBounds_toArray, List.set_cons_zero, List.set_cons_succ])
        refine anyP_take 13 (v := ?_) rfl rfl (by kernel_rfl) (fun _ _ _ h => h) (Or.inl ⟨by rfl, ?_⟩) hHeld ?_
        rotate_left 1
        · (intro w0 hSw; (try dsimp only at hSw); go_simp; (try (with_reducible rfl)))
        (try simp only [Act.put, List.setIfInBounds_toArray, List.set_cons_zero, List.set_cons_succ])
        refine anyP_takeF 14 (v := ?_) rfl (by kernel_rfl) (fun _ _ _ h => h) (Or.inl ⟨by rfl, ?_⟩) (.inr hHeld) ?_
        rotate_left 1
        · (intro w0 hSw; (try dsimp only at hSw); go_simp; (try (with_reducible rfl)))
        (try simp only [Act.put, List.setIfInBounds_toArray, List.set_cons_zero, List.set_cons_succ])
        refine anyP_one 15 (by kernel_rfl) rfl (fun K hK => ?_)
        replace hK := Lib.hid hK
        go_simp
        refine hK.out _ _ (.inr (sh.out _ ((Fr.refl F0 Wa1).alloc _))) ?_
        clear hK K
        (try simp only [Act.put, List.setIfInBounds_toArray, List.set_cons_zero, List.set_cons_succ])
        have lit := Own.rd (Own.lit (w := Wa1) (B := 0) (T := 3) [Value.int .i64 (i : Int)] 1 rfl (Nat.zero_le _) (by omega))
        have FA := (Fr.refl F0 Wa1).alloc (.cells ([Value.int .i64 (i : Int)]).toArray 3)
        obtain ⟨V, hV⟩ : ∃ W, W = Wa1.alloc (.cells ([Value.int .i64 (i : Int)]).toArray 3) := ⟨_, rfl⟩
        obtain ⟨g, hg⟩ : ∃ g, g = Wa1.heap.size := ⟨_, rfl⟩
        change anyP _ _ _ _ _ _ _ _ _ (Wa1.alloc (.cells ([Value.int .i64 (i : Int)]).toArray 3))
        rw [← hV] at lit FA ⊢
        rw [← hg] at lit ⊢
        have HV := Lib.hid (Ha1.out.fr0 FA)
        have OV := Lib.hid (Oa1.out.1.fr0 FA)
        have BV := Lib.hid (Ba1.out.fr FA id)
        have SV := Lib.hid (sh.out _ FA)
        replace lit := Lib.hid lit
        have zV := Lib.hid HV.out.fr.size
        clear hV hg FA hHeld sh
        refine anyP_one 16 (by kernel_rfl) rfl (fun KK hKK => ?_)
        replace hKK := Lib.hid hKK
        refine stepAppRd E3 (by rfl) (by rfl) (by rfl) (by rfl) OV.out lit.out (fun u hu => by simp at hu; subst hu; rfl) (by omega) (by omega) zV.out (a1L + 1) rfl ?_
        intro a9 c9 V9 own9 fr9 at9
        have s9 : (fun w' : World => w'.cell? ⟨x, 1, none⟩ = some (.slice (some ⟨gA, 0, none⟩) n n) ∧ w'.cell? ⟨p, 0, none⟩ = some (.int .i64 (e1 : Int)) ∧ w'.cell? ⟨gA, e1, none⟩ = some (.slice a1A a1L a1C)) V9 := ⟨fr9.cell SV.out.1 Na1.out.2.1, fr9.cell SV.out.2.1 Na1.out.1.1, fr9.cell SV.out.2.2 Na1.out.2.2⟩
        refine hKK.out _ _ (.inr s9) ?_
        clear hKK KK
        (try simp only [Act.put, List.setIfInBounds_toArray, List.set_cons_zero, List.set_cons_succ])
        have B9 := Lib.hid (BV.out.fr fr9 Na1.out.1.1)
        have q1 := s9.2.2
        have q2 := HV.out.fz fr9 Na1.out.2.2 hen.1
        have G9 : Hid (Gr w2 (V9.setCell ⟨gA, e1, none⟩ (.slice a9 (a1L + 1) c9)) _ x gA gN gL n m _ c _ _) := Lib.hid (by have := HV.out.app (v := e1) (j := i) hen.1 (a' := a9) (c' := c9) (by rw [← Ea1.out.2.2]; exact own9) (by rw [← Ea1.out.1]; exact fr9) (by rw [← Ea1.out.1]; exact at9); rw [← Ea1.out.2.2] at this; exact this)
        have C9 := Lib.hid (B9.out.fr (((Fr.refl _ V9).setB e1 (.slice a9 (a1L + 1) c9)) : Fr (onB gA) V9 _) Na1.out.1.2)
        have S9 := Lib.hid s9
        clear own9 fr9 at9 s9
        refine anyP_one 17 (by kernel_rfl) rfl (fun K hK => ?_)
        replace hK := Lib.hid hK
        go_simp
        refine hK.out _ _ (.inr S9.out) ?_
        clear hK K
        (try simp only [Act.put, List.setIfInBounds_toArray, List.set_cons_zero, List.set_cons_succ])
        refine anyP_one 18 (by kernel_rfl) rfl (fun K hK => ?_)
        replace hK := Lib.hid hK
        go_simp
        refine hK.out _ _ (.inl (by kernel_rfl)) ?_
        clear hK K
        (try simp only [Act.put, List.setIfInBounds_toArray, List.set_cons_zero, List.set_cons_succ])
        refine anyP_done (by kernel_rfl) ?_ _
        refine NoPanic.normal ?_
        clear B9 S9 q1 q2 HV OV BV SV lit zV Ha1 Ba1 Na1 Oa1 La1
        obtain ⟨a1W, hV9⟩ : ∃ W, W = V9.setCell ⟨gA, e1, none⟩ (.slice a9 (a1L + 1) c9) := ⟨_, rfl⟩
        rw [← hV9] at G9 C9 ⊢
        clear hV9
        obtain ⟨col1, hc1⟩ : ∃ c, c = recol col V (6 + e1) := ⟨_, rfl⟩
        obtain ⟨rows1, hr1⟩ : ∃ r, r = (fun u => if u = e1 then (a9, c9) else rows u) := ⟨_, rfl⟩
        obtain ⟨f1, hf1⟩ : ∃ r, r = (fun u => if u = e1 then adjF X i e1 ++ [i] else adjF X i u) := ⟨_, rfl⟩
        rw [← hc1, ← hr1, ← hf1] at G9
        have NP1 : Hid (∀ v, v < n → v ≠ e1 → ¬ onBlk (rows1 v).1 p) := Lib.hid (fun v hv hne => by rw [hr1]; show ¬ onBlk (if v = e1 then (a9, c9) else rows v).1 p; rw [if_neg hne]; exact NP.out.1 v hv)
        have HF1 := Lib.hid hf1
        clear hc1 hr1 hf1 Ea1
        have y0 := C9.out.cell (i := 0) rfl
        have y1 := C9.out.cell (i := 1) rfl
        have HG1 := G9; have HC1 := C9; clear G9 C9
        by_cases ce : e1 = e2
        · have ceI : (e1 : Int) = (e2 : Int) := by omega
          have hfe : f1 = adjF X (i + 1) := by
            rw [HF1.out]; funext u; rw [adjF_succ HXi.out]; dsimp only; by_cases cu : u = e1
            · rw [if_pos cu, if_pos (.inl cu.symm), cu]
            · rw [if_neg cu, if_neg (by omega)]
          rw [hfe] at HG1
          clear HF1 hfe
          go_wp2_with fail
          go_roundw
          case rel => exact ⟨i + 1, col1, rows1, by omega, by go_num, HG1⟩
          case measure => simp [intOf]; omega
        · have ceI : ¬ (e1 : Int) = (e2 : Int) := by omega
          have ce' : e2 ≠ e1 := fun e => ce e.symm
          go_wp2_with fail
          clear y0 y1
          have Ha2 := Lib.hid (HG1.out.fr0 (Fr.refl F0 _).drew)
          have Ba2 := Lib.hid (HC1.out.fr (Fr.refl F0 _).drew id)
          have Na2 := Lib.hid (And.intro (And.intro (NP1.out e2 hen.2 ce') NP.out.2) (Ha2.out.xrow hen.2))
          have Oa2 := Lib.hid (And.intro (Ha2.out.ow e2 hen.2) (Ha2.out.cell hen.2))
          have La2 := Lib.hid (show (f1 e2).length ≤ i by rw [HF1.out]; show (if e2 = e1 then adjF X i e1 ++ [i] else adjF X i e2).length ≤ i; rw [if_neg ce']; exact adjF_len X i e2)
          obtain ⟨a2A, ha2A⟩ : ∃ v, v = (rows1 e2).1 := ⟨_, rfl⟩
          obtain ⟨a2C, ha2C⟩ : ∃ v, v = (rows1 e2).2 := ⟨_, rfl⟩
          obtain ⟨a2L, ha2L⟩ : ∃ v, v = (f1 e2).length := ⟨_, rfl⟩
          rw [← ha2A, ← ha2C, ← ha2L] at Oa2
          rw [← ha2A] at Na2
          rw [← ha2L] at La2
          have Ea2 := Lib.hid (And.intro ha2A (And.intro ha2C ha2L))
          have hla2 := La2.out
          clear ha2A ha2C ha2L
          refine wp_region_last 18 (fun w' : World => w'.cell? ⟨x, 1, none⟩ = some (.slice (some ⟨gA, 0, none⟩) n n) ∧ w'.cell? ⟨p, 1, none⟩ = some (.int .i64 (e2 : Int)) ∧ w'.cell? ⟨gA, e2, none⟩ = some (.slice a2A a2L a2C)) (by kernel_rfl) ?_
          generalize hWa2 : World.drew a1W = Wa2 at Ha2 Ba2 Na2 Oa2 La2 ⊢
          clear hWa2
          have sh : Hid (∀ W, Fr F0 Wa2 W → (fun w' : World => w'.cell? ⟨x, 1, none⟩ = some (.slice (some ⟨gA, 0, none⟩) n n) ∧ w'.cell? ⟨p, 1, none⟩ = some (.int .i64 (e2 : Int)) ∧ w'.cell? ⟨gA, e2, none⟩ = some (.slice a2A a2L a2C)) W) := Lib.hid (fun W F => ⟨F.cell (Ha2.out.bk.cell (i := 1) rfl) id, F.cell (Ba2.out.cell (i := 1) rfl) id, F.cell Oa2.out.2.1 id⟩)
          have hHeld : (fun w' : World => w'.cell? ⟨x, 1, none⟩ = some (.slice (some ⟨gA, 0, none⟩) n n) ∧ w'.cell? ⟨p, 1, none⟩ = some (.int .i64 (e2 : Int)) ∧ w'.cell? ⟨gA, e2, none⟩ = some (.slice a2A a2L a2C)) Wa2 := sh.out _ (Fr.refl _ _)
          refine anyP_takeF 0 (v := ?_) rfl (by kernel_rfl) (fun _ _ _ h => h) (Or.inl ⟨by rfl, ?_⟩) (.inr hHeld) ?_
          rotate_left 1
          · (intro w0 hSw; (try dsimp only at hSw); go_simp; (try (with_reducible rfl)))
          (try simp only [Act.put, List.setIfInBounds_toArray, List.set_cons_zero, List.set_cons_succ])
          refine anyP_takeF 1 (v := ?_) rfl (by kernel_rfl) (fun _ _ _ h => h) (Or.inl ⟨by rfl, ?_⟩) (.inr hHeld) ?_
          rotate_left 1
          · (intro w0 hSw; (try dsimp only at hSw); go_simp; (try (with_reducible rfl)))
          (try simp only [Act.put, List.setIfInBounds_toArray, List.set_cons_zero, List.set_cons_succ])
          refine anyP_takeF 2 (v := ?_) rfl (by kernel_rfl) (fun _ _ _ h => h) (Or.inl ⟨by rfl, ?_⟩) (.inr hHeld) ?_
          rotate_left 1
          · (intro w0 hSw; (try dsimp only at hSw); go_simp; (try (with_reducible rfl)))
          (try simp only [Act.put, List.setIfInBounds_toArray, List.set_cons_zero, List.set_cons_succ])
          refine anyP_take 3 (v := ?_) rfl rfl (by kernel_rfl) (fun _ _ _ h => h) (Or.inl ⟨by rfl, ?_⟩) hHeld ?_
          rotate_left 1
          · (intro w0 hSw; (try dsimp only at hSw); go_simp; (try (with_reducible rfl)))
          (try simp only [Act.put, List.setIfInBounds_toArray, List.set_cons_zero, List.set_cons_succ])
          refine anyP_takeF 4 (v := ?_) rfl (by kernel_rfl) (fun _ _ _ h => h) (Or.inl ⟨by rfl, ?_⟩) (.inr hHeld) ?_
          rotate_left 1
          · (intro w0 hSw; (try dsimp only at hSw); go_simp; (try (with_reducible rfl)))
          (try simp only [Act.put, List.setIfInBounds_toArray, List.set_cons_zero, List.set_cons_succ])
          refine anyP_take 5 (v := ?_) rfl rfl (by kernel_rfl) (fun _ _ _ h => h) (Or.inl ⟨by rfl, ?_⟩) hHeld ?_
          rotate_left 1
          · (intro w0 hSw; (try dsimp only at hSw); go_simp; (try (with_reducible rfl)))
          (try simp only [Act.put, List.setIfInBounds_toArray, List.set_cons_zero, List.set_cons_succ])
          refine anyP_takeF 6 (v := ?_) rfl (by kernel_rfl) (fun _ _ _ h => h) (Or.inl ⟨by rfl, ?_⟩) (.inr hHeld) ?_
          rotate_left 1
          · (intro w0 hSw; (try dsimp only at hSw); go_simp; (try (with_reducible rfl)))
          (try simp only [Act.put, List.setIfInBounds_toArray, List.set_cons_zero, List.set_cons_succ])
          refine anyP_takeF 7 (v := ?_) rfl (by kernel_rfl) (fun _ _ _ h => h) (Or.inl ⟨by rfl, ?_⟩) (.inr hHeld) ?_
          rotate_left 1
          · (intro w0 hSw; (try dsimp only at hSw); go_simp; (try (with_reducible rfl)))
          (try simp only [Act.put, List.setIfInBounds_toArray, List.set_cons_zero, List.set_cons_succ])
          refine anyP_takeF 8 (v := ?_) rfl (by kernel_rfl) (fun _ _ _ h => h) (Or.inl ⟨by rfl, ?_⟩) (.inr hHeld) ?_
          rotate_left 1
          · (intro w0 hSw; (try dsimp only at hSw); go_simp; (try (with_reducible rfl)))
          (try simp only [Act.put, List.setIfInBounds_toArray, List.set_cons_zero, List.set_cons_succ])
          refine anyP_take 9 (v := ?_) rfl rfl (by kernel_rfl) (fun _ _ _ h => h) (Or.inl ⟨by rfl, ?_⟩) hHeld ?_
          rotate_left 1
          · (intro w0 hSw; (try dsimp only at hSw); go_simp; (try (with_reducible rfl)))
          (try simp only [Act.put, List.setIfInBounds_toArray, List.set_cons_zero, List.set_cons_succ])
          refine anyP_takeF 10 (v := ?_) rfl (by kernel_rfl) (fun _ _ _ h => h) (Or.inl ⟨by rfl, ?_⟩) (.inr hHeld) ?_
          rotate_left 1
          · (intro w0 hSw; (try dsimp only at hSw); go_simp; (try (with_reducible rfl)))
          (try simp only [Act.put, List.setIfInBounds_toArray, List.set_cons_zero, List.set_cons_succ])
          refine anyP_take 11 (v := ?_) rfl rfl (by kernel_rfl) (fun _ _ _ h => h) (Or.inl ⟨by rfl, ?_⟩) hHeld ?_
          rotate_left 1
          · (intro w0 hSw; (try dsimp only at hSw); go_simp; (try (with_reducible rfl)))
          (try simp only [Act.put, List.setIfInBounds_toArray, List.set_cons_zero, List.set_cons_succ])
          refine anyP_takeF 12 (v := ?_) rfl (by kernel_rfl) (fun _ _ _ h => h) (Or.inl ⟨by rfl, ?_⟩) (.inr hHeld) ?_
          rotate_left 1
          · (intro w0 hSw; (try dsimp only at hSw); go_simp; (try (with_reducible rfl)))
          (try simp only [Act.put, List.setIfInBounds_toArray, List.set_cons_zero, List.set_cons_succ])
          refine anyP_take 13 (v := ?_) rfl rfl (by kernel_rfl) (fun _ _ _ h => h) (Or.inl ⟨by rfl, ?_⟩) hHeld ?_
          rotate_left 1
          · (intro w0 hSw; (try dsimp only at hSw); go_simp; (try (with_reducible rfl)))
          (try simp only [Act.put, List.setIfInBounds_toArray, List.set_cons_zero, List.set_cons_succ])
          refine anyP_takeF 14 (v := ?_) rfl (by kernel_rfl) (fun _ _ _ h => h) (Or.inl ⟨by rfl, ?_⟩) (.inr hHeld) ?_
          rotate_left 1
          · (intro w0 hSw; (try dsimp only at hSw); go_simp; (try (with_reducible rfl)))
          (try simp only [Act.put, List.setIfInBounds_toArray, List.set_cons_zero, List.set_cons_succ])
          refine anyP_one 15 (by kernel_rfl) rfl (fun K hK => ?_)
          replace hK := Lib.hid hK
          go_simp
          refine hK.out _ _ (.inr (sh.out _ ((Fr.refl F0 Wa2).alloc _))) ?_
          clear hK K
          (try simp only [Act.put, List.setIfInBounds_toArray, List.set_cons_zero, List.set_cons_succ])
          have lit := Own.rd (Own.lit (w := Wa2) (B := 0) (T := 3) [Value.int .i64 (i : Int)] 1 rfl (Nat.zero_le _) (by omega))
          have FA := (Fr.refl F0 Wa2).alloc (.cells ([Value.int .i64 (i : Int)]).toArray 3)
          obtain ⟨V, hV⟩ : ∃ W, W = Wa2.alloc (.cells ([Value.int .i64 (i : Int)]).toArray 3) := ⟨_, rfl⟩
          obtain ⟨g, hg⟩ : ∃ g, g = Wa2.heap.size := ⟨_, rfl⟩
          change anyP _ _ _ _ _ _ _ _ _ (Wa2.alloc (.cells ([Value.int .i64 (i : Int)]).toArray 3))
          rw [← hV] at lit FA ⊢
          rw [← hg] at lit ⊢
          have HV := Lib.hid (Ha2.out.fr0 FA)
          have OV := Lib.hid (Oa2.out.1.fr0 FA)
          have BV := Lib.hid (Ba2.out.fr FA id)
          have SV := Lib.hid (sh.out _ FA)
          replace lit := Lib.hid lit
          have zV := Lib.hid HV.out.fr.size
          clear hV hg FA hHeld sh
          refine anyP_one 16 (by kernel_rfl) rfl (fun KK hKK => ?_)
          replace hKK := Lib.hid hKK
          refine stepAppRd E3 (by rfl) (by rfl) (by rfl) (by rfl) OV.out lit.out (fun u hu => by simp at hu; subst hu; rfl) (by omega) (by omega) zV.out (a2L + 1) rfl ?_
          intro a9 c9 V9 own9 fr9 at9
          have s9 : (fun w' : World => w'.cell? ⟨x, 1, none⟩ = some (.slice (some ⟨gA, 0, none⟩) n n) ∧ w'.cell? ⟨p, 1, none⟩ = some (.int .i64 (e2 : Int)) ∧ w'.cell? ⟨gA, e2, none⟩ = some (.slice a2A a2L a2C)) V9 := ⟨fr9.cell SV.out.1 Na2.out.2.1, fr9.cell SV.out.2.1 Na2.out.1.1, fr9.cell SV.out.2.2 Na2.out.2.2⟩
          refine hKK.out _ _ (.inr s9) ?_
          clear hKK KK
          (try simp only [Act.put, List.setIfInBounds_toArray, List.set_cons_zero, List.set_cons_succ])
          have B9 := Lib.hid (BV.out.fr fr9 Na2.out.1.1)
          have q1 := s9.2.2
          have q2 := HV.out.fz fr9 Na2.out.2.2 hen.2
          have G9 : Hid (Gr w2 (V9.setCell ⟨gA, e2, none⟩ (.slice a9 (a2L + 1) c9)) _ x gA gN gL n m _ c _ _) := Lib.hid (by have := HV.out.app (v := e2) (j := i) hen.2 (a' := a9) (c' := c9) (by rw [← Ea2.out.2.2]; exact own9) (by rw [← Ea2.out.1]; exact fr9) (by rw [← Ea2.out.1]; exact at9); rw [← Ea2.out.2.2] at this; exact this)
          have C9 := Lib.hid (B9.out.fr (((Fr.refl _ V9).setB e2 (.slice a9 (a2L + 1) c9)) : Fr (onB gA) V9 _) Na2.out.1.2)
          have S9 := Lib.hid s9
          clear own9 fr9 at9 s9
          refine anyP_one 17 (by kernel_rfl) rfl (fun K hK => ?_)
          replace hK := Lib.hid hK
          go_simp
          refine hK.out _ _ (.inr S9.out) ?_
          clear hK K
          (try simp only [Act.put, List.setIfInBounds_toArray, List.set_cons_zero, List.set_cons_succ])
          refine anyP_one 18 (by kernel_rfl) rfl (fun K hK => ?_)
          replace hK := Lib.hid hK
          go_simp
          refine hK.out _ _ (.inl (by kernel_rfl)) ?_
          clear hK K
          (try simp only [Act.put, List.setIfInBounds_toArray, List.set_cons_zero, List.set_cons_succ])
          refine anyP_done (by kernel_rfl) ?_ _
          refine NoPanic.normal ?_
          clear B9 S9 q1 q2 HV OV BV SV lit zV Ha2 Ba2 Na2 Oa2 La2
          obtain ⟨a2W, hV9⟩ : ∃ W, W = V9.setCell ⟨gA, e2, none⟩ (.slice a9 (a2L + 1) c9) := ⟨_, rfl⟩
          rw [← hV9] at G9 C9 ⊢
          clear hV9
          have hfe : (fun u => if u = e2 then f1 e2 ++ [i] else f1 u) = adjF X (i + 1) := by
            rw [HF1.out]; funext u; rw [adjF_succ HXi.out]; dsimp only; rw [if_neg ce']; by_cases cu : u = e2
            · rw [if_pos cu, if_pos (.inr cu.symm), cu]
            · rw [if_neg cu]; by_cases cv : u = e1
              · rw [if_pos cv, if_pos (.inl cv.symm), cv]
              · rw [if_neg cv, if_neg (by omega)]
          rw [hfe] at G9
          clear HF1 hfe
          go_wp2_with fail
          go_roundw
          case rel => exact ⟨i + 1, _, _, by omega, by go_num, G9⟩
          case measure => simp [intOf]; omega
      · obtain rfl : m = i := by omega
        go_wp2_with fail
        have hml : m = X.length := by rw [HXd.out, List.length_map]; exact HA.out.len.symm
        have hXl : ∀ e ∈ X, e.1 < n ∧ e.2 < n := fun e he => by
          rw [HXd.out, List.mem_map] at he
          obtain ⟨y, hy, rfl⟩ := he
          have := inP_iff.1 (HL.out y hy)
          unfold natE
          omega
        have hR : RdZ wr 2 a m (eds X) := by rw [HXd.out]; exact (HA.out.fr0 (HF2.out.trans0 HR.out.fr)).rdz HL.out
        obtain ⟨col', hV⟩ := HR.out.vs hml hR (fun h0 k hk => Nat.lt_of_lt_of_le (HA.out.lt h0 k hk) HF2.out.size)
        have HV := Lib.hid hV
        have HXL := Lib.hid hXl
        have HML := Lib.hid hml
        clear hml hXl hR hV HR HG rows col
        obtain ⟨wq, hwq⟩ : ∃ q, q = wr := ⟨_, rfl⟩
        subst hwq
        go_wp2_with fail
        go_loopw [83] (fun s83 wr => ∃ (v : Nat) (col : Nat → Nat) (s : DS) (aB : Option Addr) (cB : Nat), v ≤ n ∧ s83 = .int .i64 v ∧ Hid (Vs w2 wr col x gA gN gL n m a c X v s aB cB)) (fun s83 _ => n - (intOf s83).toNat)
        case atStart => exact ⟨0, col', _, _, _, Nat.zero_le _, rfl, HV⟩
        case round =>
          obtain ⟨v, col, s, aB, cB, hv, rfl, HS⟩ := hrel
          by_cases hlt2 : v < n
          · have hlt2' : (v : Int) < (n : Int) := by omega
            obtain ⟨n1, n2⟩ := HS.out.num hlt2
            obtain ⟨d, hd⟩ : ∃ d, d = s.num.getD v 0 := ⟨_, rfl⟩
            rw [← hd] at n2
            by_cases hz : d = 0
            · subst hz
              have HC := Lib.hid (HS.out.visit HXL.out hn.2 hm hlt2 hd.symm)
              clear hd
              go_wp2_with fail
              refine HC.out.mono ?_
              rintro e w5 ⟨rfl, col', s2, aB', cB', hV⟩
              have HV' := Lib.hid hV
              clear hV
              go_wp2_with fail
              go_roundw
              case rel => exact ⟨v + 1, _, _, _, _, by omega, by go_num, HV'⟩
              case measure => simp [intOf]; omega
            · have hz' : ¬ (d : Int) = 0 := by omega
              have HS' := Lib.hid (HS.out.skip (by rw [← hd]; exact hz))
              clear hd
              go_wp2_with fail
              go_roundw
              case rel => exact ⟨v + 1, _, _, _, _, by omega, by go_num, HS'⟩
              case measure => simp [intOf]; omega
          · obtain rfl : n = v := by omega
            have b5 := HS.out.ss.bk.cell (i := 5) rfl
            have HC := Lib.hid (HS.out.sort HXL.out hn.2)
            go_wp2_with fail
            refine HC.out.mono ?_
            rintro e w5 ⟨rfl, h5, hr, hF⟩
            have HR5 := Lib.hid hr
            have HF5 := Lib.hid hF
            clear hr hF b5
            go_wp2_with fail
            go_ret2
            have h0 : brE (n : Int) l = 0 := by
              have hany : l.any (fun e => !inP n e) = false := by
                rw [List.any_eq_false]; intro e he; rw [HL.out e he]; decide
              unfold brE
              rw [if_neg (by omega), hany, if_neg (by decide), if_neg (by have := HA.out.len; omega)]
            have h1 : brL (n : Int) l = refB n X := by
              unfold brL
              rw [if_pos h0, HXd.out]; rfl
            unfold BrR
            rw [h1, h0]
            exact ⟨_, _, rfl, HR5.out, HF2.out.trans0 HF5.out⟩
end Go.Proofs.Ytihcaemheknjbaa
