/- read: the walk. -/
import Derived.Test.YtihcaemheknjbaaF10
import Derived.Test.YtihcaemheknjbaaF9
import Derived.Test.YtihcaemheknjbaaComMapA
import Derived.Test.YtihcaemheknjbaaComArg
import Derived.Lib.MinMax
namespace Go.Proofs.Ytihcaemheknjbaa
open Go.RowKit
attribute [local go_sem ↓] Go.wp_at_zero Go.wp_at_succ
/-- Events that came in. -/
structure ArgE (w : World) (a : Option Addr) (n c : Nat) (l : List Ev) : Prop where
  cap : n ≤ c
  max : c ≤ 9223372036854775807
  len : l.length = n
  cells : ∀ i x, l[i]? = some x → ∃ b o, a = some ⟨b, o, none⟩ ∧ w.cell? ⟨b, o + i * 3, none⟩ = some (.int .i64 x.1) ∧ w.cell? ⟨b, o + i * 3 + 1, none⟩ = some (.int .i64 x.2.1) ∧ w.cell? ⟨b, o + i * 3 + 2, none⟩ = some (.int .i64 x.2.2)
theorem ArgE.fr0 {w w' : World} {a : Option Addr} {n c : Nat} {l : List Ev} (h : ArgE w a n c l) (f : Fr F0 w w') : ArgE w' a n c l :=
  ⟨h.cap, h.max, h.len, fun i x hx => by
    obtain ⟨b, o, ha, h1, h2, h3⟩ := h.cells i x hx
    exact ⟨b, o, ha, f.cell h1 id, f.cell h2 id, f.cell h3 id⟩⟩
def evL (R : Nat → Nat → Int) (n : Nat) : List Ev := (List.range n).map fun i => (R i 0, R i 1, R i 2)
theorem argE_of {w : World} {a : Option Addr} {n c : Nat} {R : Nat → Nat → Int} (h : ArgSt w a n c [.i64, .i64, .i64] R) : ArgE w a n c (evL R n) := by
  refine ⟨h.cap, h.max, by unfold evL; simp, fun i x hx => ?_⟩
  have hi : i < n := by have := (List.getElem?_eq_some_iff.1 hx).1; unfold evL at this; simpa using this
  unfold evL at hx
  rw [List.getElem?_map, show (List.range n)[i]? = some i by rw [List.getElem?_eq_getElem (by simpa using hi)]; simp] at hx
  injection hx with hx
  subst hx
  obtain ⟨b, o, ha, hc⟩ := h.cells (by omega)
  refine ⟨b, o, ha, ?_, ?_, ?_⟩
  · have := (hc i 0 .i64 hi rfl).1; simpa using this
  · have := (hc i 1 .i64 hi rfl).1; rw [Nat.add_assoc]; simpa using this
  · have := (hc i 2 .i64 hi rfl).1; rw [Nat.add_assoc]; simpa using this
theorem E83 : ElemZ Try.prog 79 83 (.agg #[.int .i64 0, .int .i64 0, .int .i64 0, .int .i64 0]) 4 32 := ⟨by kernel_rfl, by kernel_rfl, rfl⟩
theorem under109 : Try.prog.underlying 109 = some (.map 62 3) := by kernel_rfl
/-- What read leaves. -/
def RdQ (w : World) (o : Option (List Iv)) (e : Ending) (w' : World) : Prop := match o with
  | none => e = .returned (.tuple #[.slice none 0 0, .bool false]) ∧ Fr F0 w w'
  | some out => ∃ a c, e = .returned (.tuple #[.slice a out.length c, .bool true]) ∧ OwnZ w' w.heap.size 83 4 a out.length c (ivs out) ∧ Fr F0 w w'
/-- The map holds the numbers of the edges that are there. -/
structure RdM (w0 wr : World) (bm : Nat) (ao : Option Addr) (co : Nat) (s : RS) (fm : Int × Int → Option Value) (sz : Nat) : Prop where
  mp : MapV wr 3 bm sz fm
  hm : ∀ a b : Nat, fm ((a : Int), (b : Int)) = (s.m a b).map (fun j : Nat => .int .i64 (j : Int))
  sz : sz ≤ s.i
  own : OwnZ wr w0.heap.size 83 4 ao s.out.length co (ivs s.out)
  ap : ¬ onBlk ao bm
  bB : w0.heap.size ≤ bm
  fr : Fr F0 w0 wr
theorem RdM.fr0 {w0 wr w' : World} {bm : Nat} {ao : Option Addr} {co : Nat} {s : RS} {fm : Int × Int → Option Value} {sz : Nat} (h : RdM w0 wr bm ao co s fm sz) (f : Fr F0 wr w') : RdM w0 w' bm ao co s fm sz :=
  { h with mp := h.mp.fr f id, own := h.own.fr0 f, fr := h.fr.trans0 f }
theorem setV_nat (fm : Int × Int → Option Value) (m : Nat → Nat → Option Nat) (h : ∀ a b : Nat, fm ((a : Int), (b : Int)) = (m a b).map (fun j : Nat => .int .i64 (j : Int))) (lo hi : Nat) (v : Option Nat) (a b : Nat) :
    setV fm ((lo : Int), (hi : Int)) (v.map (fun j : Nat => .int .i64 (j : Int))) ((a : Int), (b : Int)) = (setM m lo hi v a b).map (fun j : Nat => .int .i64 (j : Int)) := by
  unfold setV setM
  by_cases c : a = lo ∧ b = hi
  · rw [if_pos c, if_pos (by rw [c.1, c.2])]
  · rw [if_neg c, if_neg (fun e => c ⟨by injection e with e _; omega, by injection e with _ e; omega⟩), h]
theorem pred_le {c : Prop} [Decidable c] {a b : Nat} (h : a ≤ b) : (if c then a - 1 else a) ≤ b + 1 := by split <;> omega
theorem wf_nat {k : Nat} (h : k ≤ 1000000) : (Lit.int .i64 (k : Int)).wf = true := wfI_of (by omega) (by omega)

theorem read_big {w : World} {a : Option Addr} {N c : Nat} {n : Int} (h : ¬ (1 ≤ n ∧ n ≤ 1000 ∧ N ≤ 2000)) : Calls Try.prog 45 #[.int .i64 n, .slice a N c] w fun e w' => e = .returned (.tuple #[.slice none 0 0, .bool false]) ∧ w = w' := by
  by_cases h1 : n < 1
  · have d1 : decide (n < 1) = true := decide_eq_true h1
    go_enter Try.func45, Try.ntmps45
    go_wp2_with fail
    go_ret2
    exact ⟨rfl, rfl⟩
  · have d1 : decide (n < 1) = false := decide_eq_false h1
    by_cases h2 : 1000 < n
    · have d2 : decide (1000 < n) = true := decide_eq_true h2
      go_enter Try.func45, Try.ntmps45
      go_wp2_with fail
      go_ret2
      exact ⟨rfl, rfl⟩
    · have d2 : decide (1000 < n) = false := decide_eq_false h2
      have d3 : decide (2000 < (N : Int)) = true := decide_eq_true (by omega)
      have d4 : decide (2000 < N) = true := decide_eq_true (by omega)
      go_enter Try.func45, Try.ntmps45
      go_wp2_with fail
      go_ret2
      exact ⟨rfl, rfl⟩
set_option maxRecDepth 100000 in
set_option maxHeartbeats 16000000 in
theorem read_ok {w : World} {a : Option Addr} {N c n : Nat} {l : List Ev} (hl : ArgE w a N c l) (h1 : 1 ≤ n) (h2 : n ≤ 1000) (h3 : N ≤ 2000) : Calls Try.prog 45 #[.int .i64 n, .slice a N c] w (RdQ w ((rdS n N l).map RS.out)) := by
  have d1 : decide ((n : Int) < 1) = false := decide_eq_false (by omega)
  have d2 : decide (1000 < (n : Int)) = false := decide_eq_false (by omega)
  have d3 : decide (2000 < (N : Int)) = false := decide_eq_false (by omega)
  have d4 : decide (2000 < N) = false := decide_eq_false (by omega)
  have hmm := @run_makeMap Try.prog
  have HL := Lib.hid hl
  clear hl
  go_enter Try.func45, Try.ntmps45
  go_wp2_with fail
  clear d1 d2 d3 d4 hmm
  obtain ⟨bm, hbm⟩ : ∃ b, b = w.heap.size := ⟨_, rfl⟩
  rw [← hbm]
  have Hbm := Lib.hid hbm
  clear hbm
  go_loopw [6, 27] (fun s6 s27 wr => ∃ (k : Nat) (ao : Option Addr) (no co : Nat) (s : RS) (fm : Int × Int → Option Value) (sz : Nat), k ≤ N ∧ s27 = .int .i64 k ∧ s6 = .slice ao no co ∧ Hid (no = s.out.length) ∧ Hid (rdS n N (l.take k) = some s) ∧ Hid (RdM w wr bm ao co s fm sz)) (fun _ s27 _ => N - (intOf s27).toNat)
  case atStart =>
    refine ⟨0, none, 0, 0, ⟨0, [], fun _ _ => none⟩, fun _ => none, 0, Nat.zero_le _, rfl, rfl, Lib.hid rfl, Lib.hid rfl, Lib.hid ⟨?_, fun _ _ => rfl, Nat.le_refl _, OwnZ.nil _ _ _ _, onBlk_none _, by rw [Hbm.out]; exact Nat.le_refl _, (Fr.refl _ _).alloc _⟩⟩
    rw [Hbm.out]
    exact MapV.made w 3
  case round =>
    obtain ⟨k, ao, no, co, s, fm, sz, hk, rfl, rfl, Hno, HS, H⟩ := hrel
    by_cases hlt : k < N
    · obtain ⟨x, hx⟩ : ∃ x, l[k]? = some x := ⟨_, List.getElem?_eq_getElem (by rw [HL.out.len]; exact hlt)⟩
      obtain ⟨K, A, B⟩ := x
      have I := rdS_inv n N _ HS.out
      have hik : s.i = k := by rw [I.i, List.length_take, HL.out.len]; omega
      have hstep : rdS n N (l.take (k + 1)) = stq n N s (K, A, B) := by rw [take_snoc hx, rdS_snoc, HS.out]; rfl
      have hnone : stq n N s (K, A, B) = none → rdS n N l = none := fun h => by
        rw [← List.take_append_drop (k + 1) l]
        exact rdS_none (hstep.trans h)
      obtain ⟨b, o, rfl, x0, x1, x2⟩ := (HL.out.fr0 H.out.fr).cells k _ hx
      dsimp only at x0 x1 x2
      have hN' : no ≤ 2000 := by have := I.le; rw [List.length_take, HL.out.len] at this; have := Hno.out; omega
      have HI := Lib.hid I
      have Hik := Lib.hid hik
      have Hstep := Lib.hid hstep
      have Hnone := Lib.hid hnone
      obtain ⟨w1, hw1⟩ : ∃ w1, wr.alloc (.cells #[.int .i64 K, .int .i64 A, .int .i64 B] 45) = w1 := ⟨_, rfl⟩
      obtain ⟨b1, hb1⟩ : ∃ b, wr.heap.size = b := ⟨_, rfl⟩
      have B1 : Blk w1 b1 45 [.int .i64 K, .int .i64 A, .int .i64 B] := by rw [← hw1, ← hb1]; exact Blk.new wr 45 _
      have F1 : Fr F0 wr w1 := by rw [← hw1]; exact (Fr.refl _ _).alloc _
      have H1 := Lib.hid (H.out.fr0 F1)
      have y0 := B1.cell (i := 0) rfl
      have y1 := B1.cell (i := 1) rfl
      have y2 := B1.cell (i := 2) rfl
      have HB1 := Lib.hid B1
      have kN : (k : Int) < (N : Int) := by omega
      clear hx I hik hstep hnone B1 F1
      by_cases c1 : A < 0
      · have e1 : decide (A < 0) = true := decide_eq_true c1
        go_wp2_with fail
        go_ret2
        unfold RdQ
        rw [Hnone.out (by unfold stq okE; rw [if_neg (by simp; omega)])]
        exact ⟨rfl, H1.out.fr⟩
      have e1 : decide (A < 0) = false := decide_eq_false c1
      by_cases c2 : (n : Int) ≤ A
      · have e2 : decide ((n : Int) ≤ A) = true := decide_eq_true c2
        go_wp2_with fail
        go_ret2
        unfold RdQ
        rw [Hnone.out (by unfold stq okE; rw [if_neg (by simp; omega)])]
        exact ⟨rfl, H1.out.fr⟩
      have e2 : decide ((n : Int) ≤ A) = false := decide_eq_false c2
      by_cases c3 : B < 0
      · have e3 : decide (B < 0) = true := decide_eq_true c3
        go_wp2_with fail
        go_ret2
        unfold RdQ
        rw [Hnone.out (by unfold stq okE; rw [if_neg (by simp; omega)])]
        exact ⟨rfl, H1.out.fr⟩
      have e3 : decide (B < 0) = false := decide_eq_false c3
      by_cases c4 : (n : Int) ≤ B
      · have e4 : decide ((n : Int) ≤ B) = true := decide_eq_true c4
        go_wp2_with fail
        go_ret2
        unfold RdQ
        rw [Hnone.out (by unfold stq okE; rw [if_neg (by simp; omega)])]
        exact ⟨rfl, H1.out.fr⟩
      have e4 : decide ((n : Int) ≤ B) = false := decide_eq_false c4
      obtain ⟨va, rfl⟩ := Int.eq_ofNat_of_zero_le (show 0 ≤ A by omega)
      obtain ⟨vb, rfl⟩ := Int.eq_ofNat_of_zero_le (show 0 ≤ B by omega)
      have hok : okE n (K, (va : Int), (vb : Int)) = true := by unfold okE; simp; omega
      have e2' : decide (n ≤ va) = false := decide_eq_false (by omega)
      have e4' : decide (n ≤ vb) = false := decide_eq_false (by omega)
      obtain ⟨lo, hlo⟩ : ∃ lo, lo = min va vb := ⟨_, rfl⟩
      obtain ⟨hi, hhi⟩ : ∃ hi, hi = max va vb := ⟨_, rfl⟩
      have ml : min (va : Int) (vb : Int) = (lo : Int) := by omega
      have mh : max (va : Int) (vb : Int) = (hi : Int) := by omega
      have hlB : lo ≤ 1000 ∧ hi ≤ 1000 := by omega
      have eq0 : stq n N s (K, (va : Int), (vb : Int)) = match s.m lo hi with | none => if K = 1 ∧ va ≠ vb then some ⟨s.i + 1, s.out ++ [(lo, hi, s.i, N)], setM s.m lo hi (some s.out.length)⟩ else if K = 3 then some ⟨s.i + 1, s.out, s.m⟩ else none | some j => if K = 2 then some ⟨s.i + 1, endI s.out j s.i, setM s.m lo hi none⟩ else if K = 3 then some ⟨s.i + 1, s.out, s.m⟩ else none := by
        unfold stq loE hiE
        rw [if_pos hok]
        simp only [Int.toNat_natCast, ne_eq, Int.natCast_inj, ← hlo, ← hhi]
        cases s.m lo hi <;> rfl
      obtain ⟨w2, hw2⟩ : ∃ w2, w1.alloc (.cells #[.int .i64 (lo : Int), .int .i64 (hi : Int)] 62) = w2 := ⟨_, rfl⟩
      obtain ⟨b2, hb2⟩ : ∃ b, w1.heap.size = b := ⟨_, rfl⟩
      have B2 : Blk w2 b2 62 [.int .i64 (lo : Int), .int .i64 (hi : Int)] := by rw [← hw2, ← hb2]; exact Blk.new w1 62 _
      have F2 : Fr F0 w1 w2 := by rw [← hw2]; exact (Fr.refl _ _).alloc _
      have H2 := Lib.hid (H1.out.fr0 F2)
      have B12 := HB1.out.fr F2 id
      have z0 := B2.cell (i := 0) rfl
      have z1 := B2.cell (i := 1) rfl
      have v0 := B12.cell (i := 0) rfl
      have v1 := B12.cell (i := 1) rfl
      have v2 := B12.cell (i := 2) rfl
      have hlook := H2.out.mp.look_ok under109 plainI (k := ((lo : Int), (hi : Int))) ⟨wf_nat (by omega), wf_nat (by omega)⟩
      rw [H2.out.hm lo hi] at hlook
      have HB12 := Lib.hid B12
      have HB2 := Lib.hid B2
      have Hlo := Lib.hid (And.intro hlo hhi)
      have HE0 := Lib.hid eq0
      clear hok hlo hhi B2 F2 B12 eq0 c1 c2 c3 c4
      cases hsm : s.m lo hi with
      | none =>
        rw [hsm] at hlook HE0
        simp only [Option.map_none, Option.getD_none, Option.isSome_none] at hlook
        dsimp only at HE0
        have Hsm := Lib.hid hsm
        clear hsm
        by_cases g1 : K = 1
        · have k1 : (K == 1) = true := by simpa using g1
          have k2 : (K == 2) = false := by simp; omega
          have l3 : (K != 3) = true := by simp; omega
          by_cases g4 : va = vb
          · have n4 : ((va : Int) != (vb : Int)) = false := by simp; omega
            have Hn := Lib.hid (show stq n N s (K, (va : Int), (vb : Int)) = none by rw [HE0.out, if_neg (fun h => h.2 g4), if_neg (by omega)])
            clear g1 g4
            go_wp2_with fail
            go_ret2
            unfold RdQ
            rw [Hnone.out (Hn.out)]
            exact ⟨rfl, H2.out.fr⟩
          · have n4 : ((va : Int) != (vb : Int)) = true := by simp; omega
            have hn1 : Hid (rdS n N (l.take (k + 1)) = some ⟨k + 1, s.out ++ [(lo, hi, k, N)], setM s.m lo hi (some s.out.length)⟩) := Lib.hid (by rw [Hstep.out, HE0.out, if_pos ⟨g1, g4⟩, Hik.out])
            clear g1 g4
            have HO : Hid (∀ W, Fr (onB bm) w2 W → OwnZ W w.heap.size 83 4 ao no co (ivs s.out)) := Lib.hid (fun W f => by rw [Hno.out]; exact H2.out.own.fr f (fun j hj (e : j = bm) => H2.out.ap (e ▸ hj)))
            go_wp2_with (first
              | (at_mapUpdate; refine wpMapStore H2.out.mp under109 (by have := H2.out.sz; have := Hik.out; omega) (k := ((lo : Int), (hi : Int))) ⟨wf_nat (by omega), wf_nat (by omega)⟩ (v := .int .i64 (no : Int)) ⟨_, plainElem_int (by kernel_rfl) (wf_nat (by omega))⟩ rfl rfl rfl ?_; intro w3 mp3 F3; rw [H2.out.hm, Hsm.out] at mp3; replace mp3 := Lib.hid mp3; have G3 := Lib.hid F3; have z3 := (HB2.out.fr F3 (show ¬ (b2 = bm) from fun e => (by have := H1.out.mp.lt; omega))).cell (i := 0) rfl; have z4 := (HB2.out.fr F3 (show ¬ (b2 = bm) from fun e => (by have := H1.out.mp.lt; omega))).cell (i := 1) rfl; clear F3)
              | (at_builtin; refine wpAppZAt E83 (by decide) (HO.out _ G3.out) (us := iv4 (lo, hi, k, N)) rfl (iv4_one _) (by omega) (by omega) (by have := H2.out.fr.size; have := G3.out.size; omega) rfl rfl ?_; intro a' c' w4 own' fr' at'; replace own' := Lib.hid own'; replace fr' := Lib.hid fr'; replace at' := Lib.hid at'))
            go_roundw
            case rel =>
              have g4 : Fr (fun j => j = bm ∨ onBlk ao j) w2 w4 := (G3.out.mono (fun _ _ h => .inl h)).trans fr'.out (fun _ _ h => .inr h)
              refine ⟨k + 1, a', no + 1, c', ⟨k + 1, s.out ++ [(lo, hi, k, N)], setM s.m lo hi (some s.out.length)⟩, _, _, by omega, by go_num, rfl, Lib.hid (by rw [Hno.out]; simp), hn1, Lib.hid ⟨mp3.out.fr fr'.out H2.out.ap, ?_, ?_, ?_, ?_, H2.out.bB, H2.out.fr.trans g4 (fun j hj h => ?_)⟩⟩
              · intro a b
                have := setV_nat fm s.m H2.out.hm lo hi (some s.out.length) a b
                rw [← Hno.out] at this ⊢
                exact this
              · have := H2.out.sz; have := Hik.out; simp; omega
              · have h := own'.out; rw [Hno.out] at h; rw [ivs_snoc]; simpa using h
              · exact fun hk => (at'.out bm hk).elim H2.out.ap (fun h => by have := H2.out.mp.lt; have := G3.out.size; omega)
              · rcases h with h | h
                · have := H2.out.bB; omega
                · have := (H2.out.own.blk j h).1; omega
            case measure => simp [intOf]; omega
        have k1 : (K == 1) = false := by simpa using g1
        by_cases g3 : K = 3
        · skip
          have k2 : (K == 2) = false := by simp; omega
          have l3 : (K != 3) = false := by simpa using g3
          have hn1 : Hid (rdS n N (l.take (k + 1)) = some ⟨k + 1, s.out, s.m⟩) := Lib.hid (by rw [Hstep.out, HE0.out, if_neg (fun h => g1 h.1), if_pos g3, Hik.out])
          clear g3
          go_wp2_with fail
          go_roundw
          case rel => exact ⟨k + 1, ao, no, co, ⟨k + 1, s.out, s.m⟩, fm, sz, by omega, by go_num, rfl, Hno, hn1, Lib.hid ⟨H2.out.mp, H2.out.hm, by have := H2.out.sz; have := Hik.out; show sz ≤ k + 1; omega, H2.out.own, H2.out.ap, H2.out.bB, H2.out.fr⟩⟩
          case measure => simp [intOf]; omega
        have l3 : (K != 3) = true := by simpa using g3
        have Hn := Lib.hid (show stq n N s (K, (va : Int), (vb : Int)) = none by rw [HE0.out, if_neg (fun h => g1 h.1), if_neg g3])
        by_cases g2 : K = 2
        · have k2 : (K == 2) = true := by simpa using g2
          clear g1 g2 g3
          go_wp2_with fail
          go_ret2
          unfold RdQ
          rw [Hnone.out (Hn.out)]
          exact ⟨rfl, H2.out.fr⟩
        · have k2 : (K == 2) = false := by simpa using g2
          clear g1 g2 g3
          go_wp2_with fail
          go_ret2
          unfold RdQ
          rw [Hnone.out (Hn.out)]
          exact ⟨rfl, H2.out.fr⟩
      | some j =>
        rw [hsm] at hlook HE0
        simp only [Option.map_some, Option.getD_some, Option.isSome_some] at hlook
        dsimp only at HE0
        have hjl : j < no := by rw [Hno.out]; exact HI.out.lt _ _ _ hsm
        have Hsm := Lib.hid hsm
        clear hsm
        by_cases g2 : K = 2
        · have k2 : (K == 2) = true := by simpa using g2
          have k1 : (K == 1) = false := by simp; omega
          have hn1 : Hid (rdS n N (l.take (k + 1)) = some ⟨k + 1, endI s.out j k, setM s.m lo hi none⟩) := Lib.hid (by rw [Hstep.out, HE0.out, if_pos g2, Hik.out])
          obtain ⟨⟨ja, jb, jf, jt⟩, hj⟩ : ∃ x, s.out[j]? = some x := ⟨_, List.getElem?_eq_getElem (by rw [← Hno.out]; exact hjl)⟩
          have hend : endI s.out j k = s.out.set j (ja, jb, jf, k) := by unfold endI; rw [hj]
          have own2 := H2.out.own
          rw [← Hno.out] at own2
          obtain ⟨go, rfl, hgo1, hgo2, hgc, hgf⟩ := own2.at (by omega)
          have q0 := hgc (j * 4 + 3) _ (by rw [ivs_get hj 3 (by omega)]; rfl)
          have q1 := hgf (j * 4 + 3)
          have own3 := Lib.hid (OwnZ.set (i := j * 4 + 3) own2 (.int .i64 (k : Int)))
          rw [ivs_set hj] at own3
          rw [hend] at hn1
          have hjl' : (j : Int) < (no : Int) := by omega
          have bmn : bm ≠ go := fun e => H2.out.ap (e ▸ on1 go)
          have F3 := Fr.setCell (S := onB go) (p := ⟨go, j * 4 + 3, none⟩) (Fr.refl _ w2) (fun _ => rfl) (.int .i64 (k : Int))
          have b2n : b2 ≠ go := fun e => by have := (H1.out.own.blk go (on1 go)).2; omega
          have u0 := (HB2.out.fr F3 b2n).cell (i := 0) rfl
          have u1 := (HB2.out.fr F3 b2n).cell (i := 1) rfl
          have mp3 := Lib.hid (H2.out.mp.fr F3 bmn)
          have HF3 := Lib.hid F3
          obtain ⟨w3, hw3⟩ : ∃ w3, w2.setCell ⟨go, j * 4 + 3, none⟩ (.int .i64 (k : Int)) = w3 := ⟨_, rfl⟩
          rw [hw3] at own3 mp3 HF3 u0 u1
          clear g2 hend own2 hgc hgf hj F3 bmn b2n
          go_wp2_with (at_delete; refine wpMapDrop mp3.out under109 (k := ((lo : Int), (hi : Int))) ⟨wf_nat (by omega), wf_nat (by omega)⟩ rfl rfl ?_; intro w4 mp4 F4; replace mp4 := Lib.hid mp4; replace F4 := Lib.hid F4)
          go_roundw
          case rel =>
            have g4 : Fr (fun j => j = bm ∨ j = go) w2 w4 := (HF3.out.mono (fun _ _ h => .inr h)).trans F4.out (fun _ _ h => .inl h)
            refine ⟨k + 1, some ⟨go, 0, none⟩, no, co, ⟨k + 1, s.out.set j (ja, jb, jf, k), setM s.m lo hi none⟩, _, _, by omega, by go_num, rfl, Lib.hid (by rw [Hno.out]; simp), hn1, Lib.hid ⟨mp4.out, ?_, ?_, ?_, H2.out.ap, H2.out.bB, H2.out.fr.trans g4 (fun j hj h => ?_)⟩⟩
            · exact fun a b => setV_nat fm s.m H2.out.hm lo hi none a b
            · exact pred_le (by have := H2.out.sz; have := Hik.out; omega)
            · have h := own3.out.fr F4.out (fun i hi (e : i = bm) => H2.out.ap (e ▸ hi)); rw [Hno.out] at h; simpa using h
            · rcases h with h | h
              · have := H2.out.bB; omega
              · omega
          case measure => simp [intOf]; omega
        have k2 : (K == 2) = false := by simpa using g2
        by_cases g3 : K = 3
        · have k1 : (K == 1) = false := by simp; omega
          have l3 : (K != 3) = false := by simpa using g3
          have hn1 : Hid (rdS n N (l.take (k + 1)) = some ⟨k + 1, s.out, s.m⟩) := Lib.hid (by rw [Hstep.out, HE0.out, if_neg g2, if_pos g3, Hik.out])
          clear g3
          go_wp2_with fail
          go_roundw
          case rel => exact ⟨k + 1, ao, no, co, ⟨k + 1, s.out, s.m⟩, fm, sz, by omega, by go_num, rfl, Hno, hn1, Lib.hid ⟨H2.out.mp, H2.out.hm, by have := H2.out.sz; have := Hik.out; show sz ≤ k + 1; omega, H2.out.own, H2.out.ap, H2.out.bB, H2.out.fr⟩⟩
          case measure => simp [intOf]; omega
        have l3 : (K != 3) = true := by simpa using g3
        have Hn := Lib.hid (show stq n N s (K, (va : Int), (vb : Int)) = none by rw [HE0.out, if_neg g2, if_neg g3])
        by_cases g1 : K = 1
        · have k1 : (K == 1) = true := by simpa using g1
          clear g1 g2 g3
          go_wp2_with fail
          go_ret2
          unfold RdQ
          rw [Hnone.out (Hn.out)]
          exact ⟨rfl, H2.out.fr⟩
        · have k1 : (K == 1) = false := by simpa using g1
          clear g1 g2 g3
          go_wp2_with fail
          go_ret2
          unfold RdQ
          rw [Hnone.out (Hn.out)]
          exact ⟨rfl, H2.out.fr⟩
    · obtain rfl : N = k := by omega
      go_wp2_with fail
      go_ret2
      have h := HS.out
      rw [List.take_of_length_le (by rw [HL.out.len]; exact Nat.le_refl _)] at h
      rw [h]
      show ∃ a c, _ ∧ _
      have := Hno.out
      subst this
      exact ⟨ao, co, rfl, H.out.own, H.out.fr⟩
end Go.Proofs.Ytihcaemheknjbaa
