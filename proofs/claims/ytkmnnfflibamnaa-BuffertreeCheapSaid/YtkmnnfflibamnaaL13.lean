/- Buffer trees: the law of cheap updates. -/
import Derived.Test.YtkmnnfflibamnaaQ1
import Derived.BigQuiet
import Derived.Deep.DeepCutAuto
namespace Go.Proofs.Ytkmnnfflibamnaa
open Go.RowKit
attribute [local go_sem ↓] Go.wp_at_zero Go.wp_at_succ
/-- An argument that is a slice of int16s. -/
structure ArgI16 (w : World) (a : Option Addr) (n c : Nat) (us : List Int) : Prop where
  rd : Rd w a n (us.map (Value.int .i16))
  cap : n ≤ c
  wf : ∀ u ∈ us, -32768 ≤ u ∧ u ≤ 32767
theorem argI16_nil (w : World) : ArgI16 w none 0 0 [] := ⟨Rd.nil _ _, Nat.le_refl _, by simp⟩
theorem argI16_some {w : World} {x : Addr} {l c : Nat} {zs : List Int} (hl : l ≤ c) (hm : c ≤ maxLen) (hz : zs.length = c)
    (hcell : ∀ i, i < zs.length → w.cell? (x.add i) = some (.int .i16 (zs.getD i 0))) (hwz : ∀ n ∈ zs, (Lit.int .i16 n).wf = true) : ArgI16 w (some x) l c (zs.take l) := by
  refine ⟨⟨by simp; omega, by unfold maxLen at hm; omega, fun hn => ?_⟩, hl, fun u hu => ?_⟩
  · have hsp : x.spot = none := by
      have h0 := hcell 0 (by omega)
      simp only [Addr.add, if_true, World.cell?] at h0
      split at h0
      · cases hs : x.spot with
        | none => rfl
        | some s => simp [hs] at h0
      · cases h0
    obtain ⟨b, o, s⟩ := x
    simp only at hsp
    subst hsp
    refine ⟨b, o, rfl, fun i u hu => ?_⟩
    have hi : i < l := by
      have := (List.getElem?_eq_some_iff.1 hu).1
      simp at this; omega
    have h := hcell i (by omega)
    rw [Addr.add_lit] at h
    rw [h]
    simp only [List.getElem?_map, List.getElem?_take, hi, if_true] at hu
    rw [List.getElem?_eq_getElem (by omega)] at hu
    simp at hu
    rw [← hu, List.getD_eq_getElem?_getD, List.getElem?_eq_getElem (by omega)]
    rfl
  · have h := hwz u (List.mem_of_mem_take hu)
    simp only [Lit.wf, Bool.and_eq_true, decide_eq_true_eq] at h
    have e1 : IntKind.i16.min = -32768 := by decide
    have e2 : IntKind.i16.max = 32767 := by decide
    rw [e1, e2] at h
    exact h
/-- Where some updates stand. -/
def CS (w0 w : World) (t B M i : Nat) : Prop := ∃ col T, TS w col t B M T ∧ UP i T.tt T.buf ∧ Chp B M (fanN B M) i T.tt T.buf ∧ (∀ k, k < w0.heap.size → col k = 0) ∧ Fr F0 w0 w
theorem CS.of {w0 w w2 : World} {t B M i : Nat} {col col' : Nat → Nat} {T T' : TV} {e : En} (u1 : TS w2 col' t B M T') (u2 : (T'.tt, T'.buf) = updT B (fanN B M) M T.tt T.buf e) (u3 : Ch w w2 col col') (h1 : UP (i + 1) (updT B (fanN B M) M T.tt T.buf e).1 (updT B (fanN B M) M T.tt T.buf e).2) (h2 : Chp B M (fanN B M) (i + 1) (updT B (fanN B M) M T.tt T.buf e).1 (updT B (fanN B M) M T.tt T.buf e).2) (hz : ∀ k, k < w0.heap.size → col k = 0) (hf : Fr F0 w0 w) : CS w0 w2 t B M (i + 1) := by
  rw [← u2] at h1 h2
  exact ⟨col', T', u1, h1, h2, fun k hk => u3.col k (Nat.lt_of_lt_of_le hk hf.size) (hz k hk), hf.trans u3.fr (fun k hk hn => hn (hz k hk))⟩
set_option maxRecDepth 100000 in
set_option maxHeartbeats 8000000 in
theorem Cheap_law (b m : Int) (a : Option Addr) (n c : Nat) (us : List Int) (v : Int) (w : World) (hA : ArgI16 w a n c us) (hv : (Lit.int .u16 v).wf = true) :
    Calls Try.prog 3 #[.int .i64 b, .int .i64 m, .slice a n c, .int .u16 v] w fun e w' => e = .returned (.bool true) ∧ Fr F0 w w' := by
  have HA := Lib.hid (awake_any w)
  have HAr := Lib.hid hA
  have HSz := Lib.hid (fun W => Sizes_any b m W)
  have hv2 : 0 ≤ v ∧ v ≤ 65535 := by
    simp only [Lit.wf, Bool.and_eq_true, decide_eq_true_eq] at hv
    have e1 : IntKind.u16.min = 0 := by decide
    have e2 : IntKind.u16.max = 65535 := by decide
    rw [e1, e2] at hv
    exact hv
  clear hA hv
  by_cases hn : 60 < n
  · have hd : 60 < (n : Int) := by omega
    clear hn
    go_enter Try.func3, Try.ntmps3
    go_wp2_with (first | (go_at_call 10; refine HA.out.mono ?_; rintro e w1 ⟨rfl, F1⟩; have X1 := Lib.hid F1; clear F1) | (go_at_call 11; refine (HSz.out _).mono ?_; rintro e w2 ⟨rfl, rfl⟩))
    go_ret
    exact ⟨rfl, X1.out⟩
  have hd : ¬ 60 < (n : Int) := by omega
  have hn60 : n ≤ 60 := by omega
  clear hn
  cases hs : szB b m with
  | false =>
    rw [hs] at HSz
    clear hs
    go_enter Try.func3, Try.ntmps3
    go_wp2_with (first | (go_at_call 10; refine HA.out.mono ?_; rintro e w1 ⟨rfl, F1⟩; have X1 := Lib.hid F1; clear F1) | (go_at_call 11; refine (HSz.out _).mono ?_; rintro e w2 ⟨rfl, rfl⟩))
    go_ret
    exact ⟨rfl, X1.out⟩
  | true =>
    rw [hs] at HSz
    have h1 := szB_iff.1 hs
    obtain ⟨B, rfl⟩ : ∃ B : Nat, b = (B : Int) := ⟨b.toNat, by omega⟩
    obtain ⟨M, rfl⟩ : ∃ M : Nat, m = (M : Int) := ⟨m.toNat, by omega⟩
    have HN : Hid (∀ W, Calls Try.prog 12 #[.int .i64 (B : Int), .int .i64 (M : Int)] W fun e w' => ∃ t, e = .returned (.tuple #[.pointer (some ⟨t, 0, none⟩), .int .i64 0]) ∧ Blk w' t 77 [.int .i64 (B : Int), .int .i64 (M : Int), .slice none 0 0, .slice none 0 0, .int .i64 0] ∧ W.heap.size ≤ t ∧ Fr F0 W w') := Lib.hid (fun W => by
      have h1 := New_any (B : Int) (M : Int) W
      unfold NewR at h1
      rw [hs] at h1
      exact h1.mono (fun e w' h2 => by rw [if_pos rfl] at h2; exact h2))
    have hBM : (1 ≤ B ∧ B ≤ 64) ∧ (2 * B ≤ M ∧ M ≤ 1000) := by omega
    clear hs h1
    obtain ⟨N, hN⟩ : ∃ N : Nat, v % 401 = (N : Int) := ⟨(v % 401).toNat, by omega⟩
    have hN4 : N ≤ 400 := by omega
    go_enter Try.func3, Try.ntmps3
    go_upto_region 8 with (first | (go_at_call 10; refine HA.out.mono ?_; rintro e w1 ⟨rfl, F1⟩; have X1 := Lib.hid F1; clear F1) | (go_at_call 11; refine (HSz.out _).mono ?_; rintro e w2 ⟨rfl, rfl⟩) | (go_at_call 12; refine (HN.out _).mono ?_; rintro e w3 ⟨t, rfl, h1, h2, F3⟩; have X3 := Lib.hid (And.intro h1 (And.intro h2 (X1.out.trans0 F3))); clear h1 h2 F3))
    clear HN HSz HA
    have hF2 : 2 ≤ fanN B M := Nat.le_max_left _ _
    have HF2 := Lib.hid hF2
    have HBM := Lib.hid hBM
    have H0 : Hid (CS w w3 t B M 0) := Lib.hid ⟨colN t, tvN, TS.new X3.out.1, UP.nil, Chp.nil (by omega), fun k hk => by
      unfold colN
      rw [if_neg (fun e => by have := X3.out.2.1; have := X1.out.size; omega)], X3.out.2.2⟩
    clear X3 X1 hF2 hBM
    go_wp2_with fail
    rw [hN]
    go_loopw [41] (fun s41 wr => ∃ i : Nat, i ≤ N ∧ s41 = .int .i64 (i : Int) ∧ Hid (CS w wr t B M i)) (fun s41 _ => N - (intOf s41).toNat)
    case atStart => exact ⟨0, Nat.zero_le _, rfl, H0⟩
    case round =>
      obtain ⟨i, hi, rfl, H⟩ := hrel
      clear H0
      by_cases hlt : i < N
      · have hlt' : (i : Int) < (N : Int) := by omega
        clear hN
        go_upto_if 47 with fail
        go_cut [12] (fun s12 wx => ∃ key : Int, s12 = .int .i64 key ∧ inK key = true ∧ Hid (Fr F0 wr wx))
        case first =>
          rcases Nat.eq_zero_or_pos n with h0 | h0
          · subst h0
            go_wp2_with fail
            go_meet
            exact ⟨(i : Int), rfl, by unfold inK; simp; omega, Lib.hid (Fr.refl _ _)⟩
          · have h0' : 0 < (n : Int) := by omega
            go_upto_region 13 with fail
            obtain ⟨bk, ok, ek, cc⟩ := HAr.out.rd.cells h0
            subst ek
            obtain ⟨r, hrd⟩ : ∃ r, r = i % n := ⟨_, rfl⟩
            obtain ⟨q, hqd⟩ : ∃ q, q = i / n := ⟨_, rfl⟩
            have hrn : r < n := by rw [hrd]; exact Nat.mod_lt _ h0
            have hul : us.length = n := by have := HAr.out.rd.len; simpa using this
            obtain ⟨ur, hur⟩ : ∃ x, us[r]? = some x := ⟨_, List.getElem?_eq_getElem (by omega)⟩
            obtain ⟨u0, hu0⟩ : ∃ x, us[0]? = some x := ⟨_, List.getElem?_eq_getElem (by omega)⟩
            have FW : Fr F0 w wr := by
              obtain ⟨_, _, _, _, _, _, h9⟩ := H.out
              exact h9
            have dr := FW.cell (cc r (.int .i16 ur) (by rw [List.getElem?_map, hur]; rfl)) id
            have d0 := FW.cell (cc 0 (.int .i16 u0) (by rw [List.getElem?_map, hu0]; rfl)) id
            rw [Nat.add_zero] at d0
            have b1 := HAr.out.wf ur (List.mem_of_getElem? hur)
            have b2 := HAr.out.wf u0 (List.mem_of_getElem? hu0)
            have hq4 : q ≤ 400 := by rw [hqd]; exact Nat.le_trans (Nat.div_le_self i n) (by omega)
            have tm : Int.tmod (i : Int) (n : Int) = (r : Int) := by rw [hrd]; rfl
            have td : Int.tdiv (i : Int) (n : Int) = (q : Int) := by rw [hqd]; rfl
            have hm2 : (i : Int) % (n : Int) = (r : Int) := by rw [hrd]; rfl
            have hd2 : (i : Int) / (n : Int) = (q : Int) := by rw [hqd]; rfl
            have hrn' : (r : Int) < (n : Int) := by omega
            have hn0 : ¬ (n : Int) = 0 := by omega
            have hn0' : ¬ n = 0 := by omega
            have hwr : IntKind.i64.wrap ur = ur := wI (by omega) (by omega)
            have hw0 : IntKind.i64.wrap u0 = u0 := wI (by omega) (by omega)
            obtain ⟨p, hp⟩ : ∃ p, p = (q : Int) * u0 := ⟨_, rfl⟩
            have hpb : -13107200 ≤ p ∧ p ≤ 13107200 := by
              have h1 := Int.mul_le_mul_of_nonneg_left (c := (q : Int)) b2.1 (by omega)
              have h2 := Int.mul_le_mul_of_nonneg_left (c := (q : Int)) b2.2 (by omega)
              rw [← hp] at h1 h2
              omega
            have hwp : IntKind.i64.wrap ((q : Int) * u0) = p := by rw [← hp]; exact wI (by omega) (by omega)
            have hmb : -7 < Int.tmod p 7 ∧ Int.tmod p 7 < 7 := ⟨Int.lt_tmod_of_pos p (by omega), Int.tmod_lt_of_pos p (by omega)⟩
            obtain ⟨z, hz⟩ : ∃ z, Int.tmod p 7 = z := ⟨_, rfl⟩
            rw [hz] at hmb
            have hwa : IntKind.i64.wrap (ur + z) = ur + z := wI (by omega) (by omega)
            have Hb := Lib.hid (And.intro b1 hmb)
            clear cc hrd hqd hul hur hu0 FW b1 b2 hp hpb hmb
            go_quiet (fail)
            go_wp2_with fail
            go_meet
            exact ⟨ur + z, rfl, by unfold inK; simp; have := Hb.out; omega, Lib.hid ((Fr.refl F0 wr).drewN _)⟩
        case rest =>
          obtain ⟨key, rfl, hk, HF⟩ := hcut
          obtain ⟨col, T, hT, hU, hC, hz, hf⟩ := H.out
          obtain ⟨a9, p1, p2, p3⟩ := hU
          have hBM := HBM.out
          have hT2 := hT.fr0 HF.out
          have hiK : inK (i : Int) = true := by unfold inK; simp; omega
          have HR := Lib.hid (fun (_ : True) => Remove_any (update_any (key, 0, true) hT2 p1 (by omega) (by omega) (by omega) p3 hBM.1 hBM.2 hk rfl))
          have HPu := Lib.hid (fun (_ : True) => Put_any (update_any (key, (i : Int), false) hT2 p1 (by omega) (by omega) (by omega) p3 hBM.1 hBM.2 hk hiK))
          have HUP : Hid (∀ e, UP (i + 1) (updT B (fanN B M) M T.tt T.buf e).1 (updT B (fanN B M) M T.tt T.buf e).2) := Lib.hid (fun e => UP.upd HF2.out hBM.1.1 ⟨a9, p1, p2, p3⟩ (by omega) e)
          have HCP : Hid (∀ e, Chp B M (fanN B M) (i + 1) (updT B (fanN B M) M T.tt T.buf e).1 (updT B (fanN B M) M T.tt T.buf e).2) := Lib.hid (fun e => hC.upd HF2.out hBM.2.1 (by omega) e)
          have HZ := Lib.hid (And.intro hz (hf.trans0 HF.out))
          have HMo := Lib.hid (fun W => Most_any (i + 1) M W (by omega) (by omega))
          clear hT2 hT hC hz hf p1 p2 p3 HF H hiK hk hBM
          go_upto_if 69 with fail
          go_cut [13] (fun s13 wx => s13 = .int .i64 0 ∧ Hid (CS w wx t B M (i + 1)))
          case first =>
            go_wp2_with (first | (go_at_call 13; refine (HR.out trivial).mono ?_; rintro e w2 ⟨rfl, col', T', u1, u2, u3⟩; have X2 := Lib.hid (CS.of u1 u2 u3 (HUP.out _) (HCP.out _) HZ.out.1 HZ.out.2); clear u1 u2 u3) | (go_at_call 14; refine (HPu.out trivial).mono ?_; rintro e w2 ⟨rfl, col', T', u1, u2, u3⟩; have X2 := Lib.hid (CS.of u1 u2 u3 (HUP.out _) (HCP.out _) HZ.out.1 HZ.out.2); clear u1 u2 u3))
            all_goals
              go_meet
              exact ⟨rfl, X2⟩
          case rest =>
            obtain ⟨rfl, HH⟩ := hcut
            obtain ⟨col2, T2, q1, q2, q3, q4, q5⟩ := HH.out
            have HBl := Lib.hid (Blocks_any q1)
            obtain ⟨mv, hmv⟩ : ∃ z, z = T2.mv := ⟨_, rfl⟩
            rw [← hmv] at HBl
            have hch : mv * B ≤ 3 * (i + 1) * (lg ((i + 1) / M) + 1) := by rw [hmv]; exact q3.cheap (by have := HBM.out; omega)
            have hmvb : mv ≤ 1000000 := by
              obtain ⟨a8, r1, _⟩ := q2
              have h1 := r1.mv
              have h2 : mv = T2.tt.mv := hmv
              omega
            obtain ⟨RR, hRR⟩ : ∃ z, z = 3 * (i + 1) * (lg ((i + 1) / M) + 1) := ⟨_, rfl⟩
            rw [← hRR] at HMo hch
            have hprod : mv * B ≤ 64000000 := by
              have := Nat.mul_le_mul hmvb (HBM.out.1.2)
              omega
            obtain ⟨P, hP⟩ : ∃ P, P = mv * B := ⟨_, rfl⟩
            rw [← hP] at hch hprod
            have hPi : (mv : Int) * (B : Int) = (P : Int) := by rw [hP, Int.natCast_mul]
            have hwP : IntKind.i64.wrap ((mv : Int) * (B : Int)) = (P : Int) := by rw [hPi]; exact wI (by omega) (by omega)
            have hle : ¬ ((P : Int) > (RR : Int)) := by omega
            have hle2 : ¬ ((RR : Int) < (P : Int)) := by omega
            have hb0 : ¬ ((mv : Int) < 0) := by omega
            have hb1 : ¬ ((mv : Int) > 1099511627776) := by omega
            clear hch hRR hP hPi hprod q1 q2 q3 q4 q5 hmv
            go_upto_region 21 with (go_at_call 15; refine HBl.out.mono ?_; rintro e w' ⟨rfl, rfl⟩)
            go_wp2_with (go_at_call 16; refine (HMo.out _).mono ?_; rintro e w' ⟨rfl, rfl⟩)
            go_roundw
            case rel => exact ⟨i + 1, by omega, by go_num, HH⟩
            case measure => simp [intOf]; omega
      · obtain rfl : i = N := by omega
        go_wp2_with fail
        go_ret
        obtain ⟨col, T, hT, hU, hC, hz, hf⟩ := H.out
        exact ⟨rfl, hf⟩
end Go.Proofs.Ytkmnnfflibamnaa
