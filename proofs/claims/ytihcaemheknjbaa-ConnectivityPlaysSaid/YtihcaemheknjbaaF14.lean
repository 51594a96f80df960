/- The reference's Valid; Valid and Intervals. -/
import Derived.Test.YtihcaemheknjbaaF13
namespace Go.Proofs.Ytihcaemheknjbaa
open Go.RowKit
attribute [local go_sem ↓] Go.wp_at_zero Go.wp_at_succ
def bigB (n : Int) (l : List Ev) : Bool := decide (1 ≤ n) && decide (n ≤ 1000) && decide (l.length ≤ 2000)
def refV (n : Int) (l : List Ev) : Bool := bigB n l && (refS n.toNat l).isSome
set_option maxRecDepth 100000 in
set_option maxHeartbeats 4000000 in
theorem refValid_any {w : World} {a : Option Addr} {N c : Nat} {n : Int} {l : List Ev} (hl : ArgE w a N c l) : Calls Try.prog 12 #[.int .i64 n, .slice a N c] w fun e w' => e = .returned (.bool (refV n l)) ∧ Fr F0 w w' := by
  have HV := Lib.hid (fun w : World => Vertices_any n w)
  have HL := Lib.hid hl
  have hN : Hid (l.length = N) := Lib.hid hl.len
  clear hl
  by_cases hv : 1 ≤ n ∧ n ≤ 1000
  · have ev : (decide (1 ≤ n) && decide (n ≤ 1000)) = true := by simp; omega
    rw [ev] at HV
    by_cases hb : N ≤ 2000
    · have d1 : decide (2000 < N) = false := decide_eq_false (by omega)
      have d2 : decide ((2000 : Int) < (N : Int)) = false := decide_eq_false (by omega)
      have E0 : Hid (refV n l = (refS n.toNat l).isSome) := Lib.hid (by unfold refV bigB; rw [ev, hN.out]; simp [hb])
      obtain ⟨m, rfl⟩ := Int.eq_ofNat_of_zero_le (show 0 ≤ n by omega)
      rw [Int.toNat_natCast] at E0
      clear ev hv
      go_enter Try.func12, Try.ntmps12
      go_wp2_with fail
      refine (HV.out _).mono ?_
      rintro e w1 ⟨rfl, rfl⟩
      go_wp2_with fail
      clear d1 d2
      go_loopw [5, 6] (fun s5 s6 wr => ∃ (i : Nat) (a' : Option Addr) (k c' : Nat) (E : List Ed), i ≤ N ∧ s6 = .int .i64 i ∧ s5 = .slice a' k c' ∧ Hid (k = E.length ∧ refS m (l.take i) = some E) ∧ Hid (OwnZ wr w.heap.size 62 2 a' k c' (eds E) ∧ Fr F0 w wr)) (fun _ s6 _ => N - (intOf s6).toNat)
      case atStart => exact ⟨0, none, 0, 0, [], Nat.zero_le _, rfl, rfl, Lib.hid ⟨rfl, rfl⟩, Lib.hid ⟨OwnZ.nil _ _ _ _, Fr.refl _ _⟩⟩
      case round =>
        obtain ⟨i, a', k, c', E, hi, rfl, rfl, HS, H⟩ := hrel
        by_cases hlt : i < N
        · obtain ⟨x, hx⟩ : ∃ x, l[i]? = some x := ⟨_, List.getElem?_eq_getElem (by rw [hN.out]; exact hlt)⟩
          obtain ⟨K, A, Bv⟩ := x
          obtain ⟨b, o, rfl, x0, x1, x2⟩ := (HL.out.fr0 H.out.2).cells i _ hx
          dsimp only at x0 x1 x2
          have hkl : k ≤ 3000 := by have h1 := HS.out; have h2 := refS_len m _ h1.2; rw [List.length_take] at h2; omega
          have HA := Lib.hid (After_any (n := m) (K := K) (A := A) (Bv := Bv) H.out.1 H.out.2.size hkl)
          have hstep : refS m (l.take (i + 1)) = aft m E (K, A, Bv) := by rw [take_snoc hx, refS_snoc, HS.out.2]; rfl
          have HST := Lib.hid hstep
          have hlt' : (i : Int) < (N : Int) := by omega
          clear hx hstep
          cases haf : aft m E (K, A, Bv) with
          | none =>
            rw [haf] at HA HST
            clear haf
            go_wp2_with fail
            refine HA.out.mono ?_
            rintro e w2 ⟨⟨a2, m2, c2, rfl⟩, F2⟩
            have G2 := Lib.hid (H.out.2.trans0 F2)
            clear F2
            go_wp2_with fail
            go_ret
            refine ⟨ret_bool ?_, G2.out⟩
            rw [E0.out, ← List.take_append_drop (i + 1) l, refS_none HST.out]
            rfl
          | some E' =>
            rw [haf] at HA HST
            clear haf
            go_wp2_with fail
            refine HA.out.mono ?_
            rintro e w2 ⟨a2, c2, rfl, O2, F2, _⟩
            have G2 := Lib.hid (H.out.2.trans0 F2)
            have P2 := Lib.hid O2
            obtain ⟨k2, hk2⟩ : ∃ k2, k2 = E'.length := ⟨_, rfl⟩
            rw [← hk2] at P2 ⊢
            have Hk2 := Lib.hid hk2
            clear F2 O2 hk2
            go_wp2_with fail
            go_roundw
            case rel => exact ⟨i + 1, a2, k2, c2, E', by omega, by go_num, rfl, Lib.hid ⟨Hk2.out, HST.out⟩, Lib.hid ⟨P2.out, G2.out⟩⟩
            case measure => simp [intOf]; omega
        · obtain rfl : N = i := by omega
          go_wp2_with fail
          go_ret
          refine ⟨ret_bool ?_, H.out.2⟩
          have h := HS.out.2
          rw [List.take_of_length_le (by rw [hN.out]; exact Nat.le_refl _)] at h
          rw [E0.out, h]
          rfl
    · have d1 : decide (2000 < N) = true := decide_eq_true (by omega)
      have d2 : decide ((2000 : Int) < (N : Int)) = true := decide_eq_true (by omega)
      have E0 : Hid (refV n l = false) := Lib.hid (by unfold refV bigB; rw [hN.out]; simp [hb])
      clear ev hv
      go_enter Try.func12, Try.ntmps12
      go_wp2_with fail
      refine (HV.out _).mono ?_
      rintro e w1 ⟨rfl, rfl⟩
      go_wp2_with fail
      go_ret
      exact ⟨ret_bool E0.out.symm, Fr.refl _ _⟩
  · have ev : (decide (1 ≤ n) && decide (n ≤ 1000)) = false := by simp; omega
    rw [ev] at HV
    have E0 : Hid (refV n l = false) := Lib.hid (by unfold refV bigB; rw [ev]; rfl)
    clear ev hv
    go_enter Try.func12, Try.ntmps12
    go_wp2_with fail
    refine (HV.out _).mono ?_
    rintro e w1 ⟨rfl, rfl⟩
    go_wp2_with fail
    go_ret
    exact ⟨ret_bool E0.out.symm, Fr.refl _ _⟩
theorem readS_eq {n : Int} {l : List Ev} : readS n l = if bigB n l then (rdS n.toNat l.length l).map RS.out else none := by
  unfold readS bigB
  by_cases c : 1 ≤ n ∧ n ≤ 1000 ∧ l.length ≤ 2000
  · rw [if_pos c, if_pos (by simp; omega)]
  · rw [if_neg c, if_neg (by simp; omega)]
/-- read, at any numbers. -/
theorem read_any {w : World} {a : Option Addr} {N c : Nat} {n : Int} {l : List Ev} (hl : ArgE w a N c l) : Calls Try.prog 45 #[.int .i64 n, .slice a N c] w (RdQ w (readS n l)) := by
  by_cases c : 1 ≤ n ∧ n ≤ 1000 ∧ N ≤ 2000
  · obtain ⟨m, rfl⟩ := Int.eq_ofNat_of_zero_le (show 0 ≤ n by omega)
    unfold readS
    rw [if_pos (by rw [hl.len]; exact c), Int.toNat_natCast, hl.len]
    exact read_ok hl (by omega) (by omega) c.2.2
  · unfold readS
    rw [if_neg (by rw [hl.len]; exact c)]
    refine (read_big c).mono ?_
    rintro e w1 ⟨rfl, rfl⟩
    exact ⟨rfl, Fr.refl _ _⟩
theorem Valid_any {w : World} {a : Option Addr} {N c : Nat} {n : Int} {l : List Ev} (hl : ArgE w a N c l) : Calls Try.prog 18 #[.int .i64 n, .slice a N c] w fun e w' => e = .returned (.bool (readS n l).isSome) ∧ Fr F0 w w' := by
  have HR := Lib.hid (read_any (n := n) hl)
  clear hl
  cases h : readS n l with
  | none =>
    rw [h] at HR
    clear h
    go_enter Try.func18, Try.ntmps18
    go_wp2_with fail
    refine HR.out.mono ?_
    rintro e w1 ⟨rfl, F1⟩
    have G1 := Lib.hid F1
    clear F1
    go_wp2_with fail
    go_ret
    exact ⟨rfl, G1.out⟩
  | some out =>
    rw [h] at HR
    clear h
    go_enter Try.func18, Try.ntmps18
    go_wp2_with fail
    refine HR.out.mono ?_
    rintro e w1 ⟨a1, c1, rfl, _, F1⟩
    have G1 := Lib.hid F1
    clear F1
    go_wp2_with fail
    go_ret
    exact ⟨rfl, G1.out⟩
theorem E41 : ElemZ Try.prog 35 41 (.agg #[.int .i64 0, .int .i64 0, .int .i64 0, .int .i64 0]) 4 32 := ⟨by kernel_rfl, by kernel_rfl, rfl⟩
/-- A row of intervals as result. -/
def IvR (w : World) (o : Option (List Iv)) (e : Ending) (w' : World) : Prop := match o with
  | none => e = .returned (.tuple #[.slice none 0 0, .int .i64 1]) ∧ Fr F0 w w'
  | some out => ∃ a c, e = .returned (.tuple #[.slice a out.length c, .int .i64 0]) ∧ OwnZ w' w.heap.size 41 4 a out.length c (ivs out) ∧ Fr F0 w w'
theorem readS_len {n : Int} {l : List Ev} {out : List Iv} (h : readS n l = some out) : out.length ≤ l.length ∧ l.length ≤ 2000 := by
  unfold readS at h
  split at h
  · rename_i c
    cases h1 : rdS n.toNat l.length l with
    | none => rw [h1] at h; cases h
    | some s => rw [h1] at h; injection h with h; subst h; exact ⟨(rdS_inv _ _ _ h1).le, c.2.2⟩
  · cases h
set_option maxRecDepth 100000 in
set_option maxHeartbeats 4000000 in
theorem Intervals_any {w : World} {a : Option Addr} {N c : Nat} {n : Int} {l : List Ev} (hl : ArgE w a N c l) : Calls Try.prog 16 #[.int .i64 n, .slice a N c] w (IvR w (readS n l)) := by
  have HR := Lib.hid (read_any (n := n) hl)
  clear hl
  cases h : readS n l with
  | none =>
    rw [h] at HR
    clear h
    go_enter Try.func16, Try.ntmps16
    go_wp2_with fail
    refine HR.out.mono ?_
    rintro e w1 ⟨rfl, F1⟩
    have G1 := Lib.hid F1
    clear F1
    go_wp2_with fail
    go_ret2
    exact ⟨rfl, G1.out⟩
  | some out =>
    rw [h] at HR
    obtain ⟨m, hm⟩ : ∃ m, m = out.length := ⟨_, rfl⟩
    have hm2 : m ≤ 2000 := by have := readS_len h; omega
    have HM := Lib.hid hm
    clear h
    go_enter Try.func16, Try.ntmps16
    go_wp2_with fail
    refine HR.out.mono ?_
    rintro e w1 ⟨a1, c1, rfl, O1, F1⟩
    rw [← hm] at O1 ⊢
    have G1 := Lib.hid F1
    have P1 := Lib.hid O1
    clear F1 O1 hm HR
    go_wp2_with fail
    go_loopw [8, 21] (fun s8 s21 wr => ∃ (i : Nat) (a' : Option Addr) (c' : Nat), i ≤ m ∧ s21 = .int .i64 i ∧ s8 = .slice a' i c' ∧ Hid (OwnZ wr w1.heap.size 41 4 a' i c' (ivs (out.take i)) ∧ Fr F0 w1 wr)) (fun _ s21 _ => m - (intOf s21).toNat)
    case atStart => exact ⟨0, none, 0, Nat.zero_le _, rfl, rfl, Lib.hid ⟨OwnZ.nil _ _ _ _, Fr.refl _ _⟩⟩
    case round =>
      obtain ⟨i, a', c', hi, rfl, rfl, H⟩ := hrel
      by_cases hlt : i < m
      · obtain ⟨⟨xa, xb, xf, xt⟩, hx⟩ : ∃ x, out[i]? = some x := ⟨_, List.getElem?_eq_getElem (by rw [← HM.out]; exact hlt)⟩
        obtain ⟨g, rfl, _, _, hc, _⟩ := (P1.out.fr0 H.out.2).at (by omega)
        have x0 := hc (i * 4) (.int .i64 (xa : Int)) (by have := ivs_get hx 0 (by omega); rw [Nat.add_zero] at this; rw [this]; rfl)
        have x1 := hc (i * 4 + 1) (.int .i64 (xb : Int)) (by rw [ivs_get hx 1 (by omega)]; rfl)
        have x2 := hc (i * 4 + 2) (.int .i64 (xf : Int)) (by rw [ivs_get hx 2 (by omega)]; rfl)
        have x3 := hc (i * 4 + 3) (.int .i64 (xt : Int)) (by rw [ivs_get hx 3 (by omega)]; rfl)
        have hlt' : (i : Int) < (m : Int) := by omega
        have HX := Lib.hid hx
        obtain ⟨w2, hw2⟩ : ∃ w2, wr.alloc (.cells #[.int .i64 (xa : Int), .int .i64 (xb : Int), .int .i64 (xf : Int), .int .i64 (xt : Int)] 83) = w2 := ⟨_, rfl⟩
        obtain ⟨b2, hb2⟩ : ∃ b, wr.heap.size = b := ⟨_, rfl⟩
        have B2 : Blk w2 b2 83 (iv4 (xa, xb, xf, xt)) := by rw [← hw2, ← hb2]; exact Blk.new wr 83 _
        have F2 : Fr F0 wr w2 := by rw [← hw2]; exact (Fr.refl _ _).alloc _
        have y0 := B2.cell (i := 0) rfl
        have y1 := B2.cell (i := 1) rfl
        have y2 := B2.cell (i := 2) rfl
        have y3 := B2.cell (i := 3) rfl
        have H2 := Lib.hid (And.intro (H.out.1.fr0 F2) (H.out.2.trans0 F2))
        clear hc hx B2 F2
        go_wp2_with (at_builtin; refine wpAppZAt E41 (by decide) H2.out.1 (us := iv4 (xa, xb, xf, xt)) rfl (iv4_one _) (by omega) (by omega) H2.out.2.size rfl rfl ?_; intro a3 c3 w3 own' fr' at'; have O3 := Lib.hid own'; have G3 := Lib.hid (H2.out.2.trans fr' (fun k hk h1 => by have := (OwnZ.blk H2.out.1 k h1).1; omega)); clear own' fr' at')
        go_roundw
        case rel => exact ⟨i + 1, a3, c3, by omega, by go_num, rfl, Lib.hid ⟨by rw [take_snoc HX.out, ivs_snoc]; exact O3.out, G3.out⟩⟩
        case measure => simp [intOf]; omega
      · obtain rfl : m = i := by omega
        go_wp2_with fail
        go_ret2
        have h1 := H.out.1
        rw [List.take_of_length_le (by rw [← HM.out]; exact Nat.le_refl _)] at h1
        show ∃ a c, _ ∧ _
        have hm := HM.out
        subst hm
        exact ⟨a', c', rfl, h1.mono G1.out.size, G1.out.trans0 H.out.2⟩
end Go.Proofs.Ytihcaemheknjbaa
