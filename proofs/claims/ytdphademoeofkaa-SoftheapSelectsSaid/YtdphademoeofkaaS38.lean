/- Select. -/
import Derived.Test.YtdphademoeofkaaS37
import Derived.Test.YtdphademoeofkaaS36
import Derived.Test.YtdphademoeofkaaS35
import Derived.Test.YtdphademoeofkaaSlContains2
namespace Go.Proofs.Ytdphademoeofkaa
open Go.RowKit
attribute [local go_sem ↓] Go.wp_at_zero Go.wp_at_succ
theorem notKey44 (k : Int) (w : World) : Calls Try.prog 44 #[.int .i64 k] w fun e w' => e = .returned (.bool (notKey k)) ∧ w = w' := by
  by_cases h1 : k < -1048576
  · have e : notKey k = true := by unfold notKey; rw [decide_eq_false (by omega)]; rfl
    rw [e]
    clear e
    go_enter Try.func44, Try.ntmps44
    go_wp2_with fail
    go_ret
    exact ⟨rfl, rfl⟩
  · by_cases h2 : 1048576 < k
    · have e : notKey k = true := by unfold notKey; rw [decide_eq_false (by omega)]; rfl
      rw [e]
      clear e
      go_enter Try.func44, Try.ntmps44
      go_wp2_with fail
      go_ret
      exact ⟨rfl, rfl⟩
    · have e : notKey k = false := by unfold notKey; rw [decide_eq_true (by omega)]; rfl
      rw [e]
      clear e
      go_enter Try.func44, Try.ntmps44
      go_wp2_with fail
      go_ret
      exact ⟨rfl, rfl⟩
def lenV : Value → Nat
  | .slice _ n _ => n
  | _ => 0
/-- The list that is left, and where in it. -/
def SeS (w : World) (xs : List Int) (K : Nat) (s6 s7 : Value) (wr : World) (n : Nat) : Prop :=
  ∃ (R : List Int) (a : Option Addr) (c k : Nat), s6 = .slice a n c ∧ s7 = .int .i64 k ∧ Rd wr a n (ints R) ∧ R.length = n ∧ k < n ∧ n ≤ 2000 ∧ (srt R)[k]? = (srt xs)[K]? ∧ (∀ x ∈ R, -1048576 ≤ x ∧ x ≤ 1048576) ∧ Fr F0 w wr
/-- While a list is parted. -/
def SeP (w2 : World) (p : Int) (R : List Int) (j : Nat) (s16 s17 s18 : Value) (wr : World) : Prop :=
  ∃ (a1 a2 : Option Addr) (c1 c2 : Nat), s16 = .slice a1 (lows p (R.take j)).length c1 ∧ s17 = .slice a2 (highs p (R.take j)).length c2 ∧ s18 = .int .i64 (sames p (R.take j) : Nat) ∧ Own wr w2.heap.size 3 a1 (lows p (R.take j)).length c1 (ints (lows p (R.take j))) ∧ Own wr w2.heap.size 3 a2 (highs p (R.take j)).length c2 (ints (highs p (R.take j))) ∧ (∀ q, onBlk a1 q → ¬ onBlk a2 q) ∧ Fr F0 w2 wr
theorem SeP.low {w2 wr w6 : World} {p x : Int} {R : List Int} {j n1 n2 n3 : Nat} {a1 a2 a6 : Option Addr} {c1 c2 c6 : Nat} (e1 : R.take (j + 1) = R.take j ++ [x]) (g : x < p) (h1 : (lows p (R.take j)).length = n1) (h2 : (highs p (R.take j)).length = n2) (h3 : sames p (R.take j) = n3)
    (O1 : Own wr w2.heap.size 3 a1 n1 c1 (ints (lows p (R.take j)))) (O2 : Own wr w2.heap.size 3 a2 n2 c2 (ints (highs p (R.take j)))) (ap : ∀ q, onBlk a1 q → ¬ onBlk a2 q) (F : Fr F0 w2 wr) (O6 : Own w6 w2.heap.size 3 a6 (n1 + 1) c6 (ints (lows p (R.take j)) ++ [.int .i64 x])) (F6 : Fr (onBlk a1) wr w6) (A6 : ∀ q, onBlk a6 q → onBlk a1 q ∨ wr.heap.size ≤ q) :
    SeP w2 p R (j + 1) (.slice a6 (n1 + 1) c6) (.slice a2 n2 c2) (.int .i64 n3) w6 := by
  have el : lows p (R.take (j + 1)) = lows p (R.take j) ++ [x] := by rw [e1, lows_snoc, if_pos g]
  have eh : highs p (R.take (j + 1)) = highs p (R.take j) := by rw [e1, highs_snoc, if_neg (by omega), List.append_nil]
  have es : sames p (R.take (j + 1)) = n3 := by rw [e1, sames_snoc, if_neg (by omega), h3]; rfl
  refine ⟨a6, a2, c6, c2, by rw [el, List.length_append, h1]; rfl, by rw [eh, h2], by rw [es], by rw [el, List.length_append, h1]; simpa [ints] using O6, by rw [eh, h2]; exact O2.fr F6 (fun q hq e => ap q e hq), fun q hq e => ?_, F.trans F6 (fun q hq e => by have := (O1.blk q e).1; omega)⟩
  rcases A6 q hq with h | h
  · exact ap q h e
  · have := (O2.blk q e).2; omega
theorem SeP.high {w2 wr w6 : World} {p x : Int} {R : List Int} {j n1 n2 n3 : Nat} {a1 a2 a6 : Option Addr} {c1 c2 c6 : Nat} (e1 : R.take (j + 1) = R.take j ++ [x]) (g : p < x) (h1 : (lows p (R.take j)).length = n1) (h2 : (highs p (R.take j)).length = n2) (h3 : sames p (R.take j) = n3)
    (O1 : Own wr w2.heap.size 3 a1 n1 c1 (ints (lows p (R.take j)))) (O2 : Own wr w2.heap.size 3 a2 n2 c2 (ints (highs p (R.take j)))) (ap : ∀ q, onBlk a1 q → ¬ onBlk a2 q) (F : Fr F0 w2 wr) (O6 : Own w6 w2.heap.size 3 a6 (n2 + 1) c6 (ints (highs p (R.take j)) ++ [.int .i64 x])) (F6 : Fr (onBlk a2) wr w6) (A6 : ∀ q, onBlk a6 q → onBlk a2 q ∨ wr.heap.size ≤ q) :
    SeP w2 p R (j + 1) (.slice a1 n1 c1) (.slice a6 (n2 + 1) c6) (.int .i64 n3) w6 := by
  have el : lows p (R.take (j + 1)) = lows p (R.take j) := by rw [e1, lows_snoc, if_neg (by omega), List.append_nil]
  have eh : highs p (R.take (j + 1)) = highs p (R.take j) ++ [x] := by rw [e1, highs_snoc, if_pos g]
  have es : sames p (R.take (j + 1)) = n3 := by rw [e1, sames_snoc, if_neg (by omega), h3]; rfl
  refine ⟨a1, a6, c1, c6, by rw [el, h1], by rw [eh, List.length_append, h2]; rfl, by rw [es], by rw [el, h1]; exact O1.fr F6 (fun q hq e => ap q hq e), by rw [eh, List.length_append, h2]; simpa [ints] using O6, fun q hq e => ?_, F.trans F6 (fun q hq e => by have := (O2.blk q e).1; omega)⟩
  rcases A6 q e with h | h
  · exact ap q hq h
  · have := (O1.blk q hq).2; omega
theorem SeP.same {w2 wr : World} {p x : Int} {R : List Int} {j n1 n2 n3 : Nat} {a1 a2 : Option Addr} {c1 c2 : Nat} (e1 : R.take (j + 1) = R.take j ++ [x]) (g : x = p) (h1 : (lows p (R.take j)).length = n1) (h2 : (highs p (R.take j)).length = n2) (h3 : sames p (R.take j) = n3)
    (O1 : Own wr w2.heap.size 3 a1 n1 c1 (ints (lows p (R.take j)))) (O2 : Own wr w2.heap.size 3 a2 n2 c2 (ints (highs p (R.take j)))) (ap : ∀ q, onBlk a1 q → ¬ onBlk a2 q) (F : Fr F0 w2 wr) :
    SeP w2 p R (j + 1) (.slice a1 n1 c1) (.slice a2 n2 c2) (.int .i64 ((n3 : Int) + 1)) wr := by
  have el : lows p (R.take (j + 1)) = lows p (R.take j) := by rw [e1, lows_snoc, if_neg (by omega), List.append_nil]
  have eh : highs p (R.take (j + 1)) = highs p (R.take j) := by rw [e1, highs_snoc, if_neg (by omega), List.append_nil]
  have es : sames p (R.take (j + 1)) = n3 + 1 := by rw [e1, sames_snoc, if_pos g, h3]
  exact ⟨a1, a2, c1, c2, by rw [el, h1], by rw [eh, h2], by rw [es]; rfl, by rw [el, h1]; exact O1, by rw [eh, h2]; exact O2, ap, F⟩
def SelP (w : World) (xs : List Int) (K : Nat) (e : Ending) (w' : World) : Prop :=
  ∃ x, e = .returned (.tuple #[.int .i64 x, .int .i64 0]) ∧ (srt xs)[K]? = some x ∧ Fr F0 w w'
set_option maxRecDepth 100000 in
set_option maxHeartbeats 8000000 in
theorem Select_in (K : Nat) (a : Option Addr) (n c : Nat) (xs : List Int) (w : World) (A : Rd w a n (ints xs)) (hn : n ≤ 2000) (hK : K < n) (hany : xs.any notKey = false) :
    Calls Try.prog 27 #[.slice a n c, .int .i64 K] w (SelP w xs K) := by
  have hxl : xs.length = n := by simpa using A.len
  have HC := Lib.hid (ContainsFunc_c2 notKey a n c xs w A (fun x => notKey44 x w))
  rw [hany] at HC
  have H0 : Hid (SeS w xs K (.slice a n c) (.int .i64 K) w n) := Lib.hid ⟨xs, a, c, K, rfl, rfl, A, hxl, hK, hn, rfl, all_keys hany, Fr.refl _ _⟩
  have d1 : decide ((2000 : Int) < (n : Int)) = false := decide_eq_false (by omega)
  have d2 : decide (n ≤ K) = false := decide_eq_false (by omega)
  have d3 : decide ((K : Int) < 0) = false := decide_eq_false (by omega)
  have hn9 := Lib.hid hn
  clear hany A hxl hn
  go_enter Try.func27, Try.ntmps27
  go_wp2_with fail
  refine HC.out.mono ?_
  rintro e w1 ⟨rfl, rfl⟩
  go_wp2_with fail
  go_loopw [6, 7] (fun s6 s7 wr => ∃ n', Hid (SeS w xs K s6 s7 wr n')) (fun s6 _ _ => lenV s6)
  case atStart => exact ⟨n, H0⟩
  case round =>
    obtain ⟨n', HS⟩ := hrel
    obtain ⟨R, ar, cr, k, rfl, rfl, hR, hRl, hk, hn', hsel, hkeys, hF⟩ := HS.out
    have HR := Lib.hid hR
    have HRl := Lib.hid hRl
    have Hsel := Lib.hid hsel
    have Hkeys := Lib.hid hkeys
    have HF := Lib.hid hF
    clear hR hRl hsel hkeys hF HS
    generalize wr = wo at *
    by_cases h8 : 8 < n'
    · go_wp2_with fail
      refine (New_ok wo (k := 2) (by omega)).mono ?_
      rintro e w1 ⟨hb, rfl, hHp, hFn, hob⟩
      have HN := Lib.hid (Fil.new hHp hFn hob)
      clear hHp hFn hob
      go_wp2_with fail
      go_loopw [48] (fun s48 wq => ∃ j : Nat, j ≤ n' ∧ s48 = .int .i64 j ∧ Hid (Fil wo 2 hb (R.take j) wq)) (fun s48 _ => n' - (intOf s48).toNat)
      case atStart => exact ⟨0, by omega, rfl, HN⟩
      case round =>
        obtain ⟨j, hj, rfl, HM⟩ := hrel
        by_cases hlt : j < n'
        · have hFw : Fr F0 wo wr := by
            obtain ⟨_, _, _, _, _, _, _, _, _, _, h7⟩ := HM.out
            exact h7
          obtain ⟨b, o, x, rfl, hx, cx⟩ := (HR.out.fr0 hFw).ix hlt
          have hkk := Hkeys.out x (List.mem_of_getElem? hx)
          have hlj : (R.take j).length = j := by have := HRl.out; simp; omega
          have HI := Lib.hid (HM.out.insert hkk.1 hkk.2 (by omega))
          rw [hlj] at HI
          have e1 : R.take j ++ [x] = R.take (j + 1) := by rw [List.take_add_one, hx]; rfl
          rw [e1] at HI
          clear hFw hx hkk hlj e1
          go_wp2_with fail
          refine HI.out.mono ?_
          rintro e w3 ⟨rfl, h3⟩
          have H3 := Lib.hid h3
          clear h3
          go_wp2_with fail
          go_roundw
          case rel => exact ⟨j + 1, by omega, by go_num, H3⟩
          case measure => simp [intOf]; omega
        · obtain rfl : n' = j := by omega
          have hm0 := HM.out
          rw [List.take_of_length_le (by rw [HRl.out]; exact Nat.le_refl _)] at hm0
          have HRm := Lib.hid (hm0.rem Hkeys.out)
          have hq : Int.tdiv (n' : Int) 2 = ((n' / 2 : Nat) : Int) := by rw [Int.tdiv_eq_ediv_of_nonneg (by omega)]; omega
          obtain ⟨d, hd⟩ : ∃ d, d = n' / 2 := ⟨_, rfl⟩
          rw [← hd] at hq
          have hdn : d ≤ n' := by omega
          have hd0 : 0 < d := by omega
          have Hd := Lib.hid hd
          clear hm0 hd HM
          go_wp2_with fail
          go_loopw [59, 12] (fun s59 s12 wq => ∃ j : Nat, j ≤ d ∧ s59 = .int .i64 j ∧ Hid (∃ out most, s12 = .int .i64 most ∧ out.length = j ∧ Rem wo 2 hb R out most (fun _ => False) wq)) (fun s59 _ _ => d - (intOf s59).toNat)
          case atStart => exact ⟨0, by omega, rfl, Lib.hid ⟨[], _, rfl, rfl, HRm.out⟩⟩
          case round =>
            obtain ⟨j, hj, rfl, HM⟩ := hrel
            by_cases hlt : j < d
            · obtain ⟨out, most, rfl, hoj, hRr⟩ := HM.out
              have HD := Lib.hid (hRr.delete (by rw [hoj, HRl.out]; omega) (fun _ h => h.elim))
              have Hoj := Lib.hid hoj
              clear hRr hoj HM
              go_wp2_with fail
              refine HD.out.mono ?_
              rintro e w3 ⟨id, key, rfl, hid, hR3, _⟩
              rw [HRl.out] at hid
              have hFw : Fr F0 wo w3 := by
                obtain ⟨_, _, _, _, _, _, _, _, _, h7⟩ := hR3
                exact h7
              obtain ⟨b, o, x, rfl, hx, cx⟩ := (HR.out.fr0 hFw).ix hid
              have hgk : R.getD id 0 = x := by rw [List.getD_eq_getElem?_getD, hx]; rfl
              rw [hgk] at hR3
              have HR3 := Lib.hid hR3
              clear hR3 hx hgk
              go_wp2_with fail
              go_roundw
              case rel => exact ⟨j + 1, by omega, by go_num, Lib.hid ⟨out ++ [x], _, rfl, by rw [List.length_append, Hoj.out]; rfl, HR3.out⟩⟩
              case measure => simp [intOf]; omega
            · obtain rfl : d = j := by omega
              obtain ⟨out, p, rfl, hoj, hRr⟩ := HM.out
              have hpR : p ∈ R := by
                obtain ⟨_, _, _, _, _, hv, _⟩ := hRr
                rcases hv.mo with ⟨e, _⟩ | e
                · rw [e] at hoj; simp at hoj; omega
                · exact hv.p.mem_iff.1 (List.mem_append.2 (.inl e))
              have hFw : Fr F0 wo wr := by
                obtain ⟨_, _, _, _, _, _, _, _, _, h7⟩ := hRr
                exact h7
              have HpR := Lib.hid hpR
              have HFw := Lib.hid hFw
              clear hRr hoj hpR hFw HM
              generalize wr = wp at *
              have HP0 : Hid (SeP wp p R 0 (.slice none 0 0) (.slice none 0 0) (.int .i64 0) wp) := Lib.hid ⟨none, none, 0, 0, rfl, rfl, rfl, Own.nil _ _ _, Own.nil _ _ _, fun q hq => absurd hq (onBlk_none _), Fr.refl _ _⟩
              go_wp2_with fail
              go_loopw [76, 16, 17, 18] (fun s76 s16 s17 s18 wq => ∃ j : Nat, j ≤ n' ∧ s76 = .int .i64 j ∧ Hid (SeP wp p R j s16 s17 s18 wq)) (fun s76 _ _ _ _ => n' - (intOf s76).toNat)
              case atStart => exact ⟨0, by omega, rfl, HP0⟩
              case round =>
                obtain ⟨j, hj, rfl, HM⟩ := hrel
                by_cases hlt : j < n'
                · obtain ⟨a1, a2, c1, c2, rfl, rfl, rfl, hO1, hO2, hap, hFp⟩ := HM.out
                  obtain ⟨b, o, x, rfl, hx, cx⟩ := ((HR.out.fr0 HFw.out).fr0 hFp).ix hlt
                  have e1 : R.take (j + 1) = R.take j ++ [x] := by rw [List.take_add_one, hx]; rfl
                  have hL := parts_len p (R.take j)
                  rw [List.length_take] at hL
                  have hl1 : (lows p (R.take j)).length ≤ 2000 := by omega
                  have hl2 : (highs p (R.take j)).length ≤ 2000 := by omega
                  have hl3 : sames p (R.take j) ≤ 2000 := by omega
                  have hsp := hFp.size
                  have HO1 := Lib.hid hO1
                  have HO2 := Lib.hid hO2
                  have Hap := Lib.hid hap
                  have HFp := Lib.hid hFp
                  have HE1 := Lib.hid e1
                  obtain ⟨n1, hn1⟩ : ∃ n1, n1 = (lows p (R.take j)).length := ⟨_, rfl⟩
                  obtain ⟨n2, hn2⟩ : ∃ n2, n2 = (highs p (R.take j)).length := ⟨_, rfl⟩
                  obtain ⟨n3, hn3⟩ : ∃ n3, n3 = sames p (R.take j) := ⟨_, rfl⟩
                  have Hn1 := Lib.hid hn1.symm
                  have Hn2 := Lib.hid hn2.symm
                  have Hn3 := Lib.hid hn3.symm
                  rw [← hn1] at hl1 HO1 ⊢
                  rw [← hn2] at hl2 HO2 ⊢
                  rw [← hn3] at hl3 ⊢
                  clear hO1 hO2 hap hFp e1 hL hx hn1 hn2 hn3 HM
                  by_cases g1 : x < p
                  · go_wp2_with ((at_builtin; refine wpAppAt E3 HO1.out (by omega) (by omega) (by omega) (u := .int .i64 x) rfl rfl (by first | rfl | (simp; done) | (simp; rfl)) ?_; intro a6 c6 w6 own6 fr6 at6; have O6 := Lib.hid own6; have F6 := Lib.hid fr6; have A6 := Lib.hid at6; clear own6 fr6 at6))
                    go_roundw
                    case rel => exact ⟨j + 1, by omega, by go_num, Lib.hid (SeP.low HE1.out g1 Hn1.out Hn2.out Hn3.out HO1.out HO2.out Hap.out HFp.out O6.out F6.out A6.out)⟩
                    case measure => simp [intOf]; omega
                  · by_cases g2 : p < x
                    · go_wp2_with ((at_builtin; refine wpAppAt E3 HO2.out (by omega) (by omega) (by omega) (u := .int .i64 x) rfl rfl (by first | rfl | (simp; done) | (simp; rfl)) ?_; intro a6 c6 w6 own6 fr6 at6; have O6 := Lib.hid own6; have F6 := Lib.hid fr6; have A6 := Lib.hid at6; clear own6 fr6 at6))
                      go_roundw
                      case rel => exact ⟨j + 1, by omega, by go_num, Lib.hid (SeP.high HE1.out g2 Hn1.out Hn2.out Hn3.out HO1.out HO2.out Hap.out HFp.out O6.out F6.out A6.out)⟩
                      case measure => simp [intOf]; omega
                    · go_wp2_with fail
                      go_roundw
                      case rel => exact ⟨j + 1, by omega, by go_num, Lib.hid (SeP.same HE1.out (by omega) Hn1.out Hn2.out Hn3.out HO1.out HO2.out Hap.out HFp.out)⟩
                      case measure => simp [intOf]; omega
                · obtain rfl : n' = j := by omega
                  obtain ⟨a1, a2, c1, c2, rfl, rfl, rfl, hO1, hO2, hap, hFp⟩ := HM.out
                  have et : R.take n' = R := List.take_of_length_le (by rw [HRl.out]; exact Nat.le_refl _)
                  rw [et] at hO1 hO2 ⊢
                  have hL := parts_len p R
                  rw [HRl.out] at hL
                  have hsp := sames_pos HpR.out
                  have HO1 := Lib.hid hO1
                  have HO2 := Lib.hid hO2
                  have HFp := Lib.hid ((HF.out.trans0 HFw.out).trans0 hFp)
                  have hs1 : Hid (∀ n1, (lows p R).length = n1 → k < n1 → (srt (lows p R))[k]? = (srt xs)[K]?) := Lib.hid (fun n1 e h => (sel_low (by rw [e]; exact h)).trans Hsel.out)
                  have hs2 : Hid (∀ n1 n3, (lows p R).length = n1 → sames p R = n3 → n1 ≤ k → k < n1 + n3 → (srt xs)[K]? = some p) := Lib.hid (fun n1 n3 e e3 h h' => Hsel.out.symm.trans (sel_same (by rw [e]; exact h) (by rw [e, e3]; exact h')))
                  have hs3 : Hid (∀ n1 n3, (lows p R).length = n1 → sames p R = n3 → n1 + n3 ≤ k → (srt (highs p R))[k - (n1 + n3)]? = (srt xs)[K]?) := Lib.hid (fun n1 n3 e e3 h => by
                    have := sel_high (p := p) (l := R) (k := k) (by rw [e, e3]; exact h)
                    rw [e, e3] at this
                    exact this.trans Hsel.out)
                  obtain ⟨n1, hn1⟩ : ∃ n1, n1 = (lows p R).length := ⟨_, rfl⟩
                  obtain ⟨n2, hn2⟩ : ∃ n2, n2 = (highs p R).length := ⟨_, rfl⟩
                  obtain ⟨n3, hn3⟩ : ∃ n3, n3 = sames p R := ⟨_, rfl⟩
                  have Hn1 := Lib.hid hn1.symm
                  have Hn2 := Lib.hid hn2.symm
                  have Hn3 := Lib.hid hn3.symm
                  rw [← hn1, ← hn2, ← hn3] at hL
                  rw [← hn3] at hsp
                  rw [← hn1] at HO1 ⊢
                  rw [← hn2] at HO2 ⊢
                  rw [← hn3]
                  clear hO1 hO2 hap hFp hn1 hn2 hn3 HM et
                  by_cases g1 : k < n1
                  · go_wp2_with fail
                    go_roundw
                    case rel => exact ⟨n1, Lib.hid ⟨lows p R, a1, c1, k, rfl, rfl, HO1.out.rd, Hn1.out, g1, by omega, hs1.out n1 Hn1.out g1, fun x hx => Hkeys.out x (lows_mem hx), HFp.out⟩⟩
                    case measure => simp [lenV]; omega
                  · by_cases g2 : k < n1 + n3
                    · go_wp2_with fail
                      go_ret2
                      exact ⟨p, rfl, hs2.out n1 n3 Hn1.out Hn3.out (by omega) g2, HFp.out⟩
                    · obtain ⟨k2, hk2⟩ : ∃ k2, k2 = k - (n1 + n3) := ⟨_, rfl⟩
                      have hks : (k : Int) - ((n1 : Int) + (n3 : Int)) = (k2 : Int) := by omega
                      have Hk2 := Lib.hid hk2
                      have hk2n : k2 < n2 := by omega
                      clear hk2
                      go_wp2_with fail
                      go_roundw
                      case rel => exact ⟨n2, Lib.hid ⟨highs p R, a2, c2, k2, rfl, by first | rfl | (rw [← hks]), HO2.out.rd, Hn2.out, hk2n, by omega, by rw [Hk2.out]; exact hs3.out n1 n3 Hn1.out Hn3.out (by omega), fun x hx => Hkeys.out x (highs_mem hx), HFp.out⟩⟩
                      case measure => simp [lenV]; omega
    · obtain ⟨b, o, rfl, hc⟩ := HR.out.cells (by omega)
      have HSo := Lib.hid (Sorted_any (w := wo.alloc (.cells #[.slice (some ⟨b, o, none⟩) n' cr] 22)) (Bs := wo.heap.size) (b := b) (o := o) (cap := cr) (vs := R) (by rw [HRl.out]; omega) (by rw [HRl.out]; exact (One.new 22 _).cell) (fun j v hj => ((Fr.refl F0 wo).alloc _).cell (hc j (.int .i64 v) (by rw [List.getElem?_map, hj]; rfl)) id))
      rw [HRl.out] at HSo
      clear hc
      go_wp2_with fail
      refine (Values_any wo (some ⟨b, o, none⟩) n' cr).mono ?_
      rintro e w1 ⟨rfl, rfl⟩
      go_wp2_with fail
      refine HSo.out.mono ?_
      rintro e w2 ⟨aS, cS, ys, rfl, hp, hord, hO, hF2⟩
      obtain ⟨b2, o2, x, rfl, hx, cx⟩ := hO.rd.ix hk
      have hfin : (srt xs)[K]? = some x := by rw [← Hsel.out, srt_eq hp hord]; exact hx
      have HFin := Lib.hid hfin
      have HF2 := Lib.hid ((HF.out.alloc _).trans0 hF2)
      have dk : ¬ (n' : Int) ≤ (k : Int) := by omega
      clear hp hord hO hF2 hx hfin
      go_wp2_with fail
      go_ret2
      exact ⟨x, rfl, HFin.out, HF2.out⟩
end Go.Proofs.Ytdphademoeofkaa
