/- Runs. -/
import Derived.Test.YtdphademoeofkaaS31
import Derived.Test.YtdphademoeofkaaS12
namespace Go.Proofs.Ytdphademoeofkaa
open Go.RowKit
attribute [local go_sem ↓] Go.wp_at_zero Go.wp_at_succ
/-- Between the insertion and the note of it. -/
def RnI (w : World) (rate hb : Nat) (j : Nat) (k : Int) (l : List It) (a : Option Addr) (c : Nat) (wr : World) : Prop :=
  ∃ ts own I T, Hp wr hb rate ts own I T ∧ KN rate (l ++ [⟨k, k, true⟩]) own ts I ∧ Ks wr a c l ∧ (∀ q, onBlk a q → ¬ T q ∧ w.heap.size ≤ q) ∧ (∀ q, T q → w.heap.size ≤ q) ∧ Fr F0 w wr ∧ l.length ≤ 20 * j
theorem RnS.insert {w wr : World} {rate hb j : Nat} {l : List It} {a : Option Addr} {c : Nat} {k : Int} {ts : List Tr} {own : List Int} {I : List (Option Nat)} {T : Nat → Prop}
    (h2 : Hp wr hb rate ts own I T) (h3 : KN rate l own ts I) (h4 : Ks wr a c l) (h5 : ∀ q, onBlk a q → ¬ T q ∧ w.heap.size ≤ q) (h6 : ∀ q, T q → w.heap.size ≤ q) (h7 : Fr F0 w wr) (h8 : l.length ≤ 20 * j) (hj : j < 60) (k1 : -1048576 ≤ k) (k2 : k ≤ 1048576) :
    Calls Try.prog 9 #[.pointer (some ⟨hb, 0, none⟩), .int .i64 k] wr fun e w' => e = .returned (.tuple #[.int .i64 (l.length : Nat), .int .i64 0]) ∧ RnI w rate hb j k l a c w' ∧ Fr T wr w' := by
  have hol := h3.ol
  refine (Insert_ok h2 k1 k2 (by omega)).mono ?_
  rintro e w' ⟨bx, ts', I', T', rfl, hH, hA, hF, hT⟩
  have hs := h7.size
  refine ⟨by rw [hol], ⟨ts', _, I', T', hH, h3.ins hA, OwnW.fr h4 hF (fun q hq e => (h5 q hq).1 e), fun q hq => ⟨fun e => ?_, (h5 q hq).2⟩, fun q hq => ?_, h7.trans hF (fun q hq e => by have := h6 q e; omega), h8⟩, hF⟩
  · rcases hT q e with e | e
    · exact (h5 q hq).1 e
    · have := (OwnW.blk h4 q hq).2; omega
  · rcases hT q hq with e | e
    · exact h6 q e
    · omega
theorem RnI.note {w wr w6 : World} {rate hb j : Nat} {k : Int} {l : List It} {a a6 : Option Addr} {c c6 L : Nat} (h : RnI w rate hb j k l a c wr) (hL : l.length = L) (hK : Ks w6 a6 c6 (l ++ [⟨k, k, true⟩])) (hF : Fr (onBlk a) wr w6) (hA : ∀ q, onBlk a6 q → onBlk a q ∨ wr.heap.size ≤ q) : RnS w rate hb (j + 1) (.slice a6 (L + 1) c6) w6 := by
  obtain ⟨ts, own, I, T, h2, h3, h4, h5, h6, h7, h8⟩ := h
  have hs := h7.size
  refine ⟨_, a6, c6, ts, own, I, T, by rw [List.length_append, hL]; rfl, h2.fr hF (fun q hq e => (h5 q e).1 hq), h3, hK, fun q hq => ?_, h6, h7.trans hF (fun q hq e => by have := (h5 q e).2; omega), by rw [List.length_append]; simp; omega, fun e => by rw [List.length_append] at e; simp at e⟩
  rcases hA q hq with e | e
  · exact h5 q e
  · exact ⟨fun e2 => by have := h2.lt q e2; omega, by omega⟩
theorem RnS.le {w wr : World} {rate hb j : Nat} {s7 : Value} (h : RnS w rate hb j s7 wr) : RnS w rate hb (j + 1) s7 wr := by
  obtain ⟨l, a, c, ts, own, I, T, h1, h2, h3, h4, h5, h6, h7, h8, h9⟩ := h
  exact ⟨l, a, c, ts, own, I, T, h1, h2, h3, h4, h5, h6, h7, by omega, h9⟩
set_option maxRecDepth 100000 in
set_option maxHeartbeats 4000000 in
theorem Runs_law (k0 : Int) (a : Option Addr) (n c : Nat) (xs : List Stp) (w : World) (hA : ArgSs w a n c xs) :
    Calls Try.prog 4 #[.int .i64 k0, .slice a n c] w fun e w' => e = .returned (.bool true) ∧ Fr F0 w w' := by
  have HA := Lib.hid hA
  have HS := Lib.hid (fun (w' : World) (F : Fr F0 w w') => short_any (hA.fr0 F))
  have Hlen := Lib.hid hA.len
  clear hA
  by_cases hsh : (decide (n ≤ 60) && !xs.any lng) = true
  · obtain ⟨hn, hlg⟩ := Bool.and_eq_true _ _ |>.mp hsh
    have hn60 : n ≤ 60 := of_decide_eq_true hn
    have Hlg : Hid (∀ (i : Nat) (x : Stp), xs[i]? = some x → x.n ≤ 20) := Lib.hid (fun i x hx => by
      have h1 : xs.any lng = false := by simpa using hlg
      rw [List.any_eq_false] at h1
      have h2 := h1 x (List.mem_of_getElem? hx)
      unfold lng at h2
      have h3 : ¬ (20 : Int) < (x.n : Int) := by simpa using h2
      omega)
    rw [hsh] at HS
    clear hsh hn hlg
    by_cases hb0 : k0 < 0 ∨ 20 < k0
    · have HN := Lib.hid (fun w' => New_bad w' hb0)
      go_enter Try.func4, Try.ntmps4
      go_wp2_with fail
      refine (awake_any w).mono ?_
      rintro e w1 ⟨rfl, F1⟩
      have HF1 := Lib.hid F1
      clear F1
      go_wp2_with fail
      refine (HS.out w1 HF1.out).mono ?_
      rintro e w2 ⟨rfl, F2⟩
      have HF2 := Lib.hid (HF1.out.trans0 F2)
      clear F2 HF1
      go_wp2_with fail
      refine (HN.out w2).mono ?_
      rintro e w3 ⟨rfl, rfl⟩
      by_cases h1 : k0 < 0
      · go_wp2_with fail
        go_ret
        exact ⟨rfl, HF2.out⟩
      · have h2 : 20 < k0 := hb0.elim (fun e => absurd e h1) id
        go_wp2_with fail
        go_ret
        exact ⟨rfl, HF2.out⟩
    · obtain ⟨rate, rfl⟩ : ∃ r : Nat, k0 = r := ⟨k0.toNat, by omega⟩
      have hr : rate ≤ 20 := by omega
      have d1 : ¬ (rate : Int) < 0 := by omega
      have d2 : ¬ (20 : Int) < (rate : Int) := by omega
      clear hb0
      go_enter Try.func4, Try.ntmps4
      go_wp2_with fail
      refine (awake_any w).mono ?_
      rintro e w1 ⟨rfl, F1⟩
      have HF1 := Lib.hid F1
      clear F1
      go_wp2_with fail
      refine (HS.out w1 HF1.out).mono ?_
      rintro e w2 ⟨rfl, F2⟩
      have HF2 := Lib.hid (HF1.out.trans0 F2)
      clear F2 HF1
      go_wp2_with fail
      refine (New_ok w2 hr).mono ?_
      rintro e w3 ⟨hb, rfl, hHp, hF, hob⟩
      have H0 : Hid (RnS w2 rate hb 0 (.slice none 0 0) w3) := Lib.hid ⟨[], none, 0, [], [], [], _, rfl, hHp, KN.nil rate, Ks.nil _, fun q hq => absurd hq (onBlk_none _), fun q (e : q = hb) => by omega, hF, Nat.le_refl _, fun _ => ⟨rfl, rfl⟩⟩
      clear hHp hF hob
      go_wp2_with fail
      go_loopw [44, 7] (fun s44 s7 wr => ∃ (j : Nat) (v7 : Value), j ≤ n ∧ s44 = .int .i64 j ∧ v7 = s7 ∧ Hid (RnS w2 rate hb j v7 wr)) (fun s44 _ _ => n - (intOf s44).toNat)
      case atStart => exact ⟨0, _, by omega, rfl, rfl, H0⟩
      case round =>
        obtain ⟨j, v7, hj, rfl, hv7, HM⟩ := hrel
        subst hv7
        by_cases hlt : j < n
        · obtain ⟨x, hx⟩ : ∃ x, xs[j]? = some x := ⟨_, List.getElem?_eq_getElem (by rw [Hlen.out]; exact hlt)⟩
          have hFw : Fr F0 w wr := by
            obtain ⟨_, _, _, _, _, _, _, _, _, _, _, _, _, h7, _⟩ := HM.out
            exact HF2.out.trans0 h7
          obtain ⟨b, o, rfl, x0, x1, x2⟩ := (HA.out.fr0 hFw).cells j x hx
          have HR : Hid (Rd (wr.alloc (.cells #[.int .i64 x.kind, .int .i64 x.key, .slice x.a x.n x.c] 42)) x.a x.n (ints x.L)) := Lib.hid (((HA.out.fr0 hFw).row j x hx).alloc _)
          have hxn := Lib.hid (Hlg.out j x hx)
          have HMa : Hid (RnS w2 rate hb j v7 (wr.alloc (.cells #[.int .i64 x.kind, .int .i64 x.key, .slice x.a x.n x.c] 42))) := Lib.hid (HM.out.up ((Fr.refl _ _).alloc _))
          clear hx hFw
          generalize x.kind = kd at *
          by_cases e1 : kd = 1
          · subst e1
            obtain ⟨l, a7, c7, ts, own, I, T, rfl, h2, h3, h4, h5, h6, h7, h8, h9⟩ := HM.out
            have hnT : Hid (¬ T wr.heap.size) := Lib.hid (fun e => by have := h2.lt _ e; omega)
            have FA : Fr F0 wr (wr.alloc (.cells #[.int .i64 1, .int .i64 x.key, .slice x.a x.n x.c] 42)) := (Fr.refl _ _).alloc _
            have ck := Lib.hid ((Blk.new wr 42 [.int .i64 1, .int .i64 x.key, .slice x.a x.n x.c]).cell (i := 1) (u := .int .i64 x.key) rfl)
            by_cases hkey : -1048576 ≤ x.key ∧ x.key ≤ 1048576
            · have HIn := Lib.hid (RnS.insert (j := j) (h2.fr FA (fun _ _ => id)) h3 (OwnW.fr0 h4 FA) h5 h6 (h7.trans0 FA) h8 (by omega) hkey.1 hkey.2)
              have HKy : Hid (∀ w', Calls Try.prog 10 #[.int .i64 x.key] w' fun e w'' => e = .returned (.bool true) ∧ w' = w'') := Lib.hid (fun w' => by have := key_any w' x.key; rwa [decide_eq_true hkey] at this)
              have hl12 : l.length ≤ 1200 := by omega
              obtain ⟨L, hL⟩ : ∃ L, L = l.length := ⟨_, rfl⟩
              have HL := Lib.hid hL.symm
              rw [← hL] at HIn hl12 ⊢
              clear h2 h3 h4 h5 h6 h7 h8 h9 FA hkey hL
              go_wp2_with fail
              refine HIn.out.mono ?_
              rintro e w4 ⟨rfl, hI4, hF4⟩
              have HI4 := Lib.hid hI4
              have ck4 : w4.cell? ⟨wr.heap.size, 1, none⟩ = some (.int .i64 x.key) := hF4.cell ck.out hnT.out
              have HK4 : Hid (Ks w4 a7 c7 l) := Lib.hid (by obtain ⟨_, _, _, _, _, _, h, _⟩ := hI4; exact h)
              clear hI4 hF4
              go_wp2_with fail
              refine (HKy.out _).mono ?_
              rintro e w5 ⟨rfl, rfl⟩
              go_wp2_with ((at_builtin; refine wpAppI1 HK4.out HL.out (by omega) (⟨x.key, x.key, true⟩ : It) rfl (by first | rfl | (simp; done) | (simp; rfl)) ?_; intro a6 c6 w6 own6 fr6 at6; have HS9 := Lib.hid (RnI.note HI4.out HL.out own6 fr6 at6); clear own6 fr6 at6 ck4))
              refine (RnS.looks HS9.out).mono ?_
              rintro e w9 ⟨rfl, h9⟩
              have H9 := Lib.hid h9
              clear h9
              go_wp2_with fail
              go_roundw
              case rel => exact ⟨j + 1, _, by omega, by go_num, rfl, H9⟩
              case measure => simp [intOf]; omega
            · have HIn := Lib.hid (Insert_bad (w := wr.alloc (.cells #[.int .i64 1, .int .i64 x.key, .slice x.a x.n x.c] 42)) (hb := hb) (k := x.key) (by omega))
              have HKy : Hid (∀ w', Calls Try.prog 10 #[.int .i64 x.key] w' fun e w'' => e = .returned (.bool false) ∧ w' = w'') := Lib.hid (fun w' => by have := key_any w' x.key; rwa [decide_eq_false hkey] at this)
              have HS9 := Lib.hid HMa.out.le
              have ck4 := ck.out
              clear h2 h3 h4 h5 h6 h7 h8 h9 FA hkey
              go_wp2_with fail
              refine HIn.out.mono ?_
              rintro e w4 ⟨rfl, rfl⟩
              go_wp2_with fail
              refine (HKy.out _).mono ?_
              rintro e w5 ⟨rfl, rfl⟩
              go_wp2_with fail
              refine (RnS.looks HS9.out).mono ?_
              rintro e w9 ⟨rfl, h9⟩
              have H9 := Lib.hid h9
              clear h9
              go_wp2_with fail
              go_roundw
              case rel => exact ⟨j + 1, _, by omega, by go_num, rfl, H9⟩
              case measure => simp [intOf]; omega
          · by_cases e2 : kd = 2
            · subst e2
              clear e1
              go_wp2_with fail
              refine (RnS.deleted HMa.out).mono ?_
              rintro e w4 ⟨rfl, h4⟩
              have HS9 := Lib.hid h4.le
              clear h4
              go_wp2_with fail
              refine (RnS.looks HS9.out).mono ?_
              rintro e w9 ⟨rfl, h9⟩
              have H9 := Lib.hid h9
              clear h9
              go_wp2_with fail
              go_roundw
              case rel => exact ⟨j + 1, _, by omega, by go_num, rfl, H9⟩
              case measure => simp [intOf]; omega
            · by_cases e3 : kd = 3
              · subst e3
                clear e1 e2
                have HMe := Lib.hid (RnS.melded HMa.out (by omega) (x := ⟨3, x.key, x.a, x.n, x.c, x.L⟩) HR.out hxn.out)
                go_wp2_with fail
                refine HMe.out.mono ?_
                rintro e w4 ⟨s12, rfl, h4⟩
                have HS9 := Lib.hid h4
                clear h4
                go_wp2_with fail
                refine (RnS.looks HS9.out).mono ?_
                rintro e w9 ⟨rfl, h9⟩
                have H9 := Lib.hid h9
                clear h9
                go_wp2_with fail
                go_roundw
                case rel => exact ⟨j + 1, _, by omega, by go_num, rfl, H9⟩
                case measure => simp [intOf]; omega
              · have b1 : (kd == 1) = false := by simpa using e1
                have b2 : (kd == 2) = false := by simpa using e2
                have b3 : (kd == 3) = false := by simpa using e3
                have HS9 := Lib.hid HMa.out.le
                clear e1 e2 e3
                go_wp2_with fail
                refine (RnS.looks HS9.out).mono ?_
                rintro e w9 ⟨rfl, h9⟩
                have H9 := Lib.hid h9
                clear h9
                go_wp2_with fail
                go_roundw
                case rel => exact ⟨j + 1, _, by omega, by go_num, rfl, H9⟩
                case measure => simp [intOf]; omega
        · go_wp2_with fail
          go_ret
          obtain ⟨_, _, _, _, _, _, _, _, _, _, _, _, _, h7, _⟩ := HM.out
          exact ⟨rfl, HF2.out.trans0 h7⟩
  · have hsf : (decide (n ≤ 60) && !xs.any lng) = false := by simpa using hsh
    rw [hsf] at HS
    clear hsh hsf
    go_enter Try.func4, Try.ntmps4
    go_wp2_with fail
    refine (awake_any w).mono ?_
    rintro e w1 ⟨rfl, F1⟩
    have HF1 := Lib.hid F1
    clear F1
    go_wp2_with fail
    refine (HS.out w1 HF1.out).mono ?_
    rintro e w2 ⟨rfl, F2⟩
    have HF2 := Lib.hid (HF1.out.trans0 F2)
    clear F2 HF1
    go_wp2_with fail
    go_ret
    exact ⟨rfl, HF2.out⟩
end Go.Proofs.Ytdphademoeofkaa
