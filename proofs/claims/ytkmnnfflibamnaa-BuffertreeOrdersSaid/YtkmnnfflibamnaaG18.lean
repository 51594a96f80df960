/- Buffer trees: searching the levels. -/
import Derived.Test.YtkmnnfflibamnaaG17
namespace Go.Proofs.Ytkmnnfflibamnaa
open Go.RowKit
attribute [local go_sem ↓] Go.wp_at_zero Go.wp_at_succ
def idxP (p : Nat → Bool) (lv : List LV) : Int := match lv.findIdx? (fun L => p L.rv.length) with | some i => (i : Int) | none => -1
theorem idxP_hit {p : Nat → Bool} {lv : List LV} {i : Nat} {L : LV} (hL : lv[i]? = some L) (hp : p L.rv.length = true) (hlo : ∀ j L', lv[j]? = some L' → j < i → p L'.rv.length = false) : idxP p lv = (i : Int) := by
  obtain ⟨hi, rfl⟩ := List.getElem?_eq_some_iff.1 hL
  have : lv.findIdx? (fun L => p L.rv.length) = some i := by
    rw [List.findIdx?_eq_some_iff_getElem]
    exact ⟨hi, hp, fun j hj => by rw [hlo j _ (List.getElem?_eq_getElem (by omega)) hj]; decide⟩
  unfold idxP; rw [this]
theorem idxP_none {p : Nat → Bool} {lv : List LV} (hlo : ∀ (j : Nat) L', lv[j]? = some L' → p L'.rv.length = false) : idxP p lv = -1 := by
  have : lv.findIdx? (fun L => p L.rv.length) = none := by
    rw [List.findIdx?_eq_none_iff]
    intro L hL
    obtain ⟨j, hj⟩ := List.getElem?_of_mem hL
    exact hlo j L hj
  unfold idxP; rw [this]
theorem Rd.lev {w : World} {a : Option Addr} {n : Nat} {lv : List LV} (h : Rd w a n (lvs lv)) {i : Nat} {L : LV} (hr : lv[i]? = some L) : ∃ b o, a = some ⟨b, o, none⟩ ∧ w.cell? ⟨b, o + i, none⟩ = some (.slice L.a L.rv.length L.c) := by
  have hl := h.len
  rw [List.length_map] at hl
  have hi := (List.getElem?_eq_some_iff.1 hr).1
  obtain ⟨b, o, ha, hc⟩ := h.cells (by omega)
  exact ⟨b, o, ha, hc i _ (by rw [List.getElem?_map, hr]; rfl)⟩
theorem spillCl_any (a : Option Addr) (n c bx t B M : Nat) (w : World) (hb : One w bx 26 (.pointer (some ⟨t, 0, none⟩))) (h0 : w.cell? ⟨t, 0, none⟩ = some (.int .i64 (B : Int))) (h1 : w.cell? ⟨t, 1, none⟩ = some (.int .i64 (M : Int))) (hB : 1 ≤ B ∧ B ≤ 64) (hM : 2 * B ≤ M ∧ M ≤ 1000) :
    Calls Try.prog 87 #[.slice a n c, .pointer (some ⟨bx, 0, none⟩)] w fun e w' => e = .returned (.bool (decide (fanN B M ≤ n))) ∧ Fr F0 w w' := by
  have HF := Lib.hid (fun W => fan_any B M W hB hM)
  have hx := hb.cell
  obtain ⟨F, hF⟩ : ∃ F, F = fanN B M := ⟨_, rfl⟩
  rw [← hF] at HF ⊢
  clear hF hb
  by_cases c1 : F ≤ n
  · have c1' : (F : Int) ≤ (n : Int) := by omega
    have D := Lib.hid (decide_eq_true c1)
    clear c1
    go_enter Try.func87, Try.ntmps87
    go_wp2_with (go_at_call 42; refine (HF.out _).mono ?_; rintro e w1 ⟨rfl, F1⟩; replace F1 := Lib.hid F1)
    go_ret
    exact ⟨ret_bool (by first | exact D.out.symm | rfl | exact (decide_eq_false (by omega)).trans D.out.symm), F1.out⟩
  · have c1' : ¬ (F : Int) ≤ (n : Int) := by omega
    have D := Lib.hid (decide_eq_false c1)
    clear c1
    go_enter Try.func87, Try.ntmps87
    go_wp2_with (go_at_call 42; refine (HF.out _).mono ?_; rintro e w1 ⟨rfl, F1⟩; replace F1 := Lib.hid F1)
    go_ret
    exact ⟨ret_bool (by first | exact D.out.symm | rfl | exact (decide_eq_false (by omega)).trans D.out.symm), F1.out⟩
theorem mergeCl_any (a : Option Addr) (n c : Nat) (w : World) : Calls Try.prog 107 #[.slice a n c] w fun e w' => e = .returned (.bool (decide (0 < n))) ∧ Fr F0 w w' := by
  by_cases c1 : 0 < n
  · have c1' : (0 : Int) < (n : Int) := by omega
    have D := Lib.hid (decide_eq_true c1)
    clear c1
    go_enter Try.func107, Try.ntmps107
    go_wp2_with fail
    go_ret
    exact ⟨ret_bool (by first | exact D.out.symm | rfl | exact (decide_eq_false (by omega)).trans D.out.symm), Fr.refl _ _⟩
  · have c1' : ¬ (0 : Int) < (n : Int) := by omega
    have D := Lib.hid (decide_eq_false c1)
    clear c1
    go_enter Try.func107, Try.ntmps107
    go_wp2_with fail
    go_ret
    exact ⟨ret_bool (by first | exact D.out.symm | rfl | exact (decide_eq_false (by omega)).trans D.out.symm), Fr.refl _ _⟩
set_option maxRecDepth 100000 in
theorem IndexSpill_any {w : World} {a : Option Addr} {n c bx : Nat} {lv : List LV} {p : Nat → Bool} (h : Rd w a n (lvs lv)) (hl : ∀ L ∈ lv, L.rv.length ≤ 1000000) (hn : n ≤ 1000000) (hC : ∀ (a : Option Addr) (m c : Nat) W, m ≤ 1000000 → Fr F0 w W → Calls Try.prog 87 #[.slice a m c, .pointer (some ⟨bx, 0, none⟩)] W fun e w' => e = .returned (.bool (p m)) ∧ Fr F0 W w') :
    Calls Try.prog 86 #[.slice a n c, .func (.func 87) #[] #[.pointer (some ⟨bx, 0, none⟩)]] w fun e w' => e = .returned (.int .i64 (idxP p lv)) ∧ Fr F0 w w' := by
  have hll : lv.length = n := by have := h.len; simpa using this
  have HR := Lib.hid h
  have Hl := Lib.hid hll
  have HL := Lib.hid hl
  have HC := Lib.hid hC
  clear h hll hl hC
  go_enter Try.func86, Try.ntmps86
  go_wp2_with fail
  go_loopw [8] (fun s8 wr => ∃ i : Nat, i ≤ n ∧ s8 = .int .i64 (i : Int) ∧ Hid ((∀ (j : Nat) L', lv[j]? = some L' → j < i → p L'.rv.length = false) ∧ Fr F0 w wr)) (fun s8 _ => n - (intOf s8).toNat)
  case atStart => exact ⟨0, Nat.zero_le _, rfl, Lib.hid ⟨fun j L' _ h => absurd h (Nat.not_lt_zero _), Fr.refl _ _⟩⟩
  case round =>
    obtain ⟨i, hi, rfl, H⟩ := hrel
    by_cases hlt : i < n
    · have hlt' : (i : Int) < (n : Int) := by omega
      obtain ⟨L, hL⟩ : ∃ L, lv[i]? = some L := ⟨_, List.getElem?_eq_getElem (by have := Hl.out; omega)⟩
      obtain ⟨b, o, rfl, d0⟩ := (HR.out.fr0 H.out.2).lev hL
      have hq9 := HL.out L (List.mem_of_getElem? hL)
      obtain ⟨q, hq⟩ : ∃ q, q = L.rv.length := ⟨_, rfl⟩
      rw [← hq] at d0 hq9
      have HX := Lib.hid hL
      have Hq := Lib.hid hq
      have HC1 := Lib.hid (HC.out L.a q L.c wr hq9 H.out.2)
      clear hL hq
      cases hp : p q with
      | true =>
        rw [hp] at HC1
        have Hp := Lib.hid hp
        clear hp
        go_wp2_with fail
        refine HC1.out.mono ?_
        rintro e w1 ⟨rfl, F1⟩
        replace F1 := Lib.hid F1
        go_wp2_with fail
        go_ret
        exact ⟨ret_int (idxP_hit HX.out (by rw [← Hq.out]; exact Hp.out) H.out.1).symm, H.out.2.trans0 F1.out⟩
      | false =>
        rw [hp] at HC1
        have Hp := Lib.hid hp
        clear hp
        go_wp2_with fail
        refine HC1.out.mono ?_
        rintro e w1 ⟨rfl, F1⟩
        replace F1 := Lib.hid F1
        go_wp2_with fail
        go_roundw
        case rel => exact ⟨i + 1, by omega, by go_num, Lib.hid ⟨fun j L' hj hji => by
          rcases Nat.lt_or_ge j i with h | h
          · exact H.out.1 j L' hj h
          · have : j = i := by omega
            subst this
            rw [HX.out] at hj; injection hj with hj; subst hj; rw [← Hq.out]; exact Hp.out, H.out.2.trans0 F1.out⟩⟩
        case measure => simp [intOf]; omega
    · obtain rfl : n = i := by omega
      go_wp2_with fail
      go_ret
      exact ⟨ret_int (idxP_none (fun j L' hj => H.out.1 j L' hj (by have := (List.getElem?_eq_some_iff.1 hj).1; have := Hl.out; omega))).symm, H.out.2⟩
set_option maxRecDepth 100000 in
theorem IndexMerge_any {w : World} {a : Option Addr} {n c : Nat} {lv : List LV} {p : Nat → Bool} (h : Rd w a n (lvs lv)) (hl : ∀ L ∈ lv, L.rv.length ≤ 1000000) (hn : n ≤ 1000000) (hC : ∀ (a : Option Addr) (m c : Nat) W, m ≤ 1000000 → Fr F0 w W → Calls Try.prog 107 #[.slice a m c] W fun e w' => e = .returned (.bool (p m)) ∧ Fr F0 W w') :
    Calls Try.prog 86 #[.slice a n c, .func (.func 107) #[] #[]] w fun e w' => e = .returned (.int .i64 (idxP p lv)) ∧ Fr F0 w w' := by
  have hll : lv.length = n := by have := h.len; simpa using this
  have HR := Lib.hid h
  have Hl := Lib.hid hll
  have HL := Lib.hid hl
  have HC := Lib.hid hC
  clear h hll hl hC
  go_enter Try.func86, Try.ntmps86
  go_wp2_with fail
  go_loopw [8] (fun s8 wr => ∃ i : Nat, i ≤ n ∧ s8 = .int .i64 (i : Int) ∧ Hid ((∀ (j : Nat) L', lv[j]? = some L' → j < i → p L'.rv.length = false) ∧ Fr F0 w wr)) (fun s8 _ => n - (intOf s8).toNat)
  case atStart => exact ⟨0, Nat.zero_le _, rfl, Lib.hid ⟨fun j L' _ h => absurd h (Nat.not_lt_zero _), Fr.refl _ _⟩⟩
  case round =>
    obtain ⟨i, hi, rfl, H⟩ := hrel
    by_cases hlt : i < n
    · have hlt' : (i : Int) < (n : Int) := by omega
      obtain ⟨L, hL⟩ : ∃ L, lv[i]? = some L := ⟨_, List.getElem?_eq_getElem (by have := Hl.out; omega)⟩
      obtain ⟨b, o, rfl, d0⟩ := (HR.out.fr0 H.out.2).lev hL
      have hq9 := HL.out L (List.mem_of_getElem? hL)
      obtain ⟨q, hq⟩ : ∃ q, q = L.rv.length := ⟨_, rfl⟩
      rw [← hq] at d0 hq9
      have HX := Lib.hid hL
      have Hq := Lib.hid hq
      have HC1 := Lib.hid (HC.out L.a q L.c wr hq9 H.out.2)
      clear hL hq
      cases hp : p q with
      | true =>
        rw [hp] at HC1
        have Hp := Lib.hid hp
        clear hp
        go_wp2_with fail
        refine HC1.out.mono ?_
        rintro e w1 ⟨rfl, F1⟩
        replace F1 := Lib.hid F1
        go_wp2_with fail
        go_ret
        exact ⟨ret_int (idxP_hit HX.out (by rw [← Hq.out]; exact Hp.out) H.out.1).symm, H.out.2.trans0 F1.out⟩
      | false =>
        rw [hp] at HC1
        have Hp := Lib.hid hp
        clear hp
        go_wp2_with fail
        refine HC1.out.mono ?_
        rintro e w1 ⟨rfl, F1⟩
        replace F1 := Lib.hid F1
        go_wp2_with fail
        go_roundw
        case rel => exact ⟨i + 1, by omega, by go_num, Lib.hid ⟨fun j L' hj hji => by
          rcases Nat.lt_or_ge j i with h | h
          · exact H.out.1 j L' hj h
          · have : j = i := by omega
            subst this
            rw [HX.out] at hj; injection hj with hj; subst hj; rw [← Hq.out]; exact Hp.out, H.out.2.trans0 F1.out⟩⟩
        case measure => simp [intOf]; omega
    · obtain rfl : n = i := by omega
      go_wp2_with fail
      go_ret
      exact ⟨ret_int (idxP_none (fun j L' hj => H.out.1 j L' hj (by have := (List.getElem?_eq_some_iff.1 hj).1; have := Hl.out; omega))).symm, H.out.2⟩
theorem Contains_any {w : World} {a : Option Addr} {n c : Nat} {lv : List LV} (h : Rd w a n (lvs lv)) (hl : ∀ L ∈ lv, L.rv.length ≤ 1000000) (hn : n ≤ 1000000) :
    Calls Try.prog 106 #[.slice a n c, .func (.func 107) #[] #[]] w fun e w' => e = .returned (.bool (lv.any fun L => decide (0 < L.rv.length))) ∧ Fr F0 w w' := by
  have HI := Lib.hid (IndexMerge_any (c := c) (p := fun m => decide (0 < m)) h hl hn (fun a m c W _ _ => mergeCl_any a m c W))
  have hz : decide (0 ≤ idxP (fun m => decide (0 < m)) lv) = lv.any fun L => decide (0 < L.rv.length) := by
    unfold idxP
    cases hf : lv.findIdx? (fun L => decide (0 < L.rv.length)) with
    | none =>
      rw [List.findIdx?_eq_none_iff] at hf
      symm
      rw [List.any_eq_false.2 (fun L hL => by rw [hf L hL]; decide)]; rfl
    | some i =>
      rw [List.findIdx?_eq_some_iff_getElem] at hf
      obtain ⟨h1, h2, _⟩ := hf
      rw [List.any_eq_true.2 ⟨_, List.getElem_mem h1, h2⟩]; exact decide_eq_true (Int.natCast_nonneg i)
  generalize idxP (fun m => decide (0 < m)) lv = z at HI hz
  generalize (lv.any fun L => decide (0 < L.rv.length)) = r at hz ⊢
  by_cases c1 : 0 ≤ z
  · have D : Hid (r = true) := Lib.hid (by rw [← hz]; exact decide_eq_true c1)
    clear hz h hl
    go_enter Try.func106, Try.ntmps106
    go_wp2_with (go_at_call 86; refine HI.out.mono ?_; rintro e w1 ⟨rfl, F1⟩; replace F1 := Lib.hid F1)
    go_ret
    exact ⟨ret_bool (by first | exact D.out.symm | rfl | exact (decide_eq_false (by omega)).trans D.out.symm), F1.out⟩
  · have D : Hid (r = false) := Lib.hid (by rw [← hz]; exact decide_eq_false c1)
    clear hz h hl
    go_enter Try.func106, Try.ntmps106
    go_wp2_with (go_at_call 86; refine HI.out.mono ?_; rintro e w1 ⟨rfl, F1⟩; replace F1 := Lib.hid F1)
    go_ret
    exact ⟨ret_bool (by first | exact D.out.symm | rfl | exact (decide_eq_false (by omega)).trans D.out.symm), F1.out⟩
end Go.Proofs.Ytkmnnfflibamnaa
