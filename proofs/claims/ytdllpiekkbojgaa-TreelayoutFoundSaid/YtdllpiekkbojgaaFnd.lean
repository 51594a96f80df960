/- slices.Clone, slices.Index; the walk of TreelayoutFound. -/
import Derived.Test.YtdllpiekkbojgaaF2
import Derived.Test.YtdllpiekkbojgaaCom2
import Derived.Test.YtdllpiekkbojgaaR4
namespace Go.Proofs.Ytdllpiekkbojgaa
open Go.RowKit Go.Maps

theorem Clone_any (b o n c : Nat) (xs : List Int) (w : World) (hr : Rd w (some ⟨b, o, none⟩) n (ints xs)) (hn : 0 < n) (hn2 : n ≤ 1000000) :
    Calls Try.prog 31 #[.slice (some ⟨b, o, none⟩) n c] w fun e w' => ∃ a' c', e = .returned (.slice a' n c') ∧ Own w' w.heap.size 3 a' n c' (ints xs) ∧ Fr F0 w w' := by
  have hnil := fun (w : World) (a : Option Addr) (l c : Nat) => Lib.run_eql_slice_nil (P := Try.prog) w 23 3 a l c 0 0 Try.underlying23
  have hO : Own (w.alloc (.cells (#[] : Array Value) 3)) w.heap.size 3 (some ⟨w.heap.size, 0, none⟩) 0 0 (ints []) := Own.lit [] 0 rfl (by omega) (by omega)
  have hF : Fr F0 w (w.alloc (.cells (#[] : Array Value) 3)) := (Fr.refl _ _).alloc _
  obtain ⟨b', o', he, hc⟩ := (hr.fr0 hF).cells hn
  injection he with he; injection he with he1 he2; subst he1 he2
  have hl : (ints xs).length = n := hr.len
  replace hO := Lib.hid hO
  replace hF := Lib.hid hF
  replace hc := Lib.hid hc
  have Hl := Lib.hid hl
  clear hl
  go_enter Try.func31, Try.ntmps31
  go_wp2_with (at_builtin; refine wpAppAll E3 hO.out Hl.out hc.out (oneCell_ints xs) (by omega) (by omega) (by simp) hn rfl rfl ?_; intro a' c' w' own' fr')
  go_ret
  refine ⟨a', c', rfl, by simpa using own', hF.out.trans fr' (fun k hk hs => ?_)⟩
  have := (onBlk_some _ _ _ _).1 hs
  omega

theorem Index_any (a : Option Addr) (m c : Nat) (ps : List Int) (x : Int) (w : World) (hp : Rd w a m (ints ps)) :
    Calls Try.prog 32 #[.slice a m c, .int .i64 x] w fun e w' => e = .returned (.int .i64 (idxI ps x)) ∧ w = w' := by
  have hpl : ps.length = m := by simpa using hp.len
  have hm := hp.max
  have Hpl := Lib.hid hpl
  clear hpl
  go_enter Try.func32, Try.ntmps32
  go_wp2_with fail
  go_loop [8] (fun i => ∃ k : Nat, k ≤ m ∧ i = .int .i64 k ∧ Hid ((ps.take k).any (· == x) = false)) (fun i => m - (intOf i).toNat)
  case atStart => exact ⟨0, by omega, rfl, Lib.hid (by simp)⟩
  case round =>
    obtain ⟨k, hk, rfl, hno⟩ := hrel
    by_cases hlt : k < m
    · have hpl := Hpl.out
      obtain ⟨y, hy⟩ : ∃ y, ps[k]? = some y := ⟨ps[k], by simp [hpl, hlt]⟩
      obtain ⟨b, o, hb, hc⟩ := hp.cells (by omega)
      subst hb
      have d := hc k (.int .i64 y) (by simp [hy])
      have Hy := Lib.hid hy
      clear hc hy hpl
      by_cases hxy : x = y
      · subst hxy
        have e : idxI ps x = k := by
          have hpl := Hpl.out
          have hy := Hy.out
          have hany : ps.any (· == x) = true := List.any_eq_true.2 ⟨x, List.mem_of_getElem? hy, by simp⟩
          unfold idxI
          rw [if_pos hany]
          have h1 : ps.findIdx (· == x) = k := by
            rw [List.findIdx_eq (by omega)]
            refine ⟨?_, fun j hj => ?_⟩
            · rw [List.getElem?_eq_getElem (by omega)] at hy
              injection hy with hy
              rw [hy]; simp
            · have := hno.out
              rw [List.any_eq_false] at this
              have h2 := this (ps[j]'(by omega)) (List.mem_take_iff_getElem.2 ⟨j, by omega, rfl⟩)
              simpa using h2
          rw [h1]
        have E := Lib.hid e
        clear e
        go_wp2_with fail
        go_ret
        rw [E.out]
        exact ⟨rfl, rfl⟩
      · have hb : (x == y) = false := by simpa using hxy
        go_wp2_with fail
        go_round
        case rel => exact ⟨k + 1, by omega, by go_num, Lib.hid (by rw [List.take_add_one, Hy.out, List.any_append, hno.out]; simp; exact fun e => hxy e.symm)⟩
        case measure => simp [intOf]; omega
    · obtain rfl : m = k := by omega
      have e : idxI ps x = -1 := by
        have h := hno.out
        rw [List.take_of_length_le (by rw [Hpl.out]; omega)] at h
        unfold idxI; rw [h]; rfl
      have E := Lib.hid e
      clear e
      go_wp2_with fail
      go_ret
      rw [E.out]
      exact ⟨rfl, rfl⟩

abbrev RetF (w : World) (e : Ending) (w' : World) : Prop := e = .returned (.bool true) ∧ Fr F0 w w'

set_option maxHeartbeats 1000000 in
theorem LFound_long (kind other size : Int) (a : Option Addr) (n c : Nat) (keys : List Int) (w : World) (hk : Rd w a n (ints keys)) (h : 127 < n) :
    Calls Try.prog 8 #[.int .i64 kind, .slice a n c, .int .i64 other, .int .i64 size] w (RetF w) := by
  have hm1 := hk.max
  go_enter Try.func8, Try.ntmps8
  go_wp2_with fail
  refine (awake_any _).mono ?_; rintro e w1 ⟨rfl, F1⟩
  go_wp2_with fail
  go_ret
  exact ⟨rfl, F1⟩
set_option maxHeartbeats 1000000 in
theorem LFound_kind (kind other size : Int) (a : Option Addr) (n c : Nat) (keys : List Int) (w : World) (h1 : n ≤ 127) (hk : ¬ (1 ≤ kind ∧ kind ≤ 4)) :
    Calls Try.prog 8 #[.int .i64 kind, .slice a n c, .int .i64 other, .int .i64 size] w (RetF w) := by
  replace hk := Lib.hid hk
  go_enter Try.func8, Try.ntmps8
  go_wp2_with fail
  refine (awake_any _).mono ?_; rintro e w1 ⟨rfl, F1⟩
  go_wp2_with fail
  refine (Build_kind kind a n c _ hk.out).mono ?_; rintro e w2 ⟨rfl, rfl⟩
  go_wp2_with fail
  go_ret
  exact ⟨rfl, F1⟩
set_option maxHeartbeats 1000000 in
theorem LFound_bad (kind other size : Int) (a : Option Addr) (n c : Nat) (keys : List Int) (er : Int) (w : World) (hr : Rd w a n (ints keys)) (h1 : n ≤ 127) (hk1 : 1 ≤ kind) (hk2 : kind ≤ 4)
    (hb : buildV kind keys = ([], er)) (he : er = 1 ∨ er = 3) :
    Calls Try.prog 8 #[.int .i64 kind, .slice a n c, .int .i64 other, .int .i64 size] w (RetF w) := by
  have C : ∀ w', Rd w' a n (ints keys) → Calls Try.prog 27 #[.int .i64 kind, .slice a n c] w' fun e w2 => ∃ a' c', e = .returned (.tuple #[.slice a' 0 c', .int .i64 er]) ∧ Fr F0 w' w2 := fun w' hr' =>
    (Build_any kind a n c keys w' hr' (by omega) hk1 hk2).mono fun e w2 hp => by
      obtain ⟨a', n', c', e1, e2, e3⟩ := hp
      rw [hb] at e1 e2
      have : n' = 0 := by have := e2.len; simpa using this.symm
      subst this
      exact ⟨a', c', e1, e3⟩
  replace C := Lib.hid C
  rcases he with rfl | rfl
  all_goals
    clear hb
    go_enter Try.func8, Try.ntmps8
    go_wp2_with fail
    refine (awake_any _).mono ?_; rintro e w1 ⟨rfl, F1⟩
    go_wp2_with fail
    refine (C.out _ (hr.fr0 F1)).mono ?_; rintro e w2 ⟨a', c', rfl, F2⟩
    go_wp2_with fail
    go_ret
    exact ⟨rfl, F1.trans0 F2⟩

def SP2 (p n er : Int) (w : World) (e : Ending) (w' : World) : Prop := e = .returned (.tuple #[.int .i64 p, .int .i64 n, .int .i64 er]) ∧ Fr F0 w w'
set_option maxHeartbeats 2000000 in
theorem LFound_ok (kind other size : Int) (h : Nat) (a : Option Addr) (n c : Nat) (keys : List Int) (w : World) (hr : Rd w a n (ints keys)) (h0 : n ≤ 127) (hk1 : 1 ≤ kind) (hk2 : kind ≤ 4)
    (h1 : 1 ≤ h) (h2 : h ≤ 7) (hlen : cnt h = n) (hasc : ascB keys = true) :
    Calls Try.prog 8 #[.int .i64 kind, .slice a n c, .int .i64 other, .int .i64 size] w (RetF w) := by
  have hkl : keys.length = n := by simpa using hr.len
  have hb : buildV kind keys = (buildL kind h keys, 0) := by
    unfold buildV
    rw [hkl, ← hlen, heightS_eq h1 (by omega) rfl, if_neg (by omega), if_neg (by rw [hasc]; decide)]
  have hbl : (buildL kind h keys).length = n := by unfold buildL; rw [buildK_len, hkl]
  have hn1 : 0 < n := by have := Nat.pow_le_pow_right (n := 2) (by omega) h1; unfold cnt at hlen; omega
  have C : ∀ w', Rd w' a n (ints keys) → Calls Try.prog 27 #[.int .i64 kind, .slice a n c] w' fun e w2 => ∃ a' c', e = .returned (.tuple #[.slice a' n c', .int .i64 0]) ∧ Rd w2 a' n (ints (buildL kind h keys)) ∧ Fr F0 w' w2 := fun w' hr' =>
    (Build_any kind a n c keys w' hr' (by omega) hk1 hk2).mono fun e w2 hp => by
      obtain ⟨a', n', c', e1, e2, e3⟩ := hp
      rw [hb] at e1 e2
      have : n' = n := by rw [← hbl]; exact e2.lens.symm
      subst this
      exact ⟨a', c', e1, e2.rd, e3⟩
  have CS : 1 ≤ size → ∀ (a' : Option Addr) (c' : Nat) (key : Int) (w' : World), Rd w' a' n (ints (buildL kind h keys)) → Calls Try.prog 28 #[.int .i64 kind, .slice a' n c', .int .i64 key, .int .i64 size] w' (SearchPost kind (buildL kind h keys) key size w') :=
    fun hs a' c' key w' hr' => Search_any kind key size a' n c' _ w' hr' (by omega) hk1 hk2 hs
  have CL : ∀ key, (∃ i nb : Nat, searchV kind (buildL kind h keys) key size = ((i : Int), (nb : Int), 0) ∧ idxI (buildL kind h keys) key = i ∧ 1 ≤ nb ∧ nb ≤ 7) ∨
    (searchV kind (buildL kind h keys) key size = (0, 0, 12) ∧ idxI (buildL kind h keys) key = -1) := fun key => found_law hk1 hk2 h1 h2 (by rw [hkl, hlen]) hasc
  replace C := Lib.hid C
  replace CS := Lib.hid CS
  replace CL := Lib.hid CL
  generalize buildL kind h keys = t at *
  have Hkl := Lib.hid hkl
  clear hlen hasc hb hbl hkl
  obtain ⟨b, o, hab, _⟩ := hr.cells hn1
  subst hab
  by_cases hs : size < 1
  · go_enter Try.func8, Try.ntmps8
    go_wp2_with fail
    refine (awake_any _).mono ?_; rintro e w1 ⟨rfl, F1⟩
    go_wp2_with fail
    refine (C.out _ (hr.fr0 F1)).mono ?_; rintro e w2 ⟨a', c', rfl, R2, F2⟩
    go_wp2_with fail
    go_ret
    exact ⟨rfl, F1.trans0 F2⟩
  · have hs' : 1 ≤ size := by omega
    have hd1 : decide (127 < (n : Int)) = false := by simp; omega
    have hd2 : decide (size < 1) = false := by simp; omega
    clear hs
    replace CS := Lib.hid (CS.out hs')
    go_enter Try.func8, Try.ntmps8
    go_wp2_with fail
    refine (awake_any _).mono ?_; rintro e w1 ⟨rfl, F1⟩
    go_wp2_with fail
    refine (C.out _ (hr.fr0 F1)).mono ?_; rintro e w2 ⟨a2, c2, rfl, R2, F2⟩
    have F := F1.trans0 F2
    clear F1 F2
    go_wp2_with fail
    refine (Clone_any b o n c keys w2 (hr.fr0 F) hn1 (by omega)).mono ?_; rintro e w3 ⟨a3, c3, rfl, O3, F3⟩
    have hsz := F3.size
    have hsz0 : w.heap.size ≤ w2.heap.size := F.size
    have hlt2 : ∀ k, onBlk a2 k → k < w2.heap.size := R2.lt hn1
    have hblk := O3.blk
    replace R2 := R2.fr0 F3
    replace F := F.trans0 F3
    replace hblk := Lib.hid hblk
    replace hlt2 := Lib.hid hlt2
    go_wp2_with (at_builtin; refine wpApp1 E3 O3 (by omega) (by omega) (by omega) rfl rfl rfl ?_; intro a4 c4 w4 O4 F4)
    replace F := F.trans F4 (S := F0) (fun k hk hs => by have := (hblk.out k hs).1; omega)
    replace R2 := R2.fr F4 (fun k hk hs => by have := (hblk.out k hs).1; have := hlt2.out k hk; omega)
    have R4 := O4.rd
    have hitems : Hid ((ints keys ++ [Value.int .i64 other]) = ints (keys ++ [other])) := Lib.hid (by simp)
    rw [hitems.out] at R4
    have hil : Hid ((keys ++ [other]).length = n + 1) := Lib.hid (by simp [Hkl.out])
    generalize keys ++ [other] = items at *
    clear O3 O4 F3 F4 hblk hlt2 hitems hsz hsz0
    obtain ⟨wo, rfl⟩ : ∃ wo : World, wo = w4 := ⟨_, rfl⟩
    go_loopw [53] (fun i wr => ∃ k : Nat, k ≤ n + 1 ∧ i = .int .i64 k ∧ Fr F0 wo wr) (fun i _ => n + 1 - (intOf i).toNat)
    case atStart => exact ⟨0, by omega, rfl, Fr.refl _ _⟩
    case round =>
      obtain ⟨k, hk, rfl, hnx⟩ := hrel
      by_cases hlt : k < n + 1
      · obtain ⟨x, hx⟩ : ∃ x, items[k]? = some x := ⟨items[k]'(by rw [hil.out]; omega), by simp⟩
        obtain ⟨b4, o4, hb4, hc4⟩ := (R4.fr0 hnx).cells (by omega)
        subst hb4
        have d4 := hc4 k (.int .i64 x) (by simp [hx])
        clear hc4 hx
        rcases CL.out x with ⟨i, nb, hv, hi, hnb1, hnb7⟩ | ⟨hv, hi⟩
        · have C1 : ∀ w', Rd w' a2 n (ints t) → Calls Try.prog 28 #[.int .i64 kind, .slice a2 n c2, .int .i64 x, .int .i64 size] w' (SP2 i nb 0 w') := fun w' hr' => (CS.out a2 c2 x w' hr').mono fun e w2 hp => by
            unfold SearchPost at hp; rw [hv] at hp; exact hp
          have C2 : ∀ w', Rd w' a2 n (ints t) → Calls Try.prog 32 #[.slice a2 n c2, .int .i64 x] w' fun e w2 => e = .returned (.int .i64 (i : Int)) ∧ w' = w2 := fun w' hr' => by
            have := Index_any a2 n c2 t x w' hr'; rw [hi] at this; exact this
          replace C1 := Lib.hid C1
          replace C2 := Lib.hid C2
          clear hv hi
          have hd3 : decide ((nb : Int) < 1) = false := by simp; omega
          have hd4 : decide (7 < (nb : Int)) = false := by simp; omega
          go_wp2_with fail
          refine (C1.out _ (R2.fr0 hnx)).mono ?_; rintro e w5 ⟨rfl, F5⟩
          replace hnx := hnx.trans0 F5
          go_wp2_with fail
          refine (C2.out _ (R2.fr0 hnx)).mono ?_; rintro e w5 ⟨rfl, rfl⟩
          go_wp2_with fail
          go_roundw
          case rel => exact ⟨k + 1, by omega, by go_num, hnx⟩
          case measure => simp [intOf]; omega
        · have C1 : ∀ w', Rd w' a2 n (ints t) → Calls Try.prog 28 #[.int .i64 kind, .slice a2 n c2, .int .i64 x, .int .i64 size] w' (SP2 0 0 12 w') := fun w' hr' => (CS.out a2 c2 x w' hr').mono fun e w2 hp => by
            unfold SearchPost at hp; rw [hv] at hp; exact hp
          have C2 : ∀ w', Rd w' a2 n (ints t) → Calls Try.prog 32 #[.slice a2 n c2, .int .i64 x] w' fun e w2 => e = .returned (.int .i64 (-1)) ∧ w' = w2 := fun w' hr' => by
            have := Index_any a2 n c2 t x w' hr'; rw [hi] at this; exact this
          replace C1 := Lib.hid C1
          replace C2 := Lib.hid C2
          clear hv hi
          go_wp2_with fail
          refine (C1.out _ (R2.fr0 hnx)).mono ?_; rintro e w5 ⟨rfl, F5⟩
          replace hnx := hnx.trans0 F5
          go_wp2_with fail
          refine (C2.out _ (R2.fr0 hnx)).mono ?_; rintro e w5 ⟨rfl, rfl⟩
          go_wp2_with fail
          go_roundw
          case rel => exact ⟨k + 1, by omega, by go_num, hnx⟩
          case measure => simp [intOf]; omega
      · obtain rfl : k = n + 1 := by omega
        go_wp2_with fail
        go_ret
        exact ⟨rfl, F.trans0 hnx⟩

theorem LFound_any (kind : Int) (a : Option Addr) (n c : Nat) (keys : List Int) (other size : Int) (w : World) (hk : ArgInts w a n keys) :
    Calls Try.prog 8 #[.int .i64 kind, .slice a n c, .int .i64 other, .int .i64 size] w (RetF w) := by
  by_cases h : 127 < n
  · exact LFound_long kind other size a n c keys w hk.rd h
  · by_cases hkd : 1 ≤ kind ∧ kind ≤ 4
    · have hkl : keys.length = n := by simpa using hk.rd.len
      rcases heightS_spec n with h0 | ⟨h1, h2, h3⟩
      · exact LFound_bad kind other size a n c keys 3 w hk.rd (by omega) hkd.1 hkd.2 (by unfold buildV; rw [hkl, if_pos h0]) (.inr rfl)
      · by_cases ha : ascB keys = false
        · exact LFound_bad kind other size a n c keys 1 w hk.rd (by omega) hkd.1 hkd.2 (by unfold buildV; rw [hkl, if_neg (by omega), if_pos ha]) (.inl rfl)
        · have h7 : heightS n ≤ 7 := by
            by_cases e : heightS n ≤ 7
            · exact e
            · exfalso
              have := Nat.pow_le_pow_right (n := 2) (by omega) (show 8 ≤ heightS n by omega)
              have e2 : (2 : Nat) ^ 8 = 256 := rfl
              unfold cnt at h3
              omega
          exact LFound_ok kind other size (heightS n) a n c keys w hk.rd (by omega) hkd.1 hkd.2 h1 h7 h3 (by simpa using ha)
    · exact LFound_kind kind other size a n c keys w (by omega) hkd

end Go.Proofs.Ytdllpiekkbojgaa
