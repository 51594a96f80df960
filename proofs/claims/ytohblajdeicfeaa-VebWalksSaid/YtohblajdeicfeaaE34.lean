/- VebWalks: the law. -/
import Derived.Test.YtohblajdeicfeaaE33
import Derived.Test.YtohblajdeicfeaaSlEqual
import Derived.Test.YtohblajdeicfeaaSlCloneA
import Derived.Test.YtohblajdeicfeaaSlReverse
namespace Go.Proofs.Ytohblajdeicfeaa
open Go.RowKit
attribute [local go_sem ↓] Go.wp_at_zero Go.wp_at_succ
theorem mem_take_succ {l : List Int} {i : Nat} {x : Int} (h : l[i]? = some x) (y : Int) : y ∈ l.take (i + 1) ↔ y ∈ l.take i ∨ y = x := by
  obtain ⟨h1, rfl⟩ := List.getElem?_eq_some_iff.1 h
  rw [← List.take_append_getElem h1, List.mem_append, List.mem_singleton]
set_option maxRecDepth 100000 in
set_option maxHeartbeats 4000000 in
theorem Walks_bad (k0 : Int) (a1 : Option Addr) (n1 c1 : Nat) (a2 : Option Addr) (n2 c2 : Nat) (a3 : Option Addr) (n3 c3 : Nat) (w : World) (h : k0 < 1 ∨ 20 < k0 ∨ 40 < n1 ∨ 40 < n2 ∨ 100 < n3) :
    Calls Try.prog 5 #[.int .i64 k0, .slice a1 n1 c1, .slice a2 n2 c2, .slice a3 n3 c3] w fun e w' => e = .returned (.bool true) ∧ Fr F0 w w' := by
  have HA := Lib.hid (awake_any w)
  by_cases hk : k0 < 1 ∨ 20 < k0
  · have HB := fun w => Bits_any w k0
    rw [decide_eq_false (by omega)] at HB
    have HB := Lib.hid HB
    clear h hk
    go_enter Try.func5, Try.ntmps5
    go_wp2_with fail
    refine (HA.out).mono ?_
    rintro e w1 ⟨rfl, F1⟩
    go_wp2_with (go_at_call 27; refine (HB.out _).mono ?_; rintro e w2 ⟨rfl, rfl⟩)
    go_ret
    exact ⟨rfl, F1⟩
  · have HB := fun w => Bits_any w k0
    rw [decide_eq_true (by omega)] at HB
    have HB := Lib.hid HB
    by_cases h1 : 40 < n1
    · clear h hk
      go_enter Try.func5, Try.ntmps5
      go_wp2_with fail
      refine (HA.out).mono ?_
      rintro e w1 ⟨rfl, F1⟩
      go_wp2_with (go_at_call 27; refine (HB.out _).mono ?_; rintro e w2 ⟨rfl, rfl⟩)
      go_ret
      exact ⟨rfl, F1⟩
    · by_cases h2 : 40 < n2
      · clear h hk
        go_enter Try.func5, Try.ntmps5
        go_wp2_with fail
        refine (HA.out).mono ?_
        rintro e w1 ⟨rfl, F1⟩
        go_wp2_with (go_at_call 27; refine (HB.out _).mono ?_; rintro e w2 ⟨rfl, rfl⟩)
        go_ret
        exact ⟨rfl, F1⟩
      · have h3 : 100 < n3 := by omega
        clear h hk
        go_enter Try.func5, Try.ntmps5
        go_wp2_with fail
        refine (HA.out).mono ?_
        rintro e w1 ⟨rfl, F1⟩
        go_wp2_with (go_at_call 27; refine (HB.out _).mono ?_; rintro e w2 ⟨rfl, rfl⟩)
        go_ret
        exact ⟨rfl, F1⟩
theorem Min_e {w : World} {s k rb : Nat} {st : Int} {ys : List Int} {N : Nat → Prop} (R : SR w s k rb st ys N) : Calls Try.prog 23 #[.pointer (some ⟨s, 0, none⟩)] w fun e w' => ∃ v er : Int, e = .returned (.tuple #[.int .i64 v, .int .i64 er]) ∧ ((0 < ys.length → er = 0 ∧ ys[0]? = some v) ∧ (0 = ys.length → er = 12 ∨ er = 14)) ∧ w = w' := by
  cases ys with
  | nil => exact (Min_none R).mono fun e w' h => ⟨0, 14, h.1, ⟨fun h => absurd h (by simp), fun _ => .inr rfl⟩, h.2⟩
  | cons a l => exact (Min_any R (m := a) rfl).mono fun e w' h => ⟨a, 0, h.1, ⟨fun _ => ⟨rfl, rfl⟩, fun h => by simp at h⟩, h.2⟩
theorem Max_e {w : World} {s k rb : Nat} {st : Int} {ys : List Int} {N : Nat → Prop} (R : SR w s k rb st ys N) : Calls Try.prog 24 #[.pointer (some ⟨s, 0, none⟩)] w fun e w' => ∃ v er : Int, e = .returned (.tuple #[.int .i64 v, .int .i64 er]) ∧ ((0 < ys.reverse.length → er = 0 ∧ ys.reverse[0]? = some v) ∧ (0 = ys.reverse.length → er = 12 ∨ er = 14)) ∧ w = w' := by
  by_cases h0 : ys = []
  · subst h0
    exact (Max_none R).mono fun e w' h => ⟨0, 14, h.1, ⟨fun h => absurd h (by simp), fun _ => .inr rfl⟩, h.2⟩
  · have hp : 0 < ys.length := List.length_pos_iff.2 h0
    have hv : ys[ys.length - 1]? = some ys[ys.length - 1] := List.getElem?_eq_getElem (by omega)
    exact (Max_any R hv).mono fun e w' h => ⟨_, 0, h.1, ⟨fun _ => ⟨rfl, by rw [List.getElem?_reverse (by omega), ← hv]; simp⟩, fun h => by simp at h; omega⟩, h.2⟩
theorem nx_step {ys : List Int} (so : ys.Pairwise (· < ·)) {i : Nat} {v : Int} (h : ys[i]? = some v) : (i + 1 < ys.length → eO (nextI ys v) = 0 ∧ ys[i + 1]? = some (vO (nextI ys v))) ∧ (i + 1 = ys.length → eO (nextI ys v) = 12 ∨ eO (nextI ys v) = 14) := by
  rw [nextI_at so h]
  refine ⟨fun h => ?_, fun h => ?_⟩
  · rw [List.getElem?_eq_getElem h]
    exact ⟨rfl, rfl⟩
  · rw [List.getElem?_eq_none (by omega)]
    exact .inl rfl
theorem pv_step {ys : List Int} (so : ys.Pairwise (· < ·)) {i : Nat} {v : Int} (h : ys.reverse[i]? = some v) : (i + 1 < ys.reverse.length → eO (prevI ys v) = 0 ∧ ys.reverse[i + 1]? = some (vO (prevI ys v))) ∧ (i + 1 = ys.reverse.length → eO (prevI ys v) = 12 ∨ eO (prevI ys v) = 14) := by
  rw [prevI_at so h]
  refine ⟨fun h => ?_, fun h => ?_⟩
  · rw [List.getElem?_eq_getElem h]
    exact ⟨rfl, rfl⟩
  · rw [List.getElem?_eq_none (by omega)]
    exact .inl rfl
theorem ints_step {ys : List Int} {i : Nat} {v : Int} (h : ys[i]? = some v) : ints (ys.take (i + 1)) = ints (ys.take i) ++ [.int .i64 v] := by
  obtain ⟨h1, rfl⟩ := List.getElem?_eq_some_iff.1 h
  exact ints_take h1
theorem rem_nat (i n : Nat) : Int.tmod (i : Int) (n : Int) = ((i % n : Nat) : Int) := by
  rw [Int.tmod_eq_emod_of_nonneg (by omega)]
  simp
set_option maxRecDepth 100000 in
set_option maxHeartbeats 40000000 in
theorem Walks_in (k : Nat) (a1 : Option Addr) (n1 c1 : Nat) (xs : List Int) (a2 : Option Addr) (n2 c2 : Nat) (gone : List Int) (a3 : Option Addr) (n3 c3 : Nat) (us : List Int) (w : World) (A1 : Rd w a1 n1 (ints xs)) (A2 : Rd w a2 n2 (ints gone)) (A3 : ArgU8 w a3 n3 c3 us) (h1 : n1 ≤ 40) (h2 : n2 ≤ 40) (h3 : n3 ≤ 100) (hk1 : 1 ≤ k) (hk2 : k ≤ 20) :
    Calls Try.prog 5 #[.int .i64 k, .slice a1 n1 c1, .slice a2 n2 c2, .slice a3 n3 c3] w fun e w' => e = .returned (.bool true) ∧ Fr F0 w w' := by
  have HA := Lib.hid (awake_any w)
  have HM := Lib.hid (fun w => made_ok w hk1 hk2)
  have H1 := Lib.hid A1
  have H2 := Lib.hid A2
  have H3 := Lib.hid A3
  have hxl := Lib.hid (show xs.length = n1 by simpa using A1.len)
  have hgl := Lib.hid (show gone.length = n2 by simpa using A2.len)
  have HB := fun w => Bits_any w k
  rw [decide_eq_true (by omega)] at HB
  have HB := Lib.hid HB
  have g1 : ¬ 40 < n1 := by omega
  have g2 : ¬ 40 < n2 := by omega
  have g3 : ¬ 100 < n3 := by omega
  clear A1 A2 A3
  go_enter Try.func5, Try.ntmps5
  go_wp2_with fail
  refine (HA.out).mono ?_
  rintro e w1 ⟨rfl, F1⟩
  have HF1 := Lib.hid F1
  clear F1
  go_wp2_with (go_at_call 27; refine (HB.out _).mono ?_; rintro e w2 ⟨rfl, rfl⟩)
  refine (HM.out w1).mono ?_
  rintro e w2 ⟨s, rs, N, rfl, R2, F2, q1, q2⟩
  have HR2 := Lib.hid R2
  have HF2 := Lib.hid (HF1.out.trans F2 (fun _ _ h => h))
  have hsz1 := HF1.out.size
  have HN2 := Lib.hid (show ∀ q, Sb s N q → w.heap.size ≤ q from fun q hq => hq.elim (fun e => by have := q2 q e; omega) (fun e => by omega))
  clear R2 F2 q1 q2 HF1 hsz1
  go_wp2_with fail
  refine (HM.out w2).mono ?_
  rintro e w3 ⟨t, rt, M, rfl, R3, F3, q1, q2⟩
  have hsz2 := HF2.out.size
  have hslt := HR2.out.lt
  have HW : Hid (Wk w w3 k s rs t rt [] [] [] none 0 0) := Lib.hid ⟨HF2.out.trans F3 (fun _ _ h => h), ⟨N, M, ⟨⟨_, HR2.out.fr F3 (fun _ _ => id) id⟩, HN2.out⟩, ⟨⟨_, R3⟩, fun q hq => hq.elim (fun e => by have := q2 q e; omega) (fun e => by omega)⟩, fun q hq e => by have := hslt q hq; exact e.elim (fun e => by have := q2 q e; omega) (fun e => by omega), fun q hq => absurd hq (onBlk_none _)⟩, Own.nil _ _ _⟩
  clear R3 F3 q1 q2 hsz2 hslt HR2 HF2 HN2
  go_wp2_with fail
  go_loopw [77] (fun s77 wr => ∃ (i : Nat) (zs : List Int), i ≤ n1 ∧ s77 = .int .i64 i ∧ Hid (Wk w wr k s rs t rt zs [] [] none 0 0) ∧ Hid (zs.length ≤ i ∧ ∀ y, y ∈ zs ↔ InR k y ∧ y ∈ xs.take i)) (fun s77 _ => n1 - (intOf s77).toNat)
  case atStart => exact ⟨0, [], by omega, rfl, HW, Lib.hid ⟨by simp, by simp⟩⟩
  case round =>
    obtain ⟨i, zs, hi, rfl, HWk, HZ⟩ := hrel
    clear HW
    by_cases hlt : i < n1
    · obtain ⟨b1, o1, x, ea1, hu, hc1⟩ := (H1.out.fr0 HWk.out.F).ix hlt
      subst ea1
      have Hx := Lib.hid hu
      clear hu
      go_wp2_with fail
      refine (HWk.out.insS x (by have := HZ.out.1; omega)).mono ?_
      rintro e w4 ⟨v, err, zs', rfl, W4, l4, m4⟩
      have HW4 := Lib.hid W4
      have HZ4 : Hid (zs'.length ≤ i + 1 ∧ ∀ y, y ∈ zs' ↔ InR k y ∧ y ∈ xs.take (i + 1)) := Lib.hid ⟨by have := HZ.out.1; omega, fun y => by
        rw [m4 y, HZ.out.2 y, mem_take_succ Hx.out]
        constructor
        · rintro (⟨h1, h2⟩ | ⟨rfl, h2⟩)
          · exact ⟨h1, .inl h2⟩
          · exact ⟨h2, .inr rfl⟩
        · rintro ⟨h1, h2 | rfl⟩
          · exact .inl ⟨h1, h2⟩
          · exact .inr ⟨rfl, h1⟩⟩
      clear W4 l4 m4 HZ HWk
      go_wp2_with fail
      go_roundw
      case rel => exact ⟨i + 1, zs', by omega, by go_num, HW4, HZ4⟩
      case measure => simp [intOf]; omega
    · obtain rfl : n1 = i := by omega
      have HS : Hid (zs.length ≤ n1 ∧ ∀ y, y ∈ zs ↔ InR k y ∧ y ∈ xs) := Lib.hid ⟨HZ.out.1, by have := HZ.out.2; rwa [← hxl.out, List.take_length] at this⟩
      clear hi hlt HZ
      go_wp2_with fail
      refine (Clone_all (H1.out.fr0 HWk.out.F) (by omega)).mono ?_
      rintro e w5 ⟨a5, c5, rfl, O5, F5⟩
      have HW := Lib.hid (HWk.out.clone O5 F5)
      clear O5 F5 HWk
      go_wp2_with fail
      go_loopw [89] (fun s89 wr => ∃ (i : Nat) (os : List Int), i ≤ n1 ∧ s89 = .int .i64 i ∧ Hid (Wk w wr k s rs t rt zs [] os a5 n1 c5) ∧ Hid (∀ y, y ∈ os ↔ y ∈ xs)) (fun s89 _ => n1 - (intOf s89).toNat)
      case atStart => exact ⟨0, xs, by omega, rfl, HW, Lib.hid (fun _ => Iff.rfl)⟩
      case round =>
        obtain ⟨i, os, hi, rfl, HWk, HO⟩ := hrel
        clear HW
        by_cases hlt : i < n1
        · rcases Nat.eq_zero_or_pos n3 with h30 | h30
          · have hn3 : ((0 : Int) < (n3 : Int)) = False := by simp; omega
            have hn3' : ¬ 0 < n3 := by omega
            go_wp2_with fail
            go_roundw
            case rel => exact ⟨i + 1, os, by omega, by go_num, HWk, HO⟩
            case measure => simp [intOf]; omega
          · have r1 := rem_nat i n3
            have hm1 : i % n3 < n3 := Nat.mod_lt _ h30
            obtain ⟨j1, hj1⟩ : ∃ j1, j1 = i % n3 := ⟨_, rfl⟩
            rw [← hj1] at r1 hm1
            obtain ⟨b3, o3, u, ea3, hu, hc3⟩ := (H3.out.rd.fr0 HWk.out.F).ixu hm1
            have hub := H3.out.wf u (List.mem_of_getElem? hu)
            obtain ⟨u, rfl⟩ : ∃ n : Nat, u = n := ⟨u.toNat, by omega⟩
            have hcv := Lib.hid hub.2
            have r2 := rem_nat u n1
            have hm2 : u % n1 < n1 := Nat.mod_lt _ (by omega)
            obtain ⟨j2, hj2⟩ : ∃ j2, j2 = u % n1 := ⟨_, rfl⟩
            rw [← hj2] at r2 hm2
            obtain ⟨g, hg, hB, hgs, hc, hf⟩ := HWk.out.own.at (by omega)
            have hol := HWk.out.own.lens
            obtain ⟨x, hx⟩ : ∃ x, os[i]? = some x := ⟨_, List.getElem?_eq_getElem (by omega)⟩
            obtain ⟨y, hy⟩ : ∃ y, os[j2]? = some y := ⟨_, List.getElem?_eq_getElem (by omega)⟩
            have d1 := hc i (.int .i64 x) (by simp [hx])
            have d2 := hc j2 (.int .i64 y) (by simp [hy])
            have f1 := hf i
            have f2 := hf j2
            have hz3 : ((n3 : Int) == 0) = false := by simp; omega
            have hz1 : ((n1 : Int) == 0) = false := by simp; omega
            have hwu : IntKind.i64.wrap (u : Int) = (u : Int) := IntWalk.i64_in _ (by omega)
            have HXY := Lib.hid (And.intro hx hy)
            subst ea3
            subst hg
            clear hu hub hc hf hj1 hj2 hx hy hol
            by_cases e : i = j2
            · subst e
              obtain rfl : x = y := by have := HXY.out.1; rw [HXY.out.2] at this; injection this with this; exact this.symm
              clear d2 f2
              go_wp2_with fail
              go_region
              all_goals
                go_wp2_with fail
                go_roundw
                case rel =>
                  refine ⟨i + 1, (os.set i x).set i x, by omega, by go_num, Lib.hid (HWk.out.write ?_ ((((Fr.refl _ wr).setOn (s := none) (o := 0) i _).setOn i _).drew)), Lib.hid (fun z => (mem_swap HXY.out.1 HXY.out.2 z).trans (HO.out z))⟩
                  have h := ((HWk.out.own.set (i := i) (.int .i64 x)).set (i := i) (.int .i64 x)).drew
                  simpa only [ints, List.map_set] using h
                case measure => simp [intOf]; omega
            · have e' : ¬ j2 = i := fun g => e g.symm
              go_wp2_with fail
              go_region
              all_goals
                go_wp2_with fail
                go_roundw
                case rel =>
                  refine ⟨i + 1, (os.set i y).set j2 x, by omega, by go_num, Lib.hid (HWk.out.write ?_ ((((Fr.refl _ wr).setOn (s := none) (o := 0) i _).setOn j2 _).drew)), Lib.hid (fun z => (mem_swap HXY.out.1 HXY.out.2 z).trans (HO.out z))⟩
                  have h := ((HWk.out.own.set (i := i) (.int .i64 y)).set (i := j2) (.int .i64 x)).drew
                  simpa only [ints, List.map_set] using h
                case measure => simp [intOf]; omega
        · obtain rfl : n1 = i := by omega
          clear hi hlt
          go_wp2_with fail
          go_loopw [123] (fun s123 wr => ∃ (i : Nat) (ys : List Int), i ≤ n2 ∧ s123 = .int .i64 i ∧ Hid (Wk w wr k s rs t rt zs ys os a5 n1 c5) ∧ Hid (ys.length ≤ i ∧ ∀ y, y ∈ ys ↔ InR k y ∧ y ∈ gone.take i)) (fun s123 _ => n2 - (intOf s123).toNat)
          case atStart => exact ⟨0, [], by omega, rfl, HWk, Lib.hid ⟨by simp, by simp⟩⟩
          case round =>
            obtain ⟨i, ys, hi, rfl, HWr, HZ⟩ := hrel
            clear HWk
            by_cases hlt : i < n2
            · obtain ⟨b1, o1, x, ea1, hu, hc1⟩ := (H2.out.fr0 HWr.out.F).ix hlt
              subst ea1
              have Hx := Lib.hid hu
              clear hu
              go_wp2_with fail
              refine (HWr.out.insT x (by have := HZ.out.1; omega)).mono ?_
              rintro e w4 ⟨v, err, ys', rfl, W4, l4, m4⟩
              have HW4 := Lib.hid W4
              have HZ4 : Hid (ys'.length ≤ i + 1 ∧ ∀ y, y ∈ ys' ↔ InR k y ∧ y ∈ gone.take (i + 1)) := Lib.hid ⟨by have := HZ.out.1; omega, fun y => by
                rw [m4 y, HZ.out.2 y, mem_take_succ Hx.out]
                constructor
                · rintro (⟨h1, h2⟩ | ⟨rfl, h2⟩)
                  · exact ⟨h1, .inl h2⟩
                  · exact ⟨h2, .inr rfl⟩
                · rintro ⟨h1, h2 | rfl⟩
                  · exact .inl ⟨h1, h2⟩
                  · exact .inr ⟨rfl, h1⟩⟩
              clear W4 l4 m4 HZ HWr
              go_wp2_with fail
              go_roundw
              case rel => exact ⟨i + 1, ys', by omega, by go_num, HW4, HZ4⟩
              case measure => simp [intOf]; omega
            · obtain rfl : n2 = i := by omega
              have HY : Hid (ys.length ≤ n2 ∧ ∀ y, y ∈ ys ↔ InR k y ∧ (y ∈ gone ∨ y ∈ os.take 0)) := Lib.hid ⟨HZ.out.1, fun y => by rw [HZ.out.2 y, ← hgl.out, List.take_length]; simp⟩
              clear hi hlt HZ
              go_wp2_with fail
              go_loopw [133] (fun s133 wr => ∃ (i : Nat) (ys : List Int), i ≤ n1 ∧ s133 = .int .i64 i ∧ Hid (Wk w wr k s rs t rt zs ys os a5 n1 c5) ∧ Hid (ys.length ≤ n2 + i ∧ ∀ y, y ∈ ys ↔ InR k y ∧ (y ∈ gone ∨ y ∈ os.take i))) (fun s133 _ => n1 - (intOf s133).toNat)
              case atStart => exact ⟨0, ys, by omega, rfl, HWr, HY⟩
              case round =>
                obtain ⟨i, ys, hi, rfl, HWk, HZ⟩ := hrel
                clear HWr HY
                by_cases hlt : i < n1
                · obtain ⟨b1, o1, x, ea1, hu, hc1⟩ := HWk.out.own.rd.ix hlt
                  subst ea1
                  have Hx := Lib.hid hu
                  clear hu
                  go_wp2_with fail
                  refine (HWk.out.insT x (by have := HZ.out.1; omega)).mono ?_
                  rintro e w4 ⟨v, err, ys', rfl, W4, l4, m4⟩
                  have HW4 := Lib.hid W4
                  have HZ4 : Hid (ys'.length ≤ n2 + (i + 1) ∧ ∀ y, y ∈ ys' ↔ InR k y ∧ (y ∈ gone ∨ y ∈ os.take (i + 1))) := Lib.hid ⟨by have := HZ.out.1; omega, fun y => by
                    rw [m4 y, HZ.out.2 y, mem_take_succ Hx.out]
                    constructor
                    · rintro (⟨h1, h2 | h2⟩ | ⟨rfl, h2⟩)
                      · exact ⟨h1, .inl h2⟩
                      · exact ⟨h1, .inr (.inl h2)⟩
                      · exact ⟨h2, .inr (.inr rfl)⟩
                    · rintro ⟨h1, h2 | h2 | rfl⟩
                      · exact .inl ⟨h1, .inl h2⟩
                      · exact .inl ⟨h1, .inr h2⟩
                      · exact .inr ⟨rfl, h1⟩⟩
                  clear W4 l4 m4 HZ HWk
                  go_wp2_with fail
                  go_roundw
                  case rel => exact ⟨i + 1, ys', by omega, by go_num, HW4, HZ4⟩
                  case measure => simp [intOf]; omega
                · obtain rfl : n1 = i := by omega
                  have HY : Hid (ys.length ≤ n2 + n1 ∧ ∀ y, y ∈ ys ↔ InR k y ∧ ((y ∈ gone ∨ y ∈ xs) ∧ ¬ (y ∈ gone.take 0 ∧ y ∉ xs))) := Lib.hid ⟨HZ.out.1, fun y => by
                    have e : y ∈ os.take n1 ↔ y ∈ xs := by rw [← HWk.out.own.lens, List.take_length]; exact HO.out y
                    rw [HZ.out.2 y, e]
                    simp⟩
                  clear hi hlt HZ
                  go_wp2_with fail
                  go_loopw [143] (fun s143 wr => ∃ (i : Nat) (ys : List Int), i ≤ n2 ∧ s143 = .int .i64 i ∧ Hid (Wk w wr k s rs t rt zs ys os a5 n1 c5) ∧ Hid (ys.length ≤ n2 + n1 ∧ ∀ y, y ∈ ys ↔ InR k y ∧ ((y ∈ gone ∨ y ∈ xs) ∧ ¬ (y ∈ gone.take i ∧ y ∉ xs)))) (fun s143 _ => n2 - (intOf s143).toNat)
                  case atStart => exact ⟨0, ys, by omega, rfl, HWk, HY⟩
                  case round =>
                    obtain ⟨i, ys, hi, rfl, HWr, HZ⟩ := hrel
                    clear HWk HY
                    by_cases hlt : i < n2
                    · obtain ⟨b1, o1, x, ea1, hu, hc1⟩ := (H2.out.fr0 HWr.out.F).ix hlt
                      subst ea1
                      have Hx := Lib.hid hu
                      clear hu
                      have HC := ContainsI_any a1 n1 c1 xs x wr (H1.out.fr0 HWr.out.F)
                      by_cases hin : x ∈ xs
                      · rw [decide_eq_true hin] at HC
                        have HC := Lib.hid HC
                        have HZ4 : Hid (ys.length ≤ n2 + n1 ∧ ∀ y, y ∈ ys ↔ InR k y ∧ ((y ∈ gone ∨ y ∈ xs) ∧ ¬ (y ∈ gone.take (i + 1) ∧ y ∉ xs))) := Lib.hid ⟨HZ.out.1, fun y => by
                          rw [HZ.out.2 y, mem_take_succ Hx.out]
                          constructor
                          · rintro ⟨q1, q2, q3⟩
                            refine ⟨q1, q2, ?_⟩
                            rintro ⟨e | rfl, e2⟩
                            · exact q3 ⟨e, e2⟩
                            · exact e2 hin
                          · rintro ⟨q1, q2, q3⟩
                            exact ⟨q1, q2, fun e => q3 ⟨.inl e.1, e.2⟩⟩⟩
                        clear hin HZ
                        go_wp2_with (go_at_call 29; refine (HC.out).mono ?_; rintro e w4 ⟨rfl, rfl⟩)
                        go_roundw
                        case rel => exact ⟨i + 1, ys, by omega, by go_num, HWr, HZ4⟩
                        case measure => simp [intOf]; omega
                      · rw [decide_eq_false hin] at HC
                        have HC := Lib.hid HC
                        have Hin := Lib.hid hin
                        clear hin
                        go_wp2_with (go_at_call 29; refine (HC.out).mono ?_; rintro e w4 ⟨rfl, rfl⟩)
                        refine (HWr.out.delT x (by have := HZ.out.1; omega)).mono ?_
                        rintro e w4 ⟨v, err, ys', rfl, W4, l4, m4⟩
                        have HW4 := Lib.hid W4
                        have HZ4 : Hid (ys'.length ≤ n2 + n1 ∧ ∀ y, y ∈ ys' ↔ InR k y ∧ ((y ∈ gone ∨ y ∈ xs) ∧ ¬ (y ∈ gone.take (i + 1) ∧ y ∉ xs))) := Lib.hid ⟨by have := HZ.out.1; omega, fun y => by
                          rw [m4 y, HZ.out.2 y, mem_take_succ Hx.out]
                          constructor
                          · rintro ⟨⟨q1, q2, q3⟩, q4⟩
                            refine ⟨q1, q2, ?_⟩
                            rintro ⟨e | e, e2⟩
                            · exact q3 ⟨e, e2⟩
                            · exact q4 e
                          · rintro ⟨q1, q2, q3⟩
                            refine ⟨⟨q1, q2, fun e => q3 ⟨.inl e.1, e.2⟩⟩, ?_⟩
                            rintro rfl
                            exact q3 ⟨.inr rfl, Hin.out⟩⟩
                        clear W4 l4 m4 HZ HWr
                        go_wp2_with fail
                        go_roundw
                        case rel => exact ⟨i + 1, ys', by omega, by go_num, HW4, HZ4⟩
                        case measure => simp [intOf]; omega
                    · obtain rfl : n2 = i := by omega
                      obtain ⟨N, M, hA, hT, hsep, hoa⟩ := HWr.out.ex
                      have hys : ys = zs := sorted_ext hT.so hA.so (fun y => by
                        rw [HZ.out.2 y, HS.out.2 y, ← hgl.out, List.take_length]
                        constructor
                        · rintro ⟨q1, q2 | q2, q3⟩
                          · exact ⟨q1, Decidable.byContradiction fun e => q3 ⟨q2, e⟩⟩
                          · exact ⟨q1, q2⟩
                        · rintro ⟨q1, q2⟩
                          exact ⟨q1, .inr q2, fun e => e.2 q2⟩)
                      subst hys
                      have hlen : ys.length ≤ 40 := by have := HS.out.1; omega
                      obtain ⟨st, R⟩ := hA.R
                      obtain ⟨st', R'⟩ := hT.R
                      have HR := Lib.hid R
                      have HR' := Lib.hid R'
                      have HA1 := Lib.hid (And.intro hA (And.intro hT hsep))
                      have HF := Lib.hid HWr.out.F
                      have hsz := HWr.out.F.size
                      clear R R' hA hT hsep hoa hi hlt HZ
                      go_wp2_with fail
                      refine (List_any HR.out (by omega)).mono ?_
                      rintro e w6 ⟨a6, c6, rfl, O6, R6, F6⟩
                      have HO6 := Lib.hid O6
                      have hlt6 := R6.lt s (.inr rfl)
                      have HLN6 := Len_any R6
                      have HR6 := Lib.hid R6
                      have hst : s ≠ t := fun e => HA1.out.2.2 s (.inr rfl) (.inr e)
                      have HA6 := Lib.hid (And.intro (show Ns w w6 s k rs ys N from ⟨⟨st, R6⟩, HA1.out.1.nw⟩) (HA1.out.2.1.fr F6 (fun q hq (e : q = s) => HA1.out.2.2 q (.inr e) hq)))
                      have HT6 := Lib.hid (HR'.out.fr F6 (fun q hq (e : q = s) => HA1.out.2.2 q (.inr e) (.inl hq)) (fun (e : t = s) => hst e.symm))
                      have HF6 := Lib.hid (HF.out.trans F6 (fun q hq (e : q = s) => by have := HA1.out.1.nw q (.inr e); omega))
                      have hsz6 := F6.size
                      clear O6 R6 F6 HR HR' HF HLN6
                      go_wp2_with fail
                      refine (List_any HT6.out (by omega)).mono ?_
                      rintro e w7 ⟨a7, c7, rfl, O7, R7, F7⟩
                      have hb6 := HO6.out.blk
                      have hsA := HA6.out.1.lt
                      have hsT := HA6.out.2.lt
                      have HO67 := Lib.hid (HO6.out.fr F7 (fun q hq (e : q = t) => by have := (hb6 q hq).1; have := HA1.out.2.1.lt t (.inr rfl); omega))
                      have HA7 := Lib.hid (And.intro (HA6.out.1.fr F7 (fun q hq (e : q = t) => HA1.out.2.2 q hq (.inr e))) (show Ns w w7 t k rt ys M from ⟨⟨_, R7⟩, HA1.out.2.1.nw⟩))
                      have HF7 := Lib.hid (HF6.out.trans F7 (fun q hq (e : q = t) => by have := HA1.out.2.1.nw q (.inr e); omega))
                      have hsz7 := F7.size
                      have HEq := Equal_any a6 a7 ys.length ys.length c6 c7 ys ys w7 HO67.out.rd O7.rd
                      rw [decide_eq_true rfl] at HEq
                      have HEq := Lib.hid HEq
                      have hP : P2 w w7 k s rs t rt w7.heap.size ys a6 ys.length c6 := ⟨HF7.out, ⟨N, M, HA7.out.1, HA7.out.2, HA1.out.2.2, fun q hq => hq.elim (HA7.out.1.lt q) (HA7.out.2.lt q)⟩, HO67.out.mono hsz, fun q hq => ⟨by have := (hb6 q hq).2; omega, fun e => by have := (hb6 q hq).1; have := HA1.out.1.lt s (.inr rfl); omega, fun e => by have := (hb6 q hq).1; have := HA1.out.2.1.lt t (.inr rfl); omega⟩, by omega, Nat.le_refl _⟩
                      have HP7 := Lib.hid hP
                      clear O7 R7 F7 hb6 hsA hsT HO6 HA6 HT6 HF6 hP HO67
                      go_wp2_with fail
                      refine (HEq.out).mono ?_
                      rintro e w8 ⟨rfl, q8, rfl⟩
                      have HP8 : Hid (P2 w (w7.drewN q8) k s rs t rt w7.heap.size ys a6 ys.length c6) := Lib.hid (HP7.out.fr ((Fr.refl F0 w7).drewN q8) (fun _ h => h.elim))
                      have hB8 : w7.heap.size = (w7.drewN q8).heap.size := rfl
                      obtain ⟨B, hB⟩ : ∃ B, B = w7.heap.size := ⟨_, rfl⟩
                      rw [← hB] at HP8 hB8
                      clear HEq HP7 HA7 HF7 HA1 hsz7 hsz6 hsz hlt6 hB HS HWr HO
                      generalize w7.drewN q8 = w8 at *
                      have hg40 : ¬ 40 < ys.length := by omega
                      obtain ⟨N8, M8, hA8, hT8, _, _⟩ := HP8.out.ex
                      obtain ⟨st8, R8⟩ := hA8.R
                      obtain ⟨st8', R8'⟩ := hT8.R
                      have HLs := Lib.hid (Len_any R8)
                      have HLt := Lib.hid (Len_any R8')
                      have HR8 := Lib.hid R8
                      have HR8' := Lib.hid R8'
                      have HSo := Lib.hid R8.so
                      have HMin := Lib.hid (Min_e R8)
                      have hyl : B ≤ w8.heap.size := by omega
                      clear hA8 hT8 R8 R8'
                      go_wp2_with (first
                        | (go_at_call 22; first | (with_reducible refine (HLs.out).mono ?_; rintro e w9 ⟨rfl, rfl⟩) | (with_reducible refine (HLt.out).mono ?_; rintro e w9 ⟨rfl, rfl⟩))
                        | (go_at_call 23; refine (HMin.out).mono ?_; rintro e w9 ⟨v0, er0, rfl, hv0, rfl⟩))
                      have HV0 := Lib.hid hv0
                      clear hv0 HLs HLt HR8 HR8' HMin
                      go_loopw [25, 27, 28] (fun s25 s27 s28 wr => ∃ (i : Nat) (v er : Int) (a : Option Addr) (c : Nat), i ≤ ys.length ∧ s25 = .slice a i c ∧ s27 = .int .i64 v ∧ s28 = .int .i64 er ∧ Hid (P2 w wr k s rs t rt B ys a6 ys.length c6) ∧ Hid (Own wr B 3 a i c (ints (ys.take i))) ∧ Hid ((i < ys.length → er = 0 ∧ ys[i]? = some v) ∧ (i = ys.length → er = 12 ∨ er = 14))) (fun s25 _ _ _ => ys.length - slLen s25)
                      case atStart => exact ⟨0, v0, er0, none, 0, by omega, rfl, rfl, rfl, HP8, Lib.hid (Own.nil _ _ _), HV0⟩
                      case round =>
                        obtain ⟨i, v, er, a, c, hi, rfl, rfl, rfl, HP, HO, HV⟩ := hrel
                        clear HP8 HV0
                        have hBw := HP.out.hB.2
                        by_cases hlt : i < ys.length
                        · obtain ⟨rfl, hv⟩ := HV.out.1 hlt
                          have Hv := Lib.hid hv
                          clear hv HV
                          go_wp2_with (at_builtin; refine wpAppAt E3 HO.out (by omega) (by omega) hBw rfl rfl rfl ?_; intro a9 c9 w9 own9 fr9 at9; have HP9 := Lib.hid (HP.out.fr fr9 (fun q e => (HO.out.blk q e).1)))
                          have HO9 := Lib.hid own9
                          clear own9 fr9
                          refine (HP9.out.next v).mono ?_
                          rintro e w10 ⟨rfl, P10, F10⟩
                          have HP10 := Lib.hid P10
                          have HO10 : Hid (Own w10 B 3 a9 (i + 1) c9 (ints (ys.take (i + 1)))) := Lib.hid (by rw [ints_step Hv.out]; exact HO9.out.fr F10 (fun q hq (e : q = s) => by have := (HO9.out.blk q hq).1; have := HP9.out.st; omega))
                          have HV10 := Lib.hid (nx_step HSo.out Hv.out)
                          generalize vO (nextI ys v) = v10 at *
                          generalize eO (nextI ys v) = e10 at *
                          clear P10 F10 HO9 HP9 HO HP
                          go_wp2_with fail
                          go_roundw
                          case rel => exact ⟨i + 1, v10, e10, a9, c9, by omega, rfl, rfl, rfl, HP10, HO10, HV10⟩
                          case measure => simp [slLen]; omega
                        · have hi' : i = ys.length := by omega
                          have her : ((er : Int) == 0) = false := by
                            rcases HV.out.2 hi' with rfl | rfl <;> rfl
                          have HUp : Hid (Own wr B 3 a ys.length c (ints ys)) := Lib.hid (by have h := HO.out; rw [hi', List.take_length] at h; exact h)
                          obtain ⟨Nq, Mq, _, hTq, _, _⟩ := HP.out.ex
                          obtain ⟨stq, Rq⟩ := hTq.R
                          have HMax := Lib.hid (Max_e Rq)
                          clear Rq hTq HV HO
                          subst hi'
                          go_wp2_with (go_at_call 24; refine (HMax.out).mono ?_; rintro e w9 ⟨v1, er1, rfl, hv1, rfl⟩)
                          have HV1 := Lib.hid hv1
                          clear hv1 HMax her hlt
                          have hrl := Lib.hid (show ys.reverse.length = ys.length from List.length_reverse)
                          generalize hB2 : wr.heap.size = B2 at *
                          have hub := Lib.hid HUp.out.blk
                          go_loopw [26, 29, 30] (fun s26 s29 s30 wq => ∃ (i : Nat) (v er : Int) (a0 : Option Addr) (c0 : Nat), i ≤ ys.length ∧ s26 = .slice a0 i c0 ∧ s29 = .int .i64 v ∧ s30 = .int .i64 er ∧ Hid (P2 w wq k s rs t rt B ys a6 ys.length c6) ∧ Hid (Own wq B 3 a ys.length c (ints ys)) ∧ Hid (Own wq B2 3 a0 i c0 (ints (ys.reverse.take i))) ∧ Hid ((i < ys.reverse.length → er = 0 ∧ ys.reverse[i]? = some v) ∧ (i = ys.reverse.length → er = 12 ∨ er = 14)) ∧ B2 ≤ wq.heap.size) (fun s26 _ _ _ => ys.length - slLen s26)
                          case atStart => exact ⟨0, v1, er1, none, 0, by omega, rfl, rfl, rfl, HP, HUp, Lib.hid (Own.nil _ _ _), HV1, by omega⟩
                          case round =>
                            obtain ⟨i, v, er, a0, c0, hi, rfl, rfl, rfl, HPq, HUq, HO, HV, hBq⟩ := hrel
                            clear HUp HP HV1
                            by_cases hlt : i < ys.length
                            · obtain ⟨rfl, hv⟩ := HV.out.1 (by rw [hrl.out]; exact hlt)
                              have Hv := Lib.hid hv
                              clear hv HV
                              go_wp2_with (at_builtin; refine wpAppAt E3 HO.out (by omega) (by omega) hBq rfl rfl rfl ?_; intro a9 c9 w9 own9 fr9 at9; have HP9 := Lib.hid (HPq.out.fr fr9 (fun q e => (by have := (HO.out.blk q e).1; omega))); have HU9 := Lib.hid (HUq.out.fr fr9 (fun q hq e => (by have := (HO.out.blk q e).1; have := (hub.out q hq).2; omega))))
                              have HO9 := Lib.hid own9
                              have hs9 := fr9.size
                              clear own9 fr9
                              refine (HP9.out.prev v).mono ?_
                              rintro e w10 ⟨rfl, P10, F10⟩
                              have HP10 := Lib.hid P10
                              have hs10 := F10.size
                              have HO10 : Hid (Own w10 B2 3 a9 (i + 1) c9 (ints (ys.reverse.take (i + 1)))) := Lib.hid (by rw [ints_step Hv.out]; exact HO9.out.fr F10 (fun q hq (e : q = t) => by have := (HO9.out.blk q hq).1; have := HP9.out.st; omega))
                              have HU10 := Lib.hid (HU9.out.fr F10 (fun q hq (e : q = t) => by have := (HU9.out.blk q hq).1; have := HP9.out.st; omega))
                              have HV10 := Lib.hid (pv_step HSo.out Hv.out)
                              generalize vO (prevI ys v) = v10 at *
                              generalize eO (prevI ys v) = e10 at *
                              clear P10 F10 HO9 HP9 HU9 HO HPq HUq
                              go_wp2_with fail
                              go_roundw
                              case rel => exact ⟨i + 1, v10, e10, a9, c9, by omega, rfl, rfl, rfl, HP10, HU10, HO10, HV10, by omega⟩
                              case measure => simp [slLen]; omega
                            · have hi' : i = ys.length := by omega
                              have her : ((er : Int) == 0) = false := by
                                rcases HV.out.2 (by rw [hrl.out]; exact hi') with rfl | rfl <;> rfl
                              have HD : Hid (Own wr B2 3 a0 ys.length c0 (ints ys.reverse)) := Lib.hid (by have h := HO.out; rw [hi', ← hrl.out, List.take_length, hrl.out] at h; exact h)
                              clear HV HO
                              subst hi'
                              go_wp2_with fail
                              refine (Reverse_any B2 a0 ys.length c0 ys.reverse wr HD.out).mono ?_
                              rintro e w9 ⟨rfl, O9, F9⟩
                              rw [List.reverse_reverse] at O9
                              have HP9 := Lib.hid (HPq.out.fr F9 (fun q e => by have := (HD.out.blk q e).1; omega))
                              have HU9 := Lib.hid (HUq.out.fr F9 (fun q hq e => by have := (HD.out.blk q e).1; have := (hub.out q hq).2; omega))
                              have HE1 := Equal_any a a6 ys.length ys.length c c6 ys ys w9 HU9.out.rd HP9.out.own.rd
                              have HE2 := fun q => Equal_any a0 a6 ys.length ys.length c0 c6 ys ys (w9.drewN q) (O9.rd.fr0 ((Fr.refl F0 w9).drewN q)) (HP9.out.own.rd.fr0 ((Fr.refl F0 w9).drewN q))
                              rw [decide_eq_true rfl] at HE1 HE2
                              have HE1 := Lib.hid HE1
                              have HE2 := Lib.hid HE2
                              have HSs := Lib.hid (fun q => Sorted_any a6 ys.length c6 ys (w9.drewN q) (HP9.out.own.rd.fr0 ((Fr.refl F0 w9).drewN q)) HSo.out (by omega))
                              clear O9 F9 HD HPq HUq
                              go_wp2_with fail
                              refine (HE1.out).mono ?_
                              rintro e w10 ⟨rfl, q10, rfl⟩
                              go_wp2_with fail
                              refine (HE2.out q10).mono ?_
                              rintro e w11 ⟨rfl, q11, rfl⟩
                              rw [World.drewN_drewN]
                              go_wp2_with fail
                              refine (HSs.out _).mono ?_
                              rintro e w12 ⟨rfl, q12, rfl⟩
                              go_wp2_with fail
                              go_ret
                              exact ⟨rfl, HP9.out.F.drewN _⟩
theorem Walks_law (k0 : Int) (a1 : Option Addr) (n1 c1 : Nat) (xs : List Int) (a2 : Option Addr) (n2 c2 : Nat) (gone : List Int) (a3 : Option Addr) (n3 c3 : Nat) (us : List Int) (w : World) (A1 : ArgSl w a1 n1 c1 xs) (A2 : ArgSl w a2 n2 c2 gone) (A3 : ArgU8 w a3 n3 c3 us) :
    Calls Try.prog 5 #[.int .i64 k0, .slice a1 n1 c1, .slice a2 n2 c2, .slice a3 n3 c3] w fun e w' => e = .returned (.bool true) ∧ Fr F0 w w' := by
  by_cases h : k0 < 1 ∨ 20 < k0 ∨ 40 < n1 ∨ 40 < n2 ∨ 100 < n3
  · exact Walks_bad k0 a1 n1 c1 a2 n2 c2 a3 n3 c3 w h
  · obtain ⟨k, rfl⟩ : ∃ k : Nat, k0 = k := ⟨k0.toNat, by omega⟩
    exact Walks_in k a1 n1 c1 xs a2 n2 c2 gone a3 n3 c3 us w A1.rd A2.rd A3 (by omega) (by omega) (by omega) (by omega) (by omega)
end Go.Proofs.Ytohblajdeicfeaa
