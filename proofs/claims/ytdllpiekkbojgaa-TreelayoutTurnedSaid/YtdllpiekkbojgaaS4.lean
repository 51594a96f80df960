/- Search: treelayout's. -/
import Derived.Test.YtdllpiekkbojgaaS3
namespace Go.Proofs.Ytdllpiekkbojgaa
open Go.RowKit Go.Maps

/-- The way down: from the node v on, the nodes of path behind it. -/
def goS (n : Nat) (l tree : List Int) (key : Int) : Nat → Nat → List Int → Option (Int × List Int)
  | 0, _, _ => none
  | f + 1, v, path =>
    if v < n then
      (if key = getI tree (getI l v) then some (getI l v, path ++ [(v : Int)])
      else goS n l tree key f (if key < getI tree (getI l v) then 2 * v + 1 else 2 * v + 2) (path ++ [(v : Int)]))
    else none
theorem goS_out {n : Nat} {l tree : List Int} {key : Int} {f v : Nat} {path : List Int} (h : n ≤ v) : goS n l tree key f v path = none := by
  cases f with
  | zero => rfl
  | succ f => rw [goS, if_neg (by omega)]
theorem goS_in {n : Nat} {l tree : List Int} {key : Int} {f v : Nat} {path : List Int} {p t : Int} (h : v < n) (hp : getI l v = p) (ht : getI tree p = t) :
    goS n l tree key (f + 1) v path = if key = t then some (p, path ++ [(v : Int)]) else goS n l tree key f (if key < t then 2 * v + 1 else 2 * v + 2) (path ++ [(v : Int)]) := by
  rw [goS, if_pos h, hp, ht]
def searchV (kind : Int) (tree : List Int) (key size : Int) : Int × Int × Int :=
  if heightS tree.length = 0 then (0, 0, 3)
  else if ascB (buildK (layS 2 (heightS tree.length)) (layS kind (heightS tree.length)) tree tree.length) = false then (0, 0, 1)
  else match goS tree.length (layS kind (heightS tree.length)) tree key tree.length 0 [] with
    | none => (0, 0, 12)
    | some (p, path) => (p, ((blocksN size (path.map (getI (layS kind (heightS tree.length)))) : Nat) : Int), 0)
def SearchPost (kind : Int) (tree : List Int) (key size : Int) (w : World) (e : Ending) (w' : World) : Prop :=
  e = .returned (.tuple #[.int .i64 (searchV kind tree key size).1, .int .i64 (searchV kind tree key size).2.1, .int .i64 (searchV kind tree key size).2.2]) ∧ Fr F0 w w'

set_option maxHeartbeats 1000000 in
theorem Search_bad (kind key size : Int) (a : Option Addr) (n c : Nat) (w : World) (hg : givenB kind 1 size = false) :
    Calls Try.prog 28 #[.int .i64 kind, .slice a n c, .int .i64 key, .int .i64 size] w fun e w' => e = .returned (.tuple #[.int .i64 0, .int .i64 0, .int .i64 2]) ∧ w = w' := by
  go_enter Try.func28, Try.ntmps28
  go_wp2_with fail
  refine (given_any _ _ _ _).mono ?_; rintro e w' ⟨rfl, rfl⟩
  go_wp2_with fail
  go_ret3
  exact ⟨rfl, rfl⟩

set_option maxHeartbeats 4000000 in
theorem Search_any (kind key size : Int) (a : Option Addr) (n c : Nat) (tree : List Int) (w : World) (hr : Rd w a n (ints tree)) (hn : n ≤ 300) (hk1 : 1 ≤ kind) (hk2 : kind ≤ 4) (hs : 1 ≤ size) :
    Calls Try.prog 28 #[.int .i64 kind, .slice a n c, .int .i64 key, .int .i64 size] w (SearchPost kind tree key size w) := by
  have hg : givenB kind 1 size = true := by simp [givenB]; omega
  have hkl : tree.length = n := by simpa using hr.len
  rcases heightS_spec n with h0 | ⟨hh1, hh2, hh3⟩
  · have E : Hid (searchV kind tree key size = (0, 0, 3)) := Lib.hid (by unfold searchV; rw [hkl, if_pos h0])
    clear hkl
    have h0' : ((heightS n : Nat) : Int) = 0 := by omega
    go_enter Try.func28, Try.ntmps28
    go_wp2_with fail
    refine (given_any _ _ _ _).mono ?_; rintro e w' ⟨rfl, rfl⟩
    go_wp2_with fail
    refine (heightOf_any n _ _ rfl (by omega)).mono ?_; rintro e w' ⟨rfl, rfl⟩
    rw [h0']
    go_wp2_with fail
    go_ret3
    exact ⟨by rw [E.out]; rfl, Fr.refl _ _⟩
  · obtain ⟨h, hh⟩ : ∃ h, h = heightS n := ⟨_, rfl⟩
    rw [← hh] at hh1 hh2 hh3
    have hh8 := cnt_small hh3 hn
    have hz : ((h : Int) == 0) = false := by simp; omega
    have EA : ascB (buildK (layS 2 h) (layS kind h) tree n) = false → searchV kind tree key size = (0, 0, 1) := fun hf => by unfold searchV; rw [hkl, ← hh, if_neg (by omega), if_pos hf]
    have EN : ascB (buildK (layS 2 h) (layS kind h) tree n) = true → goS n (layS kind h) tree key n 0 [] = none → searchV kind tree key size = (0, 0, 12) := fun hf hgo => by
      unfold searchV; rw [hkl, ← hh, if_neg (by omega), if_neg (by rw [hf]; decide), hgo]
    have ES : ascB (buildK (layS 2 h) (layS kind h) tree n) = true → ∀ p path, goS n (layS kind h) tree key n 0 [] = some (p, path) → searchV kind tree key size = (p, ((blocksN size (path.map (getI (layS kind h))) : Nat) : Int), 0) := fun hf p path hgo => by
      unfold searchV; rw [hkl, ← hh, if_neg (by omega), if_neg (by rw [hf]; decide), hgo]
    have L1 := lay_range hk1 hk2 (h := h) (by omega)
    have L2 := lay_range (k := 2) (by omega) (by omega) (h := h) (by omega)
    have L3 := layS_len kind h
    have L4 := layS_len 2 h
    rw [hh3] at L1 L2 L3 L4
    generalize hl : layS kind h = l at *
    generalize ho : layS 2 h = order at *
    have C1 : ∀ w, Calls Try.prog 34 #[.int .i64 kind, .int .i64 h] w (MadeInts w l n) := fun w => by
      have := layout_any kind h h w rfl hh1 hh2; rw [hl, hh3] at this; exact this
    have C2 : ∀ w, Calls Try.prog 34 #[.int .i64 2, .int .i64 h] w (MadeInts w order n) := fun w => by
      have := layout_any 2 h h w rfl hh1 hh2; rw [ho, hh3] at this; exact this
    replace C1 := Lib.hid C1
    replace C2 := Lib.hid C2
    have Hh := Lib.hid hh
    have Hkl := Lib.hid hkl
    have Hl3 := Lib.hid L3
    have Hl4 := Lib.hid L4
    replace L1 := Lib.hid L1
    replace L2 := Lib.hid L2
    replace EA := Lib.hid EA
    replace EN := Lib.hid EN
    replace ES := Lib.hid ES
    have hn1 : 0 < n := by have h9 := Nat.pow_le_pow_right (n := 2) (by omega) hh1; unfold cnt at hh3; omega
    have hmk := run_mk E3 rfl n (by omega) (by omega)
    clear hkl hh L3 L4 hl ho hh3
    go_enter Try.func28, Try.ntmps28
    go_wp2_with fail
    refine (given_any _ _ _ _).mono ?_; rintro e w' ⟨rfl, rfl⟩
    go_wp2_with fail
    refine (heightOf_any n _ _ rfl (by omega)).mono ?_; rintro e w' ⟨rfl, rfl⟩
    rw [← Hh.out]
    go_wp2_with fail
    refine (C1.out _).mono ?_; rintro e w1 ⟨a1, c1, rfl, O1, F1⟩
    have R1 := O1.rd
    have F := F1
    clear O1 F1
    have hb0 : w.heap.size ≤ w1.heap.size := F.size
    have B1 : ∀ k, onBlk a1 k → k ≠ w1.heap.size := fun k hk => by have := R1.lt hn1 k hk; omega
    have B0 : ∀ k, onBlk a k → k ≠ w1.heap.size := fun k hk => by have := hr.lt hn1 k hk; omega
    go_wp2_with fail
    have hO := Own.made (w := w1) (B := w1.heap.size) (T := 3) (z := .int .i64 0) n (by omega) (by omega)
    have F2 : Fr F0 w1 (w1.alloc (.cells (Array.replicate n (.int .i64 0)) 3)) := (Fr.refl _ _).alloc _
    replace hO := Lib.hid hO
    refine (C2.out _).mono ?_; rintro e w2 ⟨a2, c2, rfl, O2, F3⟩
    have R2 := O2.rd
    have hO1 := hO.out.fr0 F3
    replace R1 := (R1.fr0 F2).fr0 F3
    replace F := (F.trans0 F2).trans0 F3
    have B2 : ∀ k, onBlk a2 k → k ≠ w1.heap.size := fun k hk => by have := (O2.blk k hk).1; simp at this; omega
    have R0 := hr.fr0 F
    clear hmk O2 F2 F3 hr
    obtain ⟨wo, rfl⟩ : ∃ wo : World, wo = w2 := ⟨_, rfl⟩
    obtain ⟨g, hg'⟩ : ∃ g, g = w1.heap.size := ⟨_, rfl⟩
    rw [← hg'] at B0 B1 B2 hb0
    replace hO1 : Own wo w1.heap.size 3 (some ⟨g, 0, none⟩) n n (List.replicate n (.int .i64 0)) := by rw [hg']; exact hO1
    simp only [← hg']
    replace hO := Own.mono hO1 (B' := w.heap.size) (by omega)
    replace hO := Lib.hid hO
    clear hO1 hg'
    go_wp2_with fail
    go_loopw [37] (fun i wr => ∃ k : Nat, k ≤ n ∧ i = .int .i64 k ∧ Own wr w.heap.size 3 (some ⟨g, 0, none⟩) n n (ints (buildK order l tree k)) ∧ Fr (onB g) wo wr) (fun i _ => n - (intOf i).toNat)
    case atStart => exact ⟨0, by omega, rfl, by simpa [buildK, Hkl.out] using hO.out, Fr.refl _ _⟩
    case round =>
      obtain ⟨k, hk, rfl, hP, hnx⟩ := hrel
      by_cases hlt : k < n
      · have hl3 := Hl3.out
        have hl4 := Hl4.out
        have hkl := Hkl.out
        obtain ⟨x, hx⟩ : ∃ x, order[k]? = some x := ⟨order[k], by simp⟩
        obtain ⟨p, hp⟩ : ∃ p, l[k]? = some p := ⟨l[k], by simp⟩
        have hx1 := L2.out x (List.mem_of_getElem? hx)
        have hp1 := L1.out p (List.mem_of_getElem? hp)
        obtain ⟨y, hy⟩ : ∃ y, tree[p.toNat]? = some y := ⟨tree[p.toNat]'(by omega), by simp⟩
        obtain ⟨b0, o0, hb0', hc0⟩ := (R0.fr hnx B0).cells (by omega)
        obtain ⟨b1, o1, hb1', hc1⟩ := (R1.fr hnx B1).cells (by omega)
        obtain ⟨b2, o2, hb2', hc2⟩ := (R2.fr hnx B2).cells (by omega)
        have n0 : b0 ≠ g := B0 b0 (by rw [hb0', onBlk_some])
        have n1 : b1 ≠ g := B1 b1 (by rw [hb1', onBlk_some])
        have n2 : b2 ≠ g := B2 b2 (by rw [hb2', onBlk_some])
        subst hb0' hb1' hb2'
        have d0 := hc0 p.toNat (.int .i64 y) (by simp [hy])
        have d1 := hc1 k (.int .i64 p) (by simp [hp])
        have d2 := hc2 k (.int .i64 x) (by simp [hx])
        obtain ⟨⟨z, hz1, _⟩, hz2⟩ := own_facts hP (v := x.toNat) (by omega)
        have hstep : Hid (buildK order l tree (k + 1) = (buildK order l tree k).set x.toNat y) := Lib.hid (by
          rw [buildK]; simp [hp, hx, getI, hy])
        have hP' := Lib.hid hP
        have hnx' := Lib.hid hnx
        clear hc0 hc1 hc2 hx hp hy hP hnx hl3 hl4 hkl
        go_wp2_with fail
        all_goals go_roundw
        case rel =>
          refine ⟨k + 1, by omega, by go_num, ?_, ?_⟩
          · rw [hstep.out]
            have h := (hP'.out.set (i := x.toNat) (.int .i64 y))
            simpa [List.map_set] using h
          · exact (hnx'.out.setB _ _)
        case measure => simp [intOf]; omega
      · obtain rfl : n = k := by omega
        replace F := F.trans hnx (S := F0) (fun k hk hs => by have : k = g := hs; omega)
        replace R0 := R0.fr hnx B0
        replace R1 := R1.fr hnx B1
        obtain ⟨wp, rfl⟩ : ∃ wp : World, wp = wr := ⟨_, rfl⟩
        clear hnx R2 B0 B1 B2 hO
        go_wp2_with fail
        refine (asc45_any _ n n _ _ hP.rd).mono ?_; rintro e w5 ⟨rfl, q, rfl⟩
        cases hasc : ascB (buildK order l tree n)
        · have E := Lib.hid (EA.out hasc)
          clear hasc
          go_wp2_with fail
          go_ret3
          exact ⟨by rw [E.out]; rfl, F.drewN q⟩
        · replace EN := Lib.hid (EN.out hasc)
          replace ES := Lib.hid (ES.out hasc)
          replace F := F.drewN q
          replace R0 := R0.fr0 ((Fr.refl _ _).drewN q)
          replace R1 := R1.fr0 ((Fr.refl _ _).drewN q)
          generalize wp.drewN q = wq at *
          clear hasc hP
          go_wp2_with fail
          go_loopw [16, 17] (fun vs v wr => ∃ (f u k : Nat) (path : List Int) (av : Option Addr) (cv : Nat), n ≤ u + f ∧ u ≤ 2 * n + 2 ∧ k ≤ u ∧ v = .int .i64 u ∧ vs = .slice av k cv ∧ Own wr wq.heap.size 3 av k cv (ints (path.map (getI l))) ∧ Hid (goS n l tree key n 0 [] = goS n l tree key f u path) ∧ Hid (∀ x ∈ path, 0 ≤ x ∧ x < n) ∧ Fr F0 wq wr) (fun _ v _ => n - (intOf v).toNat)
          case atStart => exact ⟨n, 0, 0, [], none, 0, by omega, by omega, by omega, rfl, rfl, Own.nil _ _ _, Lib.hid rfl, Lib.hid (by simp), Fr.refl _ _⟩
          case round =>
            obtain ⟨f, u, k, path, av, cv, hf, hu, hku, rfl, rfl, hown, hgo, hpath, hnx⟩ := hrel
            have hsz := hnx.size
            by_cases hlt2 : u < n
            · have hl3 := Hl3.out
              have hkl := Hkl.out
              obtain ⟨p, hp⟩ : ∃ p, l[u]? = some p := ⟨l[u], by simp⟩
              have hp1 := L1.out p (List.mem_of_getElem? hp)
              obtain ⟨y, hy⟩ : ∃ y, tree[p.toNat]? = some y := ⟨tree[p.toNat]'(by omega), by simp⟩
              obtain ⟨b0, o0, hb0', hc0⟩ := (R0.fr0 hnx).cells (by omega)
              obtain ⟨b1, o1, hb1', hc1⟩ := (R1.fr0 hnx).cells (by omega)
              have R0c := R0
              have R1c := R1
              subst hb0' hb1'
              have d0 := hc0 p.toNat (.int .i64 y) (by simp [hy])
              have d1 := hc1 u (.int .i64 p) (by simp [hp])
              obtain ⟨f', rfl⟩ : ∃ f', f = f' + 1 := ⟨f - 1, by omega⟩
              have hpl : getI l u = p := by simp [getI, hp]
              have hst : Hid (goS n l tree key n 0 [] = if key = y then some (p, path ++ [(u : Int)]) else goS n l tree key f' (if key < y then 2 * u + 1 else 2 * u + 2) (path ++ [(u : Int)])) := Lib.hid (by rw [hgo.out]; exact goS_in hlt2 hpl (by simp [getI, hy]))
              have hpath2 : Hid (∀ x ∈ path ++ [(u : Int)], 0 ≤ x ∧ x < n) := Lib.hid (by
                intro x hx
                rcases List.mem_append.1 hx with h | h
                · exact hpath.out x h
                · simp at h; omega)
              have hmap : Hid ((path ++ [(u : Int)]).map (getI l) = path.map (getI l) ++ [p]) := Lib.hid (by simp [hpl])
              clear hc0 hp hy hl3 hkl hpl hc1
              by_cases he : key = y
              · subst he
                go_wp2_with (at_builtin; refine wpApp1 E3 hown (by omega) (by omega) (by omega) rfl rfl rfl ?_; intro a' c' w' own' fr'; have hwx : Fr F0 wq w' := hnx.trans fr' (fun k hk hs => absurd (hown.blk _ hs).1 (by omega)); have d0' : w'.cell? _ = _ := fr'.cell d0 (fun hs => absurd (hown.blk _ hs).1 (Nat.not_le.2 (R0c.lt hn1 _ ((onBlk_some _ _ _ _).2 rfl)))); have d1' : w'.cell? _ = _ := fr'.cell d1 (fun hs => absurd (hown.blk _ hs).1 (Nat.not_le.2 (R1c.lt hn1 _ ((onBlk_some _ _ _ _).2 rfl)))))
                refine (touched_any a' (k + 1) c' (path.map (getI l) ++ [p]) size _ (by simpa using own'.rd) hs (by omega)).mono ?_; rintro e w8 ⟨rfl, F8⟩
                go_wp2_with fail
                go_ret3
                have hfin := ES.out p (path ++ [(u : Int)]) (by rw [hst.out]; simp)
                exact ⟨by rw [hfin, hmap.out]; rfl, (F.trans0 hwx).trans0 F8⟩
              · have hb1 : (key == y) = false := by simpa using he
                by_cases hky : key < y
                · go_wp2_with (at_builtin; refine wpApp1 E3 hown (by omega) (by omega) (by omega) rfl rfl rfl ?_; intro a' c' w' own' fr'; have hwx : Fr F0 wq w' := hnx.trans fr' (fun k hk hs => absurd (hown.blk _ hs).1 (by omega)); have d0' : w'.cell? _ = _ := fr'.cell d0 (fun hs => absurd (hown.blk _ hs).1 (Nat.not_le.2 (R0c.lt hn1 _ ((onBlk_some _ _ _ _).2 rfl)))); have d1' : w'.cell? _ = _ := fr'.cell d1 (fun hs => absurd (hown.blk _ hs).1 (Nat.not_le.2 (R1c.lt hn1 _ ((onBlk_some _ _ _ _).2 rfl)))))
                  go_roundw
                  case rel => exact ⟨f', 2 * u + 1, k + 1, path ++ [(u : Int)], a', c', by omega, by omega, by omega, by go_num, rfl, by rw [hmap.out]; simpa using own', Lib.hid (by rw [hst.out, if_neg he, if_pos hky]), hpath2, hnx.trans fr' (fun k hk hs => absurd (hown.blk _ hs).1 (by omega))⟩
                  case measure => simp [intOf]; omega
                · go_wp2_with (at_builtin; refine wpApp1 E3 hown (by omega) (by omega) (by omega) rfl rfl rfl ?_; intro a' c' w' own' fr'; have hwx : Fr F0 wq w' := hnx.trans fr' (fun k hk hs => absurd (hown.blk _ hs).1 (by omega)); have d0' : w'.cell? _ = _ := fr'.cell d0 (fun hs => absurd (hown.blk _ hs).1 (Nat.not_le.2 (R0c.lt hn1 _ ((onBlk_some _ _ _ _).2 rfl)))); have d1' : w'.cell? _ = _ := fr'.cell d1 (fun hs => absurd (hown.blk _ hs).1 (Nat.not_le.2 (R1c.lt hn1 _ ((onBlk_some _ _ _ _).2 rfl)))))
                  go_roundw
                  case rel => exact ⟨f', 2 * u + 2, k + 1, path ++ [(u : Int)], a', c', by omega, by omega, by omega, by go_num, rfl, by rw [hmap.out]; simpa using own', Lib.hid (by rw [hst.out, if_neg he, if_neg hky]), hpath2, hnx.trans fr' (fun k hk hs => absurd (hown.blk _ hs).1 (by omega))⟩
                  case measure => simp [intOf]; omega
            · have E := Lib.hid (EN.out (by rw [hgo.out]; exact goS_out (by omega)))
              go_wp2_with fail
              go_ret3
              exact ⟨by rw [E.out]; rfl, F.trans0 hnx⟩

end Go.Proofs.Ytdllpiekkbojgaa
