/- The index: Common. -/
import Derived.Test.YtpmaoaogkjehcaaX2
namespace Go.Proofs.Ytpmaoaogkjehcaa
open Go.RowKit

/-- The greatest common ancestor: the last of the chain of a that is in that of b. -/
def comV (P : List Int) (a b : Nat) : Nat := ((chN P a).find? (fun x => decide (x ∈ chN P b))).getD 0
theorem comV_is {P : List Int} (hv : validB P = true) {a b : Nat} (ha : a < P.length) (hb : b < P.length) : IsCom P a b (comV P a b) := by
  unfold comV
  have hroot : ∀ x, x < P.length → 0 ∈ chN P x := by
    intro x hx
    unfold chN
    exact List.mem_map.2 ⟨0, chain_root hv x hx, rfl⟩
  cases hf : (chN P a).find? (fun x => decide (x ∈ chN P b)) with
  | none =>
    rw [List.find?_eq_none] at hf
    exact absurd (hroot b hb) (by simpa using hf 0 (hroot a ha))
  | some c =>
    simp only [Option.getD_some]
    rw [List.find?_eq_some_iff_append] at hf
    obtain ⟨hc, us, bs, he, hn⟩ := hf
    have hca : c ∈ chN P a := by rw [he]; simp
    refine ⟨hca, by simpa using hc, fun x hxa hxb => ?_⟩
    have g1 := mem_anc hv ha hca
    have g2 := mem_anc hv ha hxa
    refine chN_lin hv ha hxa hca ?_
    rcases Nat.lt_or_ge (dep P c) (dep P x) with hlt | hge
    · exfalso
      have hl := chN_len hv ha
      have gl := chN_lin hv ha hca hxa (by omega)
      have hlx : (chN P a).length = us.length + (bs.length + 1) := by rw [he]; simp
      have e1 : chN P c = (chN P a).drop (dep P a - dep P c) := by
        have := anc_drop hv a (dep P a - dep P c) ha (by omega)
        rwa [g1.2.1] at this
      -- the place of x
      have hxe : x = (chN P a).getD (dep P a - dep P x) 0 := g2.2.1.symm
      have hce : c = (chN P a).getD (dep P a - dep P c) 0 := g1.2.1.symm
      have hpos : dep P a - dep P c ≤ us.length := by
        -- c stands first at us.length
        have h5 : chN P c = (chN P a).drop us.length ∨ dep P a - dep P c ≤ us.length := by
          right
          have h6 : anc P a us.length = c := by unfold anc; rw [he]; simp
          have h7 := anc_dep hv ha (k := us.length) (by omega)
          rw [h6] at h7
          omega
        rcases h5 with h5 | h5
        · have := congrArg List.length h5
          have := congrArg List.length e1
          simp at *; omega
        · exact h5
      have hxm : x ∈ us := by
        rw [hxe, he, List.getD_eq_getElem?_getD, List.getElem?_append_left (by omega), List.getElem?_eq_getElem (by omega)]
        simp
      have := hn x hxm
      simp at this
      exact this hxb
    · exact hge

def comE (P : List Int) (a b : Int) : Int × Int := if inB P a ∧ inB P b then ((comV P a.toNat b.toNat : Int), 0) else (0, 24)
set_option maxHeartbeats 1000000 in
theorem Common_any (w : World) (B x : Nat) (sa : Option Addr) (c : Nat) (P : List Int) (h : IX w B x sa c P) (hv : validB P = true) (a b : Int) :
    Calls Try.prog 25 #[.pointer (some ⟨x, 0, none⟩), .int .i64 a, .int .i64 b] w fun e w' => e = .returned (.tuple #[.int .i64 (comE P a b).1, .int .i64 (comE P a b).2]) ∧ Fr F0 w w' := by
  have hO : Own (w.alloc (.cells #[.int .i64 a, .int .i64 b] 3)) w.heap.size 3 (some ⟨w.heap.size, 0, none⟩) 2 2 (ints [a, b]) := by
    simpa using Own.lit (w := w) (B := w.heap.size) (T := 3) (ints [a, b]) 2 rfl (by simp) (by omega)
  have hF : Fr F0 w (w.alloc (.cells #[.int .i64 a, .int .i64 b] 3)) := (Fr.refl _ _).alloc _
  have HX := h.fr0 hF
  have hRd := hO.rd
  have hlen := (valid_len hv).2.1
  replace hv := Lib.hid hv
  clear hO
  by_cases hin : inB P a ∧ inB P b
  · have E2 : Hid (checkI P.length [a, b] = 0) := Lib.hid (checkI_in (by intro v hm; simp at hm; rcases hm with rfl | rfl <;> first | exact hin.1 | exact hin.2))
    have E : Hid (comE P a b = ((comV P a.toNat b.toNat : Int), 0)) := Lib.hid (by unfold comE; rw [if_pos hin])
    obtain ⟨⟨h0, h1⟩, h2, h3⟩ := hin
    obtain ⟨m, rfl⟩ := Int.eq_ofNat_of_zero_le h0
    obtain ⟨k, rfl⟩ := Int.eq_ofNat_of_zero_le h2
    have hm : m < P.length := by omega
    have hk : k < P.length := by omega
    have hcom := Lib.hid (comV_is hv.out hm hk)
    have hdm := dep_le hv.out _ hm
    have hdk := dep_le hv.out _ hk
    go_enter Try.func25, Try.ntmps25
    go_wp2_with fail
    refine (checkI_any _ B x sa c P HX _ _ _ _ hRd).mono ?_; rintro e w1 ⟨rfl, F1⟩
    rw [E2.out]
    replace HX := HX.fr0 F1
    replace hF := Lib.hid (hF.trans0 F1)
    have hc := HX.one.cell
    have hmx := HX.own.max
    obtain ⟨g, rfl, c1, c2, c3⟩ := HX.at hm
    obtain ⟨g', hg, d1, d2, d3⟩ := HX.at hk
    injection hg with hg
    injection hg with hg
    subst hg
    clear F1 hRd c1 c3 d1 d3
    by_cases hle : dep P m ≤ dep P k
    · go_wp2_with fail
      go_quiet (fail)
      go_wp2_with fail
      obtain ⟨d, hd⟩ : ∃ d, d = dep P m := ⟨_, rfl⟩
      rw [← hd]
      have hdm2 : d ≤ dep P m := by omega
      have hdk2 : d ≤ dep P k := by omega
      have hmin : Hid (d = min (dep P m) (dep P k)) := Lib.hid (by omega)
      clear hd
      refine (up_any _ B x _ c P (HX.fr0 ((Fr.refl _ _).drewN _)) hv.out m d hm).mono ?_; rintro e w2 ⟨rfl, F2⟩
      replace HX := HX.fr0 (((Fr.refl _ _).drewN nq).trans0 F2)
      replace hF := Lib.hid (hF.out.trans0 (((Fr.refl _ _).drewN nq).trans0 F2))
      clear F2 hc c2 d2
      go_wp2_with fail
      refine (up_any _ B x _ c P HX hv.out k d hk).mono ?_; rintro e w3 ⟨rfl, F3⟩
      replace HX := HX.fr0 F3
      replace hF := Lib.hid (hF.out.trans0 F3)
      clear F3
      have hc := HX.one.cell
      have ulm := (chN_lt hv.out hm (upV_mem hv.out d hm)).2
      have ulk := (chN_lt hv.out hk (upV_mem hv.out d hk)).2
      have hlev : Hid (dep P (upV P m d) = dep P (upV P k d) ∧ ∀ c, IsCom P (upV P m d) (upV P k d) c → IsCom P m k c) := Lib.hid ⟨by rw [upV_dep hv.out hm hdm2, upV_dep hv.out hk hdk2], fun c h => IsCom.level hv.out hm hk hmin.out h⟩
      go_wp2_with fail
      go_loopw [1, 2] (fun i j wr => ∃ (u v q : Nat), u < P.length ∧ v < P.length ∧ i = .int .i64 u ∧ j = .int .i64 v ∧ Hid (dep P u = dep P v ∧ ∀ c, IsCom P u v c → IsCom P m k c) ∧ wr = w3.drewN q) (fun i _ _ => (intOf i).toNat)
      case atStart => exact ⟨upV P m d, upV P k d, 0, ulm, ulk, rfl, rfl, hlev, rfl⟩
      case round =>
        obtain ⟨u, v, q, hu, hv2, rfl, rfl, hI, rfl⟩ := hrel
        by_cases huv : u = v
        · subst huv
          have Ec : Hid (comV P m k = u) := Lib.hid (IsCom.uniq hv.out hm hcom.out (hI.out.2 u (IsCom.self hv.out hu)))
          go_wp2_with fail
          go_ret2
          refine ⟨ret2 (val_int ?_) (val_int (congrArg Prod.snd E.out).symm), hF.out.drewN _⟩
          rw [E.out]
          show (u : Int) = (comV P m k : Int)
          rw [Ec.out]
        · have huv2 : ((u : Int) != (v : Int)) = true := by simp; omega
          obtain ⟨g', hg, c1, c2, c3⟩ := HX.at hu
          injection hg with hg
          injection hg with hg
          subst hg
          obtain ⟨g', hg, d1, d2, d3⟩ := HX.at hv2
          injection hg with hg
          injection hg with hg
          subst hg
          have hzu : 0 < u ∧ 0 < v := by
            have h1 := hI.out.1
            constructor
            · rcases Nat.eq_zero_or_pos u with h | h
              · exfalso; subst h
                rw [dep_zero hv.out] at h1
                have := dep_pos hv.out hv2 (by omega)
                omega
              · exact h
            · rcases Nat.eq_zero_or_pos v with h | h
              · exfalso; subst h
                rw [dep_zero hv.out] at h1
                have := dep_pos hv.out hu (by omega)
                omega
              · exact h
          obtain ⟨hu0, hv0⟩ := hzu
          have pu := par_lt hv.out hu hu0
          have pv := par_lt hv.out hv2 hv0
          obtain ⟨pu1, pu2⟩ := pu
          obtain ⟨pv1, pv2⟩ := pv
          rw [pu2] at c1
          rw [pv2] at d1
          have ju := jmp_dep hv.out hu
          have jv := jmp_dep hv.out hv2
          obtain ⟨ju1, ju2⟩ := ju
          obtain ⟨jv1, jv2⟩ := jv
          have hju : jmp P u < u := by
            have h1 := (chN_lt hv.out hu (jmp_mem hv.out hu)).1
            have h2 := (J_le (dep P u)).2 (by rw [dep_pos hv.out hu hu0]; omega)
            rcases Nat.lt_or_ge (jmp P u) u with h3 | h3
            · exact h3
            · exfalso; have : jmp P u = u := by omega
              rw [this] at ju1; omega
          have S1 : Hid (jmp P u ≠ jmp P v → dep P (jmp P u) = dep P (jmp P v) ∧ ∀ c, IsCom P (jmp P u) (jmp P v) c → IsCom P m k c) := Lib.hid (fun hne => by
            have e : dep P (jmp P u) = dep P (jmp P v) := by rw [ju1, jv1, hI.out.1]
            exact ⟨e, fun c h => hI.out.2 c (IsCom.step hv.out hu hv2 (jmp_mem hv.out hu) (jmp_mem hv.out hv2) e (.inl hne) h)⟩)
          have S2 : Hid (dep P (par P u) = dep P (par P v) ∧ ∀ c, IsCom P (par P u) (par P v) c → IsCom P m k c) := Lib.hid (by
            have e1 := dep_pos hv.out hu hu0
            have e2 := dep_pos hv.out hv2 hv0
            have e3 := hI.out.1
            refine ⟨by omega, fun c h => hI.out.2 c (IsCom.step hv.out hu hv2 (a1 := par P u) (b1 := par P v) ?_ ?_ (by omega) (.inr ⟨huv, e3, by omega⟩) h)⟩
            · rw [chN_pos hv.out hu hu0]; simp [chN_self hv.out (x := par P u) (by omega)]
            · rw [chN_pos hv.out hv2 hv0]; simp [chN_self hv.out (x := par P v) (by omega)])
          clear ju1 jv1 pu2 pv2 huv
          by_cases hjj : jmp P u = jmp P v
          · have hb : ((jmp P u : Int) != (jmp P v : Int)) = false := by simp [hjj]
            replace hjj := Lib.hid hjj
            go_wp2_with fail
            go_quiet (fail)
            go_wp2_with fail
            go_quiet (fail)
            go_wp2_with fail
            go_roundw
            case rel => exact ⟨par P u, par P v, _, by omega, by omega, rfl, rfl, S2, by rw [World.drewN_drewN, World.drewN_drewN]⟩
            case measure => simp [intOf]; omega
          · have hb : ((jmp P u : Int) != (jmp P v : Int)) = true := by simp; omega
            have S3 := Lib.hid (S1.out hjj)
            clear hjj
            go_wp2_with fail
            go_quiet (fail)
            go_wp2_with fail
            go_quiet (fail)
            go_wp2_with fail
            go_roundw
            case rel => exact ⟨jmp P u, jmp P v, _, by omega, by omega, rfl, rfl, S3, by rw [World.drewN_drewN, World.drewN_drewN]⟩
            case measure => simp [intOf]; omega
    · go_wp2_with fail
      go_quiet (fail)
      go_wp2_with fail
      obtain ⟨d, hd⟩ : ∃ d, d = dep P k := ⟨_, rfl⟩
      rw [← hd]
      have hdm2 : d ≤ dep P m := by omega
      have hdk2 : d ≤ dep P k := by omega
      have hmin : Hid (d = min (dep P m) (dep P k)) := Lib.hid (by omega)
      clear hd
      refine (up_any _ B x _ c P (HX.fr0 ((Fr.refl _ _).drewN _)) hv.out m d hm).mono ?_; rintro e w2 ⟨rfl, F2⟩
      replace HX := HX.fr0 (((Fr.refl _ _).drewN nq).trans0 F2)
      replace hF := Lib.hid (hF.out.trans0 (((Fr.refl _ _).drewN nq).trans0 F2))
      clear F2 hc c2 d2
      go_wp2_with fail
      refine (up_any _ B x _ c P HX hv.out k d hk).mono ?_; rintro e w3 ⟨rfl, F3⟩
      replace HX := HX.fr0 F3
      replace hF := Lib.hid (hF.out.trans0 F3)
      clear F3
      have hc := HX.one.cell
      have ulm := (chN_lt hv.out hm (upV_mem hv.out d hm)).2
      have ulk := (chN_lt hv.out hk (upV_mem hv.out d hk)).2
      have hlev : Hid (dep P (upV P m d) = dep P (upV P k d) ∧ ∀ c, IsCom P (upV P m d) (upV P k d) c → IsCom P m k c) := Lib.hid ⟨by rw [upV_dep hv.out hm hdm2, upV_dep hv.out hk hdk2], fun c h => IsCom.level hv.out hm hk hmin.out h⟩
      go_wp2_with fail
      go_loopw [1, 2] (fun i j wr => ∃ (u v q : Nat), u < P.length ∧ v < P.length ∧ i = .int .i64 u ∧ j = .int .i64 v ∧ Hid (dep P u = dep P v ∧ ∀ c, IsCom P u v c → IsCom P m k c) ∧ wr = w3.drewN q) (fun i _ _ => (intOf i).toNat)
      case atStart => exact ⟨upV P m d, upV P k d, 0, ulm, ulk, rfl, rfl, hlev, rfl⟩
      case round =>
        obtain ⟨u, v, q, hu, hv2, rfl, rfl, hI, rfl⟩ := hrel
        by_cases huv : u = v
        · subst huv
          have Ec : Hid (comV P m k = u) := Lib.hid (IsCom.uniq hv.out hm hcom.out (hI.out.2 u (IsCom.self hv.out hu)))
          go_wp2_with fail
          go_ret2
          refine ⟨ret2 (val_int ?_) (val_int (congrArg Prod.snd E.out).symm), hF.out.drewN _⟩
          rw [E.out]
          show (u : Int) = (comV P m k : Int)
          rw [Ec.out]
        · have huv2 : ((u : Int) != (v : Int)) = true := by simp; omega
          obtain ⟨g', hg, c1, c2, c3⟩ := HX.at hu
          injection hg with hg
          injection hg with hg
          subst hg
          obtain ⟨g', hg, d1, d2, d3⟩ := HX.at hv2
          injection hg with hg
          injection hg with hg
          subst hg
          have hzu : 0 < u ∧ 0 < v := by
            have h1 := hI.out.1
            constructor
            · rcases Nat.eq_zero_or_pos u with h | h
              · exfalso; subst h
                rw [dep_zero hv.out] at h1
                have := dep_pos hv.out hv2 (by omega)
                omega
              · exact h
            · rcases Nat.eq_zero_or_pos v with h | h
              · exfalso; subst h
                rw [dep_zero hv.out] at h1
                have := dep_pos hv.out hu (by omega)
                omega
              · exact h
          obtain ⟨hu0, hv0⟩ := hzu
          have pu := par_lt hv.out hu hu0
          have pv := par_lt hv.out hv2 hv0
          obtain ⟨pu1, pu2⟩ := pu
          obtain ⟨pv1, pv2⟩ := pv
          rw [pu2] at c1
          rw [pv2] at d1
          have ju := jmp_dep hv.out hu
          have jv := jmp_dep hv.out hv2
          obtain ⟨ju1, ju2⟩ := ju
          obtain ⟨jv1, jv2⟩ := jv
          have hju : jmp P u < u := by
            have h1 := (chN_lt hv.out hu (jmp_mem hv.out hu)).1
            have h2 := (J_le (dep P u)).2 (by rw [dep_pos hv.out hu hu0]; omega)
            rcases Nat.lt_or_ge (jmp P u) u with h3 | h3
            · exact h3
            · exfalso; have : jmp P u = u := by omega
              rw [this] at ju1; omega
          have S1 : Hid (jmp P u ≠ jmp P v → dep P (jmp P u) = dep P (jmp P v) ∧ ∀ c, IsCom P (jmp P u) (jmp P v) c → IsCom P m k c) := Lib.hid (fun hne => by
            have e : dep P (jmp P u) = dep P (jmp P v) := by rw [ju1, jv1, hI.out.1]
            exact ⟨e, fun c h => hI.out.2 c (IsCom.step hv.out hu hv2 (jmp_mem hv.out hu) (jmp_mem hv.out hv2) e (.inl hne) h)⟩)
          have S2 : Hid (dep P (par P u) = dep P (par P v) ∧ ∀ c, IsCom P (par P u) (par P v) c → IsCom P m k c) := Lib.hid (by
            have e1 := dep_pos hv.out hu hu0
            have e2 := dep_pos hv.out hv2 hv0
            have e3 := hI.out.1
            refine ⟨by omega, fun c h => hI.out.2 c (IsCom.step hv.out hu hv2 (a1 := par P u) (b1 := par P v) ?_ ?_ (by omega) (.inr ⟨huv, e3, by omega⟩) h)⟩
            · rw [chN_pos hv.out hu hu0]; simp [chN_self hv.out (x := par P u) (by omega)]
            · rw [chN_pos hv.out hv2 hv0]; simp [chN_self hv.out (x := par P v) (by omega)])
          clear ju1 jv1 pu2 pv2 huv
          by_cases hjj : jmp P u = jmp P v
          · have hb : ((jmp P u : Int) != (jmp P v : Int)) = false := by simp [hjj]
            replace hjj := Lib.hid hjj
            go_wp2_with fail
            go_quiet (fail)
            go_wp2_with fail
            go_quiet (fail)
            go_wp2_with fail
            go_roundw
            case rel => exact ⟨par P u, par P v, _, by omega, by omega, rfl, rfl, S2, by rw [World.drewN_drewN, World.drewN_drewN]⟩
            case measure => simp [intOf]; omega
          · have hb : ((jmp P u : Int) != (jmp P v : Int)) = true := by simp; omega
            have S3 := Lib.hid (S1.out hjj)
            clear hjj
            go_wp2_with fail
            go_quiet (fail)
            go_wp2_with fail
            go_quiet (fail)
            go_wp2_with fail
            go_roundw
            case rel => exact ⟨jmp P u, jmp P v, _, by omega, by omega, rfl, rfl, S3, by rw [World.drewN_drewN, World.drewN_drewN]⟩
            case measure => simp [intOf]; omega
  · have E : Hid (comE P a b = (0, 24)) := Lib.hid (by unfold comE; rw [if_neg hin])
    have E2 : Hid (checkI P.length [a, b] = 24) := Lib.hid (by
      by_cases h1 : inB P a
      · exact checkI_out (v := b) (by simp) (fun h2 => hin ⟨h1, h2⟩)
      · exact checkI_out (v := a) (by simp) h1)
    clear hin
    go_enter Try.func25, Try.ntmps25
    go_wp2_with fail
    refine (checkI_any _ B x sa c P HX _ _ _ _ hRd).mono ?_; rintro e w1 ⟨rfl, F1⟩
    rw [E2.out]
    replace hF := Lib.hid (hF.trans0 F1)
    clear F1
    go_wp2_with fail
    go_ret2
    exact ⟨ret2 (val_int (congrArg Prod.fst E.out).symm) (val_int (congrArg Prod.snd E.out).symm), hF.out⟩

end Go.Proofs.Ytpmaoaogkjehcaa
