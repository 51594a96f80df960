/- awake. -/
import Derived.Test.YtdphademoeofkaaS9
namespace Go.Proofs.Ytdphademoeofkaa
open Go.RowKit
attribute [local go_sem ↓] Go.wp_at_zero Go.wp_at_succ
theorem flat_upd {ts : List Tr} {i : Nat} {x x1 : Tr} {id : Int} (hi : ts[i]? = some x) (hp : (id :: x1.ids).Perm x.ids) : (flat ts).Perm (id :: flat (ts.set i x1)) := by
  have h1 := flat_set hi x1
  have e : (x1.ids ++ (id :: flat (ts.set i x1))).Perm (x1.ids ++ flat ts) := by
    refine List.Perm.trans ?_ h1
    refine (List.perm_middle).trans ?_
    rw [← List.cons_append]
    exact hp.append_right _
  exact ((List.perm_append_left_iff _).1 e).symm
theorem Dm.perm {ts : List Tr} {I : List (Option Nat)} {id key : Int} {ts' : List Tr} {I' : List (Option Nat)} (h : Dm ts I id key ts' I') : (flat ts).Perm (id :: flat ts') := by
  obtain ⟨i, b, l, r, it, rk, sz, _, hi, h⟩ := h
  have hx : ∀ x1 : Tr, x1.ids.Perm (Tr.ids (.nd b l r it key rk sz)) → (id :: x1.ids).Perm (Tr.ids (.nd b l r (it ++ [id]) key rk sz)) := fun x1 h => by
    refine (h.cons _).trans ?_
    simp only [Tr.ids, List.append_assoc, List.singleton_append]
    exact List.perm_middle.symm
  rcases h with ⟨_, _, n, x', hR, _, rfl⟩ | ⟨rfl, rfl, rfl, _, rfl⟩ | ⟨_, _, _, rfl⟩
  · exact flat_upd hi (hx _ hR.perm)
  · exact flat_upd hi (hx .nil (by simp [Tr.ids]))
  · exact flat_upd hi (hx _ (.refl _))
theorem ad_one {rate b : Nat} {k : Int} {I : List (Option Nat)} {ts' : List Tr} {I' : List (Option Nat)} (h : Ad rate [] (.nd b .nil .nil [0] k 0 1) I ts' I') : ts' = [.nd b .nil .nil [0] k 0 1] ∧ I' = I := by
  cases h with
  | put h => exact ⟨rfl, rfl⟩
  | comb h hy => simp [pad, Tr.rank] at h; exact absurd h.symm hy
theorem ad_two {rate b1 b2 : Nat} {k1 k2 : Int} (hk : k2 < k1) {I : List (Option Nat)} {ts' : List Tr} {I' : List (Option Nat)} (h : Ad rate [.nd b1 .nil .nil [0] k1 0 1] (.nd b2 .nil .nil [1] k2 0 1) I ts' I') :
    ∃ bz, ts' = [.nil, .nd bz .nil (.nd b1 .nil .nil [0] k1 0 1) [1] k2 1 1] := by
  cases h with
  | put h => simp [pad, Tr.rank] at h
  | @comb _ _ _ y z I1 _ _ n bz h hy hR h2 =>
    have e : y = .nd b1 .nil .nil [0] k1 0 1 := by simp [pad, Tr.rank] at h; exact h.symm
    subst e
    have hs : szOf rate (.nd b1 .nil .nil [0] k1 0 1) = 1 := by
      unfold szOf
      rw [if_neg (by show ¬ rate + 5 < 0 + 1; omega)]
    rw [hs] at hR
    have hz : z = .nd bz .nil (.nd b1 .nil .nil [0] k1 0 1) [1] k2 1 1 := by
      cases hR with
      | stop h => simp at h
      | leaf h1 h2 hs h =>
        simp only [sw, if_pos hk, Prod.mk.injEq, Tr.nd.injEq] at hs
        obtain ⟨⟨rfl, _, _, rfl, rfl, rfl, rfl⟩, rfl⟩ := hs
        cases h with
        | stop h => rfl
        | leaf h1 => simp at h1
        | deep h1 => simp at h1
      | deep h1 h2 hs h3 =>
        simp only [sw, if_pos hk, Prod.mk.injEq, Tr.nd.injEq] at hs
        exact absurd ⟨hs.1.2.1.symm, hs.1.2.2.1.symm⟩ h3
    subst hz
    cases h2 with
    | put h => exact ⟨bz, rfl⟩
    | comb h hy => simp [pad, Tr.rank] at h; exact absurd h.symm hy
theorem dm_two {bz : Nat} {t : Tr} {k : Int} {I : List (Option Nat)} {id key : Int} {ts' : List Tr} {I' : List (Option Nat)} (h : Dm [.nil, .nd bz .nil t [1] k 1 1] I id key ts' I') : id = 1 ∧ key = k := by
  obtain ⟨i, b, l, r, it, rk, sz, ⟨h1, _, _⟩, hi, _⟩ := h
  match i, h1, hi with
  | 0, _, hi => simp at hi
  | 1, _, hi =>
    simp at hi
    obtain ⟨_, _, _, h4, h5, _⟩ := hi
    cases it with
    | nil => simp at h4; exact ⟨h4.symm, h5.symm⟩
    | cons a l => simp at h4
  | i + 2, h1, _ => simp at h1; omega
set_option maxRecDepth 100000 in
set_option maxHeartbeats 2000000 in
theorem awake_any (w : World) : Calls Try.prog 7 #[] w fun e w' => e = .returned (.bool true) ∧ Fr F0 w w' := by
  go_enter Try.func7, Try.ntmps7
  go_wp2_with fail
  refine (New_ok w (k := 20) (by omega)).mono ?_
  rintro e w1 ⟨hb, rfl, H1, F1, g1⟩
  have HH1 := Lib.hid H1
  have HF1 := Lib.hid F1
  clear H1 F1
  go_wp2_with fail
  refine (Insert_ok HH1.out (k := 5) (by omega) (by omega) (by simp)).mono ?_
  rintro e w2 ⟨b1, ts1, I1, T1, rfl, H2, hA1, F2, hT1⟩
  obtain ⟨rfl, rfl⟩ := ad_one hA1
  have HH2 := Lib.hid H2
  have HF2 := Lib.hid (HF1.out.trans F2 (fun q hq (e : q = hb) => by omega))
  have hs1 := HF1.out.size
  have HT1 := Lib.hid (show ∀ q, T1 q → w.heap.size ≤ q from fun q hq => (hT1 q hq).elim (fun (e : q = hb) => by omega) (fun e => by omega))
  clear H2 F2 hT1 hA1
  simp only [List.length_nil]
  go_wp2_with fail
  refine (Insert_ok HH2.out (k := 3) (by omega) (by omega) (by simp)).mono ?_
  rintro e w3 ⟨b2, ts2, I2, T2, rfl, H3, hA2, F3, hT2⟩
  obtain ⟨bz, rfl⟩ := ad_two (by omega) hA2
  have HH3 := Lib.hid H3
  have hs2 := HF2.out.size
  have HF3 := Lib.hid (HF2.out.trans F3 (fun q hq e => by have := HT1.out q e; omega))
  have HT2 := Lib.hid (show ∀ q, T2 q → w.heap.size ≤ q from fun q hq => (hT2 q hq).elim (HT1.out q) (fun e => by omega))
  clear H3 F3 hT2 hA2
  go_wp2_with fail
  refine (DeleteMin_any HH3.out (by simp [flat, Tr.ids])).mono ?_
  rintro e w4 ⟨id, key, ts3, I3, T3, rfl, hD, H4, F4, hT3⟩
  obtain ⟨rfl, rfl⟩ := dm_two hD
  have hp := hD.perm.length_eq
  have hf1 : (flat ts3).length = 1 := by
    simp [flat, Tr.ids] at hp ⊢
    omega
  have HL := Len_any H4
  rw [hf1] at HL
  have HL := Lib.hid HL
  have HF4 := Lib.hid (HF3.out.trans F4 (fun q hq e => by have := HT2.out q e; omega))
  clear H4 F4 hT3 hD hp hf1
  go_wp2_with (go_at_call 11; refine (HL.out).mono ?_; rintro e w5 ⟨rfl, rfl⟩)
  go_ret
  exact ⟨rfl, HF4.out⟩
end Go.Proofs.Ytdphademoeofkaa
