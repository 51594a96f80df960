/- The forest in memory: root, unknown, Count, Depth, Find. -/
import Derived.Test.YtihcaemheknjbaaF1
import Derived.Test.YtihcaemheknjbaaComAll
import Derived.Test.YtihcaemheknjbaaSlIndex
import Derived.BigQuiet
import Derived.BigRegion
import Derived.LoopTactic
namespace Go.Proofs.Ytihcaemheknjbaa
open Go.RowKit
attribute [local go_sem ↓] Go.wp_at_zero Go.wp_at_succ
def nv (l : List Nat) : List Value := l.map (fun k : Nat => .int .i64 (k : Int))
theorem nv_get {l : List Nat} {i k : Nat} (h : l[i]? = some k) : (nv l)[i]? = some (.int .i64 (k : Int)) := by unfold nv; rw [List.getElem?_map, h]; rfl
theorem nv_set (l : List Nat) (i k : Nat) : (nv l).set i (.int .i64 (k : Int)) = nv (l.set i k) := by unfold nv; rw [List.map_set]
theorem nv_len (l : List Nat) : (nv l).length = l.length := by unfold nv; simp
theorem nv_app (l m : List Nat) : nv (l ++ m) = nv l ++ nv m := by unfold nv; simp
theorem nv_ints (l : List Nat) : nv l = ints (l.map (fun k : Nat => (k : Int))) := by unfold nv ints; rw [List.map_map]; rfl
abbrev Chg := Option (Nat × Nat)
def chv : Chg → List Value
  | none => [.int .i64 (-1), .int .i64 0]
  | some (b, l) => [.int .i64 (b : Int), .int .i64 (l : Int)]
def chs (K : List Chg) : List Value := K.flatMap chv
theorem chv_len (c : Chg) : (chv c).length = 2 := by cases c <;> rfl
theorem chs_len : ∀ K : List Chg, (chs K).length = K.length * 2
  | [] => rfl
  | c :: K => by
    have := chs_len K
    unfold chs at this ⊢
    rw [List.flatMap_cons, List.length_append, chv_len, this, List.length_cons]; omega
theorem chs_snoc (K : List Chg) (c : Chg) : chs (K ++ [c]) = chs K ++ chv c := by unfold chs; simp
theorem chv_one (c : Chg) : ∀ u ∈ chv c, u.oneCell' = true := by
  intro u hu
  rcases c with _ | ⟨b, l⟩ <;> simp [chv] at hu <;> rcases hu with rfl | rfl <;> rfl
theorem chs_last (K : List Chg) (c : Chg) (j : Nat) (hj : j < 2) : (chs (K ++ [c]))[K.length * 2 + j]? = (chv c)[j]? := by
  rw [chs_snoc, List.getElem?_append_right (by rw [chs_len]; omega), chs_len]
  congr 1; omega
theorem chs_init (K : List Chg) (c : Chg) : (chs (K ++ [c])).take (K.length * 2) = chs K := by
  rw [chs_snoc, List.take_append_of_le_length (by rw [chs_len]; omega), List.take_of_length_le (by rw [chs_len]; omega)]
/-- The blocks of a forest. -/
def Ft (f : Nat) (ap az al ak : Option Addr) (j : Nat) : Prop := j = f ∨ onBlk ap j ∨ onBlk az j ∨ onBlk al j ∨ onBlk ak j
structure FoM (w : World) (B f n : Nat) (S : FS) (K : List Chg) (ap az al ak : Option Addr) (cp cz cl ck : Nat) : Prop where
  blk : Blk w f 94 [.slice ap n cp, .slice az n cz, .slice al n cl, .int .i64 (S.c : Int), .slice ak K.length ck]
  op : Own w B 3 ap n cp (nv S.P)
  oz : Own w B 3 az n cz (nv S.Z)
  ol : Own w B 3 al n cl (nv S.L)
  ok : OwnZ w B 96 2 ak K.length ck (chs K)
  hB : B ≤ f
  fp : ¬ onBlk ap f
  fz : ¬ onBlk az f
  fl : ¬ onBlk al f
  fk : ¬ onBlk ak f
  pz : Apart ap az
  pl : Apart ap al
  pk : Apart ap ak
  zl : Apart az al
  zk : Apart az ak
  lk : Apart al ak
theorem FoM.lt {w : World} {B f n : Nat} {S : FS} {K : List Chg} {ap az al ak : Option Addr} {cp cz cl ck : Nat} (h : FoM w B f n S K ap az al ak cp cz cl ck) {j : Nat} (hj : Ft f ap az al ak j) : B ≤ j ∧ j < w.heap.size := by
  rcases hj with rfl | hj | hj | hj | hj
  · exact ⟨h.hB, h.blk.lt⟩
  · exact h.op.blk j hj
  · exact h.oz.blk j hj
  · exact h.ol.blk j hj
  · exact h.ok.blk j hj
/-- A forest with the state S and the changes K, among the blocks N. -/
def Fo (w : World) (B : Nat) (N : Nat → Prop) (f n : Nat) (S : FS) (K : List Chg) : Prop :=
  ∃ ap az al ak cp cz cl ck, FoM w B f n S K ap az al ak cp cz cl ck ∧ (∀ j, Ft f ap az al ak j → N j)
theorem FoM.fr {w w' : World} {B f n : Nat} {S : FS} {K : List Chg} {ap az al ak : Option Addr} {cp cz cl ck : Nat} {M : Nat → Prop} (h : FoM w B f n S K ap az al ak cp cz cl ck) (g : Fr M w w') (hM : ∀ j, Ft f ap az al ak j → ¬ M j) : FoM w' B f n S K ap az al ak cp cz cl ck :=
  { h with blk := h.blk.fr g (hM f (.inl rfl)), op := h.op.fr g (fun k hk => hM k (.inr (.inl hk))), oz := h.oz.fr g (fun k hk => hM k (.inr (.inr (.inl hk)))), ol := h.ol.fr g (fun k hk => hM k (.inr (.inr (.inr (.inl hk))))), ok := h.ok.fr g (fun k hk => hM k (.inr (.inr (.inr (.inr hk))))) }
theorem Fo.fr {w w' : World} {B f n : Nat} {N M : Nat → Prop} {S : FS} {K : List Chg} (h : Fo w B N f n S K) (g : Fr M w w') (hM : ∀ j, N j → ¬ M j) : Fo w' B N f n S K := by
  obtain ⟨ap, az, al, ak, cp, cz, cl, ck, h1, h2⟩ := h
  exact ⟨ap, az, al, ak, cp, cz, cl, ck, h1.fr g (fun j hj => hM j (h2 j hj)), h2⟩
theorem Fo.fr0 {w w' : World} {B f n : Nat} {N : Nat → Prop} {S : FS} {K : List Chg} (h : Fo w B N f n S K) (g : Fr F0 w w') : Fo w' B N f n S K := h.fr g (fun _ _ => id)
/-- The steps to the root. -/
def RtD (P : List Nat) : Nat → Nat → Nat → Prop
  | 0, v, r => P[v]? = some v ∧ v = r
  | d + 1, v, r => ∃ u, P[v]? = some u ∧ u ≠ v ∧ RtD P d u r
theorem Rt.steps {P : List Nat} {v r : Nat} (h : Rt P v r) : ∃ d, RtD P d v r := by
  induction h with
  | root h => exact ⟨0, h, rfl⟩
  | up h1 h2 _ ih => obtain ⟨d, hd⟩ := ih; exact ⟨d + 1, _, h1, h2, hd⟩
def dpf (P : List Nat) : Nat → Nat → Nat
  | 0, _ => 0
  | k + 1, v => if P[v]? = some v then 0 else dpf P k (P.getD v 0) + 1
theorem dpf_eq {P : List Nat} : ∀ {d v r : Nat}, RtD P d v r → ∀ F, d ≤ F → dpf P F v = d
  | 0, v, r, h, F, _ => by
    cases F with
    | zero => rfl
    | succ F => unfold dpf; rw [if_pos h.1]
  | d + 1, v, r, h, F, hF => by
    obtain ⟨u, h1, h2, h3⟩ := h
    cases F with
    | zero => omega
    | succ F =>
      unfold dpf
      rw [if_neg (by rw [h1]; intro e; injection e with e; exact h2 e), List.getD_eq_getElem?_getD, h1]
      show dpf P F u + 1 = d + 1
      rw [dpf_eq h3 F (by omega)]
set_option maxHeartbeats 1000000 in
theorem root_any {w : World} {B f n : Nat} {N : Nat → Prop} {S : FS} {K : List Chg} {v r : Nat} (h : Fo w B N f n S K) (hn : n ≤ 1000) (hr : Rt S.P v r) :
    Calls Try.prog 42 #[.pointer (some ⟨f, 0, none⟩), .int .i64 v] w fun e w' => e = .returned (.int .i64 (r : Int)) ∧ w = w' := by
  obtain ⟨ap, az, al, ak, cp, cz, cl, ck, h, _⟩ := h
  obtain ⟨D, hD⟩ := hr.steps
  have hPl : S.P.length = n := by have := h.op.len; rwa [nv_len] at this
  have x0 := h.blk.cell (i := 0) rfl
  have HD := Lib.hid hD
  have HP := Lib.hid hPl
  have HO := Lib.hid h.op
  clear h hr hD hPl
  go_enter Try.func42, Try.ntmps42
  go_wp2_with fail
  go_loop [1] (fun i => ∃ (u d : Nat), i = .int .i64 u ∧ d ≤ D ∧ Hid (RtD S.P d u r)) (fun i => dpf S.P D (intOf i).toNat)
  case atStart => exact ⟨v, D, rfl, Nat.le_refl _, HD⟩
  case round =>
    obtain ⟨u, d, rfl, hd, hR⟩ := hrel
    have hdp : Hid (dpf S.P D u = d) := Lib.hid (dpf_eq hR.out D hd)
    cases d with
    | zero =>
      have hR0 := hR.out
      obtain ⟨h1, h2⟩ := hR0
      subst h2
      have hul : u < n := by have := (List.getElem?_eq_some_iff.1 h1).1; have := HP.out; omega
      obtain ⟨g, rfl, _, _, hc, _⟩ := HO.out.at (by omega)
      have c0 := hc u _ (nv_get h1)
      clear hc h1 hR
      go_wp2_with fail
      go_ret
      exact ⟨rfl, rfl⟩
    | succ d =>
      have hR0 := hR.out
      obtain ⟨t, h1, h2, h3⟩ := hR0
      have hul : u < n := by have := (List.getElem?_eq_some_iff.1 h1).1; have := HP.out; omega
      obtain ⟨g, rfl, _, _, hc, _⟩ := HO.out.at (by omega)
      have c0 := hc u _ (nv_get h1)
      have ne : ((t : Int) != (u : Int)) = true := by simp; omega
      have H3 := Lib.hid h3
      have hdt : Hid (dpf S.P D t = d) := Lib.hid (dpf_eq h3 D (by omega))
      clear hc h1 hR h2 h3
      go_wp2_with fail
      go_round
      case rel => exact ⟨t, d, rfl, by omega, H3⟩
      case measure => simp [intOf]; rw [hdp.out, hdt.out]; omega
theorem unknown_any {w : World} {B f n : Nat} {N : Nat → Prop} {S : FS} {K : List Chg} (v : Int) (h : Fo w B N f n S K) :
    Calls Try.prog 48 #[.pointer (some ⟨f, 0, none⟩), .int .i64 v] w fun e w' => e = .returned (.bool (decide (v < 0) || decide ((n : Int) ≤ v))) ∧ w = w' := by
  obtain ⟨ap, az, al, ak, cp, cz, cl, ck, h, _⟩ := h
  have x0 := h.blk.cell (i := 0) rfl
  clear h
  by_cases c : v < 0
  · have E : Hid ((decide (v < 0) || decide ((n : Int) ≤ v)) = true) := Lib.hid (by simp [c])
    go_enter Try.func48, Try.ntmps48
    go_wp2_with fail
    go_ret
    exact ⟨ret_bool E.out.symm, rfl⟩
  · have E : Hid ((decide (v < 0) || decide ((n : Int) ≤ v)) = decide ((n : Int) ≤ v)) := Lib.hid (by simp [c])
    go_enter Try.func48, Try.ntmps48
    go_wp2_with fail
    go_ret
    exact ⟨ret_bool E.out.symm, rfl⟩
theorem Count_any {w : World} {B f n : Nat} {N : Nat → Prop} {S : FS} {K : List Chg} (h : Fo w B N f n S K) :
    Calls Try.prog 24 #[.pointer (some ⟨f, 0, none⟩)] w fun e w' => e = .returned (.int .i64 (S.c : Int)) ∧ w = w' := by
  obtain ⟨ap, az, al, ak, cp, cz, cl, ck, h, _⟩ := h
  have x3 := h.blk.cell (i := 3) rfl
  clear h
  go_enter Try.func24, Try.ntmps24
  go_wp2_with fail
  go_ret
  exact ⟨rfl, rfl⟩
theorem Depth_any {w : World} {B f n : Nat} {N : Nat → Prop} {S : FS} {K : List Chg} (h : Fo w B N f n S K) :
    Calls Try.prog 31 #[.pointer (some ⟨f, 0, none⟩)] w fun e w' => e = .returned (.int .i64 (K.length : Int)) ∧ w = w' := by
  obtain ⟨ap, az, al, ak, cp, cz, cl, ck, h, _⟩ := h
  have x3 := h.blk.cell (i := 4) rfl
  clear h
  go_enter Try.func31, Try.ntmps31
  go_wp2_with fail
  go_ret
  exact ⟨rfl, rfl⟩
end Go.Proofs.Ytihcaemheknjbaa
