/- Solve. -/
import Derived.Test.YtihcaemheknjbaaF18
import Derived.BigQuiet
namespace Go.Proofs.Ytihcaemheknjbaa
open Go.RowKit
attribute [local go_sem ↓] Go.wp_at_zero Go.wp_at_succ
theorem FoM.low {w : World} {B C f n : Nat} {S : FS} {K : List Chg} {ap az al ak : Option Addr} {cp cz cl ck : Nat} (hC : C ≤ B) (h : FoM w B f n S K ap az al ak cp cz cl ck) : FoM w C f n S K ap az al ak cp cz cl ck :=
  { h with op := h.op.mono hC, oz := h.oz.mono hC, ol := h.ol.mono hC, ok := OwnZ.mono h.ok hC, hB := Nat.le_trans hC h.hB }
theorem Fh.low {w : World} {B C f n : Nat} {N : Nat → Prop} {ps : List (List Nat)} {p : List Nat} (hC : C ≤ B) (h : Fh w B N f n ps p) : Fh w C (fun k => N k ∧ k < w.heap.size) f n ps p := by
  obtain ⟨S, K, ⟨ap, az, al, ak, cp, cz, cl, ck, h1, h2⟩, h3⟩ := h
  exact ⟨S, K, ⟨ap, az, al, ak, cp, cz, cl, ck, h1.low hC, fun j hj => ⟨h2 j hj, (h1.lt hj).2⟩⟩, h3⟩
theorem readS_ok {n : Int} {l : List Ev} {out : List Iv} (h : readS n l = some out) : (∀ (i : Nat) (x : Ev), l[i]? = some x → okE n.toNat x = true) ∧ 1 ≤ n ∧ n ≤ 1000 ∧ l.length ≤ 2000 := by
  unfold readS at h
  split at h
  · rename_i c
    refine ⟨fun i x hx => ?_, c.1, c.2.1, c.2.2⟩
    cases h1 : rdS n.toNat l.length l with
    | none => rw [h1] at h; cases h
    | some s =>
      have e : l = l.take (i + 1) ++ l.drop (i + 1) := (List.take_append_drop _ _).symm
      rw [e] at h1
      rw [← e] at h1
      have h2 : rdS n.toNat l.length (l.take (i + 1) ++ l.drop (i + 1)) = some s := by rw [← e]; exact h1
      obtain ⟨s', h3⟩ := rdS_pre h2
      rw [take_snoc hx, rdS_snoc] at h3
      cases h4 : rdS n.toNat l.length (l.take i) with
      | none => rw [h4] at h3; cases h3
      | some s0 =>
        rw [h4] at h3
        change stq n.toNat l.length s0 x = some s' at h3
        unfold stq at h3
        split at h3
        · assumption
        · cases h3
  · cases h
/-- What Solve leaves. -/
def SoP (w : World) (n N : Nat) (l : List Ev) (o : Option (List Iv)) (e : Ending) (w' : World) : Prop := match o with
  | none => e = .returned (.tuple #[.slice none 0 0, .slice none 0 0, .int .i64 1]) ∧ Fr F0 w w'
  | some out => ∃ (P : Nat → List Iv) (aA : Option Addr) (cA : Nat) (aC : Option Addr) (cC : Nat) (A : List Bool) (C : List Nat),
      e = .returned (.tuple #[.slice aA A.length cA, .slice aC C.length cC, .int .i64 0]) ∧ Own w' 0 4 aA A.length cA (bls A) ∧ Own w' 0 3 aC C.length cC (nv C) ∧
      (∀ i, i < N → ∀ y, y ∈ P i ↔ (y ∈ out ∧ y.2.2.1 ≤ i ∧ i < y.2.2.2)) ∧ A = (List.range N).flatMap (fun i => leafA l ((P i).foldl joinE (List.range n)) i) ∧ C = (List.range N).map (fun i => cntP ((P i).foldl joinE (List.range n))) ∧ Fr F0 w w'
theorem flatMap_one {α β : Type} (g : α → β) : ∀ xs : List α, xs.flatMap (fun i => [g i]) = xs.map g
  | [] => rfl
  | x :: xs => by rw [List.flatMap_cons, flatMap_one g xs]; rfl
set_option maxRecDepth 100000 in
set_option maxHeartbeats 8000000 in
theorem Solve_any {w : World} {a : Option Addr} {N c : Nat} {n : Int} {l : List Ev} (hl : ArgE w a N c l) : Calls Try.prog 11 #[.int .i64 n, .slice a N c] w (SoP w n.toNat N l (readS n l)) := by
  have hmf : ∀ (fn : Fn) (first cap : Array Value) (w : World), (Instr.makeFunc fn first cap).run Try.prog w = .ok (.func fn first cap) w := fun _ _ _ _ => rfl
  obtain ⟨wb, hwb⟩ : ∃ wb, w.alloc (.cells #[.slice a N c] 22) = wb := ⟨_, rfl⟩
  obtain ⟨bl, hbl⟩ : ∃ b, w.heap.size = b := ⟨_, rfl⟩
  have FB : Fr F0 w wb := by rw [← hwb]; exact (Fr.refl _ _).alloc _
  have XL : One wb bl 22 (.slice a N c) := by rw [← hwb, ← hbl]; exact One.new 22 _
  have hsb : wb.heap.size = bl + 1 := by rw [← hwb, ← hbl]; simp
  have HSg := Lib.hid (segments_any (n := n) (hl.fr0 FB))
  have HFB := Lib.hid FB
  have HXL := Lib.hid XL
  have Hsb := Lib.hid (And.intro hsb hbl)
  have HL := Lib.hid hl
  have xl := XL.cell
  cases h : readS n l with
  | none =>
    rw [h] at HSg
    clear h hl FB XL hsb
    go_enter Try.func11, Try.ntmps11
    go_wp2_with fail
    refine HSg.out.mono ?_
    rintro e w1 ⟨rfl, F1⟩
    have G1 := Lib.hid (HFB.out.trans0 F1)
    clear F1
    go_wp2_with fail
    go_ret3
    exact ⟨rfl, G1.out⟩
  | some out =>
    rw [h] at HSg
    obtain ⟨hok, hn1, hn2, hN2⟩ := readS_ok h
    have hlen := readS_len h
    have hbd := readS_bd h
    obtain ⟨m, rfl⟩ := Int.eq_ofNat_of_zero_le (show 0 ≤ n by omega)
    rw [Int.toNat_natCast] at hok ⊢
    have hm1 : 1 ≤ m := by omega
    have hm2 : m ≤ 1000 := by omega
    rw [hl.len] at hN2 hlen
    have HOK := Lib.hid hok
    have HBD := Lib.hid hbd
    have HN := Lib.hid hN2
    have HLN := Lib.hid hlen
    clear h hl FB XL hsb hok hbd hn1 hn2 hN2 hlen
    go_enter Try.func11, Try.ntmps11
    go_wp2_with fail
    refine HSg.out.mono ?_
    rintro e w1 ⟨T, rfl, tT, sT, mT, pT, F1⟩
    have HT := Lib.hid tT
    have HS := Lib.hid sT
    have HM := Lib.hid mT
    have HP := Lib.hid pT
    have HF1 := Lib.hid F1
    clear tT sT mT pT F1 HSg xl hwb hbl
    obtain ⟨pt, hpt⟩ : ∃ v, v = T.adr := ⟨_, rfl⟩
    unfold Sg.ptr
    rw [← hpt]
    have Hpt := Lib.hid hpt
    have HNF := Lib.hid (NewForest_h m w1 hm1 hm2)
    clear hpt
    go_wp2_with fail
    refine HNF.out.mono ?_
    rintro e w2 ⟨f, rfl, hF, F2⟩
    have HF := Lib.hid (hF.low (Nat.zero_le _))
    have HF2 := Lib.hid F2
    clear hF F2 HNF
    obtain ⟨bf, hbf⟩ : ∃ b, w2.heap.size = b := ⟨_, rfl⟩
    obtain ⟨w3, hw3⟩ : ∃ w3, w2.alloc (.cells #[.pointer (some ⟨f, 0, none⟩)] 46) = w3 := ⟨_, rfl⟩
    obtain ⟨ba, hba⟩ : ∃ b, w3.heap.size = b := ⟨_, rfl⟩
    obtain ⟨w4, hw4⟩ : ∃ w4, w3.alloc (.cells #[.slice none 0 0] 25) = w4 := ⟨_, rfl⟩
    obtain ⟨bc, hbc⟩ : ∃ b, w4.heap.size = b := ⟨_, rfl⟩
    obtain ⟨w5, hw5⟩ : ∃ w5, w4.alloc (.cells #[.slice none 0 0] 26) = w5 := ⟨_, rfl⟩
    obtain ⟨bv, hbv⟩ : ∃ b, w5.heap.size = b := ⟨_, rfl⟩
    obtain ⟨cl, hcl⟩ : ∃ v, v = Value.func (.func 41) #[] #[.pointer (some ⟨bf, 0, none⟩), .pointer (some ⟨bv, 0, none⟩), .pointer (some ⟨bl, 0, none⟩), .pointer (some ⟨ba, 0, none⟩), .pointer (some ⟨bc, 0, none⟩)] := ⟨_, rfl⟩
    go_wp2_with fail
    obtain ⟨w6, hw6⟩ : ∃ w6, w6 = w5.alloc (.cells #[cl] 78) := ⟨_, rfl⟩
    rw [← hcl, ← hw6]
    have F3 : Fr F0 w2 w3 := by rw [← hw3]; exact (Fr.refl _ _).alloc _
    have F4 : Fr F0 w3 w4 := by rw [← hw4]; exact (Fr.refl _ _).alloc _
    have F5 : Fr F0 w4 w5 := by rw [← hw5]; exact (Fr.refl _ _).alloc _
    have F6 : Fr F0 w5 w6 := by rw [hw6]; exact (Fr.refl _ _).alloc _
    have X3 : One w3 bf 46 (.pointer (some ⟨f, 0, none⟩)) := by rw [← hw3, ← hbf]; exact One.new 46 _
    have X4 : One w4 ba 25 (.slice none 0 0) := by rw [← hw4, ← hba]; exact One.new 25 _
    have X5 : One w5 bc 26 (.slice none 0 0) := by rw [← hw5, ← hbc]; exact One.new 26 _
    have X6 : One w6 bv 78 cl := by rw [hw6, ← hbv]; exact One.new 78 _
    have z3 : w3.heap.size = bf + 1 := by rw [← hw3, ← hbf]; simp
    have z4 : w4.heap.size = ba + 1 := by rw [← hw4, ← hba]; simp
    have z5 : w5.heap.size = bc + 1 := by rw [← hw5, ← hbc]; simp
    have z6 : w6.heap.size = bv + 1 := by rw [hw6, ← hbv]; simp
    have zb := Hsb.out
    have s1 := HF1.out.size
    have s2 := HF2.out.size
    have F26 : Fr F0 w2 w6 := ((F3.trans0 F4).trans0 F5).trans0 F6
    have F16 : Fr F0 w1 w6 := HF2.out.trans0 F26
    have Fb6 : Fr F0 wb w6 := HF1.out.trans0 F16
    have Fw6 : Fr F0 w w6 := HFB.out.trans0 Fb6
    obtain ⟨col, hcol⟩ : ∃ col : Nat → Nat, col = fun k => if k = bl then 3 else if k < wb.heap.size then 0 else if k < w1.heap.size then 9 else if k < w2.heap.size then 6 else if k = bf then 1 else if k = bv then 2 else if k = ba then 4 else if k = bc then 5 else 10 := ⟨_, rfl⟩
    have V : VS w6 col bf bv bl ba bc f m a N c l (fun k => w1.heap.size ≤ k ∧ k < w2.heap.size) [] (List.range m) [] [] none 0 none 0 := by
      refine ⟨X3.fr ((F4.trans0 F5).trans0 F6) id, by rw [← hcl]; exact X6, HXL.out.fr Fb6 id, X4.fr (F5.trans0 F6) id, X5.fr F6 id, HF.out.fr0 F26, Own.nil _ _ _, Own.nil _ _ _, HL.out.fr0 Fw6, ?_, ?_, ?_, ?_, ?_, ?_, fun k hk => absurd hk (onBlk_none _), fun k hk => absurd hk (onBlk_none _), ?_⟩
      · rw [hcol]; dsimp only; rw [if_neg (by omega), if_neg (by omega), if_neg (by omega), if_neg (by omega), if_pos rfl]
      · rw [hcol]; dsimp only; rw [if_neg (by omega), if_neg (by omega), if_neg (by omega), if_neg (by omega), if_neg (by omega), if_pos rfl]
      · rw [hcol]; dsimp only; rw [if_pos rfl]
      · rw [hcol]; dsimp only; rw [if_neg (by omega), if_neg (by omega), if_neg (by omega), if_neg (by omega), if_neg (by omega), if_neg (by omega), if_pos rfl]
      · rw [hcol]; dsimp only; rw [if_neg (by omega), if_neg (by omega), if_neg (by omega), if_neg (by omega), if_neg (by omega), if_neg (by omega), if_neg (by omega), if_pos rfl]
      · intro k hk
        refine ⟨?_, by omega⟩
        rw [hcol]; dsimp only; rw [if_neg (by omega), if_neg (by omega), if_neg (by omega), if_pos (by omega)]
      · intro k h0 hk
        have hkl : k < w.heap.size := by
          obtain ⟨x, hx⟩ : ∃ x, l[0]? = some x := ⟨_, List.getElem?_eq_getElem (by rw [HL.out.len]; exact h0)⟩
          obtain ⟨b, o, rfl, h1, _⟩ := HL.out.cells 0 x hx
          have := (onBlk_some _ _ _ _).1 hk
          subst this
          exact World.block_lt_of_cell? _ _ h1
        refine ⟨?_, by omega⟩
        rw [hcol]; dsimp only; rw [if_neg (by omega), if_pos (by omega)]
    have hNT : ∀ k, (wb.heap.size ≤ k ∧ k < w1.heap.size) → col k = 9 ∧ k < w6.heap.size := fun k hk => by
      refine ⟨?_, by omega⟩
      rw [hcol]; dsimp only; rw [if_neg (by omega), if_neg (by omega), if_pos (by omega)]
    have hmv : Hid (∀ k, k < w.heap.size → ¬ Mv col k) := Lib.hid (fun k hk hm => by
      unfold Mv at hm
      rw [hcol] at hm
      dsimp only at hm
      rw [if_neg (by omega), if_pos (by omega)] at hm
      omega)
    have hpe : ∀ i z, z ∈ pathE T i → z.1 < m ∧ z.2.1 < m := fun i z hz => by
      by_cases hi : i < N
      · have := HBD.out z ((HP.out i hi z).1 hz).1
        omega
      · rw [pathE_out HS.out (by omega)] at hz; cases hz
    have key := visit_any hm2 HOK.out T w6 col _ _ [] (List.range m) [] [] none 0 none 0 0 N V (TM.fr0 F16 (HT.out.low (Nat.zero_le _))) hNT HS.out (Nat.le_refl _) hpe (by have := HM.out; have := HLN.out; simp; omega) (by have := HN.out; simp; omega) (by have := HN.out; simp; omega)
    unfold Sg.ptr at key
    rw [← Hpt.out, List.nil_append, List.nil_append] at key
    refine key.mono ?_
    rintro e w7 ⟨rfl, col', NF', aA, cA, aC, cC, V7, G7⟩
    have HFr := Lib.hid (Fw6.trans G7.fr (fun k hk h => hmv.out k hk h))
    have HV := Lib.hid V7
    have t1 := V7.xa.cell
    have t2 := V7.xc.cell
    clear V7 G7 key V hNT hpe F3 F4 F5 F6 X3 X4 X5 X6 z3 z4 z5 z6 zb s1 s2 F26 F16 Fb6 Fw6 hcol hw3 hw4 hw5 hw6 hbf hba hbc hbv hcl hmf
    go_wp2_with fail
    go_quiet (fail)
    go_wp2_with fail
    go_ret3
    refine ⟨pathE T, aA, cA, aC, cC, visA l (List.range m) T, visC (List.range m) T, rfl, HV.out.oa.fr0 ((Fr.refl _ _).drewN _), HV.out.oc.fr0 ((Fr.refl _ _).drewN _), HP.out, ?_, ?_, HFr.out.drewN _⟩
    · rw [visA_flat l T _ 0 N HS.out, Nat.sub_zero, ← List.range_eq_range']
    · rw [visC_flat T _ 0 N HS.out, Nat.sub_zero, ← List.range_eq_range']
      exact flatMap_one (fun i => cntP ((pathE T i).foldl joinE (List.range m))) (List.range N)
end Go.Proofs.Ytihcaemheknjbaa
