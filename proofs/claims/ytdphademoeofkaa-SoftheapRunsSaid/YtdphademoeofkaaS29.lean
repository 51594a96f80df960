/- melded. -/
import Derived.Test.YtdphademoeofkaaS28
import Derived.Test.YtdphademoeofkaaS15
namespace Go.Proofs.Ytdphademoeofkaa
open Go.RowKit
attribute [local go_sem ↓] Go.wp_at_zero Go.wp_at_succ
/-- The other heap, while it is filled. -/
def Ml1 (w0 : World) (rate ob : Nat) (j : Nat) (s12 : Value) (wr : World) : Prop :=
  ∃ other a12 c12 ts own I T, s12 = .slice a12 other.length c12 ∧ Hp wr ob rate ts own I T ∧ KN rate other own ts I ∧ Ks wr a12 c12 other ∧ (∀ q, onBlk a12 q → ¬ T q ∧ w0.heap.size ≤ q) ∧ (∀ q, T q → w0.heap.size ≤ q) ∧ Fr F0 w0 wr ∧ other.length ≤ j
/-- The list of all items, while it is made. -/
def Ml2 (wM : World) (all : List It) (s19 : Value) (wr : World) : Prop :=
  ∃ aA cA, s19 = .slice aA all.length cA ∧ Ks wr aA cA all ∧ (∀ q, onBlk aA q → wM.heap.size ≤ q) ∧ Fr F0 wM wr ∧ (all.length = 0 → aA = none ∧ cA = 0)
theorem Ml2.cast {wM wr : World} {a b : List It} {v : Value} (h : Ml2 wM a v wr) (e : a = b) : Ml2 wM b v wr := e ▸ h
def MelP (w : World) (hb rate : Nat) (l : List It) (T : Nat → Prop) (e : Ending) (w' : World) : Prop :=
  ∃ l' ts' own' I' T' a' c', e = .returned (.tuple #[.slice a' l'.length c', .bool true]) ∧ Hp w' hb rate ts' own' I' T' ∧ KN rate l' own' ts' I' ∧ Ks w' a' c' l' ∧ (∀ q, onBlk a' q → ¬ T' q ∧ w.heap.size ≤ q) ∧ Fr T w w' ∧ (∀ q, T' q → T q ∨ w.heap.size ≤ q) ∧ l'.length ≤ l.length + 20 ∧ (l'.length = 0 → a' = none ∧ c' = 0)
theorem Mt.take {l : List It} {I : List (Option Nat)} (h : Mt l I) (j : Nat) : Mt (l.take j) (I.take j) := by
  unfold Mt at *
  rw [List.map_take, List.map_take, h]
theorem names_out {I : List (Option Nat)} {m i : Nat} (h : I[i]? = some none) : (names m I)[i]? = some (-1) := by
  induction I generalizing m i with
  | nil => simp at h
  | cons x I ih =>
    cases i with
    | zero =>
      simp at h
      subst h
      rfl
    | succ i =>
      simp at h
      cases x <;> simp [names, ih h]
/-- The name of an item: the next number, or none. -/
theorem KN.name {r : Nat} {l : List It} {own : List Int} {ts : List Tr} {I : List (Option Nat)} (K : KN r l own ts I) {j : Nat} {x : It} (hx : l[j]? = some x) (m : Nat) : (names m I)[j]? = some (if x.inn = true then ((m + ((l.take j).filter It.inn).length : Nat) : Int) else -1) := by
  have hM := K.mt
  have hlt := (List.getElem?_eq_some_iff.1 hx).1
  have hI : j < I.length := by rw [K.len]; exact hlt
  have e : some x.inn = some (I[j]).isSome := by
    have h1 : (l.map It.inn)[j]? = (I.map Option.isSome)[j]? := by rw [hM]
    rw [List.getElem?_map, hx, List.getElem?_map, List.getElem?_eq_getElem hI] at h1
    exact h1
  cases hIj : I[j] with
  | none =>
    rw [hIj] at e
    have e : x.inn = false := by injection e
    rw [e, names_out (by rw [List.getElem?_eq_getElem hI, hIj])]
    rfl
  | some b =>
    rw [hIj] at e
    have e : x.inn = true := by injection e
    rw [e, names_get (by rw [List.getElem?_eq_getElem hI, hIj]), (hM.take j).sel.2.2]
    rfl
set_option maxRecDepth 100000 in
set_option maxHeartbeats 8000000 in
theorem melded_any {w : World} {hb rate : Nat} {ts : List Tr} {own : List Int} {I : List (Option Nat)} {T : Nat → Prop} {l : List It} {a : Option Addr} {c : Nat} (h : Hp w hb rate ts own I T) (K : KN rate l own ts I) (hk : Ks w a c l) (hT : ∀ q, onBlk a q → ¬ T q) (hl : l.length ≤ 1500) (hz : l.length = 0 → a = none ∧ c = 0)
    {kind key : Int} {aL : Option Addr} {nL cL : Nat} {L : List Int} (hR : Rd w aL nL (ints L)) (hn : nL ≤ 20) :
    Calls Try.prog 20 #[.pointer (some ⟨hb, 0, none⟩), .slice a l.length c, .int .i64 rate, .agg #[.int .i64 kind, .int .i64 key, .slice aL nL cL]] w (MelP w hb rate l T) := by
  have hr20 := h.ilen.2.2.2
  have HH := Lib.hid h
  have HK := Lib.hid K
  have Hk := Lib.hid hk
  have HT := Lib.hid hT
  have Hl := Lib.hid hl
  have Hz := Lib.hid hz
  have HR := Lib.hid hR
  have hLl : Hid (L.length = nL) := Lib.hid (by simpa using hR.len)
  clear h K hk hT hz hR
  go_enter Try.func20, Try.ntmps20
  go_wp2_with fail
  have FA : Hid (Fr F0 w (w.alloc (.cells #[.int .i64 kind, .int .i64 key, .slice aL nL cL] 42))) := Lib.hid ((Fr.refl _ _).alloc _)
  have BA : Hid (Blk (w.alloc (.cells #[.int .i64 kind, .int .i64 key, .slice aL nL cL] 42)) w.heap.size 42 [.int .i64 kind, .int .i64 key, .slice aL nL cL]) := Lib.hid (Blk.new w 42 _)
  have hsA := size_alloc w (.cells #[.int .i64 kind, .int .i64 key, .slice aL nL cL] 42)
  generalize w.alloc (.cells #[.int .i64 kind, .int .i64 key, .slice aL nL cL] 42) = w0 at *
  refine (New_ok w0 hr20).mono ?_
  rintro e w1 ⟨ob, rfl, hHp, hF, hob⟩
  have H0 : Hid (Ml1 w0 rate ob 0 (.slice none 0 0) w1) := Lib.hid ⟨[], none, 0, [], [], [], _, rfl, hHp, KN.nil rate, Ks.nil _, fun q hq => absurd hq (onBlk_none _), fun q (e : q = ob) => by omega, hF, Nat.le_refl _⟩
  have c2 : w1.cell? ⟨w.heap.size, 2, none⟩ = some (.slice aL nL cL) := hF.cell (BA.out.cell (i := 2) rfl) id
  clear hHp hF hob
  go_wp2_with fail
  go_loopw [38, 12] (fun s38 s12 wr => ∃ j : Nat, j ≤ nL ∧ s38 = .int .i64 j ∧ Hid (Ml1 w0 rate ob j s12 wr)) (fun s38 _ _ => nL - (intOf s38).toNat)
  case atStart => exact ⟨0, by omega, rfl, H0⟩
  case round =>
    obtain ⟨j, hj, rfl, HM⟩ := hrel
    by_cases hlt : j < nL
    · obtain ⟨other, a12, c12, tsB, ownB, IB, TB, rfl, hHp, hKN, hKs, hd, hTB, hF, hle⟩ := HM.out
      obtain ⟨g, o, k, rfl, hk, ck⟩ := ((HR.out.fr0 FA.out).fr0 hF).ix hlt
      have hol := hKN.ol
      have HHp := Lib.hid hHp
      have HKN := Lib.hid hKN
      have HKs := Lib.hid hKs
      have Hd := Lib.hid hd
      have HTB := Lib.hid hTB
      have HF := Lib.hid hF
      clear hHp hKN hKs hd hTB hF hk
      by_cases hkey : -1048576 ≤ k ∧ k ≤ 1048576
      · have HKy : Hid (∀ w', Calls Try.prog 10 #[.int .i64 k] w' fun e w'' => e = .returned (.bool true) ∧ w' = w'') := Lib.hid (fun w' => by have := key_any w' k; rwa [decide_eq_true hkey] at this)
        have HIn := Lib.hid (Insert_ok HHp.out hkey.1 hkey.2 (by omega))
        have Hol := Lib.hid hol
        obtain ⟨n12, hn12⟩ : ∃ n12, n12 = other.length := ⟨_, rfl⟩
        have Hn12 := Lib.hid hn12.symm
        rw [← hn12] at hle ⊢
        clear hkey hol hn12
        go_wp2_with fail
        refine HIn.out.mono ?_
        rintro e w2 ⟨bx, ts', I', T', rfl, hHp2, hAd, hF2, hT2⟩
        rw [Hol.out, Hn12.out]
        have HHp2 := Lib.hid hHp2
        have HF2 := Lib.hid hF2
        have HT2 := Lib.hid hT2
        have HKN2 := Lib.hid (HKN.out.ins hAd)
        have HKs2 := Lib.hid (OwnW.fr HKs.out hF2 (fun q hq e => (Hd.out q hq).1 e))
        clear hHp2 hAd hF2 hT2
        go_wp2_with fail
        refine (HKy.out _).mono ?_
        rintro e w3 ⟨rfl, rfl⟩
        go_wp2_with ((at_builtin; refine wpAppI1 HKs2.out Hn12.out (by omega) (⟨k, k, true⟩ : It) rfl rfl ?_; intro a6 c6 w6 own6 fr6 at6; have O6 := Lib.hid own6; have F6 := Lib.hid fr6; have A6 := Lib.hid at6; clear own6 fr6 at6))
        go_roundw
        case rel =>
          refine ⟨j + 1, by omega, by go_num, Lib.hid ⟨other ++ [⟨k, k, true⟩], a6, c6, ts', _, I', T', by rw [List.length_append, Hn12.out]; rfl, HHp2.out.fr F6.out (fun q hq e => ?_), HKN2.out, O6.out, fun q hq => ?_, fun q hq => ?_, (HF.out.trans HF2.out (fun q hq e => by have := HTB.out q e; omega)).trans F6.out (fun q hq e => by have := (Hd.out q e).2; omega), by rw [List.length_append, Hn12.out]; simp; omega⟩⟩
          · have h1 := (OwnW.blk HKs.out q e).2
            rcases HT2.out q hq with h | h
            · exact (Hd.out q e).1 h
            · omega
          · have hs1 := HF.out.size
            have hs2 := HF2.out.size
            rcases A6.out q hq with e | e
            · refine ⟨fun h => ?_, (Hd.out q e).2⟩
              have h1 := (OwnW.blk HKs.out q e).2
              rcases HT2.out q h with h | h
              · exact (Hd.out q e).1 h
              · omega
            · refine ⟨fun h => ?_, by omega⟩
              have := HHp2.out.lt q h
              omega
          · have hs1 := HF.out.size
            rcases HT2.out q hq with h | h
            · exact HTB.out q h
            · omega
        case measure => simp [intOf]; omega
      · have HKy : Hid (∀ w', Calls Try.prog 10 #[.int .i64 k] w' fun e w'' => e = .returned (.bool false) ∧ w' = w'') := Lib.hid (fun w' => by have := key_any w' k; rwa [decide_eq_false hkey] at this)
        have HIn := Lib.hid (Insert_bad (w := wr) (hb := ob) (k := k) (by omega))
        clear hkey hol
        go_wp2_with fail
        refine HIn.out.mono ?_
        rintro e w2 ⟨rfl, rfl⟩
        go_wp2_with fail
        refine (HKy.out _).mono ?_
        rintro e w3 ⟨rfl, rfl⟩
        go_wp2_with fail
        go_round
        case rel => exact ⟨j + 1, by omega, by go_num, Lib.hid ⟨other, a12, c12, tsB, ownB, IB, TB, rfl, HHp.out, HKN.out, HKs.out, Hd.out, HTB.out, HF.out, by omega⟩⟩
        case measure => simp [intOf]; omega
    · obtain ⟨other, a12, c12, tsB, ownB, IB, TB, rfl, hHp, hKN, hKs, hd, hTB, hF, hle⟩ := HM.out
      have HHp := Lib.hid hHp
      have HKN := Lib.hid hKN
      have HKs := Lib.hid hKs
      have Hd := Lib.hid hd
      have HTB := Lib.hid hTB
      have HF := Lib.hid hF
      have c1 : wr.cell? ⟨w.heap.size, 1, none⟩ = some (.int .i64 key) := hF.cell (BA.out.cell (i := 1) rfl) id
      clear hHp hKN hKs hd hTB hF
      have hle20 : other.length ≤ 20 := by omega
      clear hle
      by_cases hk0 : key = 0
      · subst hk0
        go_wp2_with fail
        refine (looks_any HHp.out HKN.out HKs.out (fun q hq e => (Hd.out q hq).1 e)).mono ?_
        rintro e w3 ⟨rfl, other2, hl2, hKN2, hKs2, hF3⟩
        have HHp3 := Lib.hid (HHp.out.fr hF3 (fun q hq e => (Hd.out q e).1 hq))
        have HKN3 := Lib.hid hKN2
        have HKs3 := Lib.hid hKs2
        have HF3 := Lib.hid (HF.out.trans hF3 (fun q hq e => by have := (Hd.out q e).2; omega))
        clear hKN2 hKs2 hF3 HHp HKN HKs HF
        obtain ⟨n2, hn2⟩ : ∃ n2, n2 = other2.length := ⟨_, rfl⟩
        have Hn2 := Lib.hid hn2.symm
        have Hl2 := Lib.hid hl2
        have hle3 : n2 ≤ 20 := by omega
        rw [← hl2, ← hn2]
        clear hn2 hl2
        have FW3 : Hid (Fr F0 w w3) := Lib.hid (FA.out.trans0 HF3.out)
        have hTA : Hid (∀ q, T q → ¬ TB q) := Lib.hid (fun q hq e => by have := HH.out.lt q hq; have := HTB.out q e; omega)
        have HMd := Lib.hid (Meld_ok (HH.out.fr FW3.out (fun _ _ => id)) HHp3.out hTA.out (by rw [HK.out.ol, HKN3.out.ol, Hn2.out]; have := Hl.out; omega))
        go_wp2_with fail
        refine HMd.out.mono ?_
        rintro e w4 ⟨ab, cb, tsF, IF, TF, rfl, hHF, hAds, hHo, hOb, hab, hF4, hTF⟩
        have HKF := Lib.hid (HK.out.md HKN3.out hAds)
        have hmb : ownB.length = n2 := by rw [HKN3.out.ol, Hn2.out]
        rw [hmb] at hOb ⊢
        have HHF := Lib.hid hHF
        have HHo := Lib.hid hHo
        have HOb := Lib.hid hOb
        have Hab := Lib.hid hab
        have HF4 := Lib.hid hF4
        have HTF := Lib.hid hTF
        have HFT : Hid (Fr T w w4) := Lib.hid (FW3.out.mono (fun _ _ h => h.elim) |>.trans (HF4.out.mono (fun q _ e => e)) (fun q hq e => e.elim id (fun e => by have := HTB.out q e; omega)))
        have HKs4 := Lib.hid (OwnW.fr HKs3.out HF4.out (fun q hq e => e.elim (fun e => by have := HH.out.lt q e; have := (Hd.out q hq).2; omega) (fun e => (Hd.out q hq).1 e)))
        have Hk4 := Lib.hid (OwnW.fr Hk.out HFT.out (fun q hq e => HT.out q hq e))
        have Hs4 := Lib.hid (And.intro FW3.out.size HF4.out.size)
        clear hHF hAds hHo hOb hab hF4 hTF hmb HMd
        go_wp2_with fail
        refine (Len_any HHo.out).mono ?_
        rintro e w5 ⟨rfl, rfl⟩
        go_wp2_with fail
        refine (Inserted_any HHo.out).mono ?_
        rintro e w5 ⟨rfl, rfl⟩
        go_wp2_with fail
        refine (Items_any HHo.out).mono ?_
        rintro e w5 ⟨ai, ci, rfl, _, F5⟩
        have HF5 := Lib.hid F5
        clear F5
        go_wp2_with fail
        refine (CloneI (OwnW.fr0 Hk4.out HF5.out) (by have := Hl.out; omega) Hz.out).mono ?_
        rintro e w6 ⟨aA, cA, rfl, hKA, F6, hAf, hAz⟩
        have H2 : Hid (Ml2 w4 (l ++ (other2.take 0).filter It.inn) (.slice aA l.length cA) w6) := Lib.hid ⟨aA, cA, by simp, by simpa using hKA, fun q hq => by have := hAf q hq; have := HF5.out.size; omega, HF5.out.trans0 F6, by simpa using hAz⟩
        have Hll := Lib.hid HK.out.ol
        clear hKA F6 hAf hAz
        go_wp2_with fail
        go_loopw [117, 19] (fun s117 s19 wr => ∃ j : Nat, j ≤ n2 ∧ s117 = .int .i64 j ∧ Hid (Ml2 w4 (l ++ (other2.take j).filter It.inn) s19 wr)) (fun s117 _ _ => n2 - (intOf s117).toNat)
        case atStart => exact ⟨0, by omega, rfl, H2⟩
        case round =>
          obtain ⟨j, hj, rfl, HM2⟩ := hrel
          by_cases hlt : j < n2
          · obtain ⟨aA, cA, rfl, hKA, hAf, hFA, hAz⟩ := HM2.out
            obtain ⟨x, hx⟩ : ∃ x, other2[j]? = some x := ⟨_, List.getElem?_eq_getElem (by rw [Hn2.out]; exact hlt)⟩
            have hnm := HKN3.out.name hx own.length
            obtain ⟨g, rfl, hg, x0, x1, x2, _⟩ := Ks.at (OwnW.fr0 HKs4.out hFA) hx
            obtain ⟨g2, o2, nmv, rfl, hnv, c2'⟩ := (HOb.out.rd.fr0 hFA).ix hlt
            rw [hnm] at hnv
            have hnv : nmv = _ := (Option.some.inj hnv).symm
            have HKA := Lib.hid hKA
            have HAf := Lib.hid hAf
            have HFA := Lib.hid hFA
            have HAz := Lib.hid hAz
            have Hx := Lib.hid hx
            have e1 : other2.take (j + 1) = other2.take j ++ [x] := by rw [List.take_add_one, hx]; rfl
            have HE := Lib.hid e1
            cases hxn : x.inn with
            | false =>
              rw [hxn] at x2 hnv
              have hnv2 : nmv = -1 := hnv
              clear hnv
              subst hnv2
              have Hxn := Lib.hid hxn
              have c28 : (wr.alloc (.cells #[.int .i64 x.own, .int .i64 x.now, .bool false] 44)).cell? ⟨g2, o2 + j, none⟩ = some (.int .i64 (-1)) := ((Fr.refl F0 wr).alloc _).cell c2' id
              clear hKA hAf hFA hAz hx e1 hnm hxn
              go_wp2_with fail
              go_roundw
              case rel =>
                have ef : (other2.take (j + 1)).filter (It.inn) = (other2.take j).filter (It.inn) := by rw [HE.out, List.filter_append]; simp [Hxn.out]
                exact ⟨j + 1, by omega, by go_num, Lib.hid ⟨aA, cA, by rw [ef], by rw [ef]; exact OwnW.fr0 HKA.out ((Fr.refl F0 wr).alloc _), HAf.out, HFA.out.alloc _, by rw [ef]; exact HAz.out⟩⟩
              case measure => simp [intOf]; omega
            | true =>
              rw [hxn] at x2 hnv
              replace hnv : nmv = ((own.length + ((other2.take j).filter It.inn).length : Nat) : Int) := hnv
              have hal : (l ++ (other2.take j).filter It.inn).length = own.length + ((other2.take j).filter It.inn).length := by rw [List.length_append, Hll.out]
              rw [← hal] at hnv
              have hfl : (l ++ (other2.take j).filter It.inn).length ≤ 2000 := by
                have := List.length_filter_le It.inn (other2.take j)
                rw [List.length_take] at this
                rw [List.length_append]
                have := Hl.out
                omega
              obtain ⟨A, hA⟩ : ∃ A, A = l ++ (other2.take j).filter It.inn := ⟨_, rfl⟩
              have HA := Lib.hid hA
              rw [← hA] at hnv hfl HKA HAz ⊢
              obtain ⟨nA, hnA⟩ : ∃ nA, nA = A.length := ⟨_, rfl⟩
              have HnA := Lib.hid hnA.symm
              rw [← hnA] at hnv hfl ⊢
              subst hnv
              have Hxn := Lib.hid hxn
              have c28 : (wr.alloc (.cells #[.int .i64 x.own, .int .i64 x.now, .bool true] 44)).cell? ⟨g2, o2 + j, none⟩ = some (.int .i64 nA) := ((Fr.refl F0 wr).alloc _).cell c2' id
              have HKA2 : Hid (Ks (wr.alloc (.cells #[.int .i64 x.own, .int .i64 x.now, .bool true] 44)) aA cA A) := Lib.hid (OwnW.fr0 HKA.out ((Fr.refl F0 wr).alloc _))
              clear hKA hAf hFA hAz hx e1 hnm hxn hal hA hnA
              go_wp2_with ((at_builtin; refine wpAppI1 HKA2.out HnA.out (by omega) (⟨x.own, x.now, true⟩ : It) rfl (by first | rfl | (simp; done) | (simp; rfl)) ?_; intro a6 c6 w6' own6 fr6 at6; have O6 := Lib.hid own6; have F6 := Lib.hid fr6; have A6 := Lib.hid at6; clear own6 fr6 at6))
              go_roundw
              case rel =>
                have ex : (⟨x.own, x.now, true⟩ : It) = x := by rw [← Hxn.out]
                have eA : l ++ (other2.take (j + 1)).filter It.inn = A ++ [x] := by rw [HE.out, List.filter_append, HA.out, List.append_assoc]; simp [Hxn.out]
                refine ⟨j + 1, by omega, by go_num, Lib.hid ⟨a6, c6, by rw [eA, List.length_append, HnA.out]; rfl, by rw [eA, ← ex]; exact O6.out, fun q hq => ?_, (HFA.out.alloc _).trans F6.out (fun q hq e => by have := HAf.out q e; omega), fun e => by rw [eA, List.length_append] at e; simp at e⟩⟩
                rcases A6.out q hq with e | e
                · exact HAf.out q e
                · have := HFA.out.size; rw [size_alloc] at e; omega
              case measure => simp [intOf]; omega
          · obtain rfl : n2 = j := by omega
            have et : other2.take n2 = other2 := List.take_of_length_le (by rw [Hn2.out]; exact Nat.le_refl _)
            have H3 := Lib.hid (Ml2.cast HM2.out (b := l ++ other2.filter It.inn ++ ((other2.take 0).filter fun x => !x.inn)) (by rw [et]; simp))
            clear HM2 et
            go_wp2_with fail
            go_loopw [144, 19] (fun s144 s19 wr => ∃ j : Nat, j ≤ n2 ∧ s144 = .int .i64 j ∧ Hid (Ml2 w4 (l ++ other2.filter It.inn ++ (other2.take j).filter fun x => !x.inn) s19 wr)) (fun s144 _ _ => n2 - (intOf s144).toNat)
            case atStart => exact ⟨0, by omega, rfl, H3⟩
            case round =>
              obtain ⟨j, hj, rfl, HM2⟩ := hrel
              by_cases hlt : j < n2
              · obtain ⟨aA, cA, rfl, hKA, hAf, hFA, hAz⟩ := HM2.out
                obtain ⟨x, hx⟩ : ∃ x, other2[j]? = some x := ⟨_, List.getElem?_eq_getElem (by rw [Hn2.out]; exact hlt)⟩
                obtain ⟨g, rfl, hg, x0, x1, x2, _⟩ := Ks.at (OwnW.fr0 HKs4.out hFA) hx
                have HKA := Lib.hid hKA
                have HAf := Lib.hid hAf
                have HFA := Lib.hid hFA
                have HAz := Lib.hid hAz
                have e1 : other2.take (j + 1) = other2.take j ++ [x] := by rw [List.take_add_one, hx]; rfl
                have HE := Lib.hid e1
                cases hxn : x.inn with
                | true =>
                  rw [hxn] at x2
                  have Hxn := Lib.hid hxn
                  clear hKA hAf hFA hAz hx e1 hxn
                  go_wp2_with fail
                  go_roundw
                  case rel =>
                    have ef : (other2.take (j + 1)).filter (fun x => !x.inn) = (other2.take j).filter (fun x => !x.inn) := by rw [HE.out, List.filter_append]; simp [Hxn.out]
                    exact ⟨j + 1, by omega, by go_num, Lib.hid ⟨aA, cA, by rw [ef], by rw [ef]; exact OwnW.fr0 HKA.out ((Fr.refl F0 wr).alloc _), HAf.out, HFA.out.alloc _, by rw [ef]; exact HAz.out⟩⟩
                  case measure => simp [intOf]; omega
                | false =>
                  rw [hxn] at x2
                  have hfl : (l ++ other2.filter It.inn ++ (other2.take j).filter fun x => !x.inn).length ≤ 3000 := by
                    have := List.length_filter_le (fun x : It => !x.inn) (other2.take j)
                    rw [List.length_take] at this
                    have := List.length_filter_le It.inn other2
                    have := Hn2.out
                    rw [List.length_append, List.length_append]
                    have := Hl.out
                    omega
                  obtain ⟨A, hA⟩ : ∃ A, A = l ++ other2.filter It.inn ++ (other2.take j).filter fun x => !x.inn := ⟨_, rfl⟩
                  have HA := Lib.hid hA
                  rw [← hA] at hfl HKA HAz ⊢
                  obtain ⟨nA, hnA⟩ : ∃ nA, nA = A.length := ⟨_, rfl⟩
                  have HnA := Lib.hid hnA.symm
                  rw [← hnA] at hfl ⊢
                  have Hxn := Lib.hid hxn
                  have HKA2 : Hid (Ks (wr.alloc (.cells #[.int .i64 x.own, .int .i64 x.now, .bool false] 44)) aA cA A) := Lib.hid (OwnW.fr0 HKA.out ((Fr.refl F0 wr).alloc _))
                  clear hKA hAf hFA hAz hx e1 hxn hA hnA
                  go_wp2_with ((at_builtin; refine wpAppI1 HKA2.out HnA.out (by omega) (⟨x.own, x.now, false⟩ : It) rfl (by first | rfl | (simp; done) | (simp; rfl)) ?_; intro a6 c6 w6' own6 fr6 at6; have O6 := Lib.hid own6; have F6 := Lib.hid fr6; have A6 := Lib.hid at6; clear own6 fr6 at6))
                  go_roundw
                  case rel =>
                    have ex : (⟨x.own, x.now, false⟩ : It) = x := by rw [← Hxn.out]
                    have eA : l ++ other2.filter It.inn ++ ((other2.take (j + 1)).filter fun x => !x.inn) = A ++ [x] := by rw [HE.out, List.filter_append, HA.out, List.append_assoc, List.append_assoc, List.append_assoc]; simp [Hxn.out]
                    refine ⟨j + 1, by omega, by go_num, Lib.hid ⟨a6, c6, by rw [eA, List.length_append, HnA.out]; rfl, by rw [eA, ← ex]; exact O6.out, fun q hq => ?_, (HFA.out.alloc _).trans F6.out (fun q hq e => by have := HAf.out q e; omega), fun e => by rw [eA, List.length_append] at e; simp at e⟩⟩
                    rcases A6.out q hq with e | e
                    · exact HAf.out q e
                    · have := HFA.out.size; rw [size_alloc] at e; omega
                  case measure => simp [intOf]; omega
              · obtain rfl : n2 = j := by omega
                obtain ⟨aA, cA, rfl, hKA, hAf, hFA, hAz⟩ := HM2.out
                have et : other2.take n2 = other2 := List.take_of_length_le (by rw [Hn2.out]; exact Nat.le_refl _)
                rw [et] at hKA hAz ⊢
                have HKA := Lib.hid hKA
                have HAf := Lib.hid hAf
                have HFA := Lib.hid hFA
                have HAz := Lib.hid hAz
                clear hKA hAf hFA hAz et
                go_wp2_with fail
                go_ret2
                refine ⟨_, tsF, _, IF, TF, aA, cA, rfl, HHF.out.fr HFA.out (fun _ _ => id), HKF.out, HKA.out, fun q hq => ⟨fun e => ?_, by have := HAf.out q hq; have := Hs4.out; omega⟩, HFT.out.trans0 HFA.out, fun q hq => ?_, ?_, HAz.out⟩
                · have := HAf.out q hq
                  have := HHF.out.lt q e
                  omega
                · have := Hs4.out
                  rcases (HTF.out q hq).1 with e | e | e
                  · exact .inl e
                  · have := HTB.out q e; exact .inr (by omega)
                  · exact .inr (by omega)
                · have h1 : (other2.filter It.inn).length + (other2.filter fun x => !x.inn).length = other2.length := by
                    rw [← List.length_append]
                    exact (List.filter_append_perm _ other2).length_eq
                  have := Hn2.out
                  rw [List.length_append, List.length_append]
                  omega
      · have hkb : (key != 0) = true := by simpa using hk0
        go_wp2_with fail
        refine (deleted_any HHp.out HKN.out HKs.out (fun q hq e => (Hd.out q hq).1 e)).mono ?_
        rintro e w3' ⟨rfl, other', tsB', IB', TB', hl', hHp, hKN, hKs, hFd, hTd⟩
        have HHp' := Lib.hid hHp
        have HKN' := Lib.hid hKN
        have HKs' := Lib.hid hKs
        have Hd' : Hid (∀ q, onBlk a12 q → ¬ TB' q ∧ w0.heap.size ≤ q) := Lib.hid (fun q hq => ⟨fun e => (hTd q e).elim (Hd.out q hq).1 (fun e => by have := (OwnW.blk HKs.out q hq).2; omega), (Hd.out q hq).2⟩)
        have HTB' : Hid (∀ q, TB' q → w0.heap.size ≤ q) := Lib.hid (fun q hq => (hTd q hq).elim (HTB.out q) (fun e => by have := HF.out.size; omega))
        have HF' : Hid (Fr F0 w0 w3') := Lib.hid (HF.out.trans hFd (fun q hq e => e.elim (fun e => by have := HTB.out q e; omega) (fun e => by have := (Hd.out q e).2; omega)))
        have hle2 : other'.length ≤ 20 := by omega
        have Hl' := Lib.hid hl'
        rw [← hl']
        clear HHp HKN HKs Hd HTB HF hHp hKN hKs hFd hTd hl' Hl' hle20 c1
        have hle20 := hle2
        clear hle2
        go_wp2_with fail
        refine (looks_any HHp'.out HKN'.out HKs'.out (fun q hq e => (Hd'.out q hq).1 e)).mono ?_
        rintro e w3 ⟨rfl, other2, hl2, hKN2, hKs2, hF3⟩
        have HHp3 := Lib.hid (HHp'.out.fr hF3 (fun q hq e => (Hd'.out q e).1 hq))
        have HKN3 := Lib.hid hKN2
        have HKs3 := Lib.hid hKs2
        have HF3 := Lib.hid (HF'.out.trans hF3 (fun q hq e => by have := (Hd'.out q e).2; omega))
        clear hKN2 hKs2 hF3 HHp' HKN' HKs' HF'
        obtain ⟨n2, hn2⟩ : ∃ n2, n2 = other2.length := ⟨_, rfl⟩
        have Hn2 := Lib.hid hn2.symm
        have Hl2 := Lib.hid hl2
        have hle3 : n2 ≤ 20 := by omega
        rw [← hl2, ← hn2]
        clear hn2 hl2
        have FW3 : Hid (Fr F0 w w3) := Lib.hid (FA.out.trans0 HF3.out)
        have hTA : Hid (∀ q, T q → ¬ TB' q) := Lib.hid (fun q hq e => by have := HH.out.lt q hq; have := HTB'.out q e; omega)
        have HMd := Lib.hid (Meld_ok (HH.out.fr FW3.out (fun _ _ => id)) HHp3.out hTA.out (by rw [HK.out.ol, HKN3.out.ol, Hn2.out]; have := Hl.out; omega))
        go_wp2_with fail
        refine HMd.out.mono ?_
        rintro e w4 ⟨ab, cb, tsF, IF, TF, rfl, hHF, hAds, hHo, hOb, hab, hF4, hTF⟩
        have HKF := Lib.hid (HK.out.md HKN3.out hAds)
        have hmb : ownB.length = n2 := by rw [HKN3.out.ol, Hn2.out]
        rw [hmb] at hOb ⊢
        have HHF := Lib.hid hHF
        have HHo := Lib.hid hHo
        have HOb := Lib.hid hOb
        have Hab := Lib.hid hab
        have HF4 := Lib.hid hF4
        have HTF := Lib.hid hTF
        have HFT : Hid (Fr T w w4) := Lib.hid (FW3.out.mono (fun _ _ h => h.elim) |>.trans (HF4.out.mono (fun q _ e => e)) (fun q hq e => e.elim id (fun e => by have := HTB'.out q e; omega)))
        have HKs4 := Lib.hid (OwnW.fr HKs3.out HF4.out (fun q hq e => e.elim (fun e => by have := HH.out.lt q e; have := (Hd'.out q hq).2; omega) (fun e => (Hd'.out q hq).1 e)))
        have Hk4 := Lib.hid (OwnW.fr Hk.out HFT.out (fun q hq e => HT.out q hq e))
        have Hs4 := Lib.hid (And.intro FW3.out.size HF4.out.size)
        clear hHF hAds hHo hOb hab hF4 hTF hmb HMd
        go_wp2_with fail
        refine (Len_any HHo.out).mono ?_
        rintro e w5 ⟨rfl, rfl⟩
        go_wp2_with fail
        refine (Inserted_any HHo.out).mono ?_
        rintro e w5 ⟨rfl, rfl⟩
        go_wp2_with fail
        refine (Items_any HHo.out).mono ?_
        rintro e w5 ⟨ai, ci, rfl, _, F5⟩
        have HF5 := Lib.hid F5
        clear F5
        go_wp2_with fail
        refine (CloneI (OwnW.fr0 Hk4.out HF5.out) (by have := Hl.out; omega) Hz.out).mono ?_
        rintro e w6 ⟨aA, cA, rfl, hKA, F6, hAf, hAz⟩
        have H2 : Hid (Ml2 w4 (l ++ (other2.take 0).filter It.inn) (.slice aA l.length cA) w6) := Lib.hid ⟨aA, cA, by simp, by simpa using hKA, fun q hq => by have := hAf q hq; have := HF5.out.size; omega, HF5.out.trans0 F6, by simpa using hAz⟩
        have Hll := Lib.hid HK.out.ol
        clear hKA F6 hAf hAz
        go_wp2_with fail
        go_loopw [117, 19] (fun s117 s19 wr => ∃ j : Nat, j ≤ n2 ∧ s117 = .int .i64 j ∧ Hid (Ml2 w4 (l ++ (other2.take j).filter It.inn) s19 wr)) (fun s117 _ _ => n2 - (intOf s117).toNat)
        case atStart => exact ⟨0, by omega, rfl, H2⟩
        case round =>
          obtain ⟨j, hj, rfl, HM2⟩ := hrel
          by_cases hlt : j < n2
          · obtain ⟨aA, cA, rfl, hKA, hAf, hFA, hAz⟩ := HM2.out
            obtain ⟨x, hx⟩ : ∃ x, other2[j]? = some x := ⟨_, List.getElem?_eq_getElem (by rw [Hn2.out]; exact hlt)⟩
            have hnm := HKN3.out.name hx own.length
            obtain ⟨g, rfl, hg, x0, x1, x2, _⟩ := Ks.at (OwnW.fr0 HKs4.out hFA) hx
            obtain ⟨g2, o2, nmv, rfl, hnv, c2'⟩ := (HOb.out.rd.fr0 hFA).ix hlt
            rw [hnm] at hnv
            have hnv : nmv = _ := (Option.some.inj hnv).symm
            have HKA := Lib.hid hKA
            have HAf := Lib.hid hAf
            have HFA := Lib.hid hFA
            have HAz := Lib.hid hAz
            have Hx := Lib.hid hx
            have e1 : other2.take (j + 1) = other2.take j ++ [x] := by rw [List.take_add_one, hx]; rfl
            have HE := Lib.hid e1
            cases hxn : x.inn with
            | false =>
              rw [hxn] at x2 hnv
              have hnv2 : nmv = -1 := hnv
              clear hnv
              subst hnv2
              have Hxn := Lib.hid hxn
              have c28 : (wr.alloc (.cells #[.int .i64 x.own, .int .i64 x.now, .bool false] 44)).cell? ⟨g2, o2 + j, none⟩ = some (.int .i64 (-1)) := ((Fr.refl F0 wr).alloc _).cell c2' id
              clear hKA hAf hFA hAz hx e1 hnm hxn
              go_wp2_with fail
              go_roundw
              case rel =>
                have ef : (other2.take (j + 1)).filter (It.inn) = (other2.take j).filter (It.inn) := by rw [HE.out, List.filter_append]; simp [Hxn.out]
                exact ⟨j + 1, by omega, by go_num, Lib.hid ⟨aA, cA, by rw [ef], by rw [ef]; exact OwnW.fr0 HKA.out ((Fr.refl F0 wr).alloc _), HAf.out, HFA.out.alloc _, by rw [ef]; exact HAz.out⟩⟩
              case measure => simp [intOf]; omega
            | true =>
              rw [hxn] at x2 hnv
              replace hnv : nmv = ((own.length + ((other2.take j).filter It.inn).length : Nat) : Int) := hnv
              have hal : (l ++ (other2.take j).filter It.inn).length = own.length + ((other2.take j).filter It.inn).length := by rw [List.length_append, Hll.out]
              rw [← hal] at hnv
              have hfl : (l ++ (other2.take j).filter It.inn).length ≤ 2000 := by
                have := List.length_filter_le It.inn (other2.take j)
                rw [List.length_take] at this
                rw [List.length_append]
                have := Hl.out
                omega
              obtain ⟨A, hA⟩ : ∃ A, A = l ++ (other2.take j).filter It.inn := ⟨_, rfl⟩
              have HA := Lib.hid hA
              rw [← hA] at hnv hfl HKA HAz ⊢
              obtain ⟨nA, hnA⟩ : ∃ nA, nA = A.length := ⟨_, rfl⟩
              have HnA := Lib.hid hnA.symm
              rw [← hnA] at hnv hfl ⊢
              subst hnv
              have Hxn := Lib.hid hxn
              have c28 : (wr.alloc (.cells #[.int .i64 x.own, .int .i64 x.now, .bool true] 44)).cell? ⟨g2, o2 + j, none⟩ = some (.int .i64 nA) := ((Fr.refl F0 wr).alloc _).cell c2' id
              have HKA2 : Hid (Ks (wr.alloc (.cells #[.int .i64 x.own, .int .i64 x.now, .bool true] 44)) aA cA A) := Lib.hid (OwnW.fr0 HKA.out ((Fr.refl F0 wr).alloc _))
              clear hKA hAf hFA hAz hx e1 hnm hxn hal hA hnA
              go_wp2_with ((at_builtin; refine wpAppI1 HKA2.out HnA.out (by omega) (⟨x.own, x.now, true⟩ : It) rfl (by first | rfl | (simp; done) | (simp; rfl)) ?_; intro a6 c6 w6' own6 fr6 at6; have O6 := Lib.hid own6; have F6 := Lib.hid fr6; have A6 := Lib.hid at6; clear own6 fr6 at6))
              go_roundw
              case rel =>
                have ex : (⟨x.own, x.now, true⟩ : It) = x := by rw [← Hxn.out]
                have eA : l ++ (other2.take (j + 1)).filter It.inn = A ++ [x] := by rw [HE.out, List.filter_append, HA.out, List.append_assoc]; simp [Hxn.out]
                refine ⟨j + 1, by omega, by go_num, Lib.hid ⟨a6, c6, by rw [eA, List.length_append, HnA.out]; rfl, by rw [eA, ← ex]; exact O6.out, fun q hq => ?_, (HFA.out.alloc _).trans F6.out (fun q hq e => by have := HAf.out q e; omega), fun e => by rw [eA, List.length_append] at e; simp at e⟩⟩
                rcases A6.out q hq with e | e
                · exact HAf.out q e
                · have := HFA.out.size; rw [size_alloc] at e; omega
              case measure => simp [intOf]; omega
          · obtain rfl : n2 = j := by omega
            have et : other2.take n2 = other2 := List.take_of_length_le (by rw [Hn2.out]; exact Nat.le_refl _)
            have H3 := Lib.hid (Ml2.cast HM2.out (b := l ++ other2.filter It.inn ++ ((other2.take 0).filter fun x => !x.inn)) (by rw [et]; simp))
            clear HM2 et
            go_wp2_with fail
            go_loopw [144, 19] (fun s144 s19 wr => ∃ j : Nat, j ≤ n2 ∧ s144 = .int .i64 j ∧ Hid (Ml2 w4 (l ++ other2.filter It.inn ++ (other2.take j).filter fun x => !x.inn) s19 wr)) (fun s144 _ _ => n2 - (intOf s144).toNat)
            case atStart => exact ⟨0, by omega, rfl, H3⟩
            case round =>
              obtain ⟨j, hj, rfl, HM2⟩ := hrel
              by_cases hlt : j < n2
              · obtain ⟨aA, cA, rfl, hKA, hAf, hFA, hAz⟩ := HM2.out
                obtain ⟨x, hx⟩ : ∃ x, other2[j]? = some x := ⟨_, List.getElem?_eq_getElem (by rw [Hn2.out]; exact hlt)⟩
                obtain ⟨g, rfl, hg, x0, x1, x2, _⟩ := Ks.at (OwnW.fr0 HKs4.out hFA) hx
                have HKA := Lib.hid hKA
                have HAf := Lib.hid hAf
                have HFA := Lib.hid hFA
                have HAz := Lib.hid hAz
                have e1 : other2.take (j + 1) = other2.take j ++ [x] := by rw [List.take_add_one, hx]; rfl
                have HE := Lib.hid e1
                cases hxn : x.inn with
                | true =>
                  rw [hxn] at x2
                  have Hxn := Lib.hid hxn
                  clear hKA hAf hFA hAz hx e1 hxn
                  go_wp2_with fail
                  go_roundw
                  case rel =>
                    have ef : (other2.take (j + 1)).filter (fun x => !x.inn) = (other2.take j).filter (fun x => !x.inn) := by rw [HE.out, List.filter_append]; simp [Hxn.out]
                    exact ⟨j + 1, by omega, by go_num, Lib.hid ⟨aA, cA, by rw [ef], by rw [ef]; exact OwnW.fr0 HKA.out ((Fr.refl F0 wr).alloc _), HAf.out, HFA.out.alloc _, by rw [ef]; exact HAz.out⟩⟩
                  case measure => simp [intOf]; omega
                | false =>
                  rw [hxn] at x2
                  have hfl : (l ++ other2.filter It.inn ++ (other2.take j).filter fun x => !x.inn).length ≤ 3000 := by
                    have := List.length_filter_le (fun x : It => !x.inn) (other2.take j)
                    rw [List.length_take] at this
                    have := List.length_filter_le It.inn other2
                    have := Hn2.out
                    rw [List.length_append, List.length_append]
                    have := Hl.out
                    omega
                  obtain ⟨A, hA⟩ : ∃ A, A = l ++ other2.filter It.inn ++ (other2.take j).filter fun x => !x.inn := ⟨_, rfl⟩
                  have HA := Lib.hid hA
                  rw [← hA] at hfl HKA HAz ⊢
                  obtain ⟨nA, hnA⟩ : ∃ nA, nA = A.length := ⟨_, rfl⟩
                  have HnA := Lib.hid hnA.symm
                  rw [← hnA] at hfl ⊢
                  have Hxn := Lib.hid hxn
                  have HKA2 : Hid (Ks (wr.alloc (.cells #[.int .i64 x.own, .int .i64 x.now, .bool false] 44)) aA cA A) := Lib.hid (OwnW.fr0 HKA.out ((Fr.refl F0 wr).alloc _))
                  clear hKA hAf hFA hAz hx e1 hxn hA hnA
                  go_wp2_with ((at_builtin; refine wpAppI1 HKA2.out HnA.out (by omega) (⟨x.own, x.now, false⟩ : It) rfl (by first | rfl | (simp; done) | (simp; rfl)) ?_; intro a6 c6 w6' own6 fr6 at6; have O6 := Lib.hid own6; have F6 := Lib.hid fr6; have A6 := Lib.hid at6; clear own6 fr6 at6))
                  go_roundw
                  case rel =>
                    have ex : (⟨x.own, x.now, false⟩ : It) = x := by rw [← Hxn.out]
                    have eA : l ++ other2.filter It.inn ++ ((other2.take (j + 1)).filter fun x => !x.inn) = A ++ [x] := by rw [HE.out, List.filter_append, HA.out, List.append_assoc, List.append_assoc, List.append_assoc]; simp [Hxn.out]
                    refine ⟨j + 1, by omega, by go_num, Lib.hid ⟨a6, c6, by rw [eA, List.length_append, HnA.out]; rfl, by rw [eA, ← ex]; exact O6.out, fun q hq => ?_, (HFA.out.alloc _).trans F6.out (fun q hq e => by have := HAf.out q e; omega), fun e => by rw [eA, List.length_append] at e; simp at e⟩⟩
                    rcases A6.out q hq with e | e
                    · exact HAf.out q e
                    · have := HFA.out.size; rw [size_alloc] at e; omega
                  case measure => simp [intOf]; omega
              · obtain rfl : n2 = j := by omega
                obtain ⟨aA, cA, rfl, hKA, hAf, hFA, hAz⟩ := HM2.out
                have et : other2.take n2 = other2 := List.take_of_length_le (by rw [Hn2.out]; exact Nat.le_refl _)
                rw [et] at hKA hAz ⊢
                have HKA := Lib.hid hKA
                have HAf := Lib.hid hAf
                have HFA := Lib.hid hFA
                have HAz := Lib.hid hAz
                clear hKA hAf hFA hAz et
                go_wp2_with fail
                go_ret2
                refine ⟨_, tsF, _, IF, TF, aA, cA, rfl, HHF.out.fr HFA.out (fun _ _ => id), HKF.out, HKA.out, fun q hq => ⟨fun e => ?_, by have := HAf.out q hq; have := Hs4.out; omega⟩, HFT.out.trans0 HFA.out, fun q hq => ?_, ?_, HAz.out⟩
                · have := HAf.out q hq
                  have := HHF.out.lt q e
                  omega
                · have := Hs4.out
                  rcases (HTF.out q hq).1 with e | e | e
                  · exact .inl e
                  · have := HTB'.out q e; exact .inr (by omega)
                  · exact .inr (by omega)
                · have h1 : (other2.filter It.inn).length + (other2.filter fun x => !x.inn).length = other2.length := by
                    rw [← List.length_append]
                    exact (List.filter_append_perm _ other2).length_eq
                  have := Hn2.out
                  rw [List.length_append, List.length_append]
                  omega
end Go.Proofs.Ytdphademoeofkaa
