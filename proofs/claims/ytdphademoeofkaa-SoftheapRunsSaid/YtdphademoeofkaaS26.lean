/- looks. -/
import Derived.Test.YtdphademoeofkaaS25
import Derived.Test.YtdphademoeofkaaSlEqual
import Derived.Test.YtdphademoeofkaaCom6
namespace Go.Proofs.Ytdphademoeofkaa
open Go.RowKit
attribute [local go_sem ↓] Go.wp_at_zero Go.wp_at_succ
theorem Cl.keys {r : Nat} {ks : List Int} {i k : Int} : ∀ {t : Tr} {rk : Nat}, Cl r ks t rk → (i, k) ∈ t.curs → k ∈ ks
  | .nd b l r' it key _ _, _, h, hi => by
    simp only [Tr.curs, List.mem_append] at hi
    rcases hi with hi | hi | hi
    · obtain ⟨j, hj, e⟩ := List.mem_map.1 hi
      cases e
      exact h.1.1.elim (fun e => by rw [e] at hj; cases hj) id
    · exact Cl.keys h.2.1 hi
    · exact Cl.keys h.2.2 hi
theorem Gx.keys {r : Nat} {ks : List Int} {i k : Int} {t : Tr} {rk : Nat} (h : Gx r ks t rk) (hi : (i, k) ∈ t.curs) : k ∈ ks := h.cl.keys hi
/-- The state of the loop of looks. -/
def LkS (w : World) (rate : Nat) (own : List Int) (ts : List Tr) (I : List (Option Nat)) (L : Nat) (a : Option Addr) (c : Nat) (j : Nat) (s7 s8 s9 : Value) (wr : World) : Prop :=
  ∃ l' a9 c9, KN rate l' own ts I ∧ l'.length = L ∧ Ks wr a c l' ∧ s7 = .int .i64 ((itl 0 (I.take j)).length : Nat) ∧ s8 = .int .i64 (bads own ts (itl 0 (I.take j)) : Nat) ∧ s9 = .slice a9 (itl 0 (I.take j)).length c9 ∧ Own wr w.heap.size 3 a9 (itl 0 (I.take j)).length c9 (ints (itl 0 (I.take j))) ∧ Fr (onBlk a) w wr
def LkP (w : World) (rate : Nat) (l : List It) (own : List Int) (ts : List Tr) (I : List (Option Nat)) (a : Option Addr) (c : Nat) (e : Ending) (w' : World) : Prop :=
  e = .returned (.bool true) ∧ ∃ l', l'.length = l.length ∧ KN rate l' own ts I ∧ Ks w' a c l' ∧ Fr (onBlk a) w w'
theorem LkS.next {w wr w4 w6 : World} {rate : Nat} {own : List Int} {ts : List Tr} {I : List (Option Nat)} {L c j N B' : Nat} {g : Nat} {l' : List It} {x : It} {k : Int} {b : Nat} {a9 a6 : Option Addr} {c9 c6 : Nat} {v8 : Value}
    (K : KN rate l' own ts I) (hl : l'.length = L) (hx : l'[j]? = some x) (hk : ((j : Int), k) ∈ cf ts) (he : I.take (j + 1) = I.take j ++ [some b]) (ej : (I.take j).length = j) (hN : (itl 0 (I.take j)).length = N) (hB : bads own ts (itl 0 (I.take (j + 1))) = B')
    (F : Fr (onBlk (some ⟨g, 0, none⟩)) w wr) (h9 : ∀ q, onBlk a9 q → ¬ onBlk (some ⟨g, 0, none⟩) q) (O9 : Own wr w.heap.size 3 a9 N c9 (ints (itl 0 (I.take j)))) (K4 : Ks w4 (some ⟨g, 0, none⟩) c (l'.set j { x with now := k })) (F4 : Fr (onBlk (some ⟨g, 0, none⟩)) wr w4)
    (O6 : Own w6 w.heap.size 3 a6 (N + 1) c6 (ints (itl 0 (I.take j)) ++ [.int .i64 j])) (F6 : Fr (onBlk a9) w4 w6) (e8 : v8 = .int .i64 (B' : Nat)) :
    Hid (LkS w rate own ts I L (some ⟨g, 0, none⟩) c (j + 1) (.int .i64 ((N : Int) + 1)) v8 (.slice a6 (N + 1) c6) w6) := by
  have e : itl 0 (I.take (j + 1)) = itl 0 (I.take j) ++ [(j : Int)] := by rw [he, itl_some, ej, Nat.zero_add]
  have el : (itl 0 (I.take (j + 1))).length = N + 1 := by rw [e, List.length_append, hN]; rfl
  refine Lib.hid ⟨l'.set j { x with now := k }, a6, c6, K.note hx hk, by rw [List.length_set]; exact hl, OwnW.fr K4 F6 (fun q hq e => h9 q e hq), by rw [el]; rfl, by rw [hB]; exact e8, by rw [el], ?_, F.trans ((F4.mono (S' := fun q => onBlk (some ⟨g, 0, none⟩) q ∨ onBlk a9 q) (fun q _ e => .inl e)).trans F6 (fun q _ e => .inr e)) (fun q hq e => e.elim id (fun e => by have := (O9.blk q e).1; omega))⟩
  · rw [el, e]
    simpa using O6
set_option maxRecDepth 100000 in
set_option maxHeartbeats 4000000 in
theorem looks_any {w : World} {hb rate : Nat} {ts : List Tr} {own : List Int} {I : List (Option Nat)} {T : Nat → Prop} {l : List It} {a : Option Addr} {c : Nat} (h : Hp w hb rate ts own I T) (K : KN rate l own ts I) (hk : Ks w a c l) (hT : ∀ q, onBlk a q → ¬ T q) :
    Calls Try.prog 21 #[.pointer (some ⟨hb, 0, none⟩), .slice a l.length c, .int .i64 rate] w (LkP w rate l own ts I a c) := by
  obtain ⟨hIl, h2, hwt, hr20⟩ := h.ilen
  obtain ⟨L, hL⟩ : ∃ L, L = l.length := ⟨_, rfl⟩
  have hL2 : L ≤ 2000 := by rw [hL, ← K.ol]; exact h2
  have HT := Lib.hid hT
  have HL := Lib.hid hL
  have HH := Lib.hid h
  have H0 : Hid (LkS w rate own ts I L a c 0 (.int .i64 0) (.int .i64 0) (.slice none 0 0) w) := Lib.hid ⟨l, none, 0, K, hL.symm, hk, rfl, rfl, rfl, Own.nil _ _ _, Fr.refl _ _⟩
  rw [← hL]
  have HI : Hid (I.length = L) := Lib.hid (by rw [hIl, K.ol, hL])
  have Hwt := Lib.hid hwt
  have HKl := Lib.hid K.ol
  have Hlw : Hid (∀ q, onBlk a q → q < w.heap.size) := Lib.hid (fun q hq => (OwnW.blk hk q hq).2)
  clear h K hk hT hL hIl h2 hwt
  go_enter Try.func21, Try.ntmps21
  go_wp2_with fail
  go_loopw [15, 7, 8, 9] (fun s15 s7 s8 s9 wr => ∃ j : Nat, j ≤ L ∧ s15 = .int .i64 j ∧ Hid (LkS w rate own ts I L a c j s7 s8 s9 wr)) (fun s15 _ _ _ _ => L - (intOf s15).toNat)
  case atStart => exact ⟨0, by omega, rfl, H0⟩
  case round =>
    obtain ⟨j, hj, rfl, HM⟩ := hrel
    by_cases hlt : j < L
    · obtain ⟨l', a9, c9, K, hl, hk, rfl, rfl, rfl, O9, F⟩ := HM.out
      have hjl : j < l'.length := by omega
      obtain ⟨x, hx⟩ : ∃ x, l'[j]? = some x := ⟨l'[j], by simp [hjl]⟩
      have hjI : j < I.length := by rw [HI.out]; exact hlt
      have Hh := HH.out.fr F (fun q hq e => HT.out q e hq)
      obtain ⟨g, rfl, hg, x0, x1, x2, xf⟩ := hk.at hx
      have Hgw : Hid (g < w.heap.size) := Lib.hid (Hlw.out g ((onBlk_some _ _ _ _).2 rfl))
      have ek : (I.take j).length = j := by simp; omega
      have HKK := Lib.hid K
      have Hhk := Lib.hid hk
      have HO9 := Lib.hid O9
      have HF := Lib.hid F
      have Hx := Lib.hid hx
      have Hl := Lib.hid hl
      have Hek := Lib.hid ek
      cases hI : I[j] with
      | none =>
        have hIj : I[j]? = some none := by rw [List.getElem?_eq_getElem hjI, hI]
        have hxin : x.inn = false := by
          cases hxi : x.inn with
          | false => rfl
          | true =>
            obtain ⟨b, hb⟩ := (K.iff hx).2.1 ((K.iff hx).1.1 hxi)
            rw [hIj] at hb; cases hb
        have e1 : I.take (j + 1) = I.take j ++ [none] := by rw [← List.take_append_getElem hjI, hI]
        have HE := Lib.hid e1
        have HC := Lib.hid (Current_out Hh hIj)
        rw [hxin] at x2
        clear K hk O9 F hx ek e1 hI hIj hxin Hh hl hjl hjI
        go_wp2_with fail
        refine HC.out.mono ?_
        rintro e w1 ⟨rfl, rfl⟩
        go_wp2_with fail
        go_roundw
        case rel =>
          refine ⟨j + 1, by omega, by go_num, Lib.hid ⟨l', a9, c9, HKK.out, Hl.out, Hhk.out.fr0 ((Fr.refl _ _).alloc _), by rw [HE.out, itl_none], by rw [HE.out, itl_none], by rw [HE.out, itl_none], by rw [HE.out, itl_none]; exact HO9.out.fr0 ((Fr.refl _ _).alloc _), HF.out.alloc _⟩⟩
        case measure => simp [intOf]; omega
      | some b =>
        have hIj : I[j]? = some (some b) := by rw [List.getElem?_eq_getElem hjI, hI]
        have hjf := (K.iff hx).2.2 ⟨b, hIj⟩
        have hxin : x.inn = true := (K.iff hx).1.2 hjf
        have e1 : I.take (j + 1) = I.take j ++ [some b] := by rw [← List.take_append_getElem hjI, hI]
        have HE := Lib.hid e1
        obtain ⟨k, hnow, hkc⟩ := K.on j x hx hxin
        have hku : k = cu ts (j : Int) := K.sx.uq hkc (K.sx.cu hjf)
        obtain ⟨t, ht, hkt⟩ := List.mem_flatMap.1 hkc
        have hks : k ∈ l'.map It.own := by
          have h1 := (flat_cf hjf)
          obtain ⟨tt, htt, hkt⟩ := List.mem_flatMap.1 hkc
          obtain ⟨q, hq⟩ := List.mem_iff_getElem?.1 htt
          exact (K.sx.g q tt hq).keys hkt
        have hxo : own.getD ((j : Int)).toNat 0 = x.own := by
          rw [K.ow _ hjf, Int.toNat_natCast, List.getD_eq_getElem?_getD, List.getElem?_map, hx]
          rfl
        have HC := Lib.hid (Current_in Hh K.sx hkc)
        have HF2 := Lib.hid F
        have HT9 : Hid (∀ q, onBlk a9 q → ¬ onBlk (some ⟨g, 0, none⟩) q) := Lib.hid (fun q hq e => by
          have := (onBlk_some _ _ _ _).1 e
          have := (O9.blk q hq).1
          have := Hgw.out
          omega)
        have Hkc := Lib.hid hkc
        have Hsn : Hid (bads own ts (itl 0 (I.take (j + 1))) = bads own ts (itl 0 (I.take j)) + (if x.own < k then 1 else 0)) := Lib.hid (by rw [e1, itl_some, ek, Nat.zero_add, bads_snoc, hxo, ← hku])
        have HA := Lib.hid (any_own hks)
        rw [hxin] at x2
        have hle : (itl 0 (I.take j)).length ≤ 2000 := by
          have := nodup_bound j (itl 0 (I.take j)) (itl_nodup _ _) (fun i hi => by
            obtain ⟨j', b, h1, h2⟩ := itl_mem.1 hi
            have := (List.getElem?_eq_some_iff.1 h1).1
            omega)
          omega
        have hbl := bads_le own ts (itl 0 (I.take j))
        generalize hN : (itl 0 (I.take j)).length = N at *
        generalize hB : bads own ts (itl 0 (I.take j)) = B at *
        have HNB := Lib.hid (And.intro hN hB)
        obtain ⟨wd, hwd⟩ : ∃ wd, wd = (wr.alloc (.cells #[.int .i64 k] 3)).drew := ⟨_, rfl⟩
        have HOne : Hid (One (wr.alloc (.cells #[.int .i64 k] 3)).drew wr.heap.size 3 (.int .i64 k)) := Lib.hid (One.new 3 _)
        have HKd : Hid (Ks (wr.alloc (.cells #[.int .i64 k] 3)).drew (some ⟨g, 0, none⟩) c l') := Lib.hid (hk.fr0 ((Fr.refl F0 wr).alloc _).drew)
        have HCK : Hid (Calls Try.prog 35 #[.slice (some ⟨g, 0, none⟩) L c, .func (.func 39) #[] #[.pointer (some ⟨wr.heap.size, 0, none⟩)]] (wr.alloc (.cells #[.int .i64 k] 3)).drew fun e w' => e = .returned (.bool true) ∧ Fr F0 (wr.alloc (.cells #[.int .i64 k] 3)).drew w') := Lib.hid (by
          have := hasKey39 HKd.out (by omega) HOne.out
          rwa [any_own hks, hl] at this)
        have hd : decide (k < x.now) = false := decide_eq_false (by omega)
        have hmf : ∀ (fn : Fn) (first cap : Array Value) (w : World), (Instr.makeFunc fn first cap).run Try.prog w = .ok (.func fn first cap) w := fun _ _ _ _ => rfl
        clear K hk O9 F hx ek e1 hI hIj hxin Hh hl hjl hjI hjf hkc hku hks hxo hN hB hwd ht hkt
        go_wp2_with fail
        refine HC.out.mono ?_
        rintro e w1 ⟨rfl, rfl⟩
        go_wp2_with fail
        have q1 : (wr.alloc (.cells #[.int .i64 k] 3)).drew.cell? ⟨g, j * 3 + 1, none⟩ = some (.int .i64 x.now) := ((Fr.refl F0 wr).alloc _).drew.cell x1 id
        have q3 : (wr.alloc (.cells #[.int .i64 k] 3)).drew.cell? ⟨wr.heap.size, 0, none⟩ = some (.int .i64 k) := HOne.out.cell
        have Hh := And.intro q1 q3
        go_region_held3 (fun w' => w'.cell? ⟨g, j * 3 + 1, none⟩ = some (.int .i64 x.now) ∧ w'.cell? ⟨wr.heap.size, 0, none⟩ = some (.int .i64 k)) (go_keep)
          (first | (go_at_call 35; (with_reducible refine HCK.out.mono ?_); rintro e w2 ⟨rfl, F2⟩; have k1 := F2.cell q1 id; have k3 := F2.cell q3 id) | fail)
        all_goals
          have HK2 := Lib.hid (HKd.out.fr0 F2)
          have FR2 : Hid (Fr F0 wr w2) := Lib.hid ((((Fr.refl F0 wr).alloc _).drew).trans0 F2)
          obtain ⟨g', eg, _, y0, y1, y2, yf⟩ := Ks.at HK2.out Hx.out
          have eg' : g = g' := by injection eg with eg; injection eg
          subst eg'
          have z1 := yf (j * 3 + 1)
          have yk := (HOne.out.fr F2 id).cell
          have hkg : wr.heap.size ≠ g := by omega
          have HK3 : Hid (Ks (w2.setCell ⟨g, j * 3 + 1, none⟩ (.int .i64 k)) (some ⟨g, 0, none⟩) c (l'.set j { x with now := k })) := Lib.hid (by
            have := OwnW.set (i := j * 3 + 1) HK2.out (.int .i64 k)
            rw [its_now Hx.out] at this
            show OwnW _ 0 44 3 _ (l'.set j { x with now := k }).length c _
            rw [List.length_set]
            exact this)
          have FW : Hid (Fr (onBlk (some ⟨g, 0, none⟩)) wr (w2.setCell ⟨g, j * 3 + 1, none⟩ (.int .i64 k))) := Lib.hid ((FR2.out.mono (fun _ _ h => h.elim)).setOn _ _)
          have yk3 : (w2.setCell ⟨g, j * 3 + 1, none⟩ (.int .i64 k)).cell? ⟨wr.heap.size, 0, none⟩ = some (.int .i64 k) := ((HOne.out.fr F2 id).other (p := ⟨g, j * 3 + 1, none⟩) hkg _).cell
          have y03 : (w2.setCell ⟨g, j * 3 + 1, none⟩ (.int .i64 k)).cell? ⟨g, j * 3, none⟩ = some (.int .i64 x.own) := by
            have hx2 : (l'.set j { x with now := k })[j]? = some { x with now := k } := List.getElem?_set_self (List.getElem?_eq_some_iff.1 Hx.out).1
            obtain ⟨g', eg, _, y0, _⟩ := Ks.at HK3.out hx2
            have eg' : g = g' := by injection eg with eg; injection eg
            subst eg'
            exact y0
          clear F2 y2 yf eg x0 x1 x2 xf q1 q3 Hh k1 k3
          go_wp2_with fail
          go_quiet (fail)
          have HK4 : Hid (Ks ((w2.setCell ⟨g, j * 3 + 1, none⟩ (.int .i64 k)).drewN nq) (some ⟨g, 0, none⟩) c (l'.set j { x with now := k })) := Lib.hid (HK3.out.fr0 ((Fr.refl F0 _).drewN nq))
          have FW4 : Hid (Fr (onBlk (some ⟨g, 0, none⟩)) wr ((w2.setCell ⟨g, j * 3 + 1, none⟩ (.int .i64 k)).drewN nq)) := Lib.hid (FW.out.drewN nq)
          have hkg4 := hkg
          clear yk3 y03 yk y0 y1 z1 HK3 FW HK2 hkg
          generalize (w2.setCell ⟨g, j * 3 + 1, none⟩ (.int .i64 k)).drewN nq = w4 at *
          have O4 : Hid (Own w4 w.heap.size 3 a9 N c9 (ints (itl 0 (I.take j)))) := Lib.hid (HO9.out.fr FW4.out (fun q hq e => HT9.out q hq e))
          have hs4 := FW4.out.size
          have hs0 := HF.out.size
          clear HF
          by_cases hlq : x.own < k
          · have Hsn2 : Hid (bads own ts (itl 0 (I.take (j + 1))) = B + 1) := Lib.hid (by rw [Hsn.out, if_pos hlq])
            go_wp2_with ((at_builtin; refine wpAppAt E3 O4.out (by omega) (by omega) (by omega) (u := .int .i64 j) rfl rfl (by first | rfl | (simp; done) | (simp; rfl)) ?_; intro a6 c6 w6 own6 fr6 at6; have O6 := Lib.hid own6; have F6 := Lib.hid fr6; clear own6 fr6 at6))
            go_roundw
            case rel => exact ⟨j + 1, by omega, by go_num, LkS.next HKK.out Hl.out Hx.out Hkc.out HE.out Hek.out HNB.out.1 Hsn2.out HF2.out HT9.out HO9.out HK4.out FW4.out O6.out F6.out rfl⟩
            case measure => simp [intOf]; omega
          · have Hsn2 : Hid (bads own ts (itl 0 (I.take (j + 1))) = B) := Lib.hid (by rw [Hsn.out, if_neg hlq]; rfl)
            go_wp2_with ((at_builtin; refine wpAppAt E3 O4.out (by omega) (by omega) (by omega) (u := .int .i64 j) rfl rfl (by first | rfl | (simp; done) | (simp; rfl)) ?_; intro a6 c6 w6 own6 fr6 at6; have O6 := Lib.hid own6; have F6 := Lib.hid fr6; clear own6 fr6 at6))
            go_roundw
            case rel => exact ⟨j + 1, by omega, by go_num, LkS.next HKK.out Hl.out Hx.out Hkc.out HE.out Hek.out HNB.out.1 Hsn2.out HF2.out HT9.out HO9.out HK4.out FW4.out O6.out F6.out rfl⟩
            case measure => simp [intOf]; omega
    · obtain rfl : L = j := by omega
      obtain ⟨l', a9, c9, K, hl, hk, rfl, rfl, rfl, O9, F⟩ := HM.out
      have et : I.take L = I := List.take_of_length_le (by rw [HI.out]; exact Nat.le_refl _)
      rw [et] at O9
      have Hh := HH.out.fr F (fun q hq e => HT.out q e hq)
      have HLen := Lib.hid (Len_any Hh)
      have HIns := Lib.hid (Inserted_any Hh)
      have HCor := Lib.hid (Corrupted_any Hh K.sx)
      have HHh := Lib.hid Hh
      have hown : own.length = L := by rw [K.ol, hl]
      have hfl : (flat ts).length = (itl 0 I).length := K.sx.items.length_eq.symm
      have hbd : bads own ts (itl 0 I) ≤ L / 2 ^ rate := by
        rw [bads_congr (own' := l'.map It.own) (fun i hi => K.ow i (K.sx.items.mem_iff.1 hi))]
        have h1 := K.sx.count
        have h2 := K.sx.few (m := L) (by have := Hwt.out; omega)
        unfold bads
        omega
      have hle : (itl 0 I).length ≤ 2000 := by
        have := nodup_bound L (itl 0 I) (itl_nodup _ _) (fun i hi => by
          obtain ⟨j', b, h1, h2⟩ := itl_mem.1 hi
          have := (List.getElem?_eq_some_iff.1 h1).1
          rw [HI.out] at this
          omega)
        omega
      have hbl := bads_le own ts (itl 0 I)
      have HMo := Lib.hid (Most_any L rate (by omega) hr20)
      rw [hown] at HIns
      rw [hfl] at HLen
      rw [et]
      have HK := Lib.hid K
      have Hhk := Lib.hid hk
      have HO9 := Lib.hid O9
      have HF := Lib.hid F
      have Hl := Lib.hid (hl.trans HL.out)
      generalize hB : bads own ts (itl 0 I) = B at *
      generalize hQ : L / 2 ^ rate = Q at *
      have hBQ : (B : Int) ≤ (Q : Int) := by omega
      obtain ⟨N, hN⟩ : ∃ N, N = (itl 0 I).length := ⟨_, rfl⟩
      have HN := Lib.hid hN
      rw [← hN] at HLen HO9 hle ⊢
      clear K hk O9 F Hh hl hB hQ hfl hown hbd et hN
      go_wp2_with fail
      refine HLen.out.mono ?_
      rintro e w1 ⟨rfl, rfl⟩
      go_wp2_with fail
      refine HIns.out.mono ?_
      rintro e w1 ⟨rfl, rfl⟩
      go_wp2_with fail
      refine HCor.out.mono ?_
      rintro e w1 ⟨rfl, F1⟩
      have HF1 := Lib.hid F1
      clear F1
      go_wp2_with fail
      refine (HMo.out _).mono ?_
      rintro e w2 ⟨rfl, rfl⟩
      go_wp2_with fail
      have HIt := Lib.hid (Items_any (HHh.out.fr HF1.out (fun _ _ => id)))
      rw [← HN.out] at HIt
      refine HIt.out.mono ?_
      rintro e w2 ⟨aI, cI, rfl, OI, F2⟩
      have HOI := Lib.hid OI
      have HF2 := Lib.hid F2
      clear OI F2 HIt
      go_wp2_with fail
      refine (Equal_any aI a9 N N cI c9 _ _ _ HOI.out.rd ((HO9.out.fr0 HF1.out).fr0 HF2.out).rd).mono ?_
      rintro e w3 ⟨rfl, q, rfl⟩
      have hdt : decide (itl 0 I = itl 0 I) = true := decide_eq_true rfl
      go_wp2_with fail
      go_ret
      exact ⟨rfl, l', Hl.out, HK.out, ((Hhk.out.fr0 HF1.out).fr0 HF2.out).fr0 ((Fr.refl F0 _).drewN q), ((HF.out.trans0 HF1.out).trans0 HF2.out).drewN q⟩
end Go.Proofs.Ytdphademoeofkaa
