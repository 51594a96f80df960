/- After: the walk. -/
import Derived.Test.YtihcaemheknjbaaF12
import Derived.Test.YtihcaemheknjbaaF11
namespace Go.Proofs.Ytihcaemheknjbaa
open Go.RowKit
attribute [local go_sem ↓] Go.wp_at_zero Go.wp_at_succ
theorem E62 : ElemZ Try.prog 60 62 (.agg #[.int .i64 0, .int .i64 0]) 2 16 := ⟨by kernel_rfl, by kernel_rfl, rfl⟩
/-- The base of 's[k:]', elements of s cells. -/
def cutZ (s : Nat) (a : Option Addr) (c k : Nat) : Option Addr := if c = k then a else a.map (·.add (k * s))
theorem cutZ_some (s b o c k : Nat) : cutZ s (some ⟨b, o, none⟩) c k = some ⟨b, if c = k then o else o + k * s, none⟩ := by
  unfold cutZ
  split
  · rfl
  · simp [Addr.add_lit]
theorem RdZ.cut {w : World} {s : Nat} {a : Option Addr} {n c : Nat} {vs : List Value} (h : RdZ w s a n vs) (hc : n ≤ c) {k r : Nat} (hk : n = k + r) : RdZ w s (cutZ s a c k) r (vs.drop (k * s)) := by
  have hr : r = n - k := by omega
  subst hr
  refine ⟨by rw [List.length_drop, h.len, ← Nat.sub_mul], by have := h.max; omega, fun hn => ?_⟩
  obtain ⟨b, o, rfl, hcell⟩ := h.cells (by omega)
  rw [cutZ_some, if_neg (by omega)]
  refine ⟨b, o + k * s, rfl, fun i u hu => ?_⟩
  rw [List.getElem?_drop] at hu
  rw [Nat.add_assoc]
  exact hcell (k * s + i) u hu
theorem RdZ.take {w : World} {s : Nat} {a : Option Addr} {n : Nat} {vs : List Value} (h : RdZ w s a n vs) {k : Nat} (hk : k ≤ n) : RdZ w s a k (vs.take (k * s)) :=
  ⟨by rw [List.length_take, h.len]; exact Nat.min_eq_left (Nat.mul_le_mul_right _ hk), by have := h.max; omega, fun h0 => by
    obtain ⟨b, o, ha, hc⟩ := h.cells (by omega)
    refine ⟨b, o, ha, fun i u hu => hc i u ?_⟩
    rw [List.getElem?_take] at hu
    split at hu
    · exact hu
    · cases hu⟩
theorem run_cutLoZ {P : Program} {t T : TypeId} {z : Value} {s bytes : Nat} (E : ElemZ P t T z s bytes) (w : World) (a : Option Addr) {n c k r : Nat} (hkn : n = k + r) {x : Int} (hx : x = (k : Int)) :
    (Instr.sliceAt t (.slice a n c) (some (.int .i64 x)) none none).run P w = .ok (.slice (cutZ s a c k) r (c - k)) w := by
  obtain ⟨E1, E2, _⟩ := E
  obtain ⟨i0, hi, _, hz1, _⟩ := info_parts E2
  have hr : r = n - k := by omega
  subst hr
  subst hx
  have ht : P.underlying t = some (.slice (P.elem t)) := by simp [Program.elem, E1]
  have hel : P.elem t = T := by simp [Program.elem, E1]
  have hsz : (sizeOf T).run P w = .ok s w := by simp [sizeOf, typeInfo, hi, hz1]
  rw [run_sliceAt_slice _ _ _ _ _ _ ht, run_slice_l w t a n c ht .i64 k (by omega) (by omega), hel, hsz]
  simp [Result.andThen, sliced, cutZ]
theorem run_cutHiZ2 {P : Program} {t T : TypeId} {z : Value} {s bytes : Nat} (E : ElemZ P t T z s bytes) (w : World) (a : Option Addr) {n c k : Nat} (hk : k ≤ c) {x : Int} (hx : x = (k : Int)) :
    (Instr.sliceAt t (.slice a n c) none (some (.int .i64 x)) none).run P w = .ok (.slice (cutZ s a c 0) k c) w := by
  obtain ⟨E1, E2, _⟩ := E
  obtain ⟨i0, hi, _, hz1, _⟩ := info_parts E2
  subst hx
  have ht : P.underlying t = some (.slice (P.elem t)) := by simp [Program.elem, E1]
  have hel : P.elem t = T := by simp [Program.elem, E1]
  have hsz : (sizeOf T).run P w = .ok s w := by simp [sizeOf, typeInfo, hi, hz1]
  rw [run_sliceAt_slice _ _ _ _ _ _ ht, run_slice_h w t a n c ht .i64 k (by omega) (by omega), hel, hsz]
  simp [Result.andThen, sliced, cutZ]
theorem RdZ.cutHi {w : World} {s : Nat} {a : Option Addr} {n c : Nat} {vs : List Value} (h : RdZ w s a n vs) (hc : n ≤ c) {k : Nat} (hk : k ≤ n) : RdZ w s (cutZ s a c 0) k (vs.take (k * s)) := by
  have h1 := (h.cut hc (k := 0) (r := n) (by omega)).take hk
  simpa using h1
/-- What After leaves. -/
def AfR (w : World) (B : Nat) (a0 : Option Addr) (o : Option (List Ed)) (e : Ending) (w' : World) : Prop := match o with
  | none => (∃ a m c, e = .returned (.tuple #[.slice a m c, .bool false])) ∧ Fr F0 w w'
  | some E' => ∃ a c, e = .returned (.tuple #[.slice a E'.length c, .bool true]) ∧ OwnZ w' B 62 2 a E'.length c (eds E') ∧ Fr F0 w w' ∧ (∀ k, onBlk a k → onBlk a0 k ∨ w.heap.size ≤ k)
/-- What lies in memory while After runs. -/
structure AfS (wb wc : World) (B : Nat) (a : Option Addr) (m c : Nat) (E : List Ed) (bx : Nat) (K A Bv : Int) : Prop where
  own : OwnZ wc B 62 2 a m c (eds E)
  lt : ∀ k, onBlk a k → k < wb.heap.size
  xb : Blk wc bx 45 [.int .i64 K, .int .i64 A, .int .i64 Bv]
  bl : bx < wb.heap.size
  fr : Fr F0 wb wc
theorem AfS.more {wb wc w' : World} {B : Nat} {a : Option Addr} {m c : Nat} {E : List Ed} {bx : Nat} {K A Bv : Int} {S : Nat → Prop} (h : AfS wb wc B a m c E bx K A Bv) (f : Fr S wc w') (hS : ∀ k, S k → wb.heap.size ≤ k) : AfS wb w' B a m c E bx K A Bv :=
  ⟨h.own.fr f (fun k hk hs => by have := h.lt k hk; have := hS k hs; omega), h.lt, h.xb.fr f (fun hs => by have := h.bl; have := hS _ hs; omega), h.bl, h.fr.trans f (fun k hk hs => by have := hS k hs; omega)⟩
theorem AfS.held {wb wc : World} {B : Nat} {a : Option Addr} {m c : Nat} {E : List Ed} {bx : Nat} {K A Bv : Int} (h : AfS wb wc B a m c E bx K A Bv) : wc.cell? ⟨bx, 1, none⟩ = some (.int .i64 A) ∧ wc.cell? ⟨bx, 2, none⟩ = some (.int .i64 Bv) := ⟨h.xb.cell (i := 1) rfl, h.xb.cell (i := 2) rfl⟩
theorem app0 (x : Ev) (E : List Ed) {i : Nat} {e : Ed} (h : E[i]? = some e) : atK x E (i + 1) = if jE x e then (i : Int) else atK x E i := by
  show (match E[i]? with | some e => if jE x e then (i : Int) else atK x E i | none => atK x E i) = _
  rw [h]
set_option maxRecDepth 100000 in
set_option maxHeartbeats 16000000 in
theorem After_any {w : World} {B n : Nat} {a : Option Addr} {m c : Nat} {E : List Ed} {K A Bv : Int} (ho : OwnZ w B 62 2 a m c (eds E)) (hB : B ≤ w.heap.size) (hm : m ≤ 3000) :
    Calls Try.prog 44 #[.int .i64 n, .slice a m c, .agg #[.int .i64 K, .int .i64 A, .int .i64 Bv]] w (AfR w B a (aft n E (K, A, Bv))) := by
  have FB : Hid (Fr F0 w (w.alloc (.cells #[.int .i64 K, .int .i64 A, .int .i64 Bv] 45))) := Lib.hid ((Fr.refl _ _).alloc _)
  have IA := Lib.hid (fun w : World => In_any n A w)
  have IB := Lib.hid (fun w : World => In_any n Bv w)
  obtain ⟨wb, hwb⟩ : ∃ wb, w.alloc (.cells #[.int .i64 K, .int .i64 A, .int .i64 Bv] 45) = wb := ⟨_, rfl⟩
  obtain ⟨bx, hbx⟩ : ∃ b, w.heap.size = b := ⟨_, rfl⟩
  have BX : Blk wb bx 45 [.int .i64 K, .int .i64 A, .int .i64 Bv] := by rw [← hwb, ← hbx]; exact Blk.new w 45 _
  rw [hwb] at FB
  have x0 := BX.cell (i := 0) rfl
  have x1 := BX.cell (i := 1) rfl
  have x2 := BX.cell (i := 2) rfl
  have hml : m = E.length := by have := ho.1; rw [eds_len] at this; omega
  have HS : Hid (AfS wb wb B a m c E bx K A Bv) := Lib.hid ⟨ho.fr0 FB.out, fun k hk => Nat.lt_of_lt_of_le (ho.blk k hk).2 FB.out.size, BX, BX.lt, Fr.refl _ _⟩
  have HM := Lib.hid hml
  have HBw := Lib.hid hB
  clear ho BX hml hB
  by_cases cA : 0 ≤ A ∧ A < (n : Int)
  · by_cases cB : 0 ≤ Bv ∧ Bv < (n : Int)
    · have hok : okE n (K, A, Bv) = true := by unfold okE; simp; omega
      obtain ⟨va, rfl⟩ := Int.eq_ofNat_of_zero_le cA.1
      obtain ⟨vb, rfl⟩ := Int.eq_ofNat_of_zero_le cB.1
      have eA : (decide (0 ≤ (va : Int)) && decide ((va : Int) < (n : Int))) = true := by simp; omega
      have eB : (decide (0 ≤ (vb : Int)) && decide ((vb : Int) < (n : Int))) = true := by simp; omega
      rw [eA] at IA
      rw [eB] at IB
      have HOK := Lib.hid hok
      have hvl : va < n ∧ vb < n := by omega
      clear eA eB hok cA cB
      go_enter Try.func44, Try.ntmps44
      go_wp2_with fail
      refine (IA.out _).mono ?_
      rintro e w1 ⟨rfl, rfl⟩
      go_wp2_with fail
      refine (IB.out _).mono ?_
      rintro e w1 ⟨rfl, rfl⟩
      go_wp2_with fail
      clear hwb x0 x1 x2
      go_loopw [8, 9] (fun s8 s9 wr => ∃ (i : Nat), i ≤ m ∧ s9 = .int .i64 i ∧ s8 = .int .i64 (atK (K, (va : Int), (vb : Int)) E i) ∧ Hid (AfS wb wr B a m c E bx K va vb)) (fun _ s9 _ => m - (intOf s9).toNat)
      case atStart => exact ⟨0, Nat.zero_le _, rfl, rfl, HS⟩
      case round =>
        obtain ⟨i, hi, rfl, rfl, H⟩ := hrel
        by_cases hlt : i < m
        · obtain ⟨⟨e1, e2⟩, he⟩ : ∃ e, E[i]? = some e := ⟨_, List.getElem?_eq_getElem (by rw [← HM.out]; exact hlt)⟩
          obtain ⟨g, rfl, _, _, hc, _⟩ := H.out.own.at (by omega)
          obtain ⟨q1, q2⟩ := eds_get he
          have c1 := hc _ _ q1
          have c2 := hc _ _ q2
          have y1 := H.out.held.1
          have y2 := H.out.held.2
          have hlt' : (i : Int) < (m : Int) := by omega
          have hstep := app0 (K, (va : Int), (vb : Int)) E he
          have HST := Lib.hid hstep
          have HJ : Hid (∀ W, Calls Try.prog 46 #[.agg #[.int .i64 (e1 : Int), .int .i64 (e2 : Int)], .int .i64 (va : Int), .int .i64 (vb : Int)] W fun e w' => e = .returned (.bool (jE (K, (va : Int), (vb : Int)) (e1, e2))) ∧ Fr F0 W w') := Lib.hid (fun W => joins_any e1 e2 va vb W)
          clear hc q1 q2 he hstep
          dsimp only at c1 c2
          cases hj : jE (K, (va : Int), (vb : Int)) (e1, e2)
          all_goals
            rw [hj] at HJ HST
            clear hj
            go_wp2_with fail
            go_region_held3 (fun w' => w'.cell? ⟨g, i * 2, none⟩ = some (.int .i64 (e1 : Int)) ∧ w'.cell? ⟨g, i * 2 + 1, none⟩ = some (.int .i64 (e2 : Int)) ∧ w'.cell? ⟨bx, 1, none⟩ = some (.int .i64 (va : Int)) ∧ w'.cell? ⟨bx, 2, none⟩ = some (.int .i64 (vb : Int))) (go_keep)
              (first | (go_at_call 46; refine (HJ.out _).mono ?_; rintro e w2 ⟨rfl, F2⟩; have H2 := Lib.hid ((H.out.more (Fr.drew (Fr.refl F0 _)) (fun _ h => h.elim)).more F2 (fun _ h => h.elim)); have c1' := F2.cell c1 id; have c2' := F2.cell c2 id; have y1' := F2.cell y1 id; have y2' := F2.cell y2 id; clear F2) | fail)
            go_wp2_with fail
            go_roundw
            case rel => exact ⟨i + 1, by omega, by go_num, by rw [HST.out]; rfl, H2⟩
            case measure => simp [intOf]; omega
        · obtain rfl : m = i := by omega
          have hat : atK (K, (va : Int), (vb : Int)) E m = atE (K, (va : Int), (vb : Int)) E := by unfold atE; rw [← HM.out]
          rw [hat]
          have bd : -1 ≤ atE (K, (va : Int), (vb : Int)) E ∧ atE (K, (va : Int), (vb : Int)) E < m := by rw [← hat]; exact atK_bd _ _ _
          have HAT := Lib.hid hat
          have hae : aft n E (K, (va : Int), (vb : Int)) = if K = 1 then (if va = vb ∨ 0 ≤ atE (K, (va : Int), (vb : Int)) E then none else some (E ++ [(va, vb)])) else if K = 2 then (if atE (K, (va : Int), (vb : Int)) E < 0 then none else some (E.take (atE (K, (va : Int), (vb : Int)) E).toNat ++ E.drop ((atE (K, (va : Int), (vb : Int)) E).toNat + 1))) else if K = 3 then some E else none := by
            unfold aft
            rw [if_pos HOK.out]
            simp only [Int.natCast_inj, Int.toNat_natCast]
          have HAE := Lib.hid hae
          obtain ⟨t, ht⟩ : ∃ t, t = atE (K, (va : Int), (vb : Int)) E := ⟨_, rfl⟩
          rw [← ht] at HAE bd ⊢
          clear hae hat ht HAT
          have x0 := H.out.xb.cell (i := 0) rfl
          have x1 := H.out.held.1
          have x2 := H.out.held.2
          have hfr := Lib.hid (FB.out.trans0 H.out.fr)
          by_cases g1 : K = 1
          · have k1 : (K == 1) = true := by simpa using g1
            have G1 := Lib.hid g1
            clear g1
            by_cases g4 : va = vb
            · have n4 : ((va : Int) == (vb : Int)) = true := by simp; omega
              have G4 := Lib.hid g4
              clear g4
              go_wp2_with fail
              go_ret2
              rw [HAE.out, if_pos G1.out, if_pos (.inl G4.out)]
              exact ⟨⟨_, _, _, rfl⟩, hfr.out⟩
            · have n4 : ((va : Int) == (vb : Int)) = false := by simp; omega
              have G4 := Lib.hid g4
              clear g4
              by_cases g5 : 0 ≤ t
              · have n5 : decide (0 ≤ t) = true := decide_eq_true g5
                have G5 := Lib.hid g5
                go_wp2_with fail
                go_ret2
                rw [HAE.out, if_pos G1.out, if_pos (.inr G5.out)]
                exact ⟨⟨_, _, _, rfl⟩, hfr.out⟩
              · have n5 : decide (0 ≤ t) = false := decide_eq_false g5
                have G5 := Lib.hid g5
                go_wp2_with fail
                clear n4 n5 k1 g5
                obtain ⟨w1, hw1⟩ : ∃ wz, wz = wr.drew := ⟨_, rfl⟩
                have A0 : Hid (AfS wb w1 B a m c E bx K va vb) := Lib.hid (by rw [hw1]; exact H.out.more (Fr.drew (Fr.refl F0 _)) (fun _ h => h.elim))
                refine wp_region_last 11 (fun w' : World => w'.cell? ⟨bx, 1, none⟩ = some (.int .i64 (va : Int)) ∧ w'.cell? ⟨bx, 2, none⟩ = some (.int .i64 (vb : Int))) (by kernel_rfl) ?_
                rw [← hw1]
                have hHeld : (fun w' : World => w'.cell? ⟨bx, 1, none⟩ = some (.int .i64 (va : Int)) ∧ w'.cell? ⟨bx, 2, none⟩ = some (.int .i64 (vb : Int))) w1 := A0.out.held
                clear hw1 x0 x1 x2 H hfr
                refine anyP_takeF 1 (v := ?_) rfl (by kernel_rfl) (fun _ _ _ h => h) (Or.inl ⟨by rfl, ?_⟩) (.inr hHeld) ?_
                rotate_left 1
                · (intro w0 hSw; (try dsimp only at hSw); go_simp; (try (with_reducible rfl)))
                (try simp only [Act.put, List.setIfInBounds_toArray])
                refine anyP_takeF 3 (v := ?_) rfl (by kernel_rfl) (fun _ _ _ h => h) (Or.inl ⟨by rfl, ?_⟩) (.inr hHeld) ?_
                rotate_left 1
                · (intro w0 hSw; (try dsimp only at hSw); go_simp; (try (with_reducible rfl)))
                (try simp only [Act.put])
                refine anyP_take 4 (v := ?_) rfl rfl (by kernel_rfl) (fun _ _ _ h => h) (Or.inl ⟨by rfl, ?_⟩) hHeld ?_
                rotate_left 1
                · (intro w0 hSw; (try dsimp only at hSw); go_simp; (try (with_reducible rfl)))
                (try simp only [Act.put])
                refine anyP_takeF 5 (v := ?_) rfl (by kernel_rfl) (fun _ _ _ h => h) (Or.inl ⟨by rfl, ?_⟩) (.inr hHeld) ?_
                rotate_left 1
                · (intro w0 hSw; (try dsimp only at hSw); go_simp; (try (with_reducible rfl)))
                (try simp only [Act.put])
                refine anyP_take 6 (v := ?_) rfl rfl (by kernel_rfl) (fun _ _ _ h => h) (Or.inl ⟨by rfl, ?_⟩) hHeld ?_
                rotate_left 1
                · (intro w0 hSw; (try dsimp only at hSw); go_simp; (try (with_reducible rfl)))
                (try simp only [Act.put])
                refine anyP_takeF 7 (v := ?_) rfl (by kernel_rfl) (fun _ _ _ h => h) (Or.inl ⟨by rfl, ?_⟩) (.inr hHeld) ?_
                rotate_left 1
                · (intro w0 hSw; (try dsimp only at hSw); go_simp; (try (with_reducible rfl)))
                (try simp only [Act.put])
                refine anyP_more [0, 8] (by kernel_rfl) (by decide) ?_
                intro j hj
                simp only [List.mem_cons, List.not_mem_nil, or_false] at hj
                rcases hj with rfl | rfl
                · refine ⟨_, rfl, fun KK hKK => ?_⟩
                  replace hKK := Lib.hid hKK
                  go_simp
                  have FA := (Fr.refl F0 w1).alloc (.cells #[] 62)
                  refine hKK.out _ _ (.inr (A0.out.more FA (fun _ h => h.elim)).held) ?_
                  clear hKK KK
                  (try simp only [Act.put, List.setIfInBounds_toArray, List.set_cons_zero, List.set_cons_succ])
                  have A1 := Lib.hid (A0.out.more FA (fun _ h => h.elim))
                  have O4 := Lib.hid (OwnZ.lit (w := w1) (B := wb.heap.size) (T := 62) (s := 2) [] 0 rfl A0.out.fr.size (by omega))
                  change Hid (OwnZ (w1.alloc (.cells #[] 62)) wb.heap.size 62 2 _ 0 0 []) at O4
                  obtain ⟨wy2, hwy2⟩ : ∃ wz, wz = w1.alloc (.cells #[] 62) := ⟨_, rfl⟩
                  obtain ⟨g3, hg3⟩ : ∃ g, g = w1.heap.size := ⟨_, rfl⟩
                  clear FA
                  rw [← hwy2] at A1 O4 ⊢
                  rw [← hg3] at O4 ⊢
                  clear hwy2 hg3
                  refine anyP_more [2, 8] (by kernel_rfl) (by decide) ?_
                  intro j hj
                  simp only [List.mem_cons, List.not_mem_nil, or_false] at hj
                  rcases hj with rfl | rfl
                  · refine ⟨_, rfl, fun KK hKK => ?_⟩
                    replace hKK := Lib.hid hKK
                    refine stepAppZ E62 (by decide) (by rfl) (by rfl) (by rfl) (by rfl) O4.out A1.out.own.rd (eds_one _) (by omega) (by omega) A1.out.fr.size m (by omega) ?_
                    intro a7 c8 wy6 own' fr' at'
                    rw [List.nil_append] at own'
                    have A5 := Lib.hid (A1.out.more fr' (fun k hk => (OwnZ.blk O4.out k hk).1))
                    refine hKK.out _ _ (.inr A5.out.held) ?_
                    clear hKK KK
                    (try simp only [Act.put, List.setIfInBounds_toArray])
                    have O9 := Lib.hid own'
                    clear own' fr' at'
                    refine anyP_more [8] (by kernel_rfl) (by decide) ?_
                    intro j hj
                    simp only [List.mem_cons, List.not_mem_nil, or_false] at hj
                    subst hj
                    refine ⟨_, rfl, fun KK hKK => ?_⟩
                    replace hKK := Lib.hid hKK
                    go_simp
                    have FA := (Fr.refl F0 wy6).alloc (.cells #[.int .i64 (va : Int), .int .i64 (vb : Int)] 62)
                    refine hKK.out _ _ (.inr (A5.out.more FA (fun _ h => h.elim)).held) ?_
                    clear hKK KK
                    (try simp only [Act.put, List.setIfInBounds_toArray, List.set_cons_zero, List.set_cons_succ])
                    have A10 := Lib.hid (A5.out.more FA (fun _ h => h.elim))
                    have O13 := Lib.hid (OwnZ.fr0 O9.out FA)
                    have L14 := Lib.hid (rdZ_new wy6 62 (ed2 (va, vb)))
                    change Hid (RdZ (wy6.alloc (.cells #[.int .i64 (va : Int), .int .i64 (vb : Int)] 62)) 2 _ 1 _) at L14
                    have hne : Hid (¬ onBlk a7 wy6.heap.size) := Lib.hid (fun h => by have h1 := (O9.out.blk _ h).2; omega)
                    obtain ⟨wy11, hwy11⟩ : ∃ wz, wz = wy6.alloc (.cells #[.int .i64 (va : Int), .int .i64 (vb : Int)] 62) := ⟨_, rfl⟩
                    obtain ⟨g12, hg12⟩ : ∃ g, g = wy6.heap.size := ⟨_, rfl⟩
                    clear FA
                    rw [← hwy11] at A10 O13 L14 ⊢
                    rw [← hg12] at L14 hne ⊢
                    clear hwy11 hg12
                    refine anyP_more [9] (by kernel_rfl) (by decide) ?_
                    intro j hj
                    simp only [List.mem_cons, List.not_mem_nil, or_false] at hj
                    subst hj
                    refine ⟨_, rfl, fun KK hKK => ?_⟩
                    replace hKK := Lib.hid hKK
                    refine stepAppZ E62 (by decide) (by rfl) (by rfl) (by rfl) (by rfl) O13.out L14.out (ed2_one _) (by omega) (by omega) A10.out.fr.size (m + 1) (by omega) ?_
                    intro a17 c18 wy16 own' fr' at'
                    have A15 := Lib.hid (A10.out.more fr' (fun k hk => (OwnZ.blk O13.out k hk).1))
                    refine hKK.out _ _ (.inr A15.out.held) ?_
                    clear hKK KK
                    (try simp only [Act.put, List.setIfInBounds_toArray])
                    have O19 := Lib.hid own'
                    clear own' fr' at'
                    refine anyP_one 10 (by kernel_rfl) rfl (fun K hK => ?_)
                    replace hK := Lib.hid hK
                    go_simp
                    refine hK.out _ _ (.inr A15.out.held) ?_
                    clear hK K
                    (try simp only [Act.put, List.setIfInBounds_toArray, List.set_cons_zero, List.set_cons_succ])
                    refine anyP_one 11 (by kernel_rfl) rfl (fun K hK => ?_)
                    replace hK := Lib.hid hK
                    go_simp
                    refine hK.out _ _ (.inr A15.out.held) ?_
                    clear hK K
                    (try simp only [Act.put, List.setIfInBounds_toArray, List.set_cons_zero, List.set_cons_succ])
                    refine anyP_done (by kernel_rfl) ?_ _
                    refine NoPanic.normal ?_
                    go_wp2_with fail
                    go_ret2
                    rw [HAE.out, if_pos G1.out, if_neg (fun h => h.elim G4.out (fun h2 => by have := G5.out; omega))]
                    unfold AfR
                    have hl : (E ++ [(va, vb)]).length = m + 1 := by rw [List.length_append, HM.out]; rfl
                    dsimp only
                    rw [hl]
                    refine ⟨_, _, rfl, ?_, FB.out.trans0 A15.out.fr, fun k hk => .inr (Nat.le_trans FB.out.size (OwnZ.blk O19.out k hk).1)⟩
                    have h := O19.out
                    rw [eds_app]
                    exact h.mono (by have := HBw.out; have := FB.out.size; omega)
                  · refine ⟨_, rfl, fun KK hKK => ?_⟩
                    replace hKK := Lib.hid hKK
                    go_simp
                    have FA := (Fr.refl F0 wy2).alloc (.cells #[.int .i64 (va : Int), .int .i64 (vb : Int)] 62)
                    refine hKK.out _ _ (.inr (A1.out.more FA (fun _ h => h.elim)).held) ?_
                    clear hKK KK
                    (try simp only [Act.put, List.setIfInBounds_toArray, List.set_cons_zero, List.set_cons_succ])
                    have A20 := Lib.hid (A1.out.more FA (fun _ h => h.elim))
                    have O23 := Lib.hid (OwnZ.fr0 O4.out FA)
                    have L24 := Lib.hid (rdZ_new wy2 62 (ed2 (va, vb)))
                    change Hid (RdZ (wy2.alloc (.cells #[.int .i64 (va : Int), .int .i64 (vb : Int)] 62)) 2 _ 1 _) at L24
                    have hne : Hid (¬ onBlk (some ⟨g3, 0, none⟩) wy2.heap.size) := Lib.hid (fun h => by have h1 := (O4.out.blk _ h).2; omega)
                    obtain ⟨wy21, hwy21⟩ : ∃ wz, wz = wy2.alloc (.cells #[.int .i64 (va : Int), .int .i64 (vb : Int)] 62) := ⟨_, rfl⟩
                    obtain ⟨g22, hg22⟩ : ∃ g, g = wy2.heap.size := ⟨_, rfl⟩
                    clear FA
                    rw [← hwy21] at A20 O23 L24 ⊢
                    rw [← hg22] at L24 hne ⊢
                    clear hwy21 hg22
                    refine anyP_more [2] (by kernel_rfl) (by decide) ?_
                    intro j hj
                    simp only [List.mem_cons, List.not_mem_nil, or_false] at hj
                    subst hj
                    refine ⟨_, rfl, fun KK hKK => ?_⟩
                    replace hKK := Lib.hid hKK
                    refine stepAppZ E62 (by decide) (by rfl) (by rfl) (by rfl) (by rfl) O23.out A20.out.own.rd (eds_one _) (by omega) (by omega) A20.out.fr.size m (by omega) ?_
                    intro a27 c28 wy26 own' fr' at'
                    rw [List.nil_append] at own'
                    have A25 := Lib.hid (A20.out.more fr' (fun k hk => (OwnZ.blk O23.out k hk).1))
                    refine hKK.out _ _ (.inr A25.out.held) ?_
                    clear hKK KK
                    (try simp only [Act.put, List.setIfInBounds_toArray])
                    have O29 := Lib.hid own'
                    have L30 := Lib.hid (RdZ.fr L24.out fr' (fun k hk => by rw [(onBlk_some _ _ _ _).1 hk]; exact hne.out))
                    clear own' fr' at'
                    refine anyP_more [9] (by kernel_rfl) (by decide) ?_
                    intro j hj
                    simp only [List.mem_cons, List.not_mem_nil, or_false] at hj
                    subst hj
                    refine ⟨_, rfl, fun KK hKK => ?_⟩
                    replace hKK := Lib.hid hKK
                    refine stepAppZ E62 (by decide) (by rfl) (by rfl) (by rfl) (by rfl) O29.out L30.out (ed2_one _) (by omega) (by omega) A25.out.fr.size (m + 1) (by omega) ?_
                    intro a33 c34 wy32 own' fr' at'
                    have A31 := Lib.hid (A25.out.more fr' (fun k hk => (OwnZ.blk O29.out k hk).1))
                    refine hKK.out _ _ (.inr A31.out.held) ?_
                    clear hKK KK
                    (try simp only [Act.put])
                    have O35 := Lib.hid own'
                    clear own' fr' at'
                    refine anyP_one 10 (by kernel_rfl) rfl (fun K hK => ?_)
                    replace hK := Lib.hid hK
                    go_simp
                    refine hK.out _ _ (.inr A31.out.held) ?_
                    clear hK K
                    (try simp only [Act.put, List.setIfInBounds_toArray, List.set_cons_zero, List.set_cons_succ])
                    refine anyP_one 11 (by kernel_rfl) rfl (fun K hK => ?_)
                    replace hK := Lib.hid hK
                    go_simp
                    refine hK.out _ _ (.inr A31.out.held) ?_
                    clear hK K
                    (try simp only [Act.put, List.setIfInBounds_toArray, List.set_cons_zero, List.set_cons_succ])
                    refine anyP_done (by kernel_rfl) ?_ _
                    refine NoPanic.normal ?_
                    go_wp2_with fail
                    go_ret2
                    rw [HAE.out, if_pos G1.out, if_neg (fun h => h.elim G4.out (fun h2 => by have := G5.out; omega))]
                    unfold AfR
                    have hl : (E ++ [(va, vb)]).length = m + 1 := by rw [List.length_append, HM.out]; rfl
                    dsimp only
                    rw [hl]
                    refine ⟨_, _, rfl, ?_, FB.out.trans0 A31.out.fr, fun k hk => .inr (Nat.le_trans FB.out.size (OwnZ.blk O35.out k hk).1)⟩
                    have h := O35.out
                    rw [eds_app]
                    exact h.mono (by have := HBw.out; have := FB.out.size; omega)
                · refine ⟨_, rfl, fun KK hKK => ?_⟩
                  replace hKK := Lib.hid hKK
                  go_simp
                  have FA := (Fr.refl F0 w1).alloc (.cells #[.int .i64 (va : Int), .int .i64 (vb : Int)] 62)
                  refine hKK.out _ _ (.inr (A0.out.more FA (fun _ h => h.elim)).held) ?_
                  clear hKK KK
                  (try simp only [Act.put, List.setIfInBounds_toArray, List.set_cons_zero, List.set_cons_succ])
                  have A36 := Lib.hid (A0.out.more FA (fun _ h => h.elim))
                  have L39 := Lib.hid (rdZ_new w1 62 (ed2 (va, vb)))
                  change Hid (RdZ (w1.alloc (.cells #[.int .i64 (va : Int), .int .i64 (vb : Int)] 62)) 2 _ 1 _) at L39
                  have Hlt : Hid (w1.heap.size < (w1.alloc (.cells #[.int .i64 (va : Int), .int .i64 (vb : Int)] 62)).heap.size) := Lib.hid (by simp)
                  obtain ⟨wy37, hwy37⟩ : ∃ wz, wz = w1.alloc (.cells #[.int .i64 (va : Int), .int .i64 (vb : Int)] 62) := ⟨_, rfl⟩
                  obtain ⟨g38, hg38⟩ : ∃ g, g = w1.heap.size := ⟨_, rfl⟩
                  clear FA
                  rw [← hwy37, ← hg38] at Hlt
                  rw [← hwy37] at A36 L39 ⊢
                  rw [← hg38] at L39 ⊢
                  clear hwy37 hg38
                  refine anyP_more [0] (by kernel_rfl) (by decide) ?_
                  intro j hj
                  simp only [List.mem_cons, List.not_mem_nil, or_false] at hj
                  subst hj
                  refine ⟨_, rfl, fun KK hKK => ?_⟩
                  replace hKK := Lib.hid hKK
                  go_simp
                  have FA := (Fr.refl F0 wy37).alloc (.cells #[] 62)
                  refine hKK.out _ _ (.inr (A36.out.more FA (fun _ h => h.elim)).held) ?_
                  clear hKK KK
                  (try simp only [Act.put, List.setIfInBounds_toArray, List.set_cons_zero, List.set_cons_succ])
                  have A40 := Lib.hid (A36.out.more FA (fun _ h => h.elim))
                  have L43 := Lib.hid (RdZ.fr0 L39.out FA)
                  have O44 := Lib.hid (OwnZ.lit (w := wy37) (B := wb.heap.size) (T := 62) (s := 2) [] 0 rfl A36.out.fr.size (by omega))
                  change Hid (OwnZ (wy37.alloc (.cells #[] 62)) wb.heap.size 62 2 _ 0 0 []) at O44
                  have hne : Hid (¬ onBlk (some ⟨wy37.heap.size, 0, none⟩) g38) := Lib.hid (fun h => by have h1 := (onBlk_some _ _ _ _).1 h; have h2 := Hlt.out; omega)
                  obtain ⟨wy41, hwy41⟩ : ∃ wz, wz = wy37.alloc (.cells #[] 62) := ⟨_, rfl⟩
                  obtain ⟨g42, hg42⟩ : ∃ g, g = wy37.heap.size := ⟨_, rfl⟩
                  clear FA
                  rw [← hwy41] at A40 L43 O44 ⊢
                  rw [← hg42] at O44 hne ⊢
                  clear hwy41 hg42
                  refine anyP_more [2] (by kernel_rfl) (by decide) ?_
                  intro j hj
                  simp only [List.mem_cons, List.not_mem_nil, or_false] at hj
                  subst hj
                  refine ⟨_, rfl, fun KK hKK => ?_⟩
                  replace hKK := Lib.hid hKK
                  refine stepAppZ E62 (by decide) (by rfl) (by rfl) (by rfl) (by rfl) O44.out A40.out.own.rd (eds_one _) (by omega) (by omega) A40.out.fr.size m (by omega) ?_
                  intro a47 c48 wy46 own' fr' at'
                  rw [List.nil_append] at own'
                  have A45 := Lib.hid (A40.out.more fr' (fun k hk => (OwnZ.blk O44.out k hk).1))
                  refine hKK.out _ _ (.inr A45.out.held) ?_
                  clear hKK KK
                  (try simp only [Act.put, List.setIfInBounds_toArray])
                  have O49 := Lib.hid own'
                  have L50 := Lib.hid (RdZ.fr L43.out fr' (fun k hk => by rw [(onBlk_some _ _ _ _).1 hk]; exact hne.out))
                  clear own' fr' at'
                  refine anyP_more [9] (by kernel_rfl) (by decide) ?_
                  intro j hj
                  simp only [List.mem_cons, List.not_mem_nil, or_false] at hj
                  subst hj
                  refine ⟨_, rfl, fun KK hKK => ?_⟩
                  replace hKK := Lib.hid hKK
                  refine stepAppZ E62 (by decide) (by rfl) (by rfl) (by rfl) (by rfl) O49.out L50.out (ed2_one _) (by omega) (by omega) A45.out.fr.size (m + 1) (by omega) ?_
                  intro a53 c54 wy52 own' fr' at'
                  have A51 := Lib.hid (A45.out.more fr' (fun k hk => (OwnZ.blk O49.out k hk).1))
                  refine hKK.out _ _ (.inr A51.out.held) ?_
                  clear hKK KK
                  (try simp only [Act.put])
                  have O55 := Lib.hid own'
                  clear own' fr' at'
                  refine anyP_one 10 (by kernel_rfl) rfl (fun K hK => ?_)
                  replace hK := Lib.hid hK
                  go_simp
                  refine hK.out _ _ (.inr A51.out.held) ?_
                  clear hK K
                  (try simp only [Act.put, List.setIfInBounds_toArray, List.set_cons_zero, List.set_cons_succ])
                  refine anyP_one 11 (by kernel_rfl) rfl (fun K hK => ?_)
                  replace hK := Lib.hid hK
                  go_simp
                  refine hK.out _ _ (.inr A51.out.held) ?_
                  clear hK K
                  (try simp only [Act.put, List.setIfInBounds_toArray, List.set_cons_zero, List.set_cons_succ])
                  refine anyP_done (by kernel_rfl) ?_ _
                  refine NoPanic.normal ?_
                  go_wp2_with fail
                  go_ret2
                  rw [HAE.out, if_pos G1.out, if_neg (fun h => h.elim G4.out (fun h2 => by have := G5.out; omega))]
                  unfold AfR
                  have hl : (E ++ [(va, vb)]).length = m + 1 := by rw [List.length_append, HM.out]; rfl
                  dsimp only
                  rw [hl]
                  refine ⟨_, _, rfl, ?_, FB.out.trans0 A51.out.fr, fun k hk => .inr (Nat.le_trans FB.out.size (OwnZ.blk O55.out k hk).1)⟩
                  have h := O55.out
                  rw [eds_app]
                  exact h.mono (by have := HBw.out; have := FB.out.size; omega)
          · have k1 : (K == 1) = false := by simpa using g1
            have G1 := Lib.hid g1
            clear g1
            by_cases g2 : K = 2
            · have k2 : (K == 2) = true := by simpa using g2
              have G2 := Lib.hid g2
              clear g2
              by_cases g5 : t < 0
              · have n5 : decide (t < 0) = true := decide_eq_true g5
                have G5 := Lib.hid g5
                go_wp2_with fail
                go_ret2
                rw [HAE.out, if_neg G1.out, if_pos G2.out, if_pos G5.out]
                exact ⟨⟨_, _, _, rfl⟩, hfr.out⟩
              · obtain ⟨j, rfl⟩ := Int.eq_ofNat_of_zero_le (show 0 ≤ t by omega)
                have n5 : decide ((j : Int) < 0) = false := decide_eq_false g5
                have G5 := Lib.hid g5
                have hjm : j < m := by omega
                go_wp2_with fail
                clear n5 k1 k2 g5
                have hcap := OwnZ.cap H.out.own
                have h2a : ∀ W : World, (Instr.sliceAt 60 (.slice a m c) none (some (.int .i64 (j : Int))) none).run Try.prog W = .ok (.slice (cutZ 2 a c 0) j c) W := fun W => run_cutHiZ2 E62 W a (by omega) rfl
                have h2b : ∀ W : World, (Instr.sliceAt 60 (.slice a m c) (some (.int .i64 ((j : Int) + 1))) none none).run Try.prog W = .ok (.slice (cutZ 2 a c (j + 1)) (m - (j + 1)) (c - (j + 1))) W := fun W => run_cutLoZ E62 W a (k := j + 1) (by omega) (by omega)
                have hww : IntKind.i64.wrap ((j : Int) + 1) = (j : Int) + 1 := wI (by omega) (by omega)
                obtain ⟨w1, hw1⟩ : ∃ wz, wz = wr.drew := ⟨_, rfl⟩
                have A0 : Hid (AfS wb w1 B a m c E bx K va vb) := Lib.hid (by rw [hw1]; exact H.out.more (Fr.drew (Fr.refl F0 _)) (fun _ h => h.elim))
                refine wp_region_last 11 (fun _ : World => True) (by kernel_rfl) ?_
                rw [← hw1]
                have hHeld : (fun _ : World => True) w1 := trivial
                clear hw1 x0 x1 x2 H hfr
                refine anyP_takeF 1 (v := ?_) rfl (by kernel_rfl) (fun _ _ _ h => h) (Or.inl ⟨by rfl, ?_⟩) (.inr hHeld) ?_
                rotate_left 1
                · (intro w0 hSw; (try dsimp only at hSw); go_simp; (try (with_reducible rfl)))
                (try simp only [Act.put, List.setIfInBounds_toArray])
                refine anyP_takeF 2 (v := ?_) rfl (by kernel_rfl) (fun _ _ _ h => h) (Or.inl ⟨by rfl, ?_⟩) (.inr hHeld) ?_
                rotate_left 1
                · (intro w0 hSw; (try dsimp only at hSw); go_simp; (try (with_reducible rfl)))
                (try simp only [Act.put])
                refine anyP_takeF 3 (v := ?_) rfl (by kernel_rfl) (fun _ _ _ h => h) (Or.inl ⟨by rfl, ?_⟩) (.inr hHeld) ?_
                rotate_left 1
                · (intro w0 hSw; (try dsimp only at hSw); go_simp; (try (with_reducible rfl)))
                (try simp only [Act.put])
                refine anyP_takeF 5 (v := ?_) rfl (by kernel_rfl) (fun _ _ _ h => h) (Or.inl ⟨by rfl, ?_⟩) (.inr hHeld) ?_
                rotate_left 1
                · (intro w0 hSw; (try dsimp only at hSw); go_simp; (try (with_reducible rfl)))
                (try simp only [Act.put])
                refine anyP_takeF 6 (v := ?_) rfl (by kernel_rfl) (fun _ _ _ h => h) (Or.inl ⟨by rfl, ?_⟩) (.inr hHeld) ?_
                rotate_left 1
                · (intro w0 hSw; (try dsimp only at hSw); go_simp; (try (with_reducible rfl)))
                (try simp only [Act.put])
                refine anyP_takeF 7 (v := ?_) rfl (by kernel_rfl) (fun _ _ _ h => h) (Or.inl ⟨by rfl, ?_⟩) (.inr hHeld) ?_
                rotate_left 1
                · (intro w0 hSw; (try dsimp only at hSw); go_simp; (try (with_reducible rfl)))
                (try simp only [Act.put])
                refine anyP_takeF 8 (v := ?_) rfl (by kernel_rfl) (fun _ _ _ h => h) (Or.inl ⟨by rfl, ?_⟩) (.inr hHeld) ?_
                rotate_left 1
                · (intro w0 hSw; (try dsimp only at hSw); go_simp; (try (with_reducible rfl)))
                (try simp only [Act.put])
                clear hww h2a h2b
                refine anyP_one 0 (by kernel_rfl) rfl (fun KK hKK => ?_)
                replace hKK := Lib.hid hKK
                go_simp
                refine hKK.out _ _ (.inr trivial) ?_
                clear hKK KK
                (try simp only [Act.put, List.setIfInBounds_toArray, List.set_cons_zero, List.set_cons_succ])
                have FA := (Fr.refl F0 w1).alloc (.cells #[] 62)
                have A1 := Lib.hid (A0.out.more FA (fun _ h => h.elim))
                have O1 := Lib.hid (OwnZ.lit (w := w1) (B := wb.heap.size) (T := 62) (s := 2) [] 0 rfl A0.out.fr.size (by omega))
                change Hid (OwnZ (w1.alloc (.cells #[] 62)) wb.heap.size 62 2 _ 0 0 []) at O1
                obtain ⟨w2, hw2⟩ : ∃ wz, wz = w1.alloc (.cells #[] 62) := ⟨_, rfl⟩
                rw [← hw2] at A1 O1 ⊢
                clear hw2 FA
                refine anyP_one 4 (by kernel_rfl) rfl (fun KK hKK => ?_)
                replace hKK := Lib.hid hKK
                have R1 := A1.out.own.rd.cutHi hcap (k := j) (by omega)
                rw [eds_take] at R1
                refine stepAppZ E62 (by decide) (by rfl) (by rfl) (by rfl) (by rfl) O1.out R1 (eds_one _) (by omega) (by omega) A1.out.fr.size j (by omega) ?_
                intro a3 c3 w3 own' fr' at'
                rw [List.nil_append] at own'
                have A2 := Lib.hid (A1.out.more fr' (fun k hk => (OwnZ.blk O1.out k hk).1))
                refine hKK.out _ _ (.inr trivial) ?_
                clear hKK KK R1
                (try simp only [Act.put, List.setIfInBounds_toArray])
                have O2 := Lib.hid own'
                clear own' fr' at'
                refine anyP_one 9 (by kernel_rfl) rfl (fun KK hKK => ?_)
                replace hKK := Lib.hid hKK
                have R2 := A2.out.own.rd.cut hcap (k := j + 1) (r := m - (j + 1)) (by omega)
                rw [eds_drop] at R2
                refine stepAppZ E62 (by decide) (by rfl) (by rfl) (by rfl) (by rfl) O2.out R2 (eds_one _) (by omega) (by omega) A2.out.fr.size (m - 1) (by omega) ?_
                intro a4 c4 w4 own' fr' at'
                have A3' := Lib.hid (A2.out.more fr' (fun k hk => (OwnZ.blk O2.out k hk).1))
                refine hKK.out _ _ (.inr trivial) ?_
                clear hKK KK R2
                (try simp only [Act.put])
                have O3 := Lib.hid own'
                clear own' fr' at' hHeld
                have hHeld : (fun _ : World => True) w4 := trivial
                refine anyP_one 10 (by kernel_rfl) rfl (fun K hK => ?_)
                replace hK := Lib.hid hK
                go_simp
                refine hK.out _ _ (.inr trivial) ?_
                clear hK K
                (try simp only [Act.put, List.setIfInBounds_toArray, List.set_cons_zero, List.set_cons_succ])
                refine anyP_one 11 (by kernel_rfl) rfl (fun K hK => ?_)
                replace hK := Lib.hid hK
                go_simp
                refine hK.out _ _ (.inr trivial) ?_
                clear hK K
                (try simp only [Act.put, List.setIfInBounds_toArray, List.set_cons_zero, List.set_cons_succ])
                refine anyP_done (by kernel_rfl) ?_ _
                refine NoPanic.normal ?_
                go_wp2_with fail
                go_ret2
                rw [HAE.out, if_neg G1.out, if_pos G2.out, if_neg (show ¬ (j : Int) < 0 by omega), Int.toNat_natCast]
                unfold AfR
                have hl : (E.take j ++ E.drop (j + 1)).length = m - 1 := by rw [List.length_append, List.length_take, List.length_drop, ← HM.out]; omega
                dsimp only
                rw [hl]
                refine ⟨_, _, rfl, ?_, FB.out.trans0 A3'.out.fr, fun k hk => .inr (Nat.le_trans FB.out.size (OwnZ.blk O3.out k hk).1)⟩
                have h := O3.out
                rw [eds_app]
                exact h.mono (by have := HBw.out; have := FB.out.size; omega)
            · have k2 : (K == 2) = false := by simpa using g2
              have G2 := Lib.hid g2
              clear g2
              by_cases g3 : K = 3
              · have k3 : (K == 3) = true := by simpa using g3
                have G3 := Lib.hid g3
                clear g3
                go_wp2_with fail
                go_quiet (fail)
                go_wp2_with fail
                go_ret2
                rw [HAE.out, if_neg G1.out, if_neg G2.out, if_pos G3.out]
                have hm := HM.out
                subst hm
                exact ⟨a, c, rfl, (H.out.own.fr0 ((Fr.refl F0 wr).drewN nq)), hfr.out.drewN nq, fun k hk => .inl hk⟩
              · have k3 : (K == 3) = false := by simpa using g3
                have G3 := Lib.hid g3
                clear g3
                go_wp2_with fail
                go_quiet (fail)
                go_wp2_with fail
                go_ret2
                rw [HAE.out, if_neg G1.out, if_neg G2.out, if_neg G3.out]
                exact ⟨⟨_, _, _, rfl⟩, hfr.out.drewN nq⟩
    · have hno : okE n (K, A, Bv) = false := by unfold okE; simp; omega
      have eA : (decide (0 ≤ A) && decide (A < (n : Int))) = true := by simp; omega
      have eB : (decide (0 ≤ Bv) && decide (Bv < (n : Int))) = false := by simp; omega
      rw [eA] at IA
      rw [eB] at IB
      have HNO := Lib.hid hno
      clear eA eB cA cB hno
      go_enter Try.func44, Try.ntmps44
      go_wp2_with fail
      refine (IA.out _).mono ?_
      rintro e w1 ⟨rfl, rfl⟩
      go_wp2_with fail
      refine (IB.out _).mono ?_
      rintro e w1 ⟨rfl, rfl⟩
      go_wp2_with fail
      go_ret2
      unfold aft
      rw [HNO.out]
      exact ⟨⟨_, _, _, rfl⟩, FB.out⟩
  · have hno : okE n (K, A, Bv) = false := by unfold okE; simp; omega
    have eA : (decide (0 ≤ A) && decide (A < (n : Int))) = false := by simp; omega
    rw [eA] at IA
    have HNO := Lib.hid hno
    clear eA cA hno
    go_enter Try.func44, Try.ntmps44
    go_wp2_with fail
    refine (IA.out _).mono ?_
    rintro e w1 ⟨rfl, rfl⟩
    go_wp2_with fail
    go_ret2
    unfold aft
    rw [HNO.out]
    exact ⟨⟨_, _, _, rfl⟩, FB.out⟩
end Go.Proofs.Ytihcaemheknjbaa
