/- Meld. -/
import Derived.Test.YtdphademoeofkaaS14
namespace Go.Proofs.Ytdphademoeofkaa
open Go.RowKit
attribute [local go_sem ↓] Go.wp_at_zero Go.wp_at_succ
set_option maxRecDepth 100000 in
set_option maxHeartbeats 4000000 in
theorem Meld_ok {w : World} {ha hb rate : Nat} {tsA tsB : List Tr} {ownA ownB : List Int} {IA IB : List (Option Nat)} {TA TB : Nat → Prop} (hA : Hp w ha rate tsA ownA IA TA) (hB : Hp w hb rate tsB ownB IB TB) (hd : ∀ q, TA q → ¬ TB q) (hl : ownA.length + ownB.length ≤ 2000) :
    Calls Try.prog 12 #[.pointer (some ⟨ha, 0, none⟩), .pointer (some ⟨hb, 0, none⟩)] w (MdP w ha hb rate tsA ownA IA TA tsB ownB IB TB) := by
  obtain ⟨atA, ctA, aoA, coA, aiA, ciA, NtA, h1, hgA, hr, hsA⟩ := hA
  obtain ⟨atB, ctB, aoB, coB, aiB, ciB, NtB, h2, hgB, _, hsB⟩ := hB
  have hne : ha ≠ hb := fun e => hd ha h1.hT (e ▸ h2.hT)
  have HD := Lib.hid hd
  clear hd
  have a0 := h1.blk.cell (i := 0) rfl
  have b0 := h2.blk.cell (i := 0) rfl
  have a2 := h1.blk.cell (i := 2) rfl
  have b2 := h2.blk.cell (i := 2) rfl
  have b3 := h2.blk.cell (i := 3) rfl
  have he := eql_other h1.blk h2.blk hne
  have d1 : decide ((2000 : Int) < (ownA.length : Int) + (ownB.length : Int)) = false := decide_eq_false (by omega)
  have hlA : ownA.length ≤ 2000 := by omega
  have hlB : ownB.length ≤ 2000 := by omega
  have hblt := h2.lt hb h2.hT
  have halt := h1.lt ha h1.hT
  have HA := Lib.hid h1
  have HB := Lib.hid h2
  have hIl := h2.len
  obtain ⟨mB, hmB⟩ : ∃ mB, mB = IB.length := ⟨_, rfl⟩
  have HmB := Lib.hid hmB
  rw [← hIl, ← hmB] at b2 d1 hlB
  rw [← hmB] at b3
  have HG := Lib.hid (And.intro hgA (And.intro hgB (And.intro hsA (And.intro hsB hl))))
  clear h1 h2 hgA hgB hsA hsB hmB hIl hl
  go_enter Try.func12, Try.ntmps12
  go_wp2_with fail
  go_quiet (fail)
  go_wp2_with fail
  go_quiet (fail)
  go_wp2_with fail
  go_quiet (fail)
  generalize hW : World.drewN (World.drewN (World.drewN w _) _) _ = W
  have F0W : Hid (Fr F0 w W) := Lib.hid (by rw [← hW]; exact (((Fr.refl _ _).drewN _).drewN _).drewN _)
  have hsW : W.heap.size = w.heap.size := by rw [← hW]; rfl
  have b3V : (W.alloc (.cells #[.slice none 0 0] 22)).cell? ⟨hb, 3, none⟩ = some (.slice aiB mB ciB) := (F0W.out.alloc _).cell b3 id
  clear b3 a0 b0 a2 b2 he d1 hW
  go_wp2_with fail
  go_loopw [61] (fun s61 wr => ∃ j : Nat, j ≤ mB ∧ s61 = .int .i64 j ∧ Hid (ML W wr ha rate w.heap.size ((flat tsA).length : Nat) tsA ownA IA TA atA ctA NtA ownA.length (ownB.take j) (IB.take j))) (fun s61 _ => mB - (intOf s61).toNat)
  case atStart =>
    refine ⟨0, by omega, rfl, Lib.hid ⟨none, 0, aoA, coA, aiA, ciA, TA, ?_, ⟨?_, ?_, ?_, ?_⟩, fun q hq => .inl hq, (Fr.refl _ _).alloc _⟩⟩
    · have := HA.out.fr (F0W.out.alloc (.cells #[.slice none 0 0] 22)) (fun _ _ => id)
      simpa [selO, somes] using this
    · rw [← hsW]; exact One.new 22 _
    · simpa [names] using Own.nil _ _ _
    · intro e; have := HA.out.lt _ e; omega
    · exact fun q hq => absurd hq (onBlk_none _)
  case round =>
    obtain ⟨j, hj, rfl, HM⟩ := hrel
    have HsW := Lib.hid hsW
    clear hsW
    by_cases hlt : j < mB
    · obtain ⟨ab, cb, ao, co, ai, ci, T, H, O, hTT, F⟩ := HM.out
      have HBr := HB.out.fr ((F0W.out.mono (S' := TA) (fun _ _ h => h.elim)).trans F (fun _ _ h => h)) (fun q hq e => HD.out q e hq)
      have hjI : j < IB.length := by rw [← HmB.out]; exact hlt
      have hjO : j < ownB.length := by rw [← HBr.len]; exact hjI
      obtain ⟨g, eg, _, _, hgc, hgf⟩ := HBr.oi.at (by omega)
      obtain ⟨g2, o2, k, eg2, hk, c2⟩ := HBr.oo.rd.ix hjO
      have c1 := hgc j _ (by rw [List.getElem?_map, List.getElem?_eq_getElem hjI]; rfl)
      have ej : (IB.take j).length = j := by simp; omega
      obtain ⟨mo, hmo⟩ : ∃ mo, mo = (ownA ++ selO (ownB.take j) (IB.take j)).length := ⟨_, rfl⟩
      have Hmo := Lib.hid hmo
      have Hlen := Lib.hid H.len
      obtain ⟨J, hJ⟩ : ∃ J, J = IB.take j := ⟨_, rfl⟩
      have HJ := Lib.hid hJ
      have Hej := Lib.hid ej
      have cbo := O.o.cell
      have fbo := O.o.free
      have a2 := H.blk.cell (i := 2) rfl
      have a3 := H.blk.cell (i := 3) rfl
      have z2 := H.blk.free 2
      have z3 := H.blk.free 3
      have b2 := HBr.blk.cell (i := 2) rfl
      rw [ej] at cbo
      rw [← hmo] at a2
      rw [H.len, ← hmo] at a3
      have hlJ : (IB.take j).length = (ownB.take j).length := by simp [HBr.len]
      have hmoE : mo = ownA.length + cnt (IB.take j) := by rw [hmo, List.length_append, selO_len hlJ]
      have HmoE := Lib.hid hmoE
      have hmo9 : mo ≤ 4000 := by have := cnt_le (IB.take j); rw [ej] at this; omega
      have HlJ := Lib.hid hlJ
      clear hmoE hlJ
      have hWs := F.size
      subst eg eg2
      clear hmo hJ
      cases hI : IB[j] with
      | none =>
        rw [hI] at c1
        have OX : Hid (Own wr W.heap.size 3 ab j cb (ints (names ownA.length (IB.take j)))) := Lib.hid (by have := O.own; rwa [ej] at this)
        have OneX : Hid (One wr w.heap.size 22 (.slice ab j cb)) := Lib.hid (by have := O.o; rwa [ej] at this)
        have hboa : Hid (¬ onBlk ab w.heap.size) := Lib.hid (fun e => (O.aT _ e).1 rfl)
        have H' := Lib.hid H
        have O' := Lib.hid O
        clear H O HBr
        go_wp2_with ((at_builtin; refine wpAppAt E3 OX.out (by omega) (by omega) (by omega) (u := .int .i64 (-1)) rfl rfl (by first | rfl | (simp; done) | (simp; rfl)) ?_; intro a6 c6 w6 own6 fr6 at6; have q0 := OneX.out.fr fr6 hboa.out; have q1 := q0.cell; have q2 := q0.free; have O6 := Lib.hid own6; have F6 := Lib.hid fr6; have A6 := Lib.hid at6; clear own6 fr6 at6 q0))
        go_roundw
        case rel =>
          refine ⟨j + 1, by omega, by go_num, ?_⟩
          have hO7 := O'.out.app (v := -1) H'.out.lt (by rw [Hej.out]; exact O6.out) F6.out A6.out
          rw [Hej.out] at hO7
          obtain ⟨Y, F7⟩ := hO7
          have H7 := H'.out.fr F7 (fun q hq e => e.elim (fun e => O'.out.bT (e ▸ hq)) (fun e => (O'.out.aT q e).2 hq))
          obtain ⟨k, hk⟩ : ∃ k, ownB[j] = k := ⟨_, rfl⟩
          have e1 : ownB.take (j + 1) = ownB.take j ++ [k] := by rw [← List.take_append_getElem hjO, hk]
          have e2 : IB.take (j + 1) = IB.take j ++ [none] := by rw [← List.take_append_getElem hjI, hI]
          refine Lib.hid ⟨a6, c6, ao, co, ai, ci, T, ?_, ?_, hTT, F.trans F7 (fun q hq e => ?_)⟩
          · rw [e1, e2, selO_none HlJ.out, somes_none]
            exact H7
          · rw [e2, names_none, List.length_append, Hej.out]
            exact Y
          · have := HsW.out
            rcases e with e | e
            · omega
            · have := (O'.out.own.blk q e).1; omega
        case measure => simp [intOf]; omega
      | some bx =>
        rw [hI] at c1
        have H' := Lib.hid H
        have O' := Lib.hid O
        have HB' := Lib.hid HBr
        have OX : Hid (Own (wr.drew.alloc (.cells #[.int .i64 mo] 3)) W.heap.size 3 ab j cb (ints (names ownA.length (IB.take j)))) := Lib.hid (by have := O.own; rw [ej] at this; exact this.drew.alloc _)
        have RX : Hid (Rd (wr.drew.alloc (.cells #[.int .i64 mo] 3)) (some ⟨wr.heap.size, 0, none⟩) 1 (ints [(mo : Int)])) := Lib.hid (Own.lit (w := wr.drew) (B := 0) (T := 3) (ints [(mo : Int)]) 1 rfl (Nat.zero_le _) (by omega)).rd
        have hboa : Hid (¬ onBlk ab w.heap.size) := Lib.hid (fun e => (O.aT _ e).1 rfl)
        have cbX : (wr.alloc (.cells #[.int .i64 mo] 3)).cell? ⟨w.heap.size, 0, none⟩ = some (.slice ab j cb) := ((Fr.refl F0 wr).alloc (.cells #[.int .i64 mo] 3)).cell cbo id
        have OneX : Hid (One (wr.drew.alloc (.cells #[.int .i64 mo] 3)) w.heap.size 22 (.slice ab j cb)) := Lib.hid (by have := O.o; rw [ej] at this; exact this.fr ((Fr.refl F0 wr).drew.alloc _) id)
        clear H O HBr
        go_wp2_with fail
        apply cut3 (fun (a6 : Option Addr) (c6 : Nat) (w6 : World) => Own w6 W.heap.size 3 a6 (j + 1) c6 (ints (names ownA.length (IB.take j)) ++ ints [(mo : Int)]) ∧ Fr (onBlk ab) wr w6 ∧ (∀ q, onBlk a6 q → onBlk ab q ∨ wr.heap.size ≤ q))
        case h1 =>
          intro KEY
          go_region_law (refine stepAppRd E3 (by rfl) (by rfl) (by rfl) (by rfl) OX.out RX.out (oneCell_ints _) (by omega) (by omega) (by simp; omega) (j + 1) rfl ?_; intro a6 c6 w6 own6 fr6 at6; have q0 := OneX.out.fr fr6 hboa.out; have q1 := q0.cell; have q2 := q0.free; have Q0 := Lib.hid q0; have HO6 := Lib.hid own6; have HF6 := Lib.hid fr6; have HA6 := Lib.hid at6; clear own6 fr6 at6 q0)
          all_goals
            refine KEY.out _ _ _ ⟨HO6.out, ?_, ?_⟩
            · exact (((Fr.refl (onBlk ab) wr).drew).alloc _).trans HF6.out (fun _ _ h => h)
            · intro q hq
              rcases HA6.out q hq with e | e
              · exact .inl e
              · (have e' : wr.heap.size + 1 ≤ q := by simpa using e); exact .inr (by omega)
        rintro a6 c6 w6 ⟨own6, fr6, at6⟩
        have hO7 := Lib.hid (O'.out.app (v := (mo : Int)) H'.out.lt (by rw [Hej.out]; exact own6) fr6 at6)
        rw [Hej.out] at hO7
        clear OX RX hboa cbX OneX cbo fbo c1 b2 own6 at6
        have hs6 := fr6.size
        clear fr6
        obtain ⟨w7, hw7⟩ : ∃ w7, w7 = w6.setCell ⟨w.heap.size, 0, none⟩ (.slice a6 (j + 1) c6) := ⟨_, rfl⟩
        rw [← hw7] at hO7
        have hs7 : wr.heap.size ≤ w7.heap.size := by rw [hw7]; simpa using hs6
        clear hs6
        rw [← hw7]
        clear hw7
        have HO7 := Lib.hid hO7.out.1
        have HF7 := Lib.hid hO7.out.2
        clear hO7
        have H7 := Lib.hid (H'.out.fr HF7.out (fun q hq e => e.elim (fun e => O'.out.bT (e ▸ hq)) (fun e => (O'.out.aT q e).2 hq)))
        have HB7 := Lib.hid (HB'.out.fr HF7.out (fun q hq e => by
          have h1 := HB.out.lt q hq
          rcases e with e | e
          · omega
          · have := (O'.out.own.blk q e).1; have := HsW.out; omega))
        have a2' : w7.cell? ⟨ha, 2, none⟩ = some (.slice ao mo co) := by have := H7.out.blk.cell (i := 2) rfl; rwa [← Hmo.out] at this
        have z2' := H7.out.blk.free 2
        have b2' : w7.cell? ⟨hb, 2, none⟩ = some (.slice (some ⟨g2, o2, none⟩) mB coB) := by have := HB7.out.blk.cell (i := 2) rfl; rwa [← HB7.out.len, ← HmB.out] at this
        have c2' : w7.cell? ⟨g2, o2 + j, none⟩ = some (.int .i64 k) := HF7.out.cell c2 (fun e => by
          have hg2 := (HB'.out.oT g2 ((onBlk_some _ _ _ _).2 rfl)).1
          have h1 := HB.out.lt g2 hg2
          rcases e with e | e
          · have e' : g2 = w.heap.size := e
            omega
          · have := (O'.out.own.blk g2 e).1; have := HsW.out; omega)
        clear a2 z2 a3 z3 c2
        have OX : Hid (Own (w7.drew.alloc (.cells #[.int .i64 k] 3)) 0 3 ao mo co (ints (ownA ++ selO (ownB.take j) (IB.take j)))) := Lib.hid (by have := H7.out.oo; rw [← Hmo.out] at this; exact this.drew.alloc _)
        have RX : Hid (Rd (w7.drew.alloc (.cells #[.int .i64 k] 3)) (some ⟨w7.heap.size, 0, none⟩) 1 (ints [k])) := Lib.hid (Own.lit (w := w7.drew) (B := 0) (T := 3) (ints [k]) 1 rfl (Nat.zero_le _) (by omega)).rd
        have haoh : Hid (¬ onBlk ao ha) := Lib.hid (fun e => (H7.out.oT _ e).2.1 rfl)
        have BX : Hid (Blk (w7.drew.alloc (.cells #[.int .i64 k] 3)) ha 59 _) := Lib.hid (H7.out.blk.fr ((Fr.refl F0 w7).drew.alloc _) id)
        have a2x : (w7.alloc (.cells #[.int .i64 k] 3)).cell? ⟨ha, 2, none⟩ = some (.slice ao mo co) := ((Fr.refl F0 w7).alloc (.cells #[.int .i64 k] 3)).cell a2' id
        go_wp2_with fail
        apply cut3 (fun (a8 : Option Addr) (c8 : Nat) (w8 : World) => Own w8 0 3 a8 (mo + 1) c8 (ints (ownA ++ selO (ownB.take j) (IB.take j)) ++ ints [k]) ∧ Fr (onBlk ao) w7 w8 ∧ (∀ q, onBlk a8 q → onBlk ao q ∨ w7.heap.size ≤ q))
        case h1 =>
          intro KEY
          go_region_law (refine stepAppRd E3 (by rfl) (by rfl) (by rfl) (by rfl) OX.out RX.out (oneCell_ints _) (by omega) (by omega) (by omega) (mo + 1) rfl ?_; intro a8 c8 w8 own8 fr8 at8; have q0 := BX.out.fr fr8 haoh.out; have q1 := q0.cell (i := 2) rfl; have q2 := q0.free 2; have HO8 := Lib.hid own8; have HF8 := Lib.hid fr8; have HA8 := Lib.hid at8; clear own8 fr8 at8 q0)
          all_goals
            refine KEY.out _ _ _ ⟨HO8.out, ?_, ?_⟩
            · exact (((Fr.refl (onBlk ao) w7).drew).alloc _).trans HF8.out (fun _ _ h => h)
            · intro q hq
              rcases HA8.out q hq with e | e
              · exact .inl e
              · (have e' : w7.heap.size + 1 ≤ q := by simpa using e); exact .inr (by omega)
        rintro a8 c8 w8 ⟨own8, fr8, at8⟩
        clear OX RX BX a2x a2' z2' b2' c2'
        have hai : Hid (¬ onBlk ai ha) := Lib.hid (fun e => (H7.out.iT _ e).2 rfl)
        have hs8 := fr8.size
        obtain ⟨w9, hw9⟩ : ∃ w9, w9 = w8.setCell ⟨ha, 2, none⟩ (.slice a8 (mo + 1) c8) := ⟨_, rfl⟩
        have F9 : Hid (Fr (fun q => q = ha ∨ onBlk ao q) w7 w9) := Lib.hid (by rw [hw9]; exact (fr8.mono (fun q _ e => .inr e)).setCell (p := ⟨ha, 2, none⟩) (fun _ => .inl rfl) _)
        have B9 : Hid (Blk w9 ha 59 [.int .i64 rate, .slice atA tsA.length ctA, .slice a8 (mo + 1) c8, .slice ai mo ci, .int .i64 ((flat tsA).length : Nat)]) := Lib.hid (by
          rw [hw9]
          have := (H7.out.blk.fr fr8 haoh.out).set 2 (.slice a8 (mo + 1) c8)
          simp only [heC, List.set_cons_succ, List.set_cons_zero] at this
          rwa [H7.out.len, ← Hmo.out] at this)
        have OI9 : Hid (Own w9 0 60 ai mo ci (ptrs (IA ++ somes (IB.take j)))) := Lib.hid (by
          have := H7.out.oi
          rw [H7.out.len, ← Hmo.out] at this
          exact this.fr F9.out (fun q hq e => e.elim (fun e => hai.out (e ▸ hq)) (fun e => (H7.out.oT q e).2.2 hq)))
        have a3' : w9.cell? ⟨ha, 3, none⟩ = some (.slice ai mo ci) := B9.out.cell (i := 3) rfl
        have Hw9 := Lib.hid hw9
        have hs9 : Hid (w9.heap.size = w8.heap.size) := Lib.hid (by rw [hw9]; simp)
        rw [← hw9]
        have H8 := Lib.hid (And.intro own8 (And.intro fr8 (And.intro at8 (And.intro hs7 hs8))))
        clear hw9 own8 fr8 at8 hs7 hs8
        go_wp2_with ((at_builtin; refine wpAppAt EP OI9.out (by omega) (by omega) (by omega) (u := .pointer (some ⟨bx, 0, none⟩)) rfl rfl (by first | rfl | (simp; done) | (simp; rfl)) ?_; intro a10 c10 w10 own10 fr10 at10; have B10 := Lib.hid (B9.out.fr fr10 hai.out); have y3b := B10.out.cell (i := 3) rfl; have z3b := B10.out.free 3; have O10 := Lib.hid own10; have F10 := Lib.hid fr10; have A10 := Lib.hid at10; clear own10 fr10 at10))
        go_roundw
        case rel =>
          refine ⟨j + 1, by omega, by go_num, ?_⟩
          obtain ⟨own8, fr8, at8, hs7, hs8⟩ := H8.out
          have h2 := H7.out.app2 (a8 := a8) (c8 := c8) (k := k) (bx := some bx) (by rw [← Hmo.out]; exact own8) fr8 at8 (by rw [← Hmo.out]; exact O10.out) (by rw [← Hmo.out, ← Hw9.out]; exact F10.out) (fun q hq => by have := A10.out q hq; rw [hs9.out] at this; exact this)
          rw [← Hmo.out] at h2
          obtain ⟨X1, X2, X3⟩ := h2
          have hTa : ∀ q, (q = ha ∨ onBlk ao q ∨ onBlk ai q) → T q := by
            rintro q (e | e | e)
            · exact e ▸ H7.out.hT
            · exact (H7.out.oT q e).1
            · exact (H7.out.iT q e).1
          have Y := HO7.out.fr X2 (fun q _ e => hTa q e) X3
          have e1 : ownB.take (j + 1) = ownB.take j ++ [k] := by
            rw [← List.take_append_getElem hjO]
            rw [List.getElem?_eq_getElem hjO] at hk
            injection hk with hk
            rw [hk]
          have e2 : IB.take (j + 1) = IB.take j ++ [some bx] := by rw [← List.take_append_getElem hjI, hI]
          have hsz : W.heap.size ≤ w7.heap.size := by omega
          have F8 : Fr TA W w7 := F.trans HF7.out (fun q hq e => by
            have := HsW.out
            rcases e with e | e
            · omega
            · have := (O'.out.own.blk q e).1; omega)
          refine Lib.hid ⟨a6, c6, a8, c8, a10, c10, fun q => T q ∨ onBlk a8 q ∨ onBlk a10 q, ?_, ?_, fun q hq => ?_, F8.trans X2 (fun q hq e => (hTT q (hTa q e)).elim id (fun g => by omega))⟩
          · rw [e1, e2, selO_some HlJ.out, somes_some, ← List.append_assoc, ← List.append_assoc]
            exact X1
          · rw [e2, names_some, List.length_append, Hej.out, ← HmoE.out]
            exact Y
          · rcases X3 q hq with e | e
            · exact hTT q e
            · exact .inr (by omega)
        case measure => simp [intOf]; omega
    · obtain rfl : mB = j := by omega
      have HMf : Hid (M2 W wr ha rate w.heap.size ((flat tsA).length : Nat) tsA ownA IA TA atA ctA NtA ownA.length ownB IB 0) := Lib.hid (by
        obtain ⟨ab, cb, ao, co, ai, ci, T, H, O, hTT, F⟩ := HM.out
        have e1 : IB.take mB = IB := by rw [HmB.out, List.take_length]
        have e2 : ownB.take mB = ownB := by rw [HmB.out, HB.out.len, List.take_length]
        rw [e1, e2] at H
        rw [e1] at O
        exact ⟨ab, cb, ao, co, ai, ci, T, by simpa using H, O, hTT, F⟩)
      clear HM hlt hj
      have hcnt : cnt IB ≤ mB := by rw [HmB.out]; exact cnt_le _
      obtain ⟨cn, hcn⟩ : ∃ cn, cn = cnt IB := ⟨_, rfl⟩
      rw [← hcn] at hcnt
      have Hcn := Lib.hid hcn
      have hsel : Hid ((selO ownB IB).length = cn) := Lib.hid (by rw [hcn]; exact selO_len HB.out.len)
      clear hcn
      go_wp2_with fail
      go_loopw [106] (fun _ wr => ∃ r : Nat, cn + r ≤ mB ∧ Hid (M2 W wr ha rate w.heap.size ((flat tsA).length : Nat) tsA ownA IA TA atA ctA NtA ownA.length ownB IB r)) (fun _ w' => ownA.length + mB - lenAt w' ha)
      case atStart => exact ⟨0, by omega, HMf⟩
      case round =>
        obtain ⟨r, hr2, HM⟩ := hrel
        obtain ⟨ab, cb, ao, co, ai, ci, T, H, O, hTT, F⟩ := HM.out
        obtain ⟨mo, hmo⟩ : ∃ mo, mo = (ownA ++ selO ownB IB ++ List.replicate r 0).length := ⟨_, rfl⟩
        have Hmo := Lib.hid hmo
        have hmoE : mo = ownA.length + cn + r := by rw [hmo, List.length_append, List.length_append, hsel.out, List.length_replicate]
        have a2 := H.blk.cell (i := 2) rfl
        have a3 := H.blk.cell (i := 3) rfl
        rw [← hmo] at a2
        rw [H.len, ← hmo] at a3
        have hLen := lenAt_eq a2
        have H' := Lib.hid H
        have O' := Lib.hid O
        have hmo9 : mo ≤ 4000 := by omega
        have hle : mo ≤ ownA.length + mB := by omega
        have HmoE := Lib.hid hmoE
        clear H O hmo
        by_cases hlt : cn + r < mB
        · have hlt2 : mo < ownA.length + mB := by omega
          clear hmoE
          have OX : Hid (Own wr 0 3 ao mo co (ints (ownA ++ selO ownB IB ++ List.replicate r 0))) := Lib.hid (by have := H'.out.oo; rwa [← Hmo.out] at this)
          have OI : Hid (Own wr 0 60 ai mo ci (ptrs (IA ++ somes IB ++ List.replicate r none))) := Lib.hid (by have := H'.out.oi; rwa [H'.out.len, ← Hmo.out] at this)
          have BX : Hid (Blk wr ha 59 [.int .i64 rate, .slice atA tsA.length ctA, .slice ao mo co, .slice ai mo ci, .int .i64 ((flat tsA).length : Nat)]) := Lib.hid (by
            have := H'.out.blk
            unfold heC at this
            rwa [H'.out.len, ← Hmo.out] at this)
          have hao : Hid (¬ onBlk ao ha) := Lib.hid (fun e => (H'.out.oT ha e).2.1 rfl)
          have hai : Hid (¬ onBlk ai ha) := Lib.hid (fun e => (H'.out.iT ha e).2 rfl)
          have hoi : Hid (∀ q, onBlk ai q → ¬ onBlk ao q) := Lib.hid (fun q hq e => (H'.out.oT q e).2.2 hq)
          go_wp2_with (first
            | (at_builtin; refine wpAppAt E3 OX.out (by omega) (by omega) (by omega) (u := .int .i64 0) rfl rfl (by first | rfl | (simp; done) | (simp; rfl)) ?_; intro a8 c8 w8 own8 fr8 at8; have B8 := Lib.hid (BX.out.fr fr8 hao.out); have y2a := B8.out.cell (i := 2) rfl; have z2a := B8.out.free 2; have y3a := B8.out.cell (i := 3) rfl; have OI9 : Hid (Own (w8.setCell ⟨ha, 2, none⟩ (.slice a8 (mo + 1) c8)) 0 60 ai mo ci (ptrs (IA ++ somes IB ++ List.replicate r none))) := Lib.hid ((OI.out.fr fr8 (fun q hq e => hoi.out q hq e)).other (p := ⟨ha, 2, none⟩) hai.out _); have O8 := Lib.hid own8; have F8 := Lib.hid fr8; have A8 := Lib.hid at8; clear own8 fr8 at8 OX a2)
            | (at_builtin; refine wpAppAt EP OI9.out (by omega) (by omega) (by omega) (u := .pointer none) rfl rfl (by first | rfl | (simp; done) | (simp; rfl)) ?_; intro a10 c10 w10 own10 fr10 at10; have B10 := Lib.hid ((B8.out.set 2 (.slice a8 (mo + 1) c8)).fr fr10 hai.out); have y3b := B10.out.cell (i := 3) rfl; have z3b := B10.out.free 3; have O10 := Lib.hid own10; have F10 := Lib.hid fr10; have A10 := Lib.hid at10; clear own10 fr10 at10))
          have h2 := H'.out.app2 (a8 := a8) (c8 := c8) (k := 0) (bx := none) (by rw [← Hmo.out]; exact O8.out) F8.out A8.out (by rw [← Hmo.out]; exact O10.out) (by rw [← Hmo.out]; exact F10.out) (fun q hq => by have := A10.out q hq; simpa using this)
          rw [← Hmo.out] at h2
          obtain ⟨X1, X2, X3⟩ := h2
          go_roundw
          case rel =>
            refine ⟨r + 1, by omega, ?_⟩
            have hTa : ∀ q, (q = ha ∨ onBlk ao q ∨ onBlk ai q) → T q := by
              rintro q (e | e | e)
              · exact e ▸ H'.out.hT
              · exact (H'.out.oT q e).1
              · exact (H'.out.iT q e).1
            have Y := O'.out.fr X2 (fun q _ e => hTa q e) X3
            have hsz := F.size
            refine Lib.hid ⟨ab, cb, a8, c8, a10, c10, fun q => T q ∨ onBlk a8 q ∨ onBlk a10 q, ?_, Y, fun q hq => ?_, F.trans X2 (fun q hq e => (hTT q (hTa q e)).elim id (fun g => by omega))⟩
            · rw [List.replicate_succ', List.replicate_succ', ← List.append_assoc, ← List.append_assoc]
              exact X1
            · rcases X3 q hq with e | e
              · exact hTT q e
              · exact .inr (by omega)
          case measure =>
            have hn := lenAt_eq (X1.blk.cell (i := 2) rfl)
            have hmoE := HmoE.out
            rw [hLen, hn]
            simp only [List.length_append, List.length_singleton, List.length_replicate, hsel.out]
            omega
        · have hrr : cn + r = mB := by omega
          have hlt2 : ¬ mo < ownA.length + mB := by omega
          have Hrr := Lib.hid hrr
          clear hmoE hrr hlt
          go_wp2_with fail
          obtain ⟨wq, hwq⟩ : ∃ wq, wq = wr.alloc (.cells #[.func (.func 30) #[] #[.pointer (some ⟨w.heap.size, 0, none⟩), .pointer (some ⟨wr.heap.size, 0, none⟩)]] 63) := ⟨_, rfl⟩
          rw [← hwq]
          obtain ⟨br, hbr⟩ : ∃ br, br = wr.heap.size := ⟨_, rfl⟩
          rw [← hbr] at hwq ⊢
          have Fq : Hid (Fr F0 wr wq) := Lib.hid (by rw [hwq]; exact (Fr.refl _ _).alloc _)
          have Oq : Hid (One wq br 63 (.func (.func 30) #[] #[.pointer (some ⟨w.heap.size, 0, none⟩), .pointer (some ⟨br, 0, none⟩)])) := Lib.hid (by rw [hwq, hbr]; exact One.new 63 _)
          have hsq : Hid (wq.heap.size = br + 1) := Lib.hid (by rw [hwq, hbr, size_alloc])
          have Hbr := Lib.hid hbr
          have Hq := Lib.hid (H'.out.fr Fq.out (fun _ _ => id))
          have HBq := Lib.hid ((HB.out.fr ((F0W.out.mono (S' := TA) (fun _ _ h => h.elim)).trans F (fun _ _ h => h)) (fun q hq e => HD.out q e hq)).fr Fq.out (fun _ _ => id))
          have a4 : wq.cell? ⟨ha, 4, none⟩ = some (.int .i64 ((flat tsA).length : Nat)) := Hq.out.blk.cell (i := 4) rfl
          have b4 : wq.cell? ⟨hb, 4, none⟩ = some (.int .i64 ((flat tsB).length : Nat)) := HBq.out.blk.cell (i := 4) rfl
          have z4 := Hq.out.blk.free 4
          have lnA : (flat tsA).length ≤ 2000 := by
            have hgA := HG.out.1
            have h1 := nodup_bound ownA.length (flat tsA) hgA.nodup (fun i hi => hgA.bdf i hi)
            omega
          have lnB : (flat tsB).length ≤ 2000 := by
            have hgB := HG.out.2.1
            have h1 := nodup_bound ownB.length (flat tsB) hgB.nodup (fun i hi => hgB.bdf i hi)
            have := HmB.out
            have := HB.out.len
            omega
          obtain ⟨nA, hnA⟩ : ∃ nA, nA = (flat tsA).length := ⟨_, rfl⟩
          obtain ⟨nB, hnB⟩ : ∃ nB, nB = (flat tsB).length := ⟨_, rfl⟩
          have HnA := Lib.hid hnA
          have HnB := Lib.hid hnB
          rw [← hnA] at a4 lnA
          rw [← hnB] at b4 lnB
          clear a2 a3 hwq hbr hnA hnB b3V
          go_region
          have fk : Fr (onB ha) wq (wq.setCell ⟨ha, 4, none⟩ (.int .i64 ((nA : Int) + nB))).drew := ((Fr.refl (onB ha) wq).setB 4 _).drew
          have Hk1 : HS (wq.setCell ⟨ha, 4, none⟩ (.int .i64 ((nA : Int) + nB))).drew ha rate ((nA : Int) + nB) tsA (ownA ++ selO ownB IB ++ List.replicate r 0) (IA ++ somes IB ++ List.replicate r none) T atA ctA ao co ai ci NtA := (Hq.out.setN _).fr ((Fr.refl F0 _).drew) (fun _ _ => id)
          generalize (wq.setCell ⟨ha, 4, none⟩ (.int .i64 ((nA : Int) + nB))).drew = wk at *
          have Fk := Lib.hid fk
          have Hk := Lib.hid Hk1
          have hTB : Hid (∀ q, TB q → ¬ T q) := Lib.hid (fun q hq e => (hTT q e).elim (fun e => HD.out q e hq) (fun e => by have := HB.out.lt q hq; have := HsW.out; omega))
          have HBk := Lib.hid (HBq.out.fr fk (fun q hq (e : q = ha) => hTB.out q hq (e ▸ H'.out.hT)))
          have hbrT : Hid (¬ T br) := Lib.hid (fun e => by have := H'.out.lt br e; have := Hbr.out; omega)
          have Ok := Lib.hid (Oq.out.fr fk (fun (e : br = ha) => hbrT.out (e ▸ H'.out.hT)))
          clear b4 z4
          have b1 : wk.cell? ⟨hb, 1, none⟩ = some (.slice atB tsB.length ctB) := HBk.out.blk.cell (i := 1) rfl
          have b0 : wk.cell? ⟨hb, 0, none⟩ = some (.int .i64 rate) := HBk.out.blk.cell (i := 0) rfl
          have b2 : wk.cell? ⟨hb, 2, none⟩ = some (.slice aoB ownB.length coB) := HBk.out.blk.cell (i := 2) rfl
          have b3 : wk.cell? ⟨hb, 3, none⟩ = some (.slice aiB IB.length ciB) := HBk.out.blk.cell (i := 3) rfl
          have b4 : wk.cell? ⟨hb, 4, none⟩ = some (.int .i64 ((flat tsB).length : Nat)) := HBk.out.blk.cell (i := 4) rfl
          have z0 := HBk.out.blk.free 0
          have z1 := HBk.out.blk.free 1
          have z2 := HBk.out.blk.free 2
          have z3 := HBk.out.blk.free 3
          have z4 := HBk.out.blk.free 4
          clear a4 fk Hk1 hLen
          go_wp2_with fail
          have BZ := ((((HBk.out.blk.set 0 (.int .i64 rate)).set 1 (.slice none 0 0)).set 2 (.slice none 0 0)).set 3 (.slice none 0 0)).set 4 (.int .i64 0)
          have FZ : Fr (onB hb) wk (((((wk.setCell ⟨hb, 0, none⟩ (.int .i64 rate)).setCell ⟨hb, 1, none⟩ (.slice none 0 0)).setCell ⟨hb, 2, none⟩ (.slice none 0 0)).setCell ⟨hb, 3, none⟩ (.slice none 0 0)).setCell ⟨hb, 4, none⟩ (.int .i64 0)) := (((((Fr.refl (onB hb) wk).setB 0 _).setB 1 _).setB 2 _).setB 3 _).setB 4 _
          generalize ((((wk.setCell ⟨hb, 0, none⟩ (.int .i64 rate)).setCell ⟨hb, 1, none⟩ (.slice none 0 0)).setCell ⟨hb, 2, none⟩ (.slice none 0 0)).setCell ⟨hb, 3, none⟩ (.slice none 0 0)).setCell ⟨hb, 4, none⟩ (.int .i64 0) = wz at *
          have HBZ : Hid (Blk wz hb 59 [.int .i64 rate, .slice none 0 0, .slice none 0 0, .slice none 0 0, .int .i64 0]) := Lib.hid (by simpa [heC] using BZ)
          have HFZ := Lib.hid FZ
          clear BZ FZ b0 b1 b2 b3 b4 z0 z1 z2 z3 z4
          have nTh : Hid (∀ q, T q → q ≠ hb) := Lib.hid (fun q hq e => hTB.out hb HBk.out.hT (e ▸ hq))
          have Hz := Lib.hid (Hk.out.fr HFZ.out (fun q hq (e : q = hb) => nTh.out q hq e))
          have Oz := Lib.hid (Ok.out.fr HFZ.out (fun (e : br = hb) => by have h1 := HB.out.lt hb HB.out.hT; have h2 := Hbr.out; have h3 := F.size; have := HsW.out; omega))
          have Fqk : Hid (Fr T wr wk) := Lib.hid ((Fq.out.mono (S' := T) (fun _ _ h => h.elim)).trans Fk.out (fun q hq (e : q = ha) => e ▸ H'.out.hT))
          have Ouk := Lib.hid (O'.out.fr (T' := T) Fqk.out (fun q _ e => e) (fun q hq => .inl hq))
          have hTBs : Hid (∀ q, TB q → q < w.heap.size) := Lib.hid HB.out.lt
          have Ouz : Hid (Out wz W.heap.size w.heap.size ab IB.length cb (names ownA.length IB) T) := Lib.hid (by
            have h1 := HB.out.lt hb HB.out.hT
            have := HsW.out
            exact ⟨Ouk.out.o.fr HFZ.out (fun (e : w.heap.size = hb) => by omega), Ouk.out.own.fr HFZ.out (fun q hq (e : q = hb) => by have := (Ouk.out.own.blk q hq).1; omega), Ouk.out.bT, Ouk.out.aT⟩)
          obtain ⟨hgA, hgB, hsA, hsB, hl⟩ := HG.out
          have hlen2 : (ownA ++ selO ownB IB ++ List.replicate r 0).length = ownA.length + mB := by
            rw [List.length_append, List.length_append, hsel.out, List.length_replicate]
            have := Hrr.out
            omega
          have hIBl : mB = ownB.length := by rw [HmB.out, HB.out.len]
          have M0 : Hid (M3 wz ha rate ((nA : Int) + nB) (ownA ++ selO ownB IB ++ List.replicate r 0) (nm (names ownA.length IB)) T tsA (IA ++ somes IB ++ List.replicate r none) tsB NtB wz 0) := Lib.hid ⟨tsA, _, T, atA, ctA, ao, co, ai, ci, NtA, Hz.out, by
            rw [hlen2, List.drop_zero]
            exact Gd.meld hgA (by rw [hIBl]; exact hgB) HmB.out.symm hsB (by omega), fun i t _ ht => (HBk.out.tm i t ht).fr HFZ.out (fun q hq (e : q = hb) => (HBk.out.tT i q hq).2.1 e), fun i q _ hq e => hTB.out q (HBk.out.tT i q hq).1 e, fun q hq => .inl hq, Fr.refl _ _, fun _ _ h => h⟩
          have RZ : Hid (Rd wz atB tsB.length (tps tsB)) := Lib.hid ((HBk.out.ot.fr HFZ.out (fun q hq (e : q = hb) => (HBk.out.aT q hq).2.1 e)).rd)
          have atN : Hid (∀ q, onBlk atB q → ¬ (T q ∨ ∃ i, NtB i q)) := Lib.hid (fun q hq e => e.elim (fun e => hTB.out q (HBk.out.aT q hq).1 e) (fun ⟨i, e⟩ => (HBk.out.tT i q e).2.2.1 hq))
          have BxZ : Hid (Bx wz w.heap.size br ab IB.length cb (names ownA.length IB) (fun q => T q ∨ ∃ i, NtB i q)) := Lib.hid (by
            have := HsW.out
            have h2 := Hbr.out
            have h3 := F.size
            exact ⟨Ouz.out.o, Oz.out, Ouz.out.own.rd, fun e => e.elim Ouz.out.bT (fun ⟨i, e⟩ => by have := hTBs.out _ (HBk.out.tT i _ e).1; omega), fun e => e.elim hbrT.out (fun ⟨i, e⟩ => by have := hTBs.out _ (HBk.out.tT i _ e).1; omega), fun q hq e => e.elim (Ouz.out.aT q hq).2 (fun ⟨i, e⟩ => by have h1 := hTBs.out _ (HBk.out.tT i _ e).1; have h4 := (Ouz.out.own.blk q hq).1; omega)⟩)
          have hids : Hid (∀ t ∈ tsB, (∀ i ∈ t.ids, 0 ≤ i ∧ i < (IB.length : Int)) ∧ t.ids.length ≤ 100000) := Lib.hid (fun t ht => by
            have hsub : ∀ i ∈ t.ids, i ∈ flat tsB := fun i hi => List.mem_flatMap.2 ⟨t, ht, hi⟩
            refine ⟨fun i hi => by have := hgB.bdf i (hsub i hi); rw [HB.out.len]; exact this, ?_⟩
            have h1 := nodup_bound ownB.length (flat tsB) hgB.nodup (fun i hi => hgB.bdf i hi)
            have h2 : t.ids.length ≤ (flat tsB).length := (List.sublist_flatten_of_mem (List.mem_map.2 ⟨t, ht, rfl⟩)).length_le
            omega)
          have hsepB := Lib.hid HB.out.sep
          have hltB : Hid (∀ i q, NtB i q → q < wz.heap.size) := Lib.hid (fun i q hq => by
            have h1 := hTBs.out _ (HBk.out.tT i _ hq).1
            have h2 := HFZ.out.size
            have h3 := Fqk.out.size
            have h4 := F.size
            have := HsW.out
            omega)
          have htl : tsB.length ≤ 11 := hgB.tl
          obtain ⟨lB, hlBB⟩ : ∃ lB, lB = tsB.length := ⟨_, rfl⟩
          have HlBB := Lib.hid hlBB
          rw [← hlBB] at htl
          rw [← hlBB]
          clear hgA hgB hsA hsB hl hlBB hIBl hlen2
          go_loopw [156] (fun s156 wv => ∃ j : Nat, j ≤ lB ∧ s156 = .int .i64 j ∧ Hid (M3 wz ha rate ((nA : Int) + nB) (ownA ++ selO ownB IB ++ List.replicate r 0) (nm (names ownA.length IB)) T tsA (IA ++ somes IB ++ List.replicate r none) tsB NtB wv j)) (fun s156 _ => lB - (intOf s156).toNat)
          case atStart => exact ⟨0, by omega, rfl, M0⟩
          case round =>
            obtain ⟨j, hj, rfl, HM3⟩ := hrel
            have F3 : Fr (fun q => T q ∨ ∃ i, NtB i q) wz wr := by obtain ⟨_, _, _, _, _, _, _, _, _, _, _, _, _, _, _, F3, _⟩ := HM3.out; exact F3
            have Rv := RZ.out.fr F3 atN.out
            have Bv := BxZ.out.fr F3 (fun q hq => hq)
            have cr : wr.cell? ⟨br, 0, none⟩ = some (.func (.func 30) #[] #[.pointer (some ⟨w.heap.size, 0, none⟩), .pointer (some ⟨br, 0, none⟩)]) := Bv.r.cell
            by_cases hlt : j < lB
            · obtain ⟨g, o, eg, hgc⟩ := Rv.cells (by rw [← HlBB.out]; omega)
              have hjl : j < tsB.length := by rw [← HlBB.out]; exact hlt
              obtain ⟨t, ht⟩ : ∃ t, tsB[j]? = some t := ⟨_, List.getElem?_eq_getElem hjl⟩
              have c1 := hgc j (.pointer t.ptr) (by rw [List.getElem?_map, ht]; rfl)
              have Ht := Lib.hid ht
              have Hids := Lib.hid (hids.out t (List.mem_of_getElem? ht))
              have TJ : Hid (TM wr t (NtB j)) := Lib.hid (by obtain ⟨_, _, _, _, _, _, _, _, _, _, _, _, hT, _⟩ := HM3.out; exact hT j t (Nat.le_refl _) ht)
              have HBv := Lib.hid (Bv.less (N' := NtB j) (fun q hq => .inr ⟨j, hq⟩))
              have HF3 := Lib.hid F3
              subst eg
              clear Rv Bv hgc ht hjl F3
              cases ht2 : t.ptr with
              | none =>
                have htn := Lib.hid (Tr.ptr_nil.1 ht2)
                rw [ht2] at c1
                go_wp2_with fail
                go_roundw
                case rel => exact ⟨j + 1, by omega, by go_num, Lib.hid (HM3.out.skip (by have := Ht.out; rwa [htn.out] at this))⟩
                case measure => simp [intOf]; omega
              | some pt =>
                have htn : Hid (t ≠ .nil) := Lib.hid (fun e => by rw [e] at ht2; cases ht2)
                have ept : Hid (some pt = t.ptr) := Lib.hid ht2.symm
                have hpt : ∃ bt, pt = ⟨bt, 0, none⟩ := by
                  cases t with
                  | nil => cases ht2
                  | nd b => exact ⟨b, by simpa [Tr.ptr] using ht2.symm⟩
                obtain ⟨bt, rfl⟩ := hpt
                rw [ht2] at c1
                have C30 : Hid (Calls Try.prog 30 #[.pointer (some ⟨bt, 0, none⟩), .pointer (some ⟨w.heap.size, 0, none⟩), .pointer (some ⟨br, 0, none⟩)] wr (RnP wr (names ownA.length IB) t (NtB j))) := Lib.hid (by
                  rw [ept.out]
                  exact rename_any t wr (NtB j) TJ.out HBv.out Hids.out.1 Hids.out.2)
                clear ht2
                go_wp2_with (first
                  | (go_at_call 30; refine (C30.out).mono ?_; rintro e w2 ⟨rfl, T2', F2'⟩; have T2 := Lib.hid T2'; have F2 := Lib.hid F2'; clear T2' F2'; obtain ⟨Q29, C29', HQ29'⟩ := HM3.out.step Ht.out htn.out hsepB.out hltB.out F2.out T2.out hr; rw [← ept.out] at C29'; have C29 := Lib.hid C29'; have HQ29 := Lib.hid HQ29'; clear C29' HQ29')
                  | (go_at_call 29; refine (C29.out).mono ?_; intro e w3 hq; obtain ⟨rfl, M4'⟩ := HQ29.out e w3 hq; have M4 := Lib.hid M4'; clear M4' hq))
                go_roundw
                case rel => exact ⟨j + 1, by omega, by go_num, M4⟩
                case measure => simp [intOf]; omega
            · obtain rfl : lB = j := by omega
              have cbo := Bv.o.cell
              have HBv := Lib.hid Bv
              have HF3 := Lib.hid F3
              have HRv := Lib.hid Rv
              rw [← HmB.out] at cbo
              clear Bv F3 Rv cr hlt
              go_wp2_with fail
              go_ret2
              obtain ⟨tsF, IF, TF, atF, ctF, aoF, coF, aiF, ciF, NtF, HF, hgF, _, _, hTF, F3, hAF⟩ := HM3.out
              obtain ⟨hgA, hgB, hsA, hsB, hl⟩ := HG.out
              have eIB : IB.length = ownB.length := HB.out.len
              have emB : mB = ownB.length := by rw [HmB.out, eIB]
              have er : r = ownB.length - cnt IB := by have := Hrr.out; have := Hcn.out; omega
              have edr : (tsB.map (Rn (nm (names ownA.length IB)))).drop lB = [] := List.drop_eq_nil_of_le (by rw [List.length_map, HlBB.out]; exact Nat.le_refl _)
              rw [edr] at hgF hAF
              have hAds := hAF _ _ .done
              have hpm := hAds.perm
              have elen : ((flat tsF).length : Int) = (nA : Int) + nB := by
                have := hpm.length_eq
                rw [List.length_append, flat_rn, List.length_map] at this
                rw [this, HnA.out, HnB.out]
                omega
              have hsz := HsW.out
              have hszF := F.size
              have hblt2 := HB.out.lt hb HB.out.hT
              have fAll : Fr (fun q => TA q ∨ TB q) w wr := by
                have f1 : Fr (fun q => TA q ∨ TB q) w W := F0W.out.mono (fun _ _ h => h.elim)
                have f2 := f1.trans F (fun q _ e => .inl e)
                have f3 := f2.trans Fqk.out (fun q hq e => (hTT q e).elim .inl (fun e => by omega))
                have f4 := f3.trans HFZ.out (fun q _ (e : q = hb) => .inr (e ▸ HB.out.hT))
                exact f4.trans F3 (fun q hq e => e.elim (fun e => (hTT q e).elim .inl (fun e => by omega)) (fun ⟨i, e⟩ => .inr (HBk.out.tT i q e).1))
              have hszZ : W.heap.size ≤ wz.heap.size := by have := Fqk.out.size; have := HFZ.out.size; omega
              have hTFall : ∀ q, TF q → (TA q ∨ TB q ∨ w.heap.size ≤ q) ∧ q ≠ hb := fun q hq => by
                rcases hTF q hq with e | ⟨i, e⟩ | e
                · exact ⟨(hTT q e).elim .inl (fun e => .inr (.inr (by omega))), nTh.out q e⟩
                · exact ⟨.inr (.inl (HBk.out.tT i q e).1), (HBk.out.tT i q e).2.1⟩
                · exact ⟨.inr (.inr (by omega)), by omega⟩
              refine ⟨ab, cb, tsF, IF, TF, by rw [← emB]; rfl, ?_, by rw [← er]; exact hAds, ?_, ?_, fun q hq => ?_, fAll, hTFall⟩
              · rw [← er]
                refine ⟨atF, ctF, aoF, coF, aiF, ciF, NtF, by rw [elen]; exact HF, hgF, hr, fun i hi => hAds.sm ?_⟩
                rcases List.mem_append.1 (hpm.mem_iff.1 hi) with hi | hi
                · rw [flat_rn] at hi
                  obtain ⟨k, hk, rfl⟩ := List.mem_map.1 hi
                  exact Sm.new (hsB k hk) HA.out.len
                · exact ((hsA i hi).left).left
              · exact Hp.empty hr (HBZ.out.fr F3 (fun e => e.elim (fun e => nTh.out hb e rfl) (fun ⟨i, e⟩ => (HBk.out.tT i hb e).2.1 rfl)))
              · rw [← eIB]
                exact (Ouz.out.own.mono (Nat.zero_le _)).fr F3 (fun q hq e => BxZ.out.aN q hq e)
              · have hq1 := Ouz.out.own.blk q hq
                refine ⟨by omega, fun e => ?_⟩
                rcases hTF q e with e | e | e
                · exact (Ouz.out.aT q hq).2 e
                · exact BxZ.out.aN q hq (.inr e)
                · omega
end Go.Proofs.Ytdphademoeofkaa
