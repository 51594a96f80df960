/- The reference's read. -/
import Derived.Test.YtehpikjhjghplaaB4
namespace Go.Proofs.Ytehpikjhjghplaa
open Go.RowKit
attribute [local go_sem ↓] Go.wp_at_zero Go.wp_at_succ
set_option maxHeartbeats 1000000 in
theorem read_short (a : Option Addr) (n c x page : Nat) (w : World) (h8 : n < x + 8) (hx : x ≤ 3000000) :
    Calls Try.prog 57 #[.slice a n c, .int .i64 x, .int .i64 page] w (PNo w) := by
  go_enter Try.func57, Try.ntmps57
  go_wp2_with fail
  refine bodyPost_ret (v := .tuple #[.agg #[.slice none 0 0, .slice none 0 0, .int .i64 0], .bool false]) (by simp [results, Try.results57, go_sem]) rfl ?_
  refine ⟨_, _, _, _, _, _, _, rfl, ?_⟩
  repeat (first | exact Fr.refl _ _ | refine Fr.alloc ?_ _ | refine Fr.drew ?_ | refine Fr.setCell ?_ (fun h => absurd h (by simp)) _)
theorem qmore {P : Program} {f : FuncId} {args : Array Value} {w : World} {v : Value} (h : ∀ q, Calls P f args (w.drewN q) fun e w' => e = .returned v ∧ ∃ m, w' = (w.drewN q).drewN m) (n : Nat) :
    Calls P f args (w.drewN n) fun e w'' => e = .returned v ∧ ∃ m, w'' = w.drewN m := (h n).mono fun _ _ ⟨h1, _, h2⟩ => ⟨h1, _, h2.trans (World.drewN_drewN _ _ _)⟩
theorem decide_nodup_nats (l : List Nat) : decide (nats l).Nodup = decide l.Nodup := by
  have h : (nats l).Nodup ↔ l.Nodup := by
    unfold nats List.Nodup
    rw [List.pairwise_map]
    exact ⟨fun h => h.imp (fun h e => h (by rw [e])), fun h => h.imp (fun h e => h (by omega))⟩
  by_cases h2 : l.Nodup
  · rw [decide_eq_true h2, decide_eq_true (h.2 h2)]
  · rw [decide_eq_false h2, decide_eq_false (fun h3 => h2 (h.1 h3))]
set_option maxRecDepth 100000 in
set_option maxHeartbeats 8000000 in
theorem read_any (a : Option Addr) (n c x page : Nat) (bs : List UInt8) (w : World) (hr : Rd w a n (byt bs)) (hc : n ≤ c) (h8 : x + 8 ≤ n) (hn : n ≤ 2000000) (hp : page ≤ 256) (hp1 : 1 ≤ page) :
    Calls Try.prog 57 #[.slice a n c, .int .i64 x, .int .i64 page] w (PPost bs x page a w) := by
  have hbl : bs.length = n := by simpa using hr.len
  have hal : ∀ k, onBlk a k → k < w.heap.size := hr.lt (by omega)
  obtain ⟨m, hm⟩ : ∃ m, m = wd bs x := ⟨_, rfl⟩
  have hm32 : m < 4294967296 := by rw [hm]; exact wd_lt _ _
  obtain ⟨y, hy⟩ : ∃ y, y = m * (4 + page) := ⟨_, rfl⟩
  have hy1 : y ≤ 1116691496700 := by rw [hy]; have h := Nat.mul_le_mul (show m ≤ 4294967295 by omega) (show 4 + page ≤ 260 by omega); omega
  have hz : recSz bs x page = 4 + y := by unfold recSz; rw [← hm, hy]
  have hfit : fitB bs x page = (decide (m ≤ 1000) && decide (x + y + 8 ≤ n)) := by
    unfold fitB
    rw [hz, ← hm, hbl, Bool.eq_iff_iff]
    simp only [Bool.and_eq_true, decide_eq_true_eq]
    omega
  have hx9 : x ≤ 2000000 := by omega
  have hword := fun (W : World) (k : Nat) (h : Rd W a n (byt bs)) (hk : k + 4 ≤ n) => word_any a n c k bs W h hk
  have Wy : Hid (wrap64 ((m : Int) * (4 + (page : Int))) = (y : Int)) := Lib.hid (by
    have e : (m : Int) * (4 + (page : Int)) = (y : Int) := by rw [hy]; simp
    rw [e]; exact IntWalk.wrap64_in _ (by omega))
  have Hr := Lib.hid hr
  have Hword := Lib.hid hword
  have Hal := Lib.hid hal
  have Hm := Lib.hid hm
  have Hy := Lib.hid hy
  have Hz := Lib.hid hz
  have Hbl := Lib.hid hbl
  have Hc := Lib.hid hc
  have Hn := Lib.hid hn
  have H8 := Lib.hid h8
  have cfit : fitB bs x page = false → recOk bs x page = false := fun h => by unfold recOk; rw [h]; rfl
  clear hr hword hal hm hy hz hbl hc
  have F1 : Hid (Fr F0 w (w.alloc (.cells #[.slice none 0 0, .slice none 0 0, .int .i64 0] 42))) := Lib.hid ((Fr.refl _ _).alloc _)
  have B0 : Hid (Blk (w.alloc (.cells #[.slice none 0 0, .slice none 0 0, .int .i64 0] 42)) w.heap.size 42 [.slice none 0 0, .slice none 0 0, .int .i64 0]) := Lib.hid (Blk.new w 42 [.slice none 0 0, .slice none 0 0, .int .i64 0])
  have d0 : decide ((n : Int) < (x : Int) + 8) = false := by simp; omega
  by_cases hf : m ≤ 1000 ∧ x + y + 8 ≤ n
  · obtain ⟨hm2, hf⟩ := hf
    have d2 : decide ((1000 : Int) < (m : Int)) = false := by simp; omega
    have hy2 : y ≤ 260000 := by rw [Hy.out]; have h := Nat.mul_le_mul hm2 (show 4 + page ≤ 260 by omega); omega
    have d3 : decide ((n : Int) < (x : Int) + 8 + (y : Int)) = false := by simp; omega
    have Hfit : Hid (fitB bs x page = true) := Lib.hid (by rw [hfit]; simp; omega)
    obtain ⟨U, hU⟩ : ∃ U, U = fnv ((bs.drop x).take (4 + y)) := ⟨_, rfl⟩
    obtain ⟨V, hV⟩ : ∃ V, V = wd bs (x + (4 + y)) := ⟨_, rfl⟩
    have hsb : sumB bs x page = decide (U = V) := by unfold sumB; rw [Hz.out, ← hU, ← hV]
    obtain ⟨ps, hps⟩ : ∃ ps, ps = recPs bs x page := ⟨_, rfl⟩
    obtain ⟨ds, hds⟩ : ∃ ds, ds = recDs bs x page := ⟨_, rfl⟩
    have hok : Hid (recOk bs x page = (decide (U = V) && pgsB ps)) := Lib.hid (by unfold recOk; rw [Hfit.out, hsb, hps]; simp)
    have psl : Hid (ps.length = m) := Lib.hid (by rw [hps]; unfold recPs; simp [Hm.out])
    have dsl : Hid (ds.length = m) := Lib.hid (by rw [hds]; unfold recDs; simp [Hm.out])
    have hpg : Hid (∀ k, k < m → ps[k]? = some (wd bs (x + 4 + k * (4 + page)))) := Lib.hid (fun k hk => by rw [hps]; unfold recPs; rw [List.getElem?_map, List.getElem?_range (by rw [← Hm.out]; exact hk)]; rfl)
    have hdg : Hid (∀ k, k < m → ds[k]? = some ((bs.drop (x + 4 + k * (4 + page) + 4)).take page)) := Lib.hid (fun k hk => by rw [hds]; unfold recDs; rw [List.getElem?_map, List.getElem?_range (by rw [← Hm.out]; exact hk)]; simp only [Option.map_some]; rw [show x + 8 + k * (4 + page) = x + 4 + k * (4 + page) + 4 by omega])
    have hrec : Hid (recAt bs x page = ⟨ps, ds, x + (4 + y) + 4⟩) := Lib.hid (by unfold recAt; rw [← hps, ← hds, Hz.out])
    have Hsb := Lib.hid hsb
    have HU := Lib.hid hU
    have HV := Lib.hid hV
    have wy := Wy.out
    clear hps hds hsb hU hV cfit hfit h8 hn
    have hcw := Hword.out _ x (Hr.out.fr0 F1.out) (by have := H8.out; omega)
    rw [← Hm.out] at hcw
    go_enter Try.func57, Try.ntmps57
    go_wp2_with fail
    refine hcw.mono ?_; rintro e w1 ⟨rfl, q, rfl⟩
    have F2 := Lib.hid (F1.out.drewN q)
    replace B0 : Hid (Blk _ _ _ _) := Lib.hid (B0.out.fr ((Fr.refl F0 _).drewN q) id)
    have hsz0 : Hid (((w.alloc (.cells #[.slice none 0 0, .slice none 0 0, .int .i64 0] 42)).drewN q).heap.size = w.heap.size + 1) := Lib.hid (size_alloc _ _)
    generalize ((w.alloc (.cells #[.slice none 0 0, .slice none 0 0, .int .i64 0] 42)).drewN q) = wq at *
    clear hcw
    go_wp2_with fail
    rw [Wy.out]
    have B1 : Hid (Blk (wq.alloc (.cells #[.slice none 0 0, .slice none 0 0, .int .i64 0] 42)) (w.heap.size + 1) 42 [.slice none 0 0, .slice none 0 0, .int .i64 0]) := Lib.hid (by
      have h := Blk.new wq 42 [.slice none 0 0, .slice none 0 0, .int .i64 0]
      rwa [hsz0.out] at h)
    rw [hsz0.out]
    replace B0 := Lib.hid (B0.out.alloc (.cells #[.slice none 0 0, .slice none 0 0, .int .i64 0] 42))
    replace F2 := Lib.hid (F2.out.alloc (.cells #[.slice none 0 0, .slice none 0 0, .int .i64 0] 42))
    have hsz2 : Hid ((wq.alloc (.cells #[.slice none 0 0, .slice none 0 0, .int .i64 0] 42)).heap.size = w.heap.size + 2) := Lib.hid (by rw [size_alloc, hsz0.out])
    generalize (wq.alloc (.cells #[.slice none 0 0, .slice none 0 0, .int .i64 0] 42)) = wp at *
    obtain ⟨bR, hbR⟩ : ∃ b, b = w.heap.size := ⟨_, rfl⟩
    obtain ⟨bq, hbq⟩ : ∃ b, b = w.heap.size + 1 := ⟨_, rfl⟩
    rw [← hbq] at B1
    rw [← hbR] at B0
    rw [← hbq, ← hbR]
    have Hbb : Hid (bR = w.heap.size ∧ bq = w.heap.size + 1) := Lib.hid ⟨hbR, hbq⟩
    clear hbR hbq F1 hsz0 d2 d3 d0 wy
    go_loopw [10, 11, 12] (fun s10 s11 _ wr => ∃ (k j c1 c2 : Nat) (a1 a2 : Option Addr) (vs : List Value) (S : Nat → Prop), k ≤ m ∧ s11 = .int .i64 k ∧ s10 = .int .i64 j ∧ Hid (j = x + 4 + k * (4 + page)) ∧ j ≤ 3000000 ∧ Hid (Blk wr bq 42 [.slice a1 k c1, .slice a2 k c2, .int .i64 0]) ∧ Hid (Own wr (w.heap.size + 2) 3 a1 k c1 (ints (nats (ps.take k)))) ∧ Hid (Own wr (w.heap.size + 2) 22 a2 k c2 vs) ∧ Hid (RowsM wr S vs (ds.take k)) ∧ Hid (∀ j, S j → w.heap.size + 2 ≤ j ∧ j < wr.heap.size ∧ ¬ onBlk a1 j ∧ ¬ onBlk a2 j) ∧ Hid ((ps.take k).all (fun p => decide (p < 1000)) = true) ∧ Hid (Apart a1 a2) ∧ Hid (Blk wr bR 42 [.slice none 0 0, .slice none 0 0, .int .i64 0]) ∧ Hid (w.heap.size + 2 ≤ wr.heap.size) ∧ Hid (Fr F0 w wr)) (fun _ s11 _ _ => m - (intOf s11).toNat)
    case atStart => exact ⟨0, x + 4, 0, 0, none, none, [], fun _ => False, by omega, rfl, by go_num, Lib.hid (by omega), by omega, B1, Lib.hid (Own.nil _ _ _), Lib.hid (Own.nil _ _ _), Lib.hid (RowsM.nil _ _), Lib.hid (fun _ h => h.elim), Lib.hid (by rw [List.take_zero]; rfl), Lib.hid (apart_none _), B0, Lib.hid (by have := hsz2.out; omega), F2⟩
    case round =>
      clear B1 B0 F2 hsz2
      obtain ⟨k, j, c1, c2, a1, a2, vs, S, hk, rfl, rfl, hj, hj9, hB, hO1, hO2, hRw, hS, hall, hap, hBR, hsz, hF⟩ := hrel
      by_cases hlt : k < m
      · have hqy : k * (4 + page) + (4 + page) ≤ y := by
          rw [Hy.out]
          have h := Nat.mul_le_mul_right (4 + page) (show k + 1 ≤ m by omega)
          rw [Nat.add_mul] at h
          omega
        have hjn : Hid (j + (4 + page) ≤ x + 4 + y) := Lib.hid (by have := hj.out; omega)
        obtain ⟨p, hp'⟩ : ∃ p, p = wd bs j := ⟨_, rfl⟩
        have hpk := hpg.out k hlt
        have hdk := hdg.out k hlt
        rw [← hj.out] at hpk hdk
        rw [← hp'] at hpk
        have hp32 : p < 4294967296 := by rw [hp']; exact wd_lt _ _
        have hcw := Hword.out wr j (Hr.out.fr0 hF.out) (by have := hjn.out; omega)
        rw [← hp'] at hcw
        have hj2 : Hid (j + 4 + page = x + 4 + (k + 1) * (4 + page)) := Lib.hid (by have := hj.out; rw [Nat.add_mul]; omega)
        have hpl : Hid ((ps.take (k + 1)) = ps.take k ++ [p]) := Lib.hid (by rw [List.take_add_one, hpk]; rfl)
        have hdl : Hid ((ds.take (k + 1)) = ds.take k ++ [(bs.drop (j + 4)).take page]) := Lib.hid (by rw [List.take_add_one, hdk]; rfl)
        have hpm : Hid (p ∈ ps) := Lib.hid (List.mem_of_getElem? hpk)
        clear hp' hpk hdk hqy
        go_wp2_with fail
        refine hcw.mono ?_; rintro e w1 ⟨rfl, q, rfl⟩
        have D := (Fr.refl F0 wr).drewN q
        replace hB := Lib.hid (hB.out.fr D id)
        replace hO1 := Lib.hid (hO1.out.fr0 D)
        replace hO2 := Lib.hid (hO2.out.fr0 D)
        replace hRw := Lib.hid (hRw.out.fr0 D)
        replace hBR := Lib.hid (hBR.out.fr D id)
        replace hF := Lib.hid (hF.out.trans0 D)
        replace hsz : Hid (w.heap.size + 2 ≤ (wr.drewN q).heap.size) := hsz
        replace hS : Hid (∀ j, S j → w.heap.size + 2 ≤ j ∧ j < (wr.drewN q).heap.size ∧ ¬ onBlk a1 j ∧ ¬ onBlk a2 j) := hS
        clear D hcw
        generalize wr.drewN q = wr at *
        have z0 := hB.out.cell (i := 0) rfl
        have y0 := hBR.out.cell (i := 0) rfl
        have y1 := hBR.out.cell (i := 1) rfl
        have y2 := hBR.out.cell (i := 2) rfl
        have f0 := hBR.out.free 0
        have f1 := hBR.out.free 1
        have f2 := hBR.out.free 2
        by_cases hbig : 1000 ≤ p
        · have dp : decide ((1000 : Int) ≤ (p : Int)) = true := by simp; omega
          have hno : Hid (recOk bs x page = false) := Lib.hid (by
            rw [hok.out, Bool.and_eq_false_iff]
            right
            rw [Bool.eq_false_iff]
            intro h
            unfold pgsB at h
            rw [Bool.and_eq_true, List.all_eq_true] at h
            have := h.1 p hpm.out
            simp at this; omega)
          have FRn : Hid (Fr F0 w (((wr.setCell ⟨bR, 0, none⟩ (.slice none 0 0)).setCell ⟨bR, 1, none⟩ (.slice none 0 0)).setCell ⟨bR, 2, none⟩ (.int .i64 0))) := Lib.hid (((hF.out.set0 (p := ⟨bR, 0, none⟩) (by have := Hbb.out; exact Nat.le_of_eq this.1.symm) _).set0 (p := ⟨bR, 1, none⟩) (by have := Hbb.out; exact Nat.le_of_eq this.1.symm) _).set0 (p := ⟨bR, 2, none⟩) (by have := Hbb.out; exact Nat.le_of_eq this.1.symm) _)
          have BRn : ∀ v0 v1 v2 : Value, Hid (Blk (((wr.setCell ⟨bR, 0, none⟩ v0).setCell ⟨bR, 1, none⟩ v1).setCell ⟨bR, 2, none⟩ v2) bR 42 [v0, v1, v2]) := fun v0 v1 v2 => Lib.hid (((hBR.out.set 0 v0).set 1 v1).set 2 v2)
          go_wp2_with fail
          (have g := (BRn (.slice none 0 0) (.slice none 0 0) (.int .i64 0)).out; have g0 := g.cell (i := 0) rfl; have g1 := g.cell (i := 1) rfl; have g2 := g.cell (i := 2) rfl); refine bodyPost_ret (v := .tuple #[.agg #[.slice none 0 0, .slice none 0 0, .int .i64 0], .bool false]) (by simp [results, Try.results57, go_sem, g0, g1, g2]) rfl (.inr ⟨hno.out, _, _, _, _, _, _, _, rfl, ?_⟩)
          exact FRn.out
        · have dp : decide ((1000 : Int) ≤ (p : Int)) = false := by simp; omega
          have hall2 : Hid ((ps.take (k + 1)).all (fun p => decide (p < 1000)) = true) := Lib.hid (by rw [hpl.out, List.all_append, hall.out]; simp; omega)
          have hne1 : Hid (¬ onBlk a1 bq) := Lib.hid (fun h => by have := (hO1.out.blk _ h).1; have := Hbb.out; omega)
          have hne2 : Hid (¬ onBlk a1 bR) := Lib.hid (fun h => by have := (hO1.out.blk _ h).1; have := Hbb.out; omega)
          have hne3 : Hid (¬ onBlk a2 bq) := Lib.hid (fun h => by have := (hO2.out.blk _ h).1; have := Hbb.out; omega)
          have hne4 : Hid (¬ onBlk a2 bR) := Lib.hid (fun h => by have := (hO2.out.blk _ h).1; have := Hbb.out; omega)
          have hszl := hsz.out
          replace hbig := Lib.hid hbig
          clear y0 y1 y2 f0 f1 f2
          go_wp2_with (at_builtin; refine wpAppAt E3 hO1.out (by omega) (by omega) (by omega) (u := .int .i64 p) rfl rfl rfl ?_; intro a5 c5 w5 own5 fr5 at5; have hB5 := Lib.hid (hB.out.fr fr5 hne1.out); have x0 := hB5.out.cell (i := 0) rfl; have xf := hB5.out.free 0)
          have hB6 : Hid (Blk (w5.setCell ⟨bq, 0, none⟩ (.slice a5 (k + 1) c5)) bq 42 [.slice a5 (k + 1) c5, .slice a2 k c2, .int .i64 0]) := Lib.hid (by simpa using hB5.out.set 0 (.slice a5 (k + 1) c5))
          have hne5 : Hid (¬ onBlk a5 bq) := Lib.hid (fun h => (at5 _ h).elim hne1.out (fun h1 => by have := hB.out.lt; omega))
          have O16 : Hid (Own (w5.setCell ⟨bq, 0, none⟩ (.slice a5 (k + 1) c5)) (w.heap.size + 2) 3 a5 (k + 1) c5 (ints (nats (ps.take (k + 1))))) := Lib.hid (by
            have h := own5.other (p := ⟨bq, 0, none⟩) hne5.out (.slice a5 (k + 1) c5)
            rw [hpl.out]
            simpa [ints, nats] using h)
          have G6 : Fr (fun j => onBlk a1 j ∨ j = bq) wr (w5.setCell ⟨bq, 0, none⟩ (.slice a5 (k + 1) c5)) := Fr.setCell (fr5.mono (fun _ _ h => .inl h)) (fun _ => .inr rfl) _
          have O26 : Hid (Own (w5.setCell ⟨bq, 0, none⟩ (.slice a5 (k + 1) c5)) (w.heap.size + 2) 22 a2 k c2 vs) := Lib.hid (hO2.out.fr G6 (fun j h1 h2 => h2.elim (fun h => hap.out j h h1) (fun h => hne3.out (h ▸ h1))))
          have hSb : ∀ j, S j → ¬ (onBlk a1 j ∨ j = bq) := fun j h1 h2 => by
            have h3 := hS.out j h1
            rcases h2 with h | h
            · exact h3.2.2.1 h
            · have := Hbb.out; omega
          have R6 : Hid (RowsM (w5.setCell ⟨bq, 0, none⟩ (.slice a5 (k + 1) c5)) S vs (ds.take k)) := Lib.hid (hRw.out.fr G6 hSb)
          have BR6 : Hid (Blk (w5.setCell ⟨bq, 0, none⟩ (.slice a5 (k + 1) c5)) bR 42 [.slice none 0 0, .slice none 0 0, .int .i64 0]) := Lib.hid (hBR.out.fr G6 (fun h => h.elim hne2.out (fun h => by have := Hbb.out; omega)))
          have F6 : Hid (Fr F0 w (w5.setCell ⟨bq, 0, none⟩ (.slice a5 (k + 1) c5))) := Lib.hid (hF.out.trans G6 (fun j h1 h2 => by
            rcases h2 with h | h
            · have := (hO1.out.blk j h).1; omega
            · have := Hbb.out; omega))
          have ap6 : Hid (Apart a5 a2) := Lib.hid (hap.out.app at5 (fun j h => (hO2.out.blk j h).2))
          have hS6 : Hid (∀ j, S j → w.heap.size + 2 ≤ j ∧ j < (w5.setCell ⟨bq, 0, none⟩ (.slice a5 (k + 1) c5)).heap.size ∧ ¬ onBlk a5 j ∧ ¬ onBlk a2 j) := Lib.hid (fun j h => by
            obtain ⟨h1, h2, h3, h4⟩ := hS.out j h
            have := G6.size
            exact ⟨h1, by omega, fun h5 => (at5 j h5).elim h3 (fun h6 => by omega), h4⟩)
          have sz6 : Hid (w.heap.size + 2 ≤ (w5.setCell ⟨bq, 0, none⟩ (.slice a5 (k + 1) c5)).heap.size) := Lib.hid (by have := G6.size; omega)
          have x1 := hB6.out.cell (i := 1) rfl
          clear G6 fr5 at5 own5 hB5 hB hO1 hO2 hRw hBR hF hap hsz hall hS x0 xf z0 hSb hszl
          generalize (w5.setCell ⟨bq, 0, none⟩ (.slice a5 (k + 1) c5)) = w6 at *
          have t1 : IntKind.i64.wrap ((j : Int) + 4) = (j : Int) + 4 := wI (by omega) (by omega)
          have t2 : IntKind.i64.wrap ((j : Int) + 4 + (page : Int)) = (j : Int) + 4 + (page : Int) := wI (by omega) (by omega)
          have s4 : ∀ w, (Instr.sliceAt 22 (.slice a n c) (some (.int .i64 ((j : Int) + 4))) (some (.int .i64 ((j : Int) + 4 + (page : Int)))) none).run Try.prog w = .ok (.slice (cutA a c (j + 4)) page (c - (j + 4))) w := fun w => by
            have h := run_cutLH E5 w a (n := n) (c := c) (k := j + 4) (h := j + 4 + page) (by omega) (by have := Hc.out; have := hjn.out; omega) (x := (j : Int) + 4) (y := (j : Int) + 4 + (page : Int)) (by omega) (by omega)
            rw [show j + 4 + page - (j + 4) = page by omega] at h
            exact h
          have hRow0 : Hid (Rd w (cutA a c (j + 4)) page (byt ((bs.drop (j + 4)).take page))) := Lib.hid (by
            have h := Hr.out.cutLH (c := c) Hc.out (k := j + 4) (m := page) (by have := hjn.out; omega)
            rwa [byt_drop, byt_take] at h)
          have hHeld : (fun w' : World => w'.cell? ⟨bq, 1, none⟩ = some (.slice a2 k c2)) w6.drew := x1
          refine wp_region_last 15 (fun w' : World => w'.cell? ⟨bq, 1, none⟩ = some (.slice a2 k c2)) (by kernel_rfl) ?_
          refine anyP_take 0 (v := ?_) rfl rfl (by kernel_rfl) (fun _ _ _ h => h) (Or.inl ⟨by rfl, ?_⟩) hHeld ?_
          rotate_left 1
          · (intro w0 hSw; (try dsimp only at hSw); go_simp; (try (with_reducible rfl)))
          try simp only [Act.put, List.setIfInBounds_toArray]
          refine anyP_take 1 (v := ?_) rfl rfl (by kernel_rfl) (fun _ _ _ h => h) (Or.inl ⟨by rfl, ?_⟩) hHeld ?_
          rotate_left 1
          · (intro w0 hSw; (try dsimp only at hSw); go_simp; (try (with_reducible rfl)))
          try simp only [Act.put]
          refine anyP_take 3 (v := ?_) rfl rfl (by kernel_rfl) (fun _ _ _ h => h) (Or.inl ⟨by rfl, ?_⟩) hHeld ?_
          rotate_left 1
          · (intro w0 hSw; (try dsimp only at hSw); go_simp; (try (with_reducible rfl)))
          try simp only [Act.put]
          refine anyP_take 4 (v := ?_) rfl rfl (by kernel_rfl) (fun _ _ _ h => h) (Or.inl ⟨by rfl, ?_⟩) hHeld ?_
          rotate_left 1
          · (intro w0 hSw; (try dsimp only at hSw); go_simp; (try (with_reducible rfl)))
          try simp only [Act.put]
          refine anyP_take 5 (v := ?_) rfl rfl (by kernel_rfl) (fun _ _ _ h => h) (Or.inl ⟨by rfl, ?_⟩) hHeld ?_
          rotate_left 1
          · (intro w0 hSw; (try dsimp only at hSw); go_simp; (try (with_reducible rfl)))
          try simp only [Act.put]
          refine anyP_take 6 (v := ?_) rfl rfl (by kernel_rfl) (fun _ _ _ h => h) (Or.inl ⟨by rfl, ?_⟩) hHeld ?_
          rotate_left 1
          · (intro w0 hSw; (try dsimp only at hSw); go_simp; (try (with_reducible rfl)))
          try simp only [Act.put]
          refine anyP_take 7 (v := ?_) rfl rfl (by kernel_rfl) (fun _ _ _ h => h) (Or.inl ⟨by rfl, ?_⟩) hHeld ?_
          rotate_left 1
          · (intro w0 hSw; (try dsimp only at hSw); go_simp; (try (with_reducible rfl)))
          try simp only [Act.put]
          refine anyP_take 8 (v := ?_) rfl rfl (by kernel_rfl) (fun _ _ _ h => h) (Or.inl ⟨by rfl, ?_⟩) hHeld ?_
          rotate_left 1
          · (intro w0 hSw; (try dsimp only at hSw); go_simp; (try (with_reducible rfl)))
          try simp only [Act.put]
          refine anyP_take 9 (v := ?_) rfl rfl (by kernel_rfl) (fun _ _ _ h => h) (Or.inl ⟨by rfl, ?_⟩) hHeld ?_
          rotate_left 1
          · (intro w0 hSw; (try dsimp only at hSw); go_simp; (try (with_reducible rfl)))
          try simp only [Act.put]
          refine anyP_take 10 (v := ?_) rfl rfl (by kernel_rfl) (fun _ _ _ h => h) (Or.inl ⟨by rfl, ?_⟩) hHeld ?_
          rotate_left 1
          · (intro w0 hSw; (try dsimp only at hSw); go_simp; (try (with_reducible rfl)))
          try simp only [Act.put]
          refine anyP_one 2 (by kernel_rfl) rfl (fun K hK => ?_)
          replace hK := Lib.hid hK
          go_simp
          have A7 : Fr F0 w6 (w6.alloc (Obj.cells #[] 5)).drew := ((Fr.refl F0 w6).alloc _).drew
          have hHeld2 : (fun w' : World => w'.cell? ⟨bq, 1, none⟩ = some (.slice a2 k c2)) (w6.alloc (Obj.cells #[] 5)).drew := A7.cell x1 id
          refine hK.out _ _ (.inr hHeld2) ?_
          clear hK K
          try simp only [Act.put, List.setIfInBounds_toArray, List.set_cons_zero, List.set_cons_succ]
          have OE : Hid (Own (w6.alloc (Obj.cells #[] 5)).drew w6.heap.size 5 (some ⟨w6.heap.size, 0, none⟩) 0 0 (byt [])) := Lib.hid ((Own.lit (B := w6.heap.size) (byt []) 0 rfl (Nat.le_refl _) (by omega)).fr0 (Fr.refl _ _).drew)
          have sz7 : Hid (w6.heap.size < (w6.alloc (Obj.cells #[] 5)).drew.heap.size) := Lib.hid (by show _ < (w6.alloc _).heap.size; rw [size_alloc]; omega)
          replace A7 := Lib.hid A7
          clear hHeld2 hHeld
          generalize (w6.alloc (Obj.cells #[] 5)).drew = w7 at *
          refine anyP_one 11 (by kernel_rfl) rfl (fun K hK => ?_)
          replace hK := Lib.hid hK
          refine stepAppRd E5 (by rfl) (by rfl) (by rfl) (by rfl) OE.out ((hRow0.out.fr0 F6.out).fr0 A7.out) (oneCell_byt _) (by omega) (by omega) (by have := sz7.out; omega) page (by omega) ?_
          intro ar cr w8 own8 fr8 at8
          have A8 : Fr F0 w6 w8 := A7.out.trans fr8 (fun j h1 h2 => by have := (OE.out.blk j h2).1; omega)
          have hHeld3 : (fun w' : World => w'.cell? ⟨bq, 1, none⟩ = some (.slice a2 k c2)) w8 := A8.cell x1 id
          refine hK.out _ _ (.inr hHeld3) ?_
          clear hK K
          try simp only [Act.put, List.setIfInBounds_toArray]
          replace own8 := Lib.hid own8
          refine anyP_one 12 (by kernel_rfl) rfl (fun K hK => ?_)
          replace hK := Lib.hid hK
          go_simp
          have A9 : Fr F0 w8 (w8.alloc (Obj.cells #[Value.slice ar page cr] 22)) := (Fr.refl F0 w8).alloc _
          have hHeld4 : (fun w' : World => w'.cell? ⟨bq, 1, none⟩ = some (.slice a2 k c2)) (w8.alloc (Obj.cells #[Value.slice ar page cr] 22)) := A9.cell hHeld3 id
          refine hK.out _ _ (.inr hHeld4) ?_
          clear hK K
          try simp only [Act.put, List.setIfInBounds_toArray, List.set_cons_zero, List.set_cons_succ]
          have L9 : Hid (Rd (w8.alloc (Obj.cells #[Value.slice ar page cr] 22)) (some ⟨w8.heap.size, 0, none⟩) 1 [Value.slice ar page cr]) := Lib.hid ((Own.lit (B := w8.heap.size) [Value.slice ar page cr] 1 rfl (Nat.le_refl _) (by omega)).rd)
          have sz9 : Hid (w8.heap.size < (w8.alloc (Obj.cells #[Value.slice ar page cr] 22)).heap.size) := Lib.hid (by rw [size_alloc]; omega)
          have own9 := Lib.hid (own8.out.fr0 A9)
          have A69 := Lib.hid (A8.trans0 A9)
          have A8s : Hid (w6.heap.size ≤ w8.heap.size) := Lib.hid A8.size
          clear hHeld3 hHeld4 fr8 at8 A7 A8 A9 OE own8 x1
          have O29 := Lib.hid (O26.out.fr0 A69.out)
          have hB9 := Lib.hid (hB6.out.fr A69.out id)
          generalize (w8.alloc (Obj.cells #[Value.slice ar page cr] 22)) = w9 at *
          refine anyP_one 13 (by kernel_rfl) rfl (fun K hK => ?_)
          replace hK := Lib.hid hK
          refine stepAppRd ER (by rfl) (by rfl) (by rfl) (by rfl) O29.out L9.out (fun u hu => by simp at hu; subst hu; rfl) (by omega) (by omega) (by have := A69.out.size; have := sz6.out; omega) (k + 1) rfl ?_
          intro a8 c8 wx own8 fr8 at8
          have hB8 := Lib.hid (hB9.out.fr fr8 hne3.out)
          have hHeld5 : (fun w' : World => w'.cell? ⟨bq, 1, none⟩ = some (.slice a2 k c2)) wx := hB8.out.cell (i := 1) rfl
          refine hK.out _ _ (.inr hHeld5) ?_
          clear hK K
          try simp only [Act.put, List.setIfInBounds_toArray]
          refine anyP_one 14 (by kernel_rfl) rfl (fun K hK => ?_)
          replace hK := Lib.hid hK
          go_simp
          refine hK.out _ _ (.inr hHeld5) ?_
          clear hK K
          try simp only [Act.put, List.setIfInBounds_toArray, List.set_cons_zero, List.set_cons_succ]
          refine anyP_one 15 (by kernel_rfl) rfl (fun K hK => ?_)
          replace hK := Lib.hid hK
          have hz1 := hHeld5
          have hz2 := hB8.out.free 1
          dsimp only at hz1
          go_simp
          refine hK.out _ _ (.inl (by kernel_rfl)) ?_
          refine anyP_done (by kernel_rfl) ?_ _
          refine NoPanic.normal ?_
          clear hK K
          try simp only [Act.put, List.setIfInBounds_toArray, List.set_cons_zero, List.set_cons_succ]
          clear hz1 hz2 hHeld5 s4
          go_wp2_with fail
          go_roundw
          case rel =>
            have hba8 : ¬ onBlk a8 bq := fun h => (at8 _ h).elim hne3.out (fun h1 => by have := hB9.out.lt; omega)
            have G8 : Fr (fun j => onBlk a2 j ∨ j = bq) w6 (wx.setCell ⟨bq, 1, none⟩ (.slice a8 (k + 1) c8)) :=
              Fr.setCell ((A69.out.mono (fun _ _ h => h.elim) : Fr (fun j => onBlk a2 j ∨ j = bq) w6 w9).trans fr8 (fun _ _ h => .inl h)) (fun _ => .inr rfl) _
            have G9 : Fr (fun j => onBlk a2 j ∨ j = bq) w9 (wx.setCell ⟨bq, 1, none⟩ (.slice a8 (k + 1) c8)) :=
              Fr.setCell (fr8.mono (fun _ _ h => .inl h)) (fun _ => .inr rfl) _
            have F9 := F6.out.trans G8 (fun j h1 h2 => by
              rcases h2 with h | h
              · have := (O26.out.blk j h).1; omega
              · have := Hbb.out; omega)
            have hszl := sz6.out
            have h86 := A8s.out
            have hgz := G9.size
            have h98 := sz9.out
            have hSS : ∀ j, (S j ∨ onBlk ar j) → w.heap.size + 2 ≤ j ∧ j < w9.heap.size ∧ ¬ onBlk a5 j ∧ ¬ onBlk a2 j := fun j h => by
              rcases h with h | h
              · obtain ⟨h1, h2, h3, h4⟩ := hS6.out j h
                exact ⟨h1, by have := A69.out.size; omega, h3, h4⟩
              · have h1 := own9.out.blk j h
                exact ⟨by omega, h1.2, fun h2 => by have := (O16.out.blk j h2).2; omega, fun h2 => by have := (O26.out.blk j h2).2; omega⟩
            have hSn : ∀ j, (S j ∨ onBlk ar j) → ¬ (onBlk a2 j ∨ j = bq) := fun j h h2 => by
              have h3 := hSS j h
              rcases h2 with h2 | h2
              · exact h3.2.2.2 h2
              · have := Hbb.out; omega
            have hlen : ((bs.drop (j + 4)).take page).length = page := by
              rw [List.length_take, List.length_drop, Hbl.out]
              have := hjn.out
              omega
            have hRow : RowM (wx.setCell ⟨bq, 1, none⟩ (.slice a8 (k + 1) c8)) (fun j => S j ∨ onBlk ar j) (.slice ar page cr) ((bs.drop (j + 4)).take page) := by
              refine ⟨ar, cr, by rw [hlen], ?_, ?_, fun _ j h => .inr h⟩
              · rw [hlen]; exact own9.out.cap
              · rw [hlen]
                have h := (own9.out.fr G9 (fun j h => hSn j (.inr h))).rd
                simpa [byt] using h
            exact ⟨k + 1, j + 4 + page, c5, c8, a5, a8, vs ++ [.slice ar page cr], fun j => S j ∨ onBlk ar j, by omega, by go_num, by go_num, hj2, by have := hjn.out; omega,
              Lib.hid (by simpa using hB8.out.set 1 (.slice a8 (k + 1) c8)),
              Lib.hid (((O16.out.fr0 A69.out).fr fr8 ap6.out).other (p := ⟨bq, 1, none⟩) hne5.out _),
              Lib.hid (own8.other (p := ⟨bq, 1, none⟩) hba8 _),
              Lib.hid (by rw [hdl.out]; exact ((R6.out.fr G8 (fun j h => hSn j (.inl h))).mono (fun _ h => .inl h)).snoc hRow),
              Lib.hid (fun j h => by
                obtain ⟨h1, h2, h3, h4⟩ := hSS j h
                exact ⟨h1, by omega, h3, fun h5 => (at8 j h5).elim h4 (fun h6 => by omega)⟩),
              hall2, Lib.hid ((ap6.out.symm.app at8 (fun j h => (((O16.out.fr0 A69.out).blk j h).2))).symm),
              Lib.hid (BR6.out.fr G8 (fun h => h.elim hne4.out (fun h => by have := Hbb.out; omega))),
              Lib.hid (by have := G8.size; omega), Lib.hid F9⟩
          case measure => simp [intOf]; omega
      · obtain rfl : k = m := by omega
        rw [List.take_of_length_le (by have := psl.out; omega)] at hO1 hall
        rw [List.take_of_length_le (by have := dsl.out; omega)] at hRw
        have hjx : Hid (j = x + (4 + y)) := Lib.hid (by rw [hj.out, Hy.out]; omega)
        have z0 := hB.out.cell (i := 0) rfl
        have z1 := hB.out.cell (i := 1) rfl
        have z2 := hB.out.cell (i := 2) rfl
        have zf := hB.out.free 2
        go_wp2_with fail
        have Gs : Fr (fun q => q = bq) wr (wr.setCell ⟨bq, 2, none⟩ (.int .i64 ((j : Int) + 4))) := Fr.setCell (S := fun q => q = bq) (p := ⟨bq, 2, none⟩) (Fr.refl _ _) (fun _ => rfl) _
        have n1 : ∀ q, onBlk a1 q → ¬ q = bq := fun q h h2 => by have := (hO1.out.blk q h).1; have := Hbb.out; omega
        have n2 : ∀ q, onBlk a2 q → ¬ q = bq := fun q h h2 => by have := (hO2.out.blk q h).1; have := Hbb.out; omega
        have n3 : ∀ q, S q → ¬ q = bq := fun q h h2 => by have := (hS.out q h).1; have := Hbb.out; omega
        have hB2 : Hid (Blk (wr.setCell ⟨bq, 2, none⟩ (.int .i64 ((j : Int) + 4))) bq 42 [.slice a1 k c1, .slice a2 k c2, .int .i64 ((j : Int) + 4)]) := Lib.hid (hB.out.set 2 _)
        replace hO1 := Lib.hid (hO1.out.fr Gs n1)
        replace hO2 := Lib.hid (hO2.out.fr Gs n2)
        replace hRw := Lib.hid (hRw.out.fr Gs n3)
        replace hBR := Lib.hid (hBR.out.fr Gs (fun h => by have := Hbb.out; omega))
        replace hF := Lib.hid (hF.out.trans Gs (fun q h1 h2 => by have := Hbb.out; omega))
        replace hS : Hid (∀ j', S j' → w.heap.size + 2 ≤ j' ∧ j' < (wr.setCell ⟨bq, 2, none⟩ (.int .i64 ((j : Int) + 4))).heap.size ∧ ¬ onBlk a1 j' ∧ ¬ onBlk a2 j') := Lib.hid (fun q h => by have h2 := hS.out q h; have := Gs.size; exact ⟨h2.1, by omega, h2.2.2⟩)
        clear z0 z1 z2 zf hB n1 n2 n3 Gs
        generalize (wr.setCell ⟨bq, 2, none⟩ (.int .i64 ((j : Int) + 4))) = ws at *
        have z0 := hB2.out.cell (i := 0) rfl
        by_cases hnd : ps.Nodup
        · have htw := fun (q : Nat) => twice_any a1 k c1 (nats ps) (ws.drewN q) (hO1.out.rd.fr0 ((Fr.refl _ _).drewN q))
          rw [decide_nodup_nats, decide_eq_true hnd, Bool.not_true] at htw
          have hwd := fun (q : Nat) => Hword.out (ws.drewN q) j ((Hr.out.fr0 hF.out).fr0 ((Fr.refl _ _).drewN q)) (by have := hjx.out; omega)
          have eV : Hid (V = wd bs j) := Lib.hid (by rw [HV.out, hjx.out])
          rw [← eV.out] at hwd
          have hRs : Hid (Rd w (cutA a c x) (4 + y) (byt ((bs.drop x).take (4 + y)))) := Lib.hid (by
            have h := Hr.out.cutLH (c := c) Hc.out (k := x) (m := 4 + y) (by omega)
            rwa [byt_drop, byt_take] at h)
          have hsm := fun (q : Nat) => refSum_any (cutA a c x) (4 + y) (c - x) _ (ws.drewN q) ((hRs.out.fr0 hF.out).fr0 ((Fr.refl _ _).drewN q))
          rw [← HU.out] at hsm
          have Htw := Lib.hid htw
          have Hwd := Lib.hid hwd
          have Hsm := Lib.hid hsm
          have s5 : ∀ w, (Instr.sliceAt 22 (.slice a n c) (some (.int .i64 (x : Int))) (some (.int .i64 (j : Int))) none).run Try.prog w = .ok (.slice (cutA a c x) (4 + y) (c - x)) w := fun w => by
            have h := run_cutLH E5 w a (n := n) (c := c) (k := x) (h := j) (by have := hjx.out; omega) (by have := Hc.out; have := hjx.out; omega) (x := (x : Int)) (y := (j : Int)) rfl rfl
            rw [show j - x = 4 + y by have := hjx.out; omega] at h
            exact h
          clear htw hwd hsm
          by_cases hUV : U = V
          · have d4 : ((V : Int) != (U : Int)) = false := by simp; omega
            have hyes : Hid (recOk bs x page = true) := Lib.hid (by rw [hok.out, decide_eq_true hUV]; unfold pgsB; rw [hall.out, decide_eq_true hnd]; rfl)
            replace hUV := Lib.hid hUV
            replace hnd := Lib.hid hnd
            go_quiet (first | (go_at_call 52; exact qmore Htw.out _) | (go_at_call 73; exact qmore Hwd.out _) | (go_at_call 72; exact qsame (Hsm.out _)))
            have D := (Fr.refl F0 ws).drewN nq
            replace hB2 := Lib.hid (hB2.out.fr D id)
            replace hO1 := Lib.hid (hO1.out.fr0 D)
            replace hO2 := Lib.hid (hO2.out.fr0 D)
            replace hRw := Lib.hid (hRw.out.fr0 D)
            replace hBR := Lib.hid (hBR.out.fr D id)
            replace hF := Lib.hid (hF.out.trans0 D)
            replace hS : Hid (∀ j, S j → w.heap.size + 2 ≤ j ∧ j < (ws.drewN nq).heap.size ∧ ¬ onBlk a1 j ∧ ¬ onBlk a2 j) := hS
            clear D z0 d4 s5
            generalize ws.drewN nq = wt at *
            have z0 := hB2.out.cell (i := 0) rfl
            have z1 := hB2.out.cell (i := 1) rfl
            have z2 := hB2.out.cell (i := 2) rfl
            have y0 := hBR.out.cell (i := 0) rfl
            have y1 := hBR.out.cell (i := 1) rfl
            have y2 := hBR.out.cell (i := 2) rfl
            have f0 := hBR.out.free 0
            have f1 := hBR.out.free 1
            have f2 := hBR.out.free 2
            go_wp2_with fail
            clear z0 z1 z2 y0 y1 y2 f0 f1 f2
            have ev : ((j : Int) + 4) = ((x + (4 + y) + 4 : Nat) : Int) := by have := hjx.out; omega
            have G : Hid (Fr (fun j => j = bR) wt (((wt.setCell ⟨bR, 0, none⟩ (.slice a1 k c1)).setCell ⟨bR, 1, none⟩ (.slice a2 k c2)).setCell ⟨bR, 2, none⟩ (.int .i64 ((j : Int) + 4)))) := Lib.hid
              (Fr.setCell (S := fun j => j = bR) (p := ⟨bR, 2, none⟩) (Fr.setCell (S := fun j => j = bR) (p := ⟨bR, 1, none⟩) (Fr.setCell (S := fun j => j = bR) (p := ⟨bR, 0, none⟩) (Fr.refl _ _) (fun _ => rfl) _) (fun _ => rfl) _) (fun _ => rfl) _)
            have g : Blk (((wt.setCell ⟨bR, 0, none⟩ (.slice a1 k c1)).setCell ⟨bR, 1, none⟩ (.slice a2 k c2)).setCell ⟨bR, 2, none⟩ (.int .i64 ((j : Int) + 4))) bR 42 [.slice a1 k c1, .slice a2 k c2, .int .i64 ((j : Int) + 4)] := ((hBR.out.set 0 _).set 1 _).set 2 _
            have g0 := g.cell (i := 0) rfl
            have g1 := g.cell (i := 1) rfl
            have g2 := g.cell (i := 2) rfl
            have hF9 : Hid (Fr F0 w (((wt.setCell ⟨bR, 0, none⟩ (.slice a1 k c1)).setCell ⟨bR, 1, none⟩ (.slice a2 k c2)).setCell ⟨bR, 2, none⟩ (.int .i64 ((j : Int) + 4)))) := Lib.hid (hF.out.trans G.out (fun j h1 h2 => by have := Hbb.out; omega))
            clear g
            refine bodyPost_ret (v := .tuple #[.agg #[.slice a1 k c1, .slice a2 k c2, .int .i64 ((j : Int) + 4)], .bool true]) ?_ rfl ?_
            · simp [results, Try.results57, go_sem, g0, g1, g2]
            refine Or.inl ⟨hyes.out, .slice a1 k c1, .slice a2 k c2, ?_, ?_, hF9.out⟩
            · rw [hrec.out, ev]
            · rw [hrec.out]
              have n1 : ∀ j, onBlk a1 j → ¬ (j = bR) := fun j h h2 => by have := (hO1.out.blk j h).1; have := Hbb.out; omega
              have n2 : ∀ j, onBlk a2 j → ¬ (j = bR) := fun j h h2 => by have := (hO2.out.blk j h).1; have := Hbb.out; omega
              have n3 : ∀ j, S j → ¬ (j = bR) := fun j h h2 => by have := (hS.out j h).1; have := Hbb.out; omega
              have hO1' := hO1.out.fr G.out n1
              have hO2' := hO2.out.fr G.out n2
              have hRw' := hRw.out.fr G.out n3
              have el := psl.out
              have hsz9 := G.out.size
              refine ⟨a1, c1, a2, c2, vs, ?_, ?_, ?_, ?_, hRw'.mono (fun j h => ⟨by have := (hS.out j h).2.1; omega, .inr (by have := (hS.out j h).1; omega)⟩), fun _ j h => ⟨(hO1'.blk j h).2, .inr ?_⟩, fun _ j h => ⟨(hO2'.blk j h).2, .inr ?_⟩⟩
              · rw [el]
              · rw [dsl.out, el]
              · simp only [el]; exact hO1'.rd
              · simp only [el]; exact hO2'.rd
              · have := (hO1'.blk j h).1; omega
              · have := (hO2'.blk j h).1; omega
          · have d4 : ((V : Int) != (U : Int)) = true := by simp; omega
            have hno : Hid (recOk bs x page = false) := Lib.hid (by rw [hok.out, decide_eq_false hUV]; rfl)
            replace hUV := Lib.hid hUV
            replace hnd := Lib.hid hnd
            go_quiet (first | (go_at_call 52; exact qmore Htw.out _) | (go_at_call 73; exact qmore Hwd.out _) | (go_at_call 72; exact qsame (Hsm.out _)))
            have D := (Fr.refl F0 ws).drewN nq
            replace hBR := Lib.hid (hBR.out.fr D id)
            replace hF := Lib.hid (hF.out.trans0 D)
            clear D z0
            generalize ws.drewN nq = wt at *
            have y0 := hBR.out.cell (i := 0) rfl
            have y1 := hBR.out.cell (i := 1) rfl
            have y2 := hBR.out.cell (i := 2) rfl
            have f0 := hBR.out.free 0
            have f1 := hBR.out.free 1
            have f2 := hBR.out.free 2
            have BRn : ∀ v0 v1 v2 : Value, Hid (Blk (((wt.setCell ⟨bR, 0, none⟩ v0).setCell ⟨bR, 1, none⟩ v1).setCell ⟨bR, 2, none⟩ v2) bR 42 [v0, v1, v2]) := fun v0 v1 v2 => Lib.hid (((hBR.out.set 0 v0).set 1 v1).set 2 v2)
            have FRn : Hid (Fr F0 w (((wt.setCell ⟨bR, 0, none⟩ (.slice none 0 0)).setCell ⟨bR, 1, none⟩ (.slice none 0 0)).setCell ⟨bR, 2, none⟩ (.int .i64 0))) := Lib.hid (((hF.out.set0 (p := ⟨bR, 0, none⟩) (by have := Hbb.out; exact Nat.le_of_eq this.1.symm) _).set0 (p := ⟨bR, 1, none⟩) (by have := Hbb.out; exact Nat.le_of_eq this.1.symm) _).set0 (p := ⟨bR, 2, none⟩) (by have := Hbb.out; exact Nat.le_of_eq this.1.symm) _)
            go_wp2_with fail
            (have g := (BRn (.slice none 0 0) (.slice none 0 0) (.int .i64 0)).out; have g0 := g.cell (i := 0) rfl; have g1 := g.cell (i := 1) rfl; have g2 := g.cell (i := 2) rfl); refine bodyPost_ret (v := .tuple #[.agg #[.slice none 0 0, .slice none 0 0, .int .i64 0], .bool false]) (by simp [results, Try.results57, go_sem, g0, g1, g2]) rfl (.inr ⟨hno.out, _, _, _, _, _, _, _, rfl, ?_⟩)
            exact FRn.out
        · have htw := fun (q : Nat) => twice_any a1 k c1 (nats ps) (ws.drewN q) (hO1.out.rd.fr0 ((Fr.refl _ _).drewN q))
          rw [decide_nodup_nats, decide_eq_false hnd, Bool.not_false] at htw
          have hno : Hid (recOk bs x page = false) := Lib.hid (by rw [hok.out]; unfold pgsB; rw [decide_eq_false hnd]; simp)
          have Htw := Lib.hid htw
          replace hnd := Lib.hid hnd
          clear htw
          go_quiet (first | (go_at_call 52; exact qmore Htw.out _))
          have D := (Fr.refl F0 ws).drewN nq
          replace hBR := Lib.hid (hBR.out.fr D id)
          replace hF := Lib.hid (hF.out.trans0 D)
          clear D z0
          generalize ws.drewN nq = wt at *
          have y0 := hBR.out.cell (i := 0) rfl
          have y1 := hBR.out.cell (i := 1) rfl
          have y2 := hBR.out.cell (i := 2) rfl
          have f0 := hBR.out.free 0
          have f1 := hBR.out.free 1
          have f2 := hBR.out.free 2
          have BRn : ∀ v0 v1 v2 : Value, Hid (Blk (((wt.setCell ⟨bR, 0, none⟩ v0).setCell ⟨bR, 1, none⟩ v1).setCell ⟨bR, 2, none⟩ v2) bR 42 [v0, v1, v2]) := fun v0 v1 v2 => Lib.hid (((hBR.out.set 0 v0).set 1 v1).set 2 v2)
          have FRn : Hid (Fr F0 w (((wt.setCell ⟨bR, 0, none⟩ (.slice none 0 0)).setCell ⟨bR, 1, none⟩ (.slice none 0 0)).setCell ⟨bR, 2, none⟩ (.int .i64 0))) := Lib.hid (((hF.out.set0 (p := ⟨bR, 0, none⟩) (by have := Hbb.out; exact Nat.le_of_eq this.1.symm) _).set0 (p := ⟨bR, 1, none⟩) (by have := Hbb.out; exact Nat.le_of_eq this.1.symm) _).set0 (p := ⟨bR, 2, none⟩) (by have := Hbb.out; exact Nat.le_of_eq this.1.symm) _)
          go_wp2_with fail
          (have g := (BRn (.slice none 0 0) (.slice none 0 0) (.int .i64 0)).out; have g0 := g.cell (i := 0) rfl; have g1 := g.cell (i := 1) rfl; have g2 := g.cell (i := 2) rfl); refine bodyPost_ret (v := .tuple #[.agg #[.slice none 0 0, .slice none 0 0, .int .i64 0], .bool false]) (by simp [results, Try.results57, go_sem, g0, g1, g2]) rfl (.inr ⟨hno.out, _, _, _, _, _, _, _, rfl, ?_⟩)
          exact FRn.out
  · have hno : Hid (recOk bs x page = false) := Lib.hid (cfit (by rw [hfit, Bool.eq_false_iff]; intro h; simp at h; omega))
    have hcw := Hword.out _ x (Hr.out.fr0 F1.out) (by omega)
    rw [← Hm.out] at hcw
    have hvs : Hid (decide ((1000 : Int) < (m : Int)) = true ∨ (decide ((1000 : Int) < (m : Int)) = false ∧ decide ((n : Int) < (x : Int) + 8 + (y : Int)) = true)) := Lib.hid (by
      by_cases h : 1000 < m
      · left; simp; omega
      · right; constructor
        · simp; omega
        · simp; omega)
    clear cfit hfit hf h8 hn
    rcases hvs.out with d2 | ⟨d2, d3⟩
    all_goals
      clear hvs
      have wy := Wy.out
      go_enter Try.func57, Try.ntmps57
      go_wp2_with fail
      refine hcw.mono ?_; rintro e w1 ⟨rfl, q, rfl⟩
      have F2 := Lib.hid (F1.out.drewN q)
      replace B0 : Hid (Blk _ _ _ _) := Lib.hid (B0.out.fr ((Fr.refl F0 _).drewN q) id)
      generalize ((w.alloc (.cells #[.slice none 0 0, .slice none 0 0, .int .i64 0] 42)).drewN q) = wq at *
      have y0 := B0.out.cell (i := 0) rfl
      have y1 := B0.out.cell (i := 1) rfl
      have y2 := B0.out.cell (i := 2) rfl
      have f0 := B0.out.free 0
      have f1 := B0.out.free 1
      have f2 := B0.out.free 2
      have BRn : ∀ v0 v1 v2 : Value, Hid (Blk (((wq.setCell ⟨w.heap.size, 0, none⟩ v0).setCell ⟨w.heap.size, 1, none⟩ v1).setCell ⟨w.heap.size, 2, none⟩ v2) w.heap.size 42 [v0, v1, v2]) := fun v0 v1 v2 => Lib.hid (((B0.out.set 0 v0).set 1 v1).set 2 v2)
      clear hcw
      go_wp2_with fail
      (have g := (BRn (.slice none 0 0) (.slice none 0 0) (.int .i64 0)).out; have g0 := g.cell (i := 0) rfl; have g1 := g.cell (i := 1) rfl; have g2 := g.cell (i := 2) rfl); refine bodyPost_ret (v := .tuple #[.agg #[.slice none 0 0, .slice none 0 0, .int .i64 0], .bool false]) (by simp [results, Try.results57, go_sem, g0, g1, g2]) rfl (.inr ⟨hno.out, _, _, _, _, _, _, _, rfl, ?_⟩)
      exact ((F2.out.set0 (p := ⟨w.heap.size, 0, none⟩) (Nat.le_refl _) _).set0 (p := ⟨w.heap.size, 1, none⟩) (Nat.le_refl _) _).set0 (p := ⟨w.heap.size, 2, none⟩) (Nat.le_refl _) _
end Go.Proofs.Ytehpikjhjghplaa
