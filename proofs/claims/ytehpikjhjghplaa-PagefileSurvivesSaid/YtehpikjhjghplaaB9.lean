/- The bytes of a record, by both texts. -/
import Derived.Test.YtehpikjhjghplaaB8
namespace Go.Proofs.Ytehpikjhjghplaa
open Go.RowKit
attribute [local go_sem ↓] Go.wp_at_zero Go.wp_at_succ
def pairB (x : Nat × List UInt8) : List UInt8 := wordB x.1 ++ x.2
def bodyK (ps : List Nat) (ds : List (List UInt8)) (k : Nat) : List UInt8 := wordB ps.length ++ ((ps.zip ds).take k).flatMap pairB
def bodyB (ps : List Nat) (ds : List (List UInt8)) : List UInt8 := wordB ps.length ++ (ps.zip ds).flatMap pairB
/-- The bytes of a record. -/
def recB (ps : List Nat) (ds : List (List UInt8)) : List UInt8 := bodyB ps ds ++ wordB (fnv (bodyB ps ds))
theorem wordB_len (n : Nat) : (wordB n).length = 4 := rfl
theorem bodyK_0 (ps : List Nat) (ds : List (List UInt8)) : bodyK ps ds 0 = wordB ps.length := by simp [bodyK]
theorem bodyK_succ {ps : List Nat} {ds : List (List UInt8)} {k p : Nat} {d : List UInt8} (h1 : ps[k]? = some p) (h2 : ds[k]? = some d) : bodyK ps ds (k + 1) = bodyK ps ds k ++ wordB p ++ d := by
  have h : (ps.zip ds)[k]? = some (p, d) := by rw [List.getElem?_zip_eq_some]; exact ⟨h1, h2⟩
  unfold bodyK
  rw [List.take_add_one, h]
  simp [pairB]
theorem bodyK_all {ps : List Nat} {ds : List (List UInt8)} {k : Nat} (h : ps.length ≤ k) : bodyK ps ds k = bodyB ps ds := by
  unfold bodyK bodyB
  rw [List.take_of_length_le (by rw [List.length_zip]; omega)]
theorem bodyK_len {ps : List Nat} {ds : List (List UInt8)} (h : ∀ d ∈ ds, d.length ≤ 300) (k : Nat) : (bodyK ps ds k).length ≤ 4 + k * 304 := by
  unfold bodyK
  rw [List.length_append, wordB_len]
  have : ∀ (l : List (Nat × List UInt8)), (∀ x ∈ l, x.2.length ≤ 300) → (l.flatMap pairB).length ≤ l.length * 304 := by
    intro l
    induction l with
    | nil => simp
    | cons x l ih =>
      intro hl
      have h1 := ih (fun y hy => hl y (List.mem_cons_of_mem _ hy))
      have h2 := hl x (List.mem_cons_self ..)
      have h3 : (pairB x).length = 4 + x.2.length := by simp [pairB, wordB_len]
      simp only [List.flatMap_cons, List.length_append, List.length_cons]
      omega
  have h1 := this ((ps.zip ds).take k) (fun x hx => h x.2 (List.of_mem_zip (List.mem_of_mem_take hx)).2)
  have h2 : ((ps.zip ds).take k).length ≤ k := List.length_take_le _ _
  have := Nat.mul_le_mul_right 304 h2
  omega
theorem nats_get {ps : List Nat} {k p : Nat} (h : ps[k]? = some p) : (nats ps)[k]? = some (p : Int) := by simp [nats, h]
/-- Where there is an index: the page's number, and the row. -/
theorem rows_ix {w : World} {S : Nat → Prop} {a2 : Option Addr} {n k : Nat} {vs : List Value} {ds : List (List UInt8)} (h : Rd w a2 n vs) (hR : RowsM w S vs ds) (hk : k < n) :
    ∃ b o ar c d, a2 = some ⟨b, o, none⟩ ∧ ds[k]? = some d ∧ w.cell? ⟨b, o + k, none⟩ = some (.slice ar d.length c) ∧ RowM w S (.slice ar d.length c) d := by
  have hl := h.len
  have hl2 := hR.len
  obtain ⟨b, o, ha, hc⟩ := h.cells (by omega)
  have hd : ds[k]? = some ds[k] := by simp
  have hv : vs[k]? = some vs[k] := by simp
  have hr := hR.row k _ _ hv hd
  obtain ⟨ar, c, e, h1, h2, h3⟩ := hr
  rw [e] at hv
  exact ⟨b, o, ar, c, _, ha, hd, hc k _ hv, ar, c, rfl, h1, h2, h3⟩
theorem nat_ix {w : World} {a : Option Addr} {n k : Nat} {ps : List Nat} (h : Rd w a n (ints (nats ps))) (hk : k < n) : ∃ b o p, a = some ⟨b, o, none⟩ ∧ ps[k]? = some p ∧ w.cell? ⟨b, o + k, none⟩ = some (.int .i64 (p : Int)) := by
  obtain ⟨b, o, x, ha, hx, d⟩ := h.ix hk
  unfold nats at hx
  rw [List.getElem?_map] at hx
  obtain ⟨p, hp, rfl⟩ := Option.map_eq_some_iff.1 hx
  exact ⟨b, o, p, ha, hp, d⟩
set_option maxHeartbeats 4000000 in
theorem bytes_any (a1 a2 : Option Addr) (n c1 c2 : Nat) (ps : List Nat) (ds : List (List UInt8)) (vs : List Value) (S : Nat → Prop) (w : World) (hp : Rd w a1 n (ints (nats ps))) (hd : Rd w a2 n vs) (hR : RowsM w S vs ds)
    (hS : ∀ j, S j → j < w.heap.size) (hps : ∀ p ∈ ps, p < 4294967296) (hds : ∀ d ∈ ds, d.length ≤ 300) (hn : n ≤ 1000) :
    Calls Try.prog 49 #[.slice a1 n c1, .slice a2 n c2] w fun e w' => ∃ a' m c', m = (recB ps ds).length ∧ e = .returned (.slice a' m c') ∧ Own w' w.heap.size 5 a' m c' (byt (recB ps ds)) ∧ Fr F0 w w' := by
  have hpl : ps.length = n := by simpa using hp.len
  have hdl : ds.length = n := by rw [← hR.len, hd.len]
  have Hp := Lib.hid hp
  have Hd := Lib.hid hd
  have HR := Lib.hid hR
  have HS := Lib.hid hS
  have Hps := Lib.hid hps
  have Hds := Lib.hid hds
  have Hpl := Lib.hid hpl
  clear hp hd hR hS hps hds hpl hdl
  go_enter Try.func49, Try.ntmps49
  go_wp2_with fail
  refine (put_any none 0 0 w.heap.size [] n w (Own.nil _ _ _) (Nat.le_refl _) (by omega) (by omega)).mono ?_
  rintro e w1 ⟨ab, cb, rfl, O1, F1, at1⟩
  replace F1 : Fr F0 w w1 := F1.mono (fun j _ h => onBlk_none j h)
  replace O1 := Lib.hid O1
  replace F1 := Lib.hid F1
  have h0 : Hid ([] ++ wordB n = bodyK ps ds 0) := Lib.hid (by rw [bodyK_0, Hpl.out]; rfl)
  rw [h0.out] at O1
  clear h0 at1
  go_wp2_with fail
  go_loopw [5, 6, 7, 13] (fun s5 _ _ s13 wr => ∃ (k mb cb : Nat) (ab : Option Addr), k ≤ n ∧ s13 = .int .i64 k ∧ s5 = .slice ab mb cb ∧ Hid (mb = (bodyK ps ds k).length) ∧ Hid (Own wr w.heap.size 5 ab mb cb (byt (bodyK ps ds k))) ∧ Hid (Fr F0 w wr)) (fun _ _ _ s13 _ => n - (intOf s13).toNat)
  case atStart => exact ⟨0, 4, cb, ab, by omega, rfl, rfl, Lib.hid (by rw [bodyK_0, wordB_len]), O1, F1⟩
  case round =>
    clear O1 F1
    obtain ⟨k, mb, cb, ab, hk, rfl, rfl, hmb, hO, hF⟩ := hrel
    have hml : mb ≤ 4 + k * 304 := by rw [hmb.out]; exact bodyK_len Hds.out k
    by_cases hlt : k < n
    · obtain ⟨b1, o1, p, hb1, hpk, d1⟩ := nat_ix (Hp.out.fr0 hF.out) hlt
      obtain ⟨b2, o2, ar, cr, d, hb2, hdk, d2, hRow⟩ := rows_ix (Hd.out.fr0 hF.out) (HR.out.fr0 hF.out) hlt
      have hdd := Hds.out d (List.mem_of_getElem? hdk)
      have hpp := Hps.out p (List.mem_of_getElem? hpk)
      have hsucc : Hid (bodyK ps ds (k + 1) = bodyK ps ds k ++ wordB p ++ d) := Lib.hid (bodyK_succ hpk hdk)
      obtain ⟨ar', cr', e9, _, hRd, hSr⟩ := hRow
      injection e9 with e9 _ e8
      subst e9
      subst e8
      have HRd := Lib.hid hRd
      have HSr := Lib.hid hSr
      have i0 : (0 : Int) ≤ (k : Int) := by omega
      have i1 : (k : Int) < (n : Int) := by omega
      have hb2l : b2 < w.heap.size := (Hd.out.lt (by omega)) b2 (by rw [hb2]; exact (onBlk_some _ _ _ _).2 rfl)
      have hn2 : Hid (¬ onBlk ab b2) := Lib.hid (fun h => by have := (hO.out.blk _ h).1; omega)
      have hsl := hF.out.size
      obtain ⟨dn, hdn⟩ : ∃ dn, dn = d.length := ⟨_, rfl⟩
      rw [← hdn] at d2 HRd hdd
      have Hdn := Lib.hid hdn
      have hput := put_any ab mb cb w.heap.size (bodyK ps ds k) p wr.drew hO.out hsl (by omega) hpp
      have Hput := Lib.hid hput
      have hSa : Hid (∀ j, 0 < dn → onBlk ar j → ¬ onBlk ab j) := Lib.hid (fun j h0 h1 h2 => by have := HS.out j (HSr.out (by rw [← Hdn.out]; exact h0) j h1); have := (hO.out.blk j h2).1; omega)
      subst hb1
      subst hb2
      clear hpk hdk hRd hSr hdn hput
      go_wp2_with fail
      have hHeld : wr.drew.cell? ⟨b2, o2 + k, none⟩ = some (.slice ar dn cr) := d2
      go_region_held3 (fun w' => w'.cell? ⟨b2, o2 + k, none⟩ = some (.slice ar dn cr)) (go_keep)
        (first | (go_at_call 69; refine Hput.out.mono ?_; rintro e w2 ⟨a3, c3, rfl, O3, F3, at3⟩; have y1 := F3.cell (show wr.drew.cell? _ = _ from d2) hn2.out; have R3 : Hid (Rd w2 ar dn (byt d)) := Lib.hid (HRd.out.frP ((Fr.refl (onBlk ab) wr).drew.trans F3 (fun _ _ h => h)) (fun h0 j h => hSa.out j h0 h)); have O3h := Lib.hid O3; have F3h : Hid (Fr (onBlk ab) wr w2) := Lib.hid ((Fr.refl (onBlk ab) wr).drew.trans F3 (fun _ _ h => h)); have A3h := Lib.hid at3; have s3 := F3.size; have hn3 : Hid (¬ onBlk a3 b2) := Lib.hid (fun h => (at3 _ h).elim hn2.out (fun h => by have h9 : wr.heap.size ≤ b2 := h; omega)); clear O3 F3 at3) | (refine stepAppRd E5 (by rfl) (by rfl) (by rfl) (by rfl) O3h.out R3.out (oneCell_byt _) (by omega) (by omega) (by have : w.heap.size ≤ w2.heap.size := (by have := F3h.out.size; omega); exact this) (mb + 4 + dn) rfl ?_; intro a4 c4 w4 own4 fr4 at4; have y3 := fr4.cell y1 hn3.out))
      all_goals
        have hOb := hO.out.blk
        have hA : ∀ j, onBlk a3 j → onBlk ab j ∨ wr.heap.size ≤ j := A3h.out
        have F9 : Hid (Fr F0 w w4) := Lib.hid ((hF.out.trans F3h.out (fun j h1 h2 => by have := (hOb j h2).1; omega)).trans fr4 (fun j h1 h2 => by
          rcases hA j h2 with h | h
          · have := (hOb j h).1; omega
          · omega))
        have O9 : Hid (Own w4 w.heap.size 5 a4 (mb + 4 + dn) c4 (byt (bodyK ps ds (k + 1)))) := Lib.hid (by rw [hsucc.out]; simpa [byt] using own4)
        have m9 : Hid (mb + 4 + dn = (bodyK ps ds (k + 1)).length) := Lib.hid (by rw [hsucc.out, hmb.out, Hdn.out, List.length_append, List.length_append, wordB_len])
        clear hOb hA own4 fr4 at4 y1 y3
        go_wp2_with fail
        go_roundw
        case rel => exact ⟨k + 1, _, c4, a4, by omega, by go_num, rfl, m9, O9, F9⟩
        case measure => simp [intOf]; omega
    · obtain rfl : k = n := by omega
      have hall : Hid (bodyK ps ds k = bodyB ps ds) := Lib.hid (bodyK_all (by have := Hpl.out; omega))
      have hO2 := hO.out
      rw [hall.out] at hO2
      obtain ⟨U, hU⟩ : ∃ U, U = fnv (bodyB ps ds) := ⟨_, rfl⟩
      have hU2 : U < 4294967296 := by rw [hU]; exact fnv_lt _
      have hsm := sum_any ab mb cb (bodyB ps ds) wr hO2.rd
      rw [← hU] at hsm
      have HU := Lib.hid hU
      have HO2 := Lib.hid hO2
      have hsl := hF.out.size
      clear hU hO2
      go_wp2_with fail
      refine hsm.mono ?_; rintro e w2 ⟨rfl, rfl⟩
      go_wp2_with fail
      refine (put_any ab mb cb w.heap.size (bodyB ps ds) U _ HO2.out hsl (by omega) hU2).mono ?_
      rintro e w3 ⟨a3, c3, rfl, O3, F3, at3⟩
      go_wp2_with fail
      go_ret
      refine ⟨a3, mb + 4, c3, ?_, rfl, ?_, hF.out.trans F3 (fun j h1 h2 => by have := (hO.out.blk j h2).1; omega)⟩
      · unfold recB
        rw [hmb.out, hall.out, List.length_append, wordB_len]
      · unfold recB
        rw [← HU.out]; exact O3
set_option maxHeartbeats 4000000 in
theorem Record_any (a1 a2 : Option Addr) (n c1 c2 : Nat) (ps : List Nat) (ds : List (List UInt8)) (vs : List Value) (S : Nat → Prop) (w : World) (hp : Rd w a1 n (ints (nats ps))) (hd : Rd w a2 n vs) (hR : RowsM w S vs ds)
    (hS : ∀ j, S j → j < w.heap.size) (hps : ∀ p ∈ ps, p < 4294967296) (hds : ∀ d ∈ ds, d.length ≤ 300) (hn : n ≤ 1000) :
    Calls Try.prog 54 #[.slice a1 n c1, .slice a2 n c2] w fun e w' => ∃ a' m c', m = (recB ps ds).length ∧ e = .returned (.slice a' m c') ∧ Own w' w.heap.size 5 a' m c' (byt (recB ps ds)) ∧ Fr F0 w w' := by
  have hpl : ps.length = n := by simpa using hp.len
  have hdl : ds.length = n := by rw [← hR.len, hd.len]
  have Hp := Lib.hid hp
  have Hd := Lib.hid hd
  have HR := Lib.hid hR
  have HS := Lib.hid hS
  have Hps := Lib.hid hps
  have Hds := Lib.hid hds
  have Hpl := Lib.hid hpl
  clear hp hd hR hS hps hds hpl hdl
  go_enter Try.func54, Try.ntmps54
  go_wp2_with fail
  refine (Word_any n w (by omega)).mono ?_
  rintro e w1 ⟨ab, rfl, O1, F1⟩
  replace O1 := Lib.hid O1
  replace F1 := Lib.hid F1
  have h0 : Hid (wordB n = bodyK ps ds 0) := Lib.hid (by rw [bodyK_0, Hpl.out])
  rw [h0.out] at O1
  clear h0
  go_wp2_with fail
  go_loopw [5, 6] (fun s5 s6 wr => ∃ (k mb cb : Nat) (ab : Option Addr), k ≤ n ∧ s6 = .int .i64 k ∧ s5 = .slice ab mb cb ∧ Hid (mb = (bodyK ps ds k).length) ∧ Hid (Own wr w.heap.size 5 ab mb cb (byt (bodyK ps ds k))) ∧ Hid (Fr F0 w wr)) (fun _ s6 _ => n - (intOf s6).toNat)
  case atStart => exact ⟨0, 4, 4, ab, by omega, rfl, rfl, Lib.hid (by rw [bodyK_0, wordB_len]), O1, F1⟩
  case round =>
    clear O1 F1
    obtain ⟨k, mb, cb, ab, hk, rfl, rfl, hmb, hO, hF⟩ := hrel
    have hml : mb ≤ 4 + k * 304 := by rw [hmb.out]; exact bodyK_len Hds.out k
    by_cases hlt : k < n
    · obtain ⟨b1, o1, p, hb1, hpk, d1⟩ := nat_ix (Hp.out.fr0 hF.out) hlt
      obtain ⟨b2, o2, ar, cr, d, hb2, hdk, d2, hRow⟩ := rows_ix (Hd.out.fr0 hF.out) (HR.out.fr0 hF.out) hlt
      have hdd := Hds.out d (List.mem_of_getElem? hdk)
      have hpp := Hps.out p (List.mem_of_getElem? hpk)
      have hsucc : Hid (bodyK ps ds (k + 1) = bodyK ps ds k ++ wordB p ++ d) := Lib.hid (bodyK_succ hpk hdk)
      obtain ⟨ar', cr', e9, _, hRd, hSr⟩ := hRow
      injection e9 with e9 _ e8
      subst e9
      subst e8
      have HRd := Lib.hid hRd
      have HSr := Lib.hid hSr
      have i0 : (0 : Int) ≤ (k : Int) := by omega
      have i1 : (k : Int) < (n : Int) := by omega
      have hb2l : b2 < w.heap.size := (Hd.out.lt (by omega)) b2 (by rw [hb2]; exact (onBlk_some _ _ _ _).2 rfl)
      have hn2 : Hid (¬ onBlk ab b2) := Lib.hid (fun h => by have := (hO.out.blk _ h).1; omega)
      have hsl := hF.out.size
      obtain ⟨dn, hdn⟩ : ∃ dn, dn = d.length := ⟨_, rfl⟩
      rw [← hdn] at d2 HRd hdd
      have Hdn := Lib.hid hdn
      have hSa : Hid (∀ j, 0 < dn → onBlk ar j → ¬ onBlk ab j) := Lib.hid (fun j h0 h1 h2 => by have := HS.out j (HSr.out (by rw [← Hdn.out]; exact h0) j h1); have := (hO.out.blk j h2).1; omega)
      subst hb1
      subst hb2
      clear hpk hdk hRd hSr hdn
      go_wp2_with fail
      refine (Word_any p _ hpp).mono ?_
      rintro e w2 ⟨aw, rfl, Ow, Fw⟩
      have hO2 := Lib.hid (hO.out.fr0 Fw)
      have d22 := Fw.cell d2 id
      have hRd2 := Lib.hid (HRd.out.fr0 Fw)
      have hF2 := Lib.hid (hF.out.trans0 Fw)
      have hsw := Fw.size
      replace Ow := Lib.hid Ow
      clear Fw d2
      go_wp2_with (first | (at_builtin; refine wpAppRd E5 hO2.out Ow.out.rd (oneCell_byt _) (by omega) (by omega) (by omega) (mb + 4) rfl rfl rfl ?_; intro a3 c3 w3 own3 fr3 at3; have hn3 : Hid (¬ onBlk a3 b2) := Lib.hid (fun h => (at3 _ h).elim hn2.out (fun h => by omega)); have R3 : Hid (Rd w3 ar dn (byt d)) := Lib.hid (hRd2.out.frP fr3 (fun h0 j h => hSa.out j h0 h)); have y3 := fr3.cell d22 hn2.out; have O3 := Lib.hid own3; have F3 := Lib.hid fr3; have A3 := Lib.hid at3; have s3 := fr3.size; clear own3 fr3 at3) | (at_builtin; refine wpAppRd E5 O3.out R3.out (oneCell_byt _) (by omega) (by omega) (by omega) (mb + 4 + dn) rfl rfl rfl ?_; intro a4 c4 w4 own4 fr4 at4))
      have hOb := hO2.out.blk
      have hA : ∀ j, onBlk a3 j → onBlk ab j ∨ w2.heap.size ≤ j := A3.out
      have F9 : Hid (Fr F0 w w4) := Lib.hid ((hF2.out.trans F3.out (fun j h1 h2 => by have := (hOb j h2).1; omega)).trans fr4 (fun j h1 h2 => by
        rcases hA j h2 with h | h
        · have := (hOb j h).1; omega
        · omega))
      have O9 : Hid (Own w4 w.heap.size 5 a4 (mb + 4 + dn) c4 (byt (bodyK ps ds (k + 1)))) := Lib.hid (by rw [hsucc.out]; simpa [byt] using own4)
      have m9 : Hid (mb + 4 + dn = (bodyK ps ds (k + 1)).length) := Lib.hid (by rw [hsucc.out, hmb.out, Hdn.out, List.length_append, List.length_append, wordB_len])
      exact ⟨⟨k + 1, _, c4, a4, by omega, by go_num, rfl, m9, O9, F9⟩, by simp [intOf]; omega⟩
    · obtain rfl : k = n := by omega
      have hall : Hid (bodyK ps ds k = bodyB ps ds) := Lib.hid (bodyK_all (by have := Hpl.out; omega))
      have hO2 := hO.out
      rw [hall.out] at hO2
      obtain ⟨U, hU⟩ : ∃ U, U = fnv (bodyB ps ds) := ⟨_, rfl⟩
      have hU2 : U < 4294967296 := by rw [hU]; exact fnv_lt _
      have hsm := refSum_any ab mb cb (bodyB ps ds) wr hO2.rd
      rw [← hU] at hsm
      have HU := Lib.hid hU
      have HO2 := Lib.hid hO2
      have hsl := hF.out.size
      clear hU hO2
      go_wp2_with fail
      refine hsm.mono ?_; rintro e w2 ⟨rfl, rfl⟩
      go_wp2_with fail
      refine (Word_any U _ hU2).mono ?_
      rintro e w3 ⟨aw, rfl, Ow, Fw⟩
      have O3 := Lib.hid (HO2.out.fr0 Fw)
      have F3 := Lib.hid (hF.out.trans0 Fw)
      have sw := Fw.size
      replace Ow := Lib.hid Ow
      clear Fw
      go_wp2_with (at_builtin; refine wpAppRd E5 O3.out Ow.out.rd (oneCell_byt _) (by omega) (by omega) (by omega) (mb + 4) rfl rfl rfl ?_; intro a3 c3 w4 own4 fr4 at4)
      go_ret
      refine ⟨a3, mb + 4, c3, ?_, rfl, ?_, F3.out.trans fr4 (fun j h1 h2 => by have := (O3.out.blk j h2).1; omega)⟩
      · unfold recB
        rw [hmb.out, hall.out, List.length_append, wordB_len]
      · unfold recB
        rw [← HU.out]; simpa [byt] using own4
end Go.Proofs.Ytehpikjhjghplaa
