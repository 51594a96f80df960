/- refill. -/
import Derived.Test.YtdphademoeofkaaS2
import Derived.Test.YtdphademoeofkaaComQ
import Derived.BigQuiet
namespace Go.Proofs.Ytdphademoeofkaa
open Go.RowKit
attribute [local go_sem ↓] Go.wp_at_zero Go.wp_at_succ
theorem exists_least {P : Nat → Prop} (h : ∃ n, P n) : ∃ n, P n ∧ ∀ m, P m → n ≤ m := by
  obtain ⟨n, hn⟩ := h
  induction n using Nat.strongRecOn with
  | _ n ih =>
    by_cases g : ∃ m, m < n ∧ P m
    · obtain ⟨m, hm, hp⟩ := g
      exact ih m hm hp
    · exact ⟨n, hn, fun m hm => Nat.le_of_not_lt fun e => g ⟨m, e, hm⟩⟩
open Classical in
/-- The least number with a property (0 if there is none): a measure for loops that go by a derivation. -/
noncomputable def least (P : Nat → Prop) : Nat := if h : ∃ n, P n then Classical.choose (exists_least h) else 0
theorem least_spec {P : Nat → Prop} (h : ∃ n, P n) : P (least P) := by
  unfold least
  rw [dif_pos h]
  exact (Classical.choose_spec (exists_least h)).1
theorem least_le {P : Nat → Prop} {n : Nat} (h : P n) : least P ≤ n := by
  unfold least
  rw [dif_pos ⟨n, h⟩]
  exact (Classical.choose_spec (exists_least ⟨n, h⟩)).2 n h
theorem sw_perm (l r : Tr) : ((sw l r).1.ids ++ (sw l r).2.ids).Perm (l.ids ++ r.ids) := by
  cases l with
  | nil => cases r <;> simp [sw, Tr.ids]
  | nd =>
    cases r with
    | nil => simp [sw, Tr.ids]
    | nd =>
      unfold sw
      dsimp only
      split
      · exact List.perm_append_comm
      · exact List.Perm.refl _
theorem nd_perm {b : Nat} {l r l' r' : Tr} {it it' : List Int} {k k' : Int} {rk sz rk' sz' : Nat} (h : (it' ++ (l'.ids ++ r'.ids)).Perm (it ++ (l.ids ++ r.ids))) : (Tr.ids (.nd b l' r' it' k' rk' sz')).Perm (Tr.ids (.nd b l r it k rk sz)) := h
theorem Rf.perm {n : Nat} {x x' : Tr} {I I' : List (Option Nat)} (h : Rf n x I x' I') : x'.ids.Perm x.ids := by
  induction h with
  | stop => exact .refl _
  | @leaf n b l r it key rank size I bY ity ky rky sy r1 x' I' h1 h2 hs h ih =>
    refine ih.trans (nd_perm ?_)
    have e := sw_perm l r
    rw [hs] at e
    simp only [Tr.ids, List.append_nil, List.nil_append] at e ⊢
    rw [List.append_assoc]
    exact e.append_left it
  | @deep n b l r it key rank size I bY lY rY ity ky rky sy r1 y' I2 x' I' h1 h2 hs h3 hy h ihy ih =>
    refine ih.trans (nd_perm ?_)
    have e := sw_perm l r
    rw [hs] at e
    simp only [Tr.ids, List.nil_append] at e ihy ⊢
    rw [List.append_assoc]
    refine List.Perm.append_left it (List.Perm.trans ?_ e)
    rw [List.append_assoc]
    exact (ihy.append_right r1.ids).append_left ity
/-- What a derivation says of the next step. -/
def Nxt (n b : Nat) (l r : Tr) (it : List Int) (key : Int) (rank size : Nat) (I : List (Option Nat)) (x' : Tr) (I' : List (Option Nat)) : Prop :=
  ∃ y r1 l2 I2 it2 ky m, n = m + 1 ∧ it.length < size ∧ ¬ (l = .nil ∧ r = .nil) ∧ sw l r = (y, r1) ∧ Rf m (.nd b l2 r1 it2 ky rank size) I2 x' I' ∧ (Tr.ids (.nd b l2 r1 it2 ky rank size)).Perm (Tr.ids (.nd b l r it key rank size)) ∧
    ∀ (w : World) (hb ig m cI : Nat) (N : Nat → Prop), TM w (.nd b y r1 it key rank size) N → HI w hb ig m cI I N → (∀ i ∈ Tr.ids (.nd b y r1 it key rank size), 0 ≤ i ∧ i < (m : Int)) → (Tr.ids (.nd b y r1 it key rank size)).length ≤ 100000 →
      Calls Try.prog 48 #[.pointer (some ⟨hb, 0, none⟩), .pointer (some ⟨b, 0, none⟩), .pointer (some ⟨b, 0, none⟩)] w (RfPost w hb ig m cI N (.nd b l2 r1 it2 ky rank size) I2)
theorem Rf.next {n b : Nat} {l r : Tr} {it : List Int} {key : Int} {rank size : Nat} {I I' : List (Option Nat)} {x' : Tr} (h : Rf n (.nd b l r it key rank size) I x' I') (IH : ∀ m, m < n → RfC m) :
    ((size ≤ it.length ∨ (l = .nil ∧ r = .nil)) ∧ x' = .nd b l r it key rank size ∧ I' = I) ∨ Nxt n b l r it key rank size I x' I' := by
  cases h with
  | stop h => exact .inl ⟨h, rfl, rfl⟩
  | @leaf m _ _ _ _ _ _ _ _ bY ity ky rky sy r1 _ _ h1 h2 hs h =>
    have e := sw_perm l r
    rw [hs] at e
    refine .inr ⟨_, r1, .nil, _, _, ky, m, rfl, h1, h2, hs, h, nd_perm ?_, fun w hb ig m cI N hT hI hid hl => take_leaf hT hI hid hl⟩
    simp only [Tr.ids, List.append_nil, List.nil_append] at e ⊢
    rw [List.append_assoc]
    exact e.append_left it
  | @deep m _ _ _ _ _ _ _ _ bY lY rY ity ky rky sy r1 y' I2 _ _ h1 h2 hs h3 hy h =>
    have e := sw_perm l r
    rw [hs] at e
    have ihy := hy.perm
    refine .inr ⟨_, r1, y', I2, _, ky, m, rfl, h1, h2, hs, h, nd_perm ?_, fun w hb ig mm cI N hT hI hid hl => take_deep (IH m (by omega)) hT hI hid hl h3 hy⟩
    simp only [Tr.ids, List.nil_append] at e ihy ⊢
    rw [List.append_assoc]
    refine List.Perm.append_left it (List.Perm.trans ?_ e)
    rw [List.append_assoc]
    exact (ihy.append_right r1.ids).append_left ity
theorem gmore {N : Nat → Prop} {w w1 w2 : World} {q : Nat} (h : Grw N w w1 q) (l : w1.heap.size ≤ w2.heap.size) : Grw N w w2 q := h.elim .inl (fun e => .inr ⟨e.1, by omega⟩)
theorem leaf_q {w : World} {b : Nat} {pl pr : Option Addr} {vs : List Value} (hb : Blk w b 62 (.pointer pl :: .pointer pr :: vs)) (v : Bool) (h : v = (pl.isNone && pr.isNone)) (q : Nat) : Calls Try.prog 31 #[.pointer (some ⟨b, 0, none⟩)] (w.drewN q) fun e w' => e = .returned (.bool v) ∧ w.drewN q = w' := by
  subst h
  cases pl with
  | none =>
    cases pr with
    | none => exact leaf_yes (w := w.drewN q) hb
    | some p => exact leaf_no (w := w.drewN q) hb (by simp)
  | some p => exact leaf_no (w := w.drewN q) hb (by simp)
/-- The state of refill's loop. -/
def RfS (w : World) (hb ig m cI b rank size : Nat) (N : Nat → Prop) (x' : Tr) (I' : List (Option Nat)) (n0 : Nat) (wr : World) (n : Nat) : Prop :=
  ∃ l r it key I1, n ≤ n0 ∧ Rf n (.nd b l r it key rank size) I1 x' I' ∧ TM wr (.nd b l r it key rank size) (Grw N w wr) ∧ HI wr hb ig m cI I1 (Grw N w wr) ∧ Fr (fun q => N q ∨ q = ig) w wr ∧ (∀ i ∈ Tr.ids (.nd b l r it key rank size), 0 ≤ i ∧ i < (m : Int)) ∧ (Tr.ids (.nd b l r it key rank size)).length ≤ 100000
set_option maxHeartbeats 4000000 in
theorem refill_any : ∀ n0, RfC n0 := by
  intro n0
  induction n0 using Nat.strongRecOn with
  | _ n0 IH =>
  intro x I x' I' hR w hb ig m cI N hT hI hid hl
  obtain ⟨b, l, r, it, key, rank, size, rfl⟩ : ∃ b l r it key rank size, x = .nd b l r it key rank size := by
    cases hR with
    | stop => exact ⟨_, _, _, _, _, _, _, rfl⟩
    | leaf => exact ⟨_, _, _, _, _, _, _, rfl⟩
    | deep => exact ⟨_, _, _, _, _, _, _, rfl⟩
  have H0 : Hid (∃ n, RfS w hb ig m cI b rank size N x' I' n0 w n) := Lib.hid ⟨n0, l, r, it, key, I, Nat.le_refl _, hR, hT.big (fun q hq => .inl hq) (Grw.lt hT.lt (Nat.le_refl _)), hI.grw hI.hlt hI.ilt, Fr.refl _ _, hid, hl⟩
  have HN := Lib.hid hT.lt
  have hhl := hI.hlt
  have hil := hI.ilt
  clear hR hT hI hid hl
  show Calls Try.prog 32 #[.pointer (some ⟨hb, 0, none⟩), .pointer (some ⟨b, 0, none⟩)] w (RfPost w hb ig m cI N x' I')
  go_enter Try.func32, Try.ntmps32
  go_wp2_with fail
  go_loopw [4] (fun _ wr => Hid (∃ n, RfS w hb ig m cI b rank size N x' I' n0 wr n)) (fun _ wr => least (RfS w hb ig m cI b rank size N x' I' n0 wr))
  case atStart => exact H0
  case round =>
    have hS := hrel
    clear hrel
    clear H0
    have hS1 := least_spec hS.out
    obtain ⟨n1, hn1⟩ : ∃ n1, n1 = least (RfS w hb ig m cI b rank size N x' I' n0 wr) := ⟨_, rfl⟩
    rw [← hn1] at hS1
    have Hn1 := Lib.hid hn1
    obtain ⟨l, r, it, key, I1, hle, hR, hT, hI, hF, hid, hl⟩ := hS1
    have hnx := hR.next (fun m' hm' => IH m' (by omega))
    clear hR hS hn1
    obtain ⟨a, n, c, Nl, Nr, X⟩ := hT
    have HX := Lib.hid X
    have hxl := Lib.hid (show it.length = n by simpa using X.own.len)
    have HI1 := Lib.hid hI
    have HF := Lib.hid hF
    have HID := Lib.hid (And.intro hid hl)
    have x2 : wr.cell? ⟨b, 2, none⟩ = some (.slice a n c) := X.blk.cell (i := 2) rfl
    have x5 : wr.cell? ⟨b, 5, none⟩ = some (.int .i64 size) := X.blk.cell (i := 5) rfl
    have hn9 : n ≤ 100000 := by
      have h1 := hxl.out
      simp only [Tr.ids, List.length_append] at hl
      omega
    clear X hI hF hid hl
    rcases hnx with ⟨hst, rfl, rfl⟩ | hnx
    · by_cases hsz : size ≤ n
      · have hd : ¬ n < size := by omega
        have HIH := Lib.hid IH
        clear IH hst
        go_wp2_with fail
        go_quiet (fail)
        go_wp2_with fail
        go_end0
        refine ⟨rfl, ?_, HI1.out.fr ((Fr.refl F0 _).drewN nq) id id, HF.out.drewN nq⟩
        exact TM.fr ((Fr.refl F0 wr).drewN nq) (t := .nd b l r it key rank size) ⟨a, n, c, Nl, Nr, HX.out⟩ (fun _ _ => id)
      · obtain ⟨rfl, rfl⟩ : l = .nil ∧ r = .nil := hst.elim (fun e => absurd (by have := hxl.out; omega) hsz) id
        have hd : n < size := by omega
        have HIH := Lib.hid IH
        have HQ := Lib.hid (leaf_q (w := wr) HX.out.blk true rfl)
        clear IH hst
        go_wp2_with fail
        go_quiet ((go_at_call 31; exact qsame HQ.out _))
        go_wp2_with fail
        go_end0
        refine ⟨rfl, ?_, HI1.out.fr ((Fr.refl F0 _).drewN nq) id id, HF.out.drewN nq⟩
        exact TM.fr ((Fr.refl F0 wr).drewN nq) (t := .nd b .nil .nil it key rank size) ⟨a, n, c, Nl, Nr, HX.out⟩ (fun _ _ => id)
    · obtain ⟨y, r1, l2, I2, it2, ky, m1, hm, h1, h2, hs, hR, hP, hTake⟩ := hnx
      have hd : n < size := by have := hxl.out; omega
      have HN1 := Lib.hid (And.intro hR (And.intro hP (And.intro hTake (And.intro hm hle))))
      have hln : (l.ptr.isNone && r.ptr.isNone) = false := by
        cases l with
        | nil =>
          cases r with
          | nil => exact absurd ⟨rfl, rfl⟩ h2
          | nd => rfl
        | nd => rfl
      have HQ := Lib.hid (leaf_q (w := wr) HX.out.blk false hln.symm)
      have HIH := Lib.hid IH
      have HS2 := Lib.hid h2
      clear IH hR hP hTake h1 h2 hln hm hle
      go_wp2_with fail
      go_quiet ((go_at_call 31; exact qsame HQ.out _))
      have HX2 : Hid (NdM (wr.drewN nq) (TM (wr.drewN nq) l Nl) (TM (wr.drewN nq) r Nr) b l.ptr r.ptr it key rank size (Grw N w (wr.drewN nq)) a n c Nl Nr) := Lib.hid (by
        have h := HX.out
        exact { h with left := h.left.fr ((Fr.refl F0 wr).drewN nq) (fun _ _ => id), right := h.right.fr ((Fr.refl F0 wr).drewN nq) (fun _ _ => id) })
      have HI2 : Hid (HI (wr.drewN nq) hb ig m cI I1 (Grw N w (wr.drewN nq))) := Lib.hid (HI1.out.fr ((Fr.refl F0 _).drewN nq) id id)
      have HF2 := Lib.hid (HF.out.drewN nq)
      have hlw : Hid (∀ n, RfS w hb ig m cI b rank size N x' I' n0 (wr.drewN nq) n → True) := Lib.hid (fun _ _ => trivial)
      clear HX HI1 HF x2 x5 HQ
      generalize wr.drewN nq = w2 at *
      have x0 : w2.cell? ⟨b, 0, none⟩ = some (.pointer l.ptr) := HX2.out.blk.cell (i := 0) rfl
      have x1 : w2.cell? ⟨b, 1, none⟩ = some (.pointer r.ptr) := HX2.out.blk.cell (i := 1) rfl
      have z0 := HX2.out.blk.free 0
      have z1 := HX2.out.blk.free 1
      cases l with
      | nil =>
        cases r with
        | nil => exact absurd ⟨rfl, rfl⟩ HS2.out
        | nd br lr rr itr kr rkr szr =>
          obtain ⟨rfl, rfl⟩ : y = .nd br lr rr itr kr rkr szr ∧ r1 = .nil := by
            simp only [sw, Prod.mk.injEq] at hs
            exact ⟨hs.1.symm, hs.2.symm⟩
          simp only [Tr.ptr] at x0 x1
          have hperm : Hid (∀ i, i ∈ Tr.ids (.nd b (Tr.nd br lr rr itr kr rkr szr) (Tr.nil) it key rank size) ↔ i ∈ Tr.ids (.nd b (Tr.nil) (Tr.nd br lr rr itr kr rkr szr) it key rank size)) := Lib.hid (fun i => by simp only [Tr.ids, List.mem_append]; exact or_congr_right Or.comm)
          have hplen : Hid ((Tr.ids (.nd b (Tr.nd br lr rr itr kr rkr szr) (Tr.nil) it key rank size)).length = (Tr.ids (.nd b (Tr.nil) (Tr.nd br lr rr itr kr rkr szr) it key rank size)).length) := Lib.hid (by simp only [Tr.ids, List.length_append]; omega)
          go_wp2_with fail
          go_quiet (fail)
          generalize hw3 : w2.drewN nq = w3 at *
          have HX3 : Hid (NdM w3 (TM w3 (Tr.nil) Nl) (TM w3 (Tr.nd br lr rr itr kr rkr szr) Nr) b (Tr.ptr (Tr.nil)) (Tr.ptr (Tr.nd br lr rr itr kr rkr szr)) it key rank size (Grw N w w3) a n c Nl Nr) := Lib.hid (by
            rw [← hw3]
            have h := HX2.out
            exact { h with left := h.left.fr ((Fr.refl F0 w2).drewN nq) (fun _ _ => id), right := h.right.fr ((Fr.refl F0 w2).drewN nq) (fun _ _ => id) })
          have HI3' : Hid (HI w3 hb ig m cI I1 (Grw N w w3)) := Lib.hid (by rw [← hw3]; exact HI2.out.fr ((Fr.refl F0 _).drewN nq) id id)
          have HF3' : Hid (Fr (fun q => N q ∨ q = ig) w w3) := Lib.hid (by rw [← hw3]; exact HF2.out.drewN nq)
          clear hw3 HX2 HI2 HF2 x0 x1 z0 z1
          have x0 : w3.cell? ⟨b, 0, none⟩ = some (.pointer (Tr.ptr (Tr.nil))) := HX3.out.blk.cell (i := 0) rfl
          have x1 : w3.cell? ⟨b, 1, none⟩ = some (.pointer (Tr.ptr (Tr.nd br lr rr itr kr rkr szr))) := HX3.out.blk.cell (i := 1) rfl
          have z0 := HX3.out.blk.free 0
          have z1 := HX3.out.blk.free 1
          simp only [Tr.ptr] at x0 x1
          go_wp2_with fail
          go_region
          all_goals
            obtain ⟨W, hW⟩ : ∃ W, W = ((w3.setCell ⟨b, 0, none⟩ (.pointer (Tr.ptr (Tr.nd br lr rr itr kr rkr szr)))).setCell ⟨b, 1, none⟩ (.pointer (Tr.ptr (Tr.nil)))).drew := ⟨_, rfl⟩
            have hW' : ((w3.setCell ⟨b, 0, none⟩ (.pointer (some ⟨br, 0, none⟩))).setCell ⟨b, 1, none⟩ (.pointer none)).drew = W := hW.symm
            first | rw [hW'] | skip
            have FW : Fr (onB b) w3 W := by rw [hW]; exact (((Fr.refl (onB b) w3).setB 0 _).setB 1 _).drew
            have hsW := FW.size
            have hs3' := HF3'.out.size
            have HT3 : Hid (TM W (.nd b (Tr.nd br lr rr itr kr rkr szr) (Tr.nil) it key rank size) (Grw N w W)) := Lib.hid ⟨a, n, c, Nr, Nl, ⟨by rw [hW]; exact (HX3.out.blk.set 0 _).set 1 _, HX3.out.own.fr FW (fun q hq (e : q = b) => (HX3.out.oa q hq).2.1 e), HX3.out.right.fr FW (fun q hq (e : q = b) => (HX3.out.or q hq).2 e), HX3.out.left.fr FW (fun q hq (e : q = b) => (HX3.out.ol q hq).2.1 e), gmore (HX3.out.nb) hsW, fun q hq => ⟨gmore (HX3.out.oa q hq).1 hsW, (HX3.out.oa q hq).2.1, (HX3.out.oa q hq).2.2.2, (HX3.out.oa q hq).2.2.1⟩, fun q hq => ⟨gmore (HX3.out.or q hq).1 hsW, (HX3.out.or q hq).2, fun e => (HX3.out.ol q e).2.2 hq⟩, fun q hq => ⟨gmore (HX3.out.ol q hq).1 hsW, (HX3.out.ol q hq).2.1⟩, Grw.lt HN.out (by omega)⟩⟩
            have HI3 : Hid (HI W hb ig m cI I1 (Grw N w W)) := Lib.hid { HI3'.out.fr FW (fun (e : hb = b) => HI3'.out.hN (e ▸ HX3.out.nb)) (fun (e : ig = b) => HI3'.out.gN (e ▸ HX3.out.nb)) with hN := fun e => e.elim (fun e => HI3'.out.hN (.inl e)) (fun e => by omega), gN := fun e => e.elim (fun e => HI3'.out.gN (.inl e)) (fun e => by omega) }
            have HF3 : Hid (Fr (fun q => N q ∨ q = ig) w W) := Lib.hid (HF3'.out.trans FW (fun q hq (e : q = b) => by have h := HX3.out.nb; rw [← e] at h; exact h.elim .inl (fun h => by omega)))
            clear hW hW' FW HX3 HI3' HF3' x0 x1 z0 z1
            go_wp2_with fail
            refine (HN1.out.2.2.1 _ hb ig m cI _ HT3.out HI3.out (fun i hi => HID.out.1 i ((hperm.out i).1 hi)) (by rw [hplen.out]; exact HID.out.2)).mono ?_
            rintro e w9 ⟨rfl, T9, I9, F9⟩
            have hs3 := HF3.out.size
            have hs9 := F9.size
            have HR9 : Hid (RfS w hb ig m cI b rank size N x' I' n0 w9 m1) := Lib.hid ⟨l2, _, it2, ky, I2, by have := HN1.out.2.2.2; omega, HN1.out.1, T9.big (Grw.trans hs3 hs9) (Grw.lt HN.out (by omega)), { I9 with hN := fun e => e.elim (fun e => HI3.out.hN (.inl e)) (fun e => by omega), gN := fun e => e.elim (fun e => HI3.out.gN (.inl e)) (fun e => by omega) }, HF3.out.trans F9 (fun q hq e => e.elim (fun e => e.elim .inl (fun e => by omega)) .inr), fun i hi => HID.out.1 i ((HN1.out.2.1.mem_iff).1 hi), by rw [HN1.out.2.1.length_eq]; exact HID.out.2⟩
            clear T9 I9 F9
            go_wp2_with fail
            go_roundw
            case rel => exact Lib.hid ⟨m1, HR9.out⟩
            case measure =>
              have h1 := least_le HR9.out
              have h2 := Hn1.out
              have h3 := HN1.out.2.2.2.1
              omega
      | nd bl ll rl itl kl rkl szl =>
        cases r with
        | nil =>
          obtain ⟨rfl, rfl⟩ : y = .nd bl ll rl itl kl rkl szl ∧ r1 = .nil := by
            simp only [sw, Prod.mk.injEq] at hs
            exact ⟨hs.1.symm, hs.2.symm⟩
          simp only [Tr.ptr] at x0 x1
          go_wp2_with fail
          go_quiet (fail)
          generalize hw3 : w2.drewN nq = w3 at *
          have HT3 : Hid (TM w3 (.nd b (Tr.nd bl ll rl itl kl rkl szl) (Tr.nil) it key rank size) (Grw N w w3)) := Lib.hid (by
            rw [← hw3]
            exact TM.fr ((Fr.refl F0 w2).drewN nq) (t := .nd b (Tr.nd bl ll rl itl kl rkl szl) (Tr.nil) it key rank size) ⟨a, n, c, Nl, Nr, HX2.out⟩ (fun _ _ => id))
          have HI3 : Hid (HI w3 hb ig m cI I1 (Grw N w w3)) := Lib.hid (by rw [← hw3]; exact HI2.out.fr ((Fr.refl F0 _).drewN nq) id id)
          have HF3 : Hid (Fr (fun q => N q ∨ q = ig) w w3) := Lib.hid (by rw [← hw3]; exact HF2.out.drewN nq)
          clear hw3 HX2 HI2 HF2 x0 x1 z0 z1
          go_wp2_with fail
          have hperm : Hid (∀ i, i ∈ Tr.ids (.nd b (Tr.nd bl ll rl itl kl rkl szl) (Tr.nil) it key rank size) ↔ i ∈ Tr.ids (.nd b (Tr.nd bl ll rl itl kl rkl szl) (Tr.nil) it key rank size)) := Lib.hid (fun i => Iff.rfl)
          have hplen : Hid ((Tr.ids (.nd b (Tr.nd bl ll rl itl kl rkl szl) (Tr.nil) it key rank size)).length = (Tr.ids (.nd b (Tr.nd bl ll rl itl kl rkl szl) (Tr.nil) it key rank size)).length) := Lib.hid rfl
          refine (HN1.out.2.2.1 _ hb ig m cI _ HT3.out HI3.out (fun i hi => HID.out.1 i ((hperm.out i).1 hi)) (by rw [hplen.out]; exact HID.out.2)).mono ?_
          rintro e w9 ⟨rfl, T9, I9, F9⟩
          have hs3 := HF3.out.size
          have hs9 := F9.size
          have HR9 : Hid (RfS w hb ig m cI b rank size N x' I' n0 w9 m1) := Lib.hid ⟨l2, _, it2, ky, I2, by have := HN1.out.2.2.2; omega, HN1.out.1, T9.big (Grw.trans hs3 hs9) (Grw.lt HN.out (by omega)), { I9 with hN := fun e => e.elim (fun e => HI3.out.hN (.inl e)) (fun e => by omega), gN := fun e => e.elim (fun e => HI3.out.gN (.inl e)) (fun e => by omega) }, HF3.out.trans F9 (fun q hq e => e.elim (fun e => e.elim .inl (fun e => by omega)) .inr), fun i hi => HID.out.1 i ((HN1.out.2.1.mem_iff).1 hi), by rw [HN1.out.2.1.length_eq]; exact HID.out.2⟩
          clear T9 I9 F9
          go_wp2_with fail
          go_roundw
          case rel => exact Lib.hid ⟨m1, HR9.out⟩
          case measure =>
            have h1 := least_le HR9.out
            have h2 := Hn1.out
            have h3 := HN1.out.2.2.2.1
            omega
        | nd br lr rr itr kr rkr szr =>
          simp only [Tr.ptr] at x0 x1
          obtain ⟨_, _, _, _, _, XL⟩ := HX2.out.left
          obtain ⟨_, _, _, _, _, XR⟩ := HX2.out.right
          have k1 : w2.cell? ⟨bl, 3, none⟩ = some (.int .i64 kl) := XL.blk.cell (i := 3) rfl
          have k2 : w2.cell? ⟨br, 3, none⟩ = some (.int .i64 kr) := XR.blk.cell (i := 3) rfl
          clear XL XR
          by_cases hkk : kr < kl
          · obtain ⟨rfl, rfl⟩ : y = .nd br lr rr itr kr rkr szr ∧ r1 = .nd bl ll rl itl kl rkl szl := by
              simp only [sw, if_pos hkk, Prod.mk.injEq] at hs
              exact ⟨hs.1.symm, hs.2.symm⟩
            have hperm : Hid (∀ i, i ∈ Tr.ids (.nd b (Tr.nd br lr rr itr kr rkr szr) (Tr.nd bl ll rl itl kl rkl szl) it key rank size) ↔ i ∈ Tr.ids (.nd b (Tr.nd bl ll rl itl kl rkl szl) (Tr.nd br lr rr itr kr rkr szr) it key rank size)) := Lib.hid (fun i => by simp only [Tr.ids, List.mem_append]; exact or_congr_right Or.comm)
            have hplen : Hid ((Tr.ids (.nd b (Tr.nd br lr rr itr kr rkr szr) (Tr.nd bl ll rl itl kl rkl szl) it key rank size)).length = (Tr.ids (.nd b (Tr.nd bl ll rl itl kl rkl szl) (Tr.nd br lr rr itr kr rkr szr) it key rank size)).length) := Lib.hid (by simp only [Tr.ids, List.length_append]; omega)
            go_wp2_with fail
            go_quiet (fail)
            generalize hw3 : w2.drewN nq = w3 at *
            have HX3 : Hid (NdM w3 (TM w3 (Tr.nd bl ll rl itl kl rkl szl) Nl) (TM w3 (Tr.nd br lr rr itr kr rkr szr) Nr) b (Tr.ptr (Tr.nd bl ll rl itl kl rkl szl)) (Tr.ptr (Tr.nd br lr rr itr kr rkr szr)) it key rank size (Grw N w w3) a n c Nl Nr) := Lib.hid (by
              rw [← hw3]
              have h := HX2.out
              exact { h with left := h.left.fr ((Fr.refl F0 w2).drewN nq) (fun _ _ => id), right := h.right.fr ((Fr.refl F0 w2).drewN nq) (fun _ _ => id) })
            have HI3' : Hid (HI w3 hb ig m cI I1 (Grw N w w3)) := Lib.hid (by rw [← hw3]; exact HI2.out.fr ((Fr.refl F0 _).drewN nq) id id)
            have HF3' : Hid (Fr (fun q => N q ∨ q = ig) w w3) := Lib.hid (by rw [← hw3]; exact HF2.out.drewN nq)
            clear hw3 HX2 HI2 HF2 x0 x1 z0 z1
            have x0 : w3.cell? ⟨b, 0, none⟩ = some (.pointer (Tr.ptr (Tr.nd bl ll rl itl kl rkl szl))) := HX3.out.blk.cell (i := 0) rfl
            have x1 : w3.cell? ⟨b, 1, none⟩ = some (.pointer (Tr.ptr (Tr.nd br lr rr itr kr rkr szr))) := HX3.out.blk.cell (i := 1) rfl
            have z0 := HX3.out.blk.free 0
            have z1 := HX3.out.blk.free 1
            simp only [Tr.ptr] at x0 x1
            go_wp2_with fail
            go_region
            all_goals
              obtain ⟨W, hW⟩ : ∃ W, W = ((w3.setCell ⟨b, 0, none⟩ (.pointer (Tr.ptr (Tr.nd br lr rr itr kr rkr szr)))).setCell ⟨b, 1, none⟩ (.pointer (Tr.ptr (Tr.nd bl ll rl itl kl rkl szl)))).drew := ⟨_, rfl⟩
              have hW' : ((w3.setCell ⟨b, 0, none⟩ (.pointer (some ⟨br, 0, none⟩))).setCell ⟨b, 1, none⟩ (.pointer (some ⟨bl, 0, none⟩))).drew = W := hW.symm
              first | rw [hW'] | skip
              have FW : Fr (onB b) w3 W := by rw [hW]; exact (((Fr.refl (onB b) w3).setB 0 _).setB 1 _).drew
              have hsW := FW.size
              have hs3' := HF3'.out.size
              have HT3 : Hid (TM W (.nd b (Tr.nd br lr rr itr kr rkr szr) (Tr.nd bl ll rl itl kl rkl szl) it key rank size) (Grw N w W)) := Lib.hid ⟨a, n, c, Nr, Nl, ⟨by rw [hW]; exact (HX3.out.blk.set 0 _).set 1 _, HX3.out.own.fr FW (fun q hq (e : q = b) => (HX3.out.oa q hq).2.1 e), HX3.out.right.fr FW (fun q hq (e : q = b) => (HX3.out.or q hq).2 e), HX3.out.left.fr FW (fun q hq (e : q = b) => (HX3.out.ol q hq).2.1 e), gmore (HX3.out.nb) hsW, fun q hq => ⟨gmore (HX3.out.oa q hq).1 hsW, (HX3.out.oa q hq).2.1, (HX3.out.oa q hq).2.2.2, (HX3.out.oa q hq).2.2.1⟩, fun q hq => ⟨gmore (HX3.out.or q hq).1 hsW, (HX3.out.or q hq).2, fun e => (HX3.out.ol q e).2.2 hq⟩, fun q hq => ⟨gmore (HX3.out.ol q hq).1 hsW, (HX3.out.ol q hq).2.1⟩, Grw.lt HN.out (by omega)⟩⟩
              have HI3 : Hid (HI W hb ig m cI I1 (Grw N w W)) := Lib.hid { HI3'.out.fr FW (fun (e : hb = b) => HI3'.out.hN (e ▸ HX3.out.nb)) (fun (e : ig = b) => HI3'.out.gN (e ▸ HX3.out.nb)) with hN := fun e => e.elim (fun e => HI3'.out.hN (.inl e)) (fun e => by omega), gN := fun e => e.elim (fun e => HI3'.out.gN (.inl e)) (fun e => by omega) }
              have HF3 : Hid (Fr (fun q => N q ∨ q = ig) w W) := Lib.hid (HF3'.out.trans FW (fun q hq (e : q = b) => by have h := HX3.out.nb; rw [← e] at h; exact h.elim .inl (fun h => by omega)))
              clear hW hW' FW HX3 HI3' HF3' x0 x1 z0 z1
              go_wp2_with fail
              refine (HN1.out.2.2.1 _ hb ig m cI _ HT3.out HI3.out (fun i hi => HID.out.1 i ((hperm.out i).1 hi)) (by rw [hplen.out]; exact HID.out.2)).mono ?_
              rintro e w9 ⟨rfl, T9, I9, F9⟩
              have hs3 := HF3.out.size
              have hs9 := F9.size
              have HR9 : Hid (RfS w hb ig m cI b rank size N x' I' n0 w9 m1) := Lib.hid ⟨l2, _, it2, ky, I2, by have := HN1.out.2.2.2; omega, HN1.out.1, T9.big (Grw.trans hs3 hs9) (Grw.lt HN.out (by omega)), { I9 with hN := fun e => e.elim (fun e => HI3.out.hN (.inl e)) (fun e => by omega), gN := fun e => e.elim (fun e => HI3.out.gN (.inl e)) (fun e => by omega) }, HF3.out.trans F9 (fun q hq e => e.elim (fun e => e.elim .inl (fun e => by omega)) .inr), fun i hi => HID.out.1 i ((HN1.out.2.1.mem_iff).1 hi), by rw [HN1.out.2.1.length_eq]; exact HID.out.2⟩
              clear T9 I9 F9
              go_wp2_with fail
              go_roundw
              case rel => exact Lib.hid ⟨m1, HR9.out⟩
              case measure =>
                have h1 := least_le HR9.out
                have h2 := Hn1.out
                have h3 := HN1.out.2.2.2.1
                omega
          · obtain ⟨rfl, rfl⟩ : y = .nd bl ll rl itl kl rkl szl ∧ r1 = .nd br lr rr itr kr rkr szr := by
              simp only [sw, if_neg hkk, Prod.mk.injEq] at hs
              exact ⟨hs.1.symm, hs.2.symm⟩
            go_wp2_with fail
            go_quiet (fail)
            generalize hw3 : w2.drewN nq = w3 at *
            have HT3 : Hid (TM w3 (.nd b (Tr.nd bl ll rl itl kl rkl szl) (Tr.nd br lr rr itr kr rkr szr) it key rank size) (Grw N w w3)) := Lib.hid (by
              rw [← hw3]
              exact TM.fr ((Fr.refl F0 w2).drewN nq) (t := .nd b (Tr.nd bl ll rl itl kl rkl szl) (Tr.nd br lr rr itr kr rkr szr) it key rank size) ⟨a, n, c, Nl, Nr, HX2.out⟩ (fun _ _ => id))
            have HI3 : Hid (HI w3 hb ig m cI I1 (Grw N w w3)) := Lib.hid (by rw [← hw3]; exact HI2.out.fr ((Fr.refl F0 _).drewN nq) id id)
            have HF3 : Hid (Fr (fun q => N q ∨ q = ig) w w3) := Lib.hid (by rw [← hw3]; exact HF2.out.drewN nq)
            clear hw3 HX2 HI2 HF2 x0 x1 z0 z1
            go_wp2_with fail
            have hperm : Hid (∀ i, i ∈ Tr.ids (.nd b (Tr.nd bl ll rl itl kl rkl szl) (Tr.nd br lr rr itr kr rkr szr) it key rank size) ↔ i ∈ Tr.ids (.nd b (Tr.nd bl ll rl itl kl rkl szl) (Tr.nd br lr rr itr kr rkr szr) it key rank size)) := Lib.hid (fun i => Iff.rfl)
            have hplen : Hid ((Tr.ids (.nd b (Tr.nd bl ll rl itl kl rkl szl) (Tr.nd br lr rr itr kr rkr szr) it key rank size)).length = (Tr.ids (.nd b (Tr.nd bl ll rl itl kl rkl szl) (Tr.nd br lr rr itr kr rkr szr) it key rank size)).length) := Lib.hid rfl
            refine (HN1.out.2.2.1 _ hb ig m cI _ HT3.out HI3.out (fun i hi => HID.out.1 i ((hperm.out i).1 hi)) (by rw [hplen.out]; exact HID.out.2)).mono ?_
            rintro e w9 ⟨rfl, T9, I9, F9⟩
            have hs3 := HF3.out.size
            have hs9 := F9.size
            have HR9 : Hid (RfS w hb ig m cI b rank size N x' I' n0 w9 m1) := Lib.hid ⟨l2, _, it2, ky, I2, by have := HN1.out.2.2.2; omega, HN1.out.1, T9.big (Grw.trans hs3 hs9) (Grw.lt HN.out (by omega)), { I9 with hN := fun e => e.elim (fun e => HI3.out.hN (.inl e)) (fun e => by omega), gN := fun e => e.elim (fun e => HI3.out.gN (.inl e)) (fun e => by omega) }, HF3.out.trans F9 (fun q hq e => e.elim (fun e => e.elim .inl (fun e => by omega)) .inr), fun i hi => HID.out.1 i ((HN1.out.2.1.mem_iff).1 hi), by rw [HN1.out.2.1.length_eq]; exact HID.out.2⟩
            clear T9 I9 F9
            go_wp2_with fail
            go_roundw
            case rel => exact Lib.hid ⟨m1, HR9.out⟩
            case measure =>
              have h1 := least_le HR9.out
              have h2 := Hn1.out
              have h3 := HN1.out.2.2.2.1
              omega
end Go.Proofs.Ytdphademoeofkaa
