/- The records of a disk, by both texts. -/
import Derived.Test.YtehpikjhjghplaaB5
import Derived.Test.YtehpikjhjghplaaCom11
namespace Go.Proofs.Ytehpikjhjghplaa
open Go.RowKit
attribute [local go_sem ↓] Go.wp_at_zero Go.wp_at_succ

theorem EZ : ElemZ Try.prog 79 98 (.agg #[.slice none 0 0, .slice none 0 0, .int .i64 0]) 3 56 := ⟨by kernel_rfl, by kernel_rfl, rfl⟩
theorem EZr : ElemZ Try.prog 38 42 (.agg #[.slice none 0 0, .slice none 0 0, .int .i64 0]) 3 56 := ⟨by kernel_rfl, by kernel_rfl, rfl⟩
abbrev dsk (page : Nat) (a : Option Addr) (n c : Nat) (sy af : Int) : Array Value := #[.int .i64 page, .slice a n c, .int .i64 sy, .int .i64 af]
/-- What the records of a disk come to. -/
def RPost (bs : List UInt8) (page : Nat) (a : Option Addr) (w : World) (e : Ending) (w' : World) : Prop :=
  ∃ a' c' T, ∃ S : Nat → Prop, e = .returned (.tuple #[.slice a' (recs bs page).1.length c', .int .i64 (recs bs page).2]) ∧ RdZ w' 3 a' (recs bs page).1.length (flat3 T (recs bs page).1) ∧ RecsM w' S T (recs bs page).1 ∧
    (∀ j, S j → j < w'.heap.size ∧ (onBlk a j ∨ w.heap.size ≤ j)) ∧ (∀ j, onBlk a' j → w.heap.size ≤ j ∧ j < w'.heap.size) ∧ Fr F0 w w'
theorem recs_8 (bs : List UInt8) (page : Nat) : ∀ (f x : Nat), bs.length < f + x → x ≤ bs.length → (recsAt bs page x).1.length * 8 + x ≤ (recsAt bs page x).2
  | 0, x, h, hx => by omega
  | f + 1, x, h, hx => by
    cases h1 : recOk bs x page with
    | true =>
      have h2 := fit_of (ok_fit h1)
      have h4 : 4 ≤ recSz bs x page := by unfold recSz; omega
      rw [recsAt_yes h1]
      have := recs_8 bs page f (x + recSz bs x page + 4) (by omega) (by omega)
      simp only [List.length_cons]
      omega
    | false => rw [recsAt_no h1]; simp
theorem RecM.shape {w : World} {S : Nat → Prop} {v0 v1 : Value} {r : Rec} (h : RecM w S (v0, v1) r) : ∃ a n c b m d, v0 = .slice a n c ∧ v1 = .slice b m d := by
  obtain ⟨a, c, b, cb, _, h1, _⟩ := h
  injection h1 with h1 h2
  exact ⟨a, _, c, b, _, cb, h1, h2⟩
set_option maxHeartbeats 4000000 in
theorem records_any (a : Option Addr) (n c page : Nat) (sy af : Int) (bs : List UInt8) (w : World) (hr : Rd w a n (byt bs)) (hc : n ≤ c) (hn : n ≤ 1048576) (hp : page ≤ 256) :
    Calls Try.prog 50 #[.agg (dsk page a n c sy af)] w (RPost bs page a w) := by
  have hbl : bs.length = n := by simpa using hr.len
  have Hal : Hid (0 < n → ∀ k, onBlk a k → k < w.heap.size) := Lib.hid (fun h => hr.lt h)
  have Hr := Lib.hid hr
  have Hbl := Lib.hid hbl
  obtain ⟨bD, hbD⟩ : ∃ b, b = w.heap.size := ⟨_, rfl⟩
  have F1 : Hid (Fr F0 w (w.alloc (.cells (dsk page a n c sy af) 24))) := Lib.hid ((Fr.refl _ _).alloc _)
  have B1 : Hid (Blk (w.alloc (.cells (dsk page a n c sy af) 24)) bD 24 [.int .i64 page, .slice a n c, .int .i64 sy, .int .i64 af]) := Lib.hid (by rw [hbD]; exact Blk.new w 24 [.int .i64 page, .slice a n c, .int .i64 sy, .int .i64 af])
  have HbD := Lib.hid hbD
  clear hr hbl hbD
  go_enter Try.func50, Try.ntmps50
  go_wp2_with fail
  rw [← HbD.out]
  have hst : Hid (recs bs page = ([] ++ (recsAt bs page 0).1, (recsAt bs page 0).2)) := Lib.hid rfl
  have hsz0 : Hid ((w.alloc (.cells (dsk page a n c sy af) 24)).heap.size = w.heap.size + 1) := Lib.hid (size_alloc _ _)
  go_loopw [4, 5, 6, 7] (fun s4 s5 _ _ wr => ∃ (x m c4 : Nat) (a4 : Option Addr) (L : List Rec) (T : List (Value × Value)) (S : Nat → Prop), x ≤ n ∧ s5 = .int .i64 x ∧ s4 = .slice a4 m c4 ∧ m * 8 ≤ x ∧ Hid (L.length = m) ∧ Hid (recs bs page = (L ++ (recsAt bs page x).1, (recsAt bs page x).2)) ∧ Hid (OwnZ wr (w.heap.size + 1) 98 3 a4 m c4 (flat3 T L)) ∧ Hid (RecsM wr S T L) ∧ Hid (∀ j, S j → (onBlk a j ∨ w.heap.size + 1 ≤ j) ∧ j < wr.heap.size ∧ ¬ onBlk a4 j) ∧ Hid (Blk wr bD 24 [.int .i64 page, .slice a n c, .int .i64 sy, .int .i64 af]) ∧ Hid (w.heap.size + 1 ≤ wr.heap.size) ∧ Hid (Fr F0 w wr)) (fun _ s5 _ _ _ => n + 1 - (intOf s5).toNat)
  case atStart => exact ⟨0, 0, 0, none, [], [], fun _ => False, by omega, rfl, rfl, by omega, Lib.hid rfl, hst, Lib.hid (OwnZ.nil _ _ _ _), Lib.hid (RecsM.nil _ _), Lib.hid (fun _ h => h.elim), B1, Lib.hid (Nat.le_of_eq hsz0.out.symm), F1⟩
  case round =>
    clear B1 F1 hst hsz0
    obtain ⟨x, m, c4, a4, L, T, S, hx, rfl, rfl, hm8, hL, hst, hO, hR, hS, hD, hsz, hF⟩ := hrel
    have z0 := hD.out.cell (i := 0) rfl
    have z1 := hD.out.cell (i := 1) rfl
    have hrw := Hr.out.fr0 hF.out
    have hcall : Calls Try.prog 70 #[.slice a n c, .int .i64 x, .int .i64 page] wr (PPost bs x page a wr) := by
      by_cases h8 : x + 8 ≤ n
      · exact parse_any a n c x page bs wr hrw hc h8 (by omega) hp
      · exact (parse_short a n c x page wr hx (by omega)).mono fun e w' h => .inr ⟨by
          unfold recOk fitB
          rw [decide_eq_false (by rw [Hbl.out]; omega)]
          rfl, h⟩
    have Hcall := Lib.hid hcall
    clear hcall hrw
    cases hok : recOk bs x page with
    | true =>
      have hfit := fit_of (ok_fit hok)
      rw [Hbl.out] at hfit
      have hyes := recsAt_yes hok
      go_wp2_with fail
      refine Hcall.out.mono ?_
      rintro e w1 (⟨_, v0, v1, rfl, hM, F1⟩ | ⟨h0, _⟩)
      · obtain ⟨y, hy⟩ : ∃ y, y = (recAt bs x page).fin := ⟨_, rfl⟩
        have hy2 : Hid (y = x + recSz bs x page + 4) := Lib.hid hy
        rw [← hy]
        have Hy := Lib.hid hy
        have F9 := Lib.hid (hF.out.trans0 F1)
        have hOold := hO
        have hO1 := Lib.hid (hO.out.fr0 F1)
        have hR1 := Lib.hid (hR.out.fr0 F1)
        have hD1 := Lib.hid (hD.out.fr F1 id)
        have HM := Lib.hid hM
        have s1 := F1.size
        clear hy z0 z1 hM F1 hO hR hD
        obtain ⟨a0, n0, c0, b0, m0, d0, rfl, rfl⟩ := HM.out.shape
        have hOA : Hid (OwnZ (w1.alloc (.cells #[.slice a0 n0 c0, .slice b0 m0 d0, .int .i64 y] 98)) (w.heap.size + 1) 98 3 a4 m c4 (flat3 T L)) := Lib.hid (hO1.out.alloc _)
        have h1s : Hid (∀ u ∈ [Value.slice a0 n0 c0, .slice b0 m0 d0, .int .i64 y], u.oneCell' = true) := Lib.hid (by intro u hu; simp at hu; rcases hu with rfl | rfl | rfl <;> rfl)
        have hBs : Hid (w.heap.size + 1 ≤ (w1.alloc (.cells #[.slice a0 n0 c0, .slice b0 m0 d0, .int .i64 y] 98)).heap.size) := Lib.hid (by rw [size_alloc]; have := hsz.out; omega)
        have hBN : Hid (Blk (w1.alloc (.cells #[.slice a0 n0 c0, .slice b0 m0 d0, .int .i64 y] 98)) w1.heap.size 98 [.slice a0 n0 c0, .slice b0 m0 d0, .int .i64 y]) := Lib.hid (Blk.new w1 98 [.slice a0 n0 c0, .slice b0 m0 d0, .int .i64 y])
        have hn4 : Hid (¬ onBlk a4 w1.heap.size) := Lib.hid (fun h => by have := (hO1.out.blk _ h).2; omega)
        go_wp2_with (at_builtin; refine wpAppZAt EZ (by omega) hOA.out (us := [.slice a0 n0 c0, .slice b0 m0 d0, .int .i64 y]) rfl h1s.out (by omega) (by omega) hBs.out rfl (by rw [size_alloc]; rfl) ?_; intro a5 c5 w5 own5 fr5 at5; have q2 := (hBN.out.fr fr5 hn4.out).cell (i := 2) rfl)
        have A1 : Fr F0 w1 (w1.alloc (.cells #[.slice a0 n0 c0, .slice b0 m0 d0, .int .i64 y] 98)) := (Fr.refl _ _).alloc _
        have sA := A1.size
        have s5 := fr5.size
        have szl := hsz.out
        have hS5 : ∀ j, (S j ∨ (j < w1.heap.size ∧ (onBlk a j ∨ wr.heap.size ≤ j))) → (onBlk a j ∨ w.heap.size + 1 ≤ j) ∧ j < w1.heap.size ∧ ¬ onBlk a4 j := fun j h => by
          rcases h with h | ⟨h1, h2⟩
          · have h3 := hS.out j h
            exact ⟨h3.1, by omega, h3.2.2⟩
          · refine ⟨h2.elim .inl (fun h => .inr (by omega)), h1, fun h3 => ?_⟩
            rcases h2 with h | h
            · have := hO1.out.blk j h3
              have := Hal.out (by omega) j h
              omega
            · have := (hOold.out.blk j h3).2
              omega
        have hd4 : ¬ onBlk a4 bD := fun h => by have := (hOold.out.blk _ h).1; have := HbD.out; omega
        exact ⟨⟨y, m + 1, c5, a5, L ++ [recAt bs x page], T ++ [(.slice a0 n0 c0, .slice b0 m0 d0)], fun j => S j ∨ (j < w1.heap.size ∧ (onBlk a j ∨ wr.heap.size ≤ j)), by have := hy2.out; omega, rfl, rfl, by have := hy2.out; have := hfit.1; unfold recSz at hy2; have := hy2.out; omega,
          Lib.hid (by simp [hL.out]), Lib.hid (by rw [hst.out, hyes, ← hy2.out]; simp), Lib.hid (by rw [flat3_snoc hR1.out.len, ← Hy.out]; exact own5),
          Lib.hid ((((hR1.out.mono (fun _ h => Or.inl h)).fr0 A1).fr fr5 (fun j h => (hS5 j h).2.2)).snoc ((((HM.out.mono (fun _ h => Or.inr h)).fr A1 (fun _ _ h => h)).fr fr5 (fun j h => (hS5 j h).2.2)))),
          Lib.hid (fun j h => by
            have h2 := hS5 j h
            exact ⟨h2.1, by omega, fun h3 => (at5 j h3).elim h2.2.2 (fun h4 => by omega)⟩),
          Lib.hid ((hD1.out.fr A1 id).fr fr5 hd4), Lib.hid (by omega), Lib.hid ((F9.out.trans0 A1).trans fr5 (fun j h1 h2 => by have := (hOold.out.blk _ h2).1; omega))⟩, by have := hy2.out; simp [intOf]; omega⟩
      · rw [hok] at h0; cases h0
    | false =>
      have hno := recsAt_no hok
      go_wp2_with fail
      refine Hcall.out.mono ?_
      rintro e w1 (⟨h0, _⟩ | ⟨_, b0, m0, d0, b1, m1, d1, y, rfl, F1⟩)
      · rw [hok] at h0; cases h0
      · have F9 := Lib.hid (hF.out.trans0 F1)
        have hO1 := Lib.hid (hO.out.fr0 F1)
        have hR1 := Lib.hid (hR.out.fr0 F1)
        have s1 := F1.size
        have hsl := hsz.out
        clear z0 z1 F1 hO hR hD
        have FA : Fr F0 w1 (w1.alloc (.cells #[.slice b0 m0 d0, .slice b1 m1 d1, .int .i64 y] 98)) := (Fr.refl _ _).alloc _
        have HFA := Lib.hid FA
        clear FA
        go_wp2_with fail
        go_ret2
        have E : Hid (recs bs page = (L, x)) := Lib.hid (by rw [hst.out, hno]; simp)
        have sA := HFA.out.size
        unfold RPost
        rw [E.out]
        refine ⟨a4, c4, T, S, by show Ending.returned (.tuple #[.slice a4 m c4, .int .i64 x]) = _; rw [hL.out], ?_, hR1.out.fr0 HFA.out, fun j h => ?_, fun j h => ?_, F9.out.trans0 HFA.out⟩
        · have h := (hO1.out.fr0 HFA.out).rd
          rw [hL.out]; exact h
        · have h2 := hS.out j h
          exact ⟨by omega, h2.1.elim .inl (fun h => .inr (by omega))⟩
        · have := (hO1.out.blk j h)
          omega
end Go.Proofs.Ytehpikjhjghplaa
