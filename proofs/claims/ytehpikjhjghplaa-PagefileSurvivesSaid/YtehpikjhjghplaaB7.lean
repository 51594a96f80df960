/- The reference's Records. -/
import Derived.Test.YtehpikjhjghplaaB6
namespace Go.Proofs.Ytehpikjhjghplaa
open Go.RowKit
attribute [local go_sem ↓] Go.wp_at_zero Go.wp_at_succ
theorem read_at (a : Option Addr) (n c x page : Nat) (bs : List UInt8) (w : World) (hr : Rd w a n (byt bs)) (hc : n ≤ c) (hx : x ≤ n) (hn : n ≤ 1048576) (hp : page ≤ 256) (hp1 : 1 ≤ page) :
    Calls Try.prog 57 #[.slice a n c, .int .i64 x, .int .i64 page] w (PPost bs x page a w) := by
  have hbl : bs.length = n := by simpa using hr.len
  by_cases h8 : x + 8 ≤ n
  · exact read_any a n c x page bs w hr hc h8 (by omega) hp hp1
  · exact (read_short a n c x page w (by omega) (by omega)).mono fun e w' h => .inr ⟨by
      unfold recOk fitB
      rw [decide_eq_false (by rw [hbl]; omega)]
      rfl, h⟩
/-- What a call of read has left: the three values, and where they lie. -/
def Left (bs : List UInt8) (x page : Nat) (w : World) (S1 : Nat → Prop) (v0 v1 v2 : Value) : Prop := recOk bs x page = true → v2 = .int .i64 (recAt bs x page).fin ∧ RecM w S1 (v0, v1) (recAt bs x page)
theorem PPost.left {bs : List UInt8} {x page : Nat} {a : Option Addr} {w w' : World} {e : Ending} (h : PPost bs x page a w e w') : ∃ a0 n0 c0 a1 n1 c1 z,
    e = .returned (.tuple #[.agg #[.slice a0 n0 c0, .slice a1 n1 c1, .int .i64 z], .bool (recOk bs x page)]) ∧ Left bs x page w' (fun k => k < w'.heap.size ∧ (onBlk a k ∨ w.heap.size ≤ k)) (.slice a0 n0 c0) (.slice a1 n1 c1) (.int .i64 z) ∧ Fr F0 w w' := by
  rcases h with ⟨h1, v0, v1, rfl, hM, F⟩ | ⟨h1, a0, n0, c0, a1, n1, c1, z, rfl, F⟩
  · obtain ⟨a0, n0, c0, b0, m0, d0, rfl, rfl⟩ := hM.shape
    exact ⟨a0, n0, c0, b0, m0, d0, _, by rw [h1], fun _ => ⟨rfl, hM⟩, F⟩
  · exact ⟨a0, n0, c0, a1, n1, c1, z, by rw [h1], (by unfold Left; intro h; rw [h1] at h; cases h), F⟩
set_option maxHeartbeats 4000000 in
theorem Records_any (a : Option Addr) (n c page : Nat) (sy af : Int) (bs : List UInt8) (w : World) (hr : Rd w a n (byt bs)) (hc : n ≤ c) (hn : n ≤ 1048576) (hp : page ≤ 256) (hp1 : 1 ≤ page) :
    Calls Try.prog 17 #[.agg (dsk page a n c sy af)] w (RPost bs page a w) := by
  have hbl : bs.length = n := by simpa using hr.len
  have Hal : Hid (0 < n → ∀ k, onBlk a k → k < w.heap.size) := Lib.hid (fun h => hr.lt h)
  have Hr := Lib.hid hr
  have Hbl := Lib.hid hbl
  obtain ⟨bD, hbD⟩ : ∃ b, b = w.heap.size := ⟨_, rfl⟩
  have F1 : Hid (Fr F0 w (w.alloc (.cells (dsk page a n c sy af) 24))) := Lib.hid ((Fr.refl _ _).alloc _)
  have B1 : Hid (Blk (w.alloc (.cells (dsk page a n c sy af) 24)) bD 24 [.int .i64 page, .slice a n c, .int .i64 sy, .int .i64 af]) := Lib.hid (by rw [hbD]; exact Blk.new w 24 [.int .i64 page, .slice a n c, .int .i64 sy, .int .i64 af])
  have HbD := Lib.hid hbD
  have hsz0 : Hid ((w.alloc (.cells (dsk page a n c sy af) 24)).heap.size = w.heap.size + 1) := Lib.hid (size_alloc _ _)
  clear hr hbl
  go_enter Try.func17, Try.ntmps17
  clear hbD
  go_wp2_with fail
  refine (read_at a n c 0 page bs _ (Hr.out.fr0 F1.out) hc (by omega) hn hp hp1).mono ?_
  intro e w1 hpp
  obtain ⟨b0, m0, d0, b1, m1, d1, y, rfl, hLf, G1⟩ := hpp.left
  have F2 := Lib.hid (F1.out.trans0 G1)
  have B2 := Lib.hid (B1.out.fr G1 id)
  have hst : Hid (recs bs page = ([] ++ (recsAt bs page 0).1, (recsAt bs page 0).2)) := Lib.hid rfl
  have hL0 := Lib.hid hLf
  have hs1 := G1.size
  have HS0 := hsz0.out
  have hs0 : Hid (w.heap.size + 1 ≤ w1.heap.size) := Lib.hid (by omega)
  have hS1 : Hid (∀ j, (j < w1.heap.size ∧ (onBlk a j ∨ (w.alloc (.cells (dsk page a n c sy af) 24)).heap.size ≤ j)) → (onBlk a j ∨ w.heap.size + 1 ≤ j) ∧ j < w1.heap.size) := Lib.hid (fun j h => ⟨h.2.elim .inl (fun h => .inr (by omega)), h.1⟩)
  clear hpp hLf G1 F1 B1 hs1 HS0
  have N1 : Hid (Blk (w1.alloc (.cells #[.slice b0 m0 d0, .slice b1 m1 d1, .int .i64 y] 42)) w1.heap.size 42 [.slice b0 m0 d0, .slice b1 m1 d1, .int .i64 y]) := Lib.hid (Blk.new w1 42 [.slice b0 m0 d0, .slice b1 m1 d1, .int .i64 y])
  have FA : Fr F0 w1 (w1.alloc (.cells #[.slice b0 m0 d0, .slice b1 m1 d1, .int .i64 y] 42)) := (Fr.refl _ _).alloc _
  have hsA : Hid ((w1.alloc (.cells #[.slice b0 m0 d0, .slice b1 m1 d1, .int .i64 y] 42)).heap.size = w1.heap.size + 1) := Lib.hid (size_alloc _ _)
  replace F2 := Lib.hid (F2.out.trans0 FA)
  replace B2 := Lib.hid (B2.out.fr FA id)
  have hL1 : Hid (Left bs 0 page (w1.alloc (.cells #[.slice b0 m0 d0, .slice b1 m1 d1, .int .i64 y] 42)) (fun k => k < w1.heap.size ∧ (onBlk a k ∨ (w.alloc (.cells (dsk page a n c sy af) 24)).heap.size ≤ k)) (.slice b0 m0 d0) (.slice b1 m1 d1) (.int .i64 y)) := Lib.hid (fun h => ⟨(hL0.out h).1, (hL0.out h).2.fr FA (fun _ _ h => h)⟩)
  obtain ⟨b6, hb6⟩ : ∃ b6, b6 = w1.heap.size := ⟨_, rfl⟩
  obtain ⟨ok0, hok0⟩ : ∃ o, o = recOk bs 0 page := ⟨_, rfl⟩
  rw [← hok0]
  have Hok0 := Lib.hid hok0
  have Hb6 := Lib.hid hb6
  clear hok0 hL0 FA hb6
  go_wp2_with fail
  rw [← HbD.out, ← Hb6.out]
  rw [← Hb6.out] at N1
  generalize (w1.alloc (.cells #[.slice b0 m0 d0, .slice b1 m1 d1, .int .i64 y] 42)) = wq at *
  go_loopw [4, 5, 7] (fun s4 s5 s7 wr => ∃ (x m c4 : Nat) (a4 : Option Addr) (L : List Rec) (T : List (Value × Value)) (S S1 : Nat → Prop) (ok : Bool) (b0 b1 : Option Addr) (m0 d0 m1 d1 : Nat) (y : Int), x ≤ n ∧ s5 = .int .i64 x ∧ s4 = .slice a4 m c4 ∧ s7 = .bool ok ∧ Hid (ok = recOk bs x page) ∧ m * 8 ≤ x ∧ Hid (L.length = m) ∧ Hid (recs bs page = (L ++ (recsAt bs page x).1, (recsAt bs page x).2)) ∧ Hid (OwnZ wr (w.heap.size + 1) 42 3 a4 m c4 (flat3 T L)) ∧ Hid (RecsM wr S T L) ∧ Hid (∀ j, (S j ∨ S1 j) → (onBlk a j ∨ w.heap.size + 1 ≤ j) ∧ j < wr.heap.size ∧ ¬ onBlk a4 j ∧ j ≠ b6) ∧ Hid (Blk wr bD 24 [.int .i64 page, .slice a n c, .int .i64 sy, .int .i64 af]) ∧ Hid (Blk wr b6 42 [.slice b0 m0 d0, .slice b1 m1 d1, .int .i64 y]) ∧ Hid (¬ onBlk a4 b6) ∧ Hid (Left bs x page wr S1 (.slice b0 m0 d0) (.slice b1 m1 d1) (.int .i64 y)) ∧ Hid (w.heap.size + 1 ≤ wr.heap.size) ∧ Hid (Fr F0 w wr)) (fun _ s5 _ _ => n + 1 - (intOf s5).toNat)
  case atStart => exact ⟨0, 0, 0, none, [], [], fun _ => False, _, ok0, b0, b1, m0, d0, m1, d1, y, by omega, rfl, rfl, rfl, Hok0, by omega, Lib.hid rfl, hst, Lib.hid (OwnZ.nil _ _ _ _), Lib.hid (RecsM.nil _ _), Lib.hid (fun j h => by
      rcases h with h | h
      · exact h.elim
      · have h2 := hS1.out j h
        exact ⟨h2.1, by have := hsA.out; omega, onBlk_none _, by have := Hb6.out; omega⟩), B2, N1, Lib.hid (onBlk_none _), hL1, Lib.hid (by have := hsA.out; have := hs0.out; omega), F2⟩
  case round =>
    have Hb6w : Hid (w.heap.size + 1 ≤ b6) := Lib.hid (by have := hs0.out; have := Hb6.out; omega)
    clear B2 F2 hst hsz0 N1 hL1 hsA hS1 hs0 Hok0 Hb6
    obtain ⟨x, m, c4, a4, L, T, S, S1, ok, b0, b1, m0, d0, m1, d1, y, hx, rfl, rfl, rfl, hok, hm8, hL, hst, hO, hR, hS, hD, hB6, hn6, hLf, hsz, hF⟩ := hrel
    cases ok with
    | true =>
      have hok1 := hok.out.symm
      have hfit := fit_of (ok_fit hok1)
      rw [Hbl.out] at hfit
      have hyes := recsAt_yes hok1
      obtain ⟨hy, hM⟩ := hLf.out hok1
      obtain ⟨z, hz⟩ : ∃ z, z = (recAt bs x page).fin := ⟨_, rfl⟩
      rw [← hz] at hy
      obtain rfl : y = (z : Int) := by injection hy
      have hz2 : Hid (z = x + recSz bs x page + 4) := Lib.hid hz
      have hzn : z ≤ n := by have := hz2.out; omega
      have Hz := Lib.hid hz
      have HM := Lib.hid hM
      have z0 := hB6.out.cell (i := 0) rfl
      have z1 := hB6.out.cell (i := 1) rfl
      have z2 := hB6.out.cell (i := 2) rfl
      have h1s : Hid (∀ u ∈ [Value.slice b0 m0 d0, .slice b1 m1 d1, .int .i64 z], u.oneCell' = true) := Lib.hid (by intro u hu; simp at hu; rcases hu with rfl | rfl | rfl <;> rfl)
      have hd4 : Hid (¬ onBlk a4 bD) := Lib.hid (fun h => by have := (hO.out.blk _ h).1; have := HbD.out; omega)
      replace hyes := Lib.hid hyes
      clear hz hy hM hok1
      go_wp2_with (at_builtin; refine wpAppZAt EZr (by omega) hO.out (us := [.slice b0 m0 d0, .slice b1 m1 d1, .int .i64 z]) rfl h1s.out (by omega) (by omega) hsz.out rfl rfl ?_; intro a5 c5 w5 own5 fr5 at5; have q2 := (hB6.out.fr fr5 hn6.out).cell (i := 2) rfl; have q3 := (hD.out.fr fr5 hd4.out).cell (i := 0) rfl; have q4 := (hD.out.fr fr5 hd4.out).cell (i := 1) rfl)
      have F5 := hF.out.trans fr5 (fun j h1 h2 => by have := (hO.out.blk _ h2).1; omega)
      refine (read_at a n c z page bs _ (Hr.out.fr0 F5) hc hzn hn hp hp1).mono ?_
      intro e w6 hpp
      obtain ⟨b2, m2, d2, b3, m3, d3, y3, rfl, hLf2, G6⟩ := hpp.left
      have szl := hsz.out
      have s5 := fr5.size
      have s6 := G6.size
      have o6 := hO.out.blk
      have hSn : ∀ j, (S j ∨ S1 j) → ¬ onBlk a4 j := fun j h => (hS.out j h).2.2.1
      have Rx_len : Hid (T.length = L.length) := Lib.hid hR.out.len
      have R5 := ((hR.out.mono (fun _ h => Or.inl h)).snoc (HM.out.mono (fun _ h => Or.inr h))).fr fr5 hSn
      have Rx := Lib.hid (R5.fr0 G6)
      have O6 := Lib.hid (own5.fr0 G6)
      have D6 := Lib.hid ((hD.out.fr fr5 hd4.out).fr G6 id)
      have C6 := Lib.hid ((hB6.out.fr fr5 hn6.out).fr G6 id)
      have F6 := Lib.hid (F5.trans0 G6)
      have hb6s := hB6.out.lt
      have hn65 : Hid (¬ onBlk a5 b6) := Lib.hid (fun h => (at5 b6 h).elim hn6.out (fun h => by omega))
      have hS6 : Hid (∀ j, ((S j ∨ S1 j) ∨ (j < w6.heap.size ∧ (onBlk a j ∨ w5.heap.size ≤ j))) → (onBlk a j ∨ w.heap.size + 1 ≤ j) ∧ j < w6.heap.size ∧ ¬ onBlk a5 j ∧ j ≠ b6) := Lib.hid (fun j h => by
        have h6w := Hb6w.out
        rcases h with h | ⟨h1, h2⟩
        · obtain ⟨h1, h2, h3, h4⟩ := hS.out j h
          exact ⟨h1, by omega, fun h5 => (at5 j h5).elim h3 (fun h => by omega), h4⟩
        · refine ⟨h2.elim .inl (fun h => .inr (by omega)), h1, fun h3 => ?_, fun h3 => ?_⟩
          · have hb := own5.blk j h3
            rcases h2 with h | h
            · have := Hal.out (by omega) j h
              omega
            · omega
          · rcases h2 with h | h
            · have := Hal.out (by omega) j h
              omega
            · omega)
      have sz6 : Hid (w.heap.size + 1 ≤ w6.heap.size) := Lib.hid (by omega)
      have HL6 := Lib.hid hLf2
      have y0 := C6.out.cell (i := 0) rfl
      have y1 := C6.out.cell (i := 1) rfl
      have y2 := C6.out.cell (i := 2) rfl
      have f0 := C6.out.free 0
      have f1 := C6.out.free 1
      have f2 := C6.out.free 2
      have Hn9 : Hid (w5.heap.size ≤ w6.heap.size) := Lib.hid s6
      clear hpp hLf2 G6 R5 F5 own5 fr5 at5 q2 q3 q4 z0 z1 z2 hSn hO hR hD hB6 hLf hF hS hsz o6 s5 s6 szl hb6s h1s
      obtain ⟨ok2, hok2⟩ : ∃ o, o = recOk bs z page := ⟨_, rfl⟩
      rw [← hok2]
      have Hok2 := Lib.hid hok2
      clear hok2
      go_wp2_with fail
      go_roundw
      case rel =>
        have G : Fr (fun j => j = b6) w6 (((w6.setCell ⟨b6, 0, none⟩ (.slice b2 m2 d2)).setCell ⟨b6, 1, none⟩ (.slice b3 m3 d3)).setCell ⟨b6, 2, none⟩ (.int .i64 y3)) :=
          Fr.setCell (S := fun j => j = b6) (p := ⟨b6, 2, none⟩) (Fr.setCell (S := fun j => j = b6) (p := ⟨b6, 1, none⟩) (Fr.setCell (S := fun j => j = b6) (p := ⟨b6, 0, none⟩) (Fr.refl _ _) (fun _ => rfl) _) (fun _ => rfl) _) (fun _ => rfl) _
        have g : Blk (((w6.setCell ⟨b6, 0, none⟩ (.slice b2 m2 d2)).setCell ⟨b6, 1, none⟩ (.slice b3 m3 d3)).setCell ⟨b6, 2, none⟩ (.int .i64 y3)) b6 42 [.slice b2 m2 d2, .slice b3 m3 d3, .int .i64 y3] := ((C6.out.set 0 _).set 1 _).set 2 _
        have gs := G.size
        exact ⟨z, m + 1, c5, a5, L ++ [recAt bs x page], T ++ [(.slice b0 m0 d0, .slice b1 m1 d1)], fun j => S j ∨ S1 j, fun j => j < w6.heap.size ∧ (onBlk a j ∨ w5.heap.size ≤ j), ok2, b2, b3, m2, d2, m3, d3, y3, hzn, rfl, rfl, rfl, Hok2, by have := hz2.out; have := hfit.1; have h4 : 4 ≤ recSz bs x page := (by unfold recSz; omega); omega,
          Lib.hid (by simp [hL.out]), Lib.hid (by rw [hst.out, hyes.out, ← hz2.out]; simp),
          Lib.hid (by rw [flat3_snoc Rx_len.out, ← Hz.out]; exact O6.out.fr G (fun j h e => hn65.out (e ▸ h))),
          Lib.hid (Rx.out.fr G (fun j h e => (hS6.out j (.inl h)).2.2.2 e)),
          Lib.hid (fun j h => by
            have h2 := hS6.out j h
            exact ⟨h2.1, by omega, h2.2.2⟩),
          Lib.hid (D6.out.fr G (fun h => by have := HbD.out; have := Hb6w.out; omega)), Lib.hid g, hn65,
          Lib.hid (fun h => ⟨(HL6.out h).1, (HL6.out h).2.fr G (fun j h1 e => (hS6.out j (.inr h1)).2.2.2 e)⟩),
          Lib.hid (by have := sz6.out; omega), Lib.hid (F6.out.trans G (fun j h1 e => by have := Hb6w.out; omega))⟩
      case measure => have := hz2.out; simp [intOf]; omega
    | false =>
      have hno := recsAt_no hok.out.symm
      replace hno := Lib.hid hno
      go_wp2_with fail
      go_ret2
      have E : Hid (recs bs page = (L, x)) := Lib.hid (by rw [hst.out, hno.out]; simp)
      have hsl := hsz.out
      unfold RPost
      rw [E.out]
      refine ⟨a4, c4, T, S, by show Ending.returned (.tuple #[.slice a4 m c4, .int .i64 x]) = _; rw [hL.out], ?_, hR.out, fun j h => ?_, fun j h => ?_, hF.out⟩
      · have h := hO.out.rd
        rw [hL.out]; exact h
      · have h2 := hS.out j (.inl h)
        exact ⟨by omega, h2.1.elim .inl (fun h => .inr (by omega))⟩
      · have := (hO.out.blk j h)
        omega
end Go.Proofs.Ytehpikjhjghplaa
