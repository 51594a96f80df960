/- Refilling comes to an end (plain law); combine. -/
import Derived.Test.YtdphademoeofkaaS3
namespace Go.Proofs.Ytdphademoeofkaa
open Go.RowKit
attribute [local go_sem ↓] Go.wp_at_zero Go.wp_at_succ
/-- Each node has items. -/
def Tr.Ok : Tr → Prop
  | .nil => True
  | .nd _ l r it _ _ sz => it ≠ [] ∧ 1 ≤ sz ∧ l.Ok ∧ r.Ok
theorem Rf.mono {n m : Nat} {x x' : Tr} {I I' : List (Option Nat)} (h : Rf n x I x' I') (hm : n ≤ m) : Rf m x I x' I' := by
  induction h generalizing m with
  | stop h => exact .stop h
  | leaf h1 h2 hs h ih =>
    obtain ⟨k, rfl⟩ : ∃ k, m = k + 1 := ⟨m - 1, by omega⟩
    exact .leaf h1 h2 hs (ih (by omega))
  | deep h1 h2 hs h3 hy h ihy ih =>
    obtain ⟨k, rfl⟩ : ∃ k, m = k + 1 := ⟨m - 1, by omega⟩
    exact .deep h1 h2 hs h3 (ihy (by omega)) (ih (by omega))
theorem sw_ok {l r : Tr} (hl : l.Ok) (hr : r.Ok) : (sw l r).1.Ok ∧ (sw l r).2.Ok := by
  cases l with
  | nil => cases r <;> simp_all [sw, Tr.Ok]
  | nd =>
    cases r with
    | nil => simp_all [sw, Tr.Ok]
    | nd =>
      unfold sw
      dsimp only
      split
      · exact ⟨hr, hl⟩
      · exact ⟨hl, hr⟩
theorem sw_nd {l r : Tr} (h : ¬ (l = .nil ∧ r = .nil)) : ∃ b l' r' it k rk sz, (sw l r).1 = .nd b l' r' it k rk sz := by
  cases l with
  | nil =>
    cases r with
    | nil => exact absurd ⟨rfl, rfl⟩ h
    | nd => exact ⟨_, _, _, _, _, _, _, rfl⟩
  | nd =>
    cases r with
    | nil => exact ⟨_, _, _, _, _, _, _, rfl⟩
    | nd =>
      unfold sw
      dsimp only
      split
      · exact ⟨_, _, _, _, _, _, _, rfl⟩
      · exact ⟨_, _, _, _, _, _, _, rfl⟩
theorem Rf.exists : ∀ (k b : Nat) (l r : Tr) (it : List Int) (key : Int) (rank size : Nat) (I : List (Option Nat)), l.Ok → r.Ok → 1 ≤ size → l.ids.length + r.ids.length ≤ k →
    ∃ n x' I', Rf n (.nd b l r it key rank size) I x' I' ∧ ((it ≠ [] ∨ ¬ (l = .nil ∧ r = .nil)) → x'.Ok) := by
  intro k
  induction k using Nat.strongRecOn with
  | _ k IH =>
  intro b l r it key rank size I hl hr hsz hk
  by_cases h1 : it.length < size
  · by_cases h2 : l = .nil ∧ r = .nil
    · obtain ⟨rfl, rfl⟩ := h2
      exact ⟨0, _, _, .stop (.inr ⟨rfl, rfl⟩), fun h => ⟨h.elim id (fun e => absurd ⟨rfl, rfl⟩ e), hsz, hl, hr⟩⟩
    · obtain ⟨bY, lY, rY, ity, ky, rky, sy, ey⟩ := sw_nd h2
      have hok := sw_ok hl hr
      have hp := (sw_perm l r).length_eq
      obtain ⟨r1, er⟩ : ∃ r1, (sw l r).2 = r1 := ⟨_, rfl⟩
      have hs : sw l r = (.nd bY lY rY ity ky rky sy, r1) := by rw [← ey, ← er]
      rw [ey, er] at hok hp
      have hy0 : 0 < ity.length := List.length_pos_iff.2 hok.1.1
      simp only [Tr.ids, List.length_append] at hp
      by_cases h3 : lY = .nil ∧ rY = .nil
      · obtain ⟨rfl, rfl⟩ := h3
        simp only [Tr.ids, List.length_nil] at hp
        obtain ⟨n, x', I', hR, hx⟩ := IH (r1.ids.length) (by omega) b .nil r1 (it ++ ity) ky rank size (setMany I ity b) trivial hok.2 hsz (by simp [Tr.ids])
        exact ⟨n + 1, x', I', .leaf h1 h2 hs hR, fun _ => hx (.inl (by simp [hok.1.1]))⟩
      · obtain ⟨n, y', I2, hY, hyo⟩ := IH (lY.ids.length + rY.ids.length) (by omega) bY lY rY [] ky rky sy (setMany I ity b) hok.1.2.2.1 hok.1.2.2.2 hok.1.2.1 (Nat.le_refl _)
        have hyl := hY.perm.length_eq
        simp only [Tr.ids, List.nil_append, List.length_append] at hyl
        obtain ⟨m, x', I', hR, hx⟩ := IH (y'.ids.length + r1.ids.length) (by omega) b y' r1 (it ++ ity) ky rank size I2 (hyo (.inr h3)) hok.2 hsz (Nat.le_refl _)
        exact ⟨max n m + 1, x', I', .deep h1 h2 hs h3 (hY.mono (by omega)) (hR.mono (by omega)), fun _ => hx (.inl (by simp [hok.1.1]))⟩
  · exact ⟨0, _, _, .stop (.inl (by omega)), fun h => ⟨h.elim id (fun e => fun g => by rw [g] at h1; simp at h1; omega), hsz, hl, hr⟩⟩
/-- The rank of a tree stays, and its size. -/
theorem Rf.shape {n : Nat} {x x' : Tr} {I I' : List (Option Nat)} (h : Rf n x I x' I') : ∀ {b l r it key rank size}, x = .nd b l r it key rank size → ∃ l' r' it' key', x' = .nd b l' r' it' key' rank size := by
  induction h with
  | stop => rintro b l r it key rank size e; exact ⟨_, _, _, _, e⟩
  | leaf _ _ _ _ ih => rintro b l r it key rank size e; cases e; exact ih rfl
  | deep _ _ _ _ _ _ _ ih => rintro b l r it key rank size e; cases e; exact ih rfl
/-- What combine leaves. -/
def CbPost (w : World) (hb ig m cI rate : Nat) (x y : Tr) (rx sx : Nat) (I : List (Option Nat)) (N : Nat → Prop) (e : Ending) (w' : World) : Prop :=
  ∃ n z I' bz sz, e = .returned (.pointer z.ptr) ∧ sz = (if rate + 5 < rx + 1 then (3 * sx + 1) / 2 else 1) ∧ Rf n (.nd bz x y [] 0 (rx + 1) sz) I z I' ∧ z.Ok ∧ TM w' z (Grw N w w') ∧ HI w' hb ig m cI I' (Grw N w w') ∧ Fr (fun q => N q ∨ q = ig) w w'
set_option maxHeartbeats 2000000 in
theorem combine_any {w : World} {hb ig m cI rate b1 b2 : Nat} {l1 r1 l2 r2 : Tr} {it1 it2 : List Int} {k1 k2 : Int} {rx sx ry sy : Nat} {I : List (Option Nat)} {N Nx Ny : Nat → Prop}
    (hX : TM w (.nd b1 l1 r1 it1 k1 rx sx) Nx) (hY : TM w (.nd b2 l2 r2 it2 k2 ry sy) Ny) (hI : HI w hb ig m cI I N) (hxy : ∀ q, Nx q → ¬ Ny q) (h1 : ∀ q, Nx q → N q) (h2 : ∀ q, Ny q → N q) (hlt : ∀ q, N q → q < w.heap.size)
    (hr : w.cell? ⟨hb, 0, none⟩ = some (.int .i64 rate)) (hrate : rate ≤ 20) (hox : (Tr.nd b1 l1 r1 it1 k1 rx sx).Ok) (hoy : (Tr.nd b2 l2 r2 it2 k2 ry sy).Ok) (hrk : rx ≤ 1000) (hsx : sx ≤ 1000000)
    (hid : ∀ i ∈ (Tr.nd b1 l1 r1 it1 k1 rx sx).ids ++ (Tr.nd b2 l2 r2 it2 k2 ry sy).ids, 0 ≤ i ∧ i < (m : Int)) (hl : ((Tr.nd b1 l1 r1 it1 k1 rx sx).ids ++ (Tr.nd b2 l2 r2 it2 k2 ry sy).ids).length ≤ 100000) :
    Calls Try.prog 47 #[.pointer (some ⟨hb, 0, none⟩), .pointer (some ⟨b1, 0, none⟩), .pointer (some ⟨b2, 0, none⟩)] w (CbPost w hb ig m cI rate (.nd b1 l1 r1 it1 k1 rx sx) (.nd b2 l2 r2 it2 k2 ry sy) rx sx I N) := by
  obtain ⟨sz, hsz⟩ : ∃ sz, sz = (if rate + 5 < rx + 1 then (3 * sx + 1) / 2 else 1) := ⟨_, rfl⟩
  have hsz1 : 1 ≤ sz := by
    have := hox.2.1
    rw [hsz]; split <;> omega
  obtain ⟨n, z, I', hRf, hzo⟩ := Rf.exists _ w.heap.size (.nd b1 l1 r1 it1 k1 rx sx) (.nd b2 l2 r2 it2 k2 ry sy) [] 0 (rx + 1) sz I hox hoy hsz1 (Nat.le_refl _)
  have hzo := hzo (.inr (fun e => by cases e.1))
  have HH := Lib.hid (And.intro hsz (And.intro hRf (And.intro hzo (And.intro hid (And.intro hl (And.intro hxy (And.intro h1 (And.intro h2 hlt))))))))
  have HX := Lib.hid hX
  have HY := Lib.hid hY
  have HI0 := Lib.hid hI
  have hs1 := hsz1
  obtain ⟨_, _, _, _, _, X⟩ := hX
  have x4 : w.cell? ⟨b1, 4, none⟩ = some (.int .i64 rx) := X.blk.cell (i := 4) rfl
  have x5 : w.cell? ⟨b1, 5, none⟩ = some (.int .i64 sx) := X.blk.cell (i := 5) rfl
  have hbl1 := X.blk.lt
  have hhl := hI.hlt
  have hil := hI.ilt
  clear hsz1 hRf hzo hid hl hxy h1 h2 hlt X hI hox hoy hY
  go_enter Try.func47, Try.ntmps47
  go_wp2_with fail
  have FA : Hid (Fr F0 w (w.alloc (.cells #[.pointer (some ⟨b1, 0, none⟩), .pointer (some ⟨b2, 0, none⟩), .slice none 0 0, .int .i64 0, .int .i64 ((rx : Int) + 1), .int .i64 1] 62))) := Lib.hid ((Fr.refl _ _).alloc _)
  have BZ : Hid (Blk (w.alloc (.cells #[.pointer (some ⟨b1, 0, none⟩), .pointer (some ⟨b2, 0, none⟩), .slice none 0 0, .int .i64 0, .int .i64 ((rx : Int) + 1), .int .i64 1] 62)) w.heap.size 62 (ndS (some ⟨b1, 0, none⟩) (some ⟨b2, 0, none⟩) none 0 0 0 (rx + 1) 1)) := Lib.hid (Blk.new w 62 _)
  have hsA := size_alloc w (.cells #[.pointer (some ⟨b1, 0, none⟩), .pointer (some ⟨b2, 0, none⟩), .slice none 0 0, .int .i64 0, .int .i64 ((rx : Int) + 1), .int .i64 1] 62)
  generalize w.alloc (.cells #[.pointer (some ⟨b1, 0, none⟩), .pointer (some ⟨b2, 0, none⟩), .slice none 0 0, .int .i64 0, .int .i64 ((rx : Int) + 1), .int .i64 1] 62) = w1 at *
  have c4 : w1.cell? ⟨w.heap.size, 4, none⟩ = some (.int .i64 ((rx : Int) + 1)) := BZ.out.cell (i := 4) rfl
  have c5 : w1.cell? ⟨w.heap.size, 5, none⟩ = some (.int .i64 1) := BZ.out.cell (i := 5) rfl
  have z5 := BZ.out.free 5
  have hr1 : w1.cell? ⟨hb, 0, none⟩ = some (.int .i64 rate) := FA.out.cell hr id
  have x51 : w1.cell? ⟨b1, 5, none⟩ = some (.int .i64 sx) := FA.out.cell x5 id
  clear hr x4 x5
  by_cases hbig : rate + 5 < rx + 1
  · obtain ⟨s2, hs2⟩ : ∃ s2, s2 = (3 * sx + 1) / 2 := ⟨_, rfl⟩
    have hq : Int.tdiv (3 * (sx : Int) + 1) 2 = (s2 : Int) := by rw [Int.tdiv_eq_ediv_of_nonneg (by omega)]; omega
    have hss : sz = s2 := by rw [hs2, hsz, if_pos hbig]
    have hs2b : s2 ≤ 2000000 := by omega
    have hd : (rate : Int) + 5 < (rx : Int) + 1 := by omega
    have Hs2 := Lib.hid (And.intro hs2 hss)
    clear hs2 hss hsz hbig hs1
    go_wp2_with fail
    go_quiet (fail)
    generalize hw2 : w1.drewN nq = w2 at *
    have BZ2 : Hid (Blk w2 w.heap.size 62 (ndS (some ⟨b1, 0, none⟩) (some ⟨b2, 0, none⟩) none 0 0 0 (rx + 1) 1)) := Lib.hid (by rw [← hw2]; exact BZ.out)
    have FA2 : Hid (Fr F0 w w2) := Lib.hid (by rw [← hw2]; exact FA.out.drewN nq)
    have hs2A : w2.heap.size = w.heap.size + 1 := by rw [← hw2]; exact hsA
    have x52 : w2.cell? ⟨b1, 5, none⟩ = some (.int .i64 sx) := by rw [← hw2]; exact x51
    clear hw2 BZ FA hsA c4 c5 z5 hr1 x51
    have c5 : w2.cell? ⟨w.heap.size, 5, none⟩ = some (.int .i64 1) := BZ2.out.cell (i := 5) rfl
    have z5 := BZ2.out.free 5
    go_wp2_with fail
    have FZ : Hid (Fr (onB w.heap.size) w (w2.setCell ⟨w.heap.size, 5, none⟩ (.int .i64 s2))) := Lib.hid ((FA2.out.mono (fun _ _ h => h.elim)).setB 5 _)
    have BZ3 : Hid (Blk (w2.setCell ⟨w.heap.size, 5, none⟩ (.int .i64 s2)) w.heap.size 62 (ndS (some ⟨b1, 0, none⟩) (some ⟨b2, 0, none⟩) none 0 0 0 (rx + 1) sz)) := Lib.hid (by rw [Hs2.out.2]; exact BZ2.out.set 5 _)
    have hszZ : (w2.setCell ⟨w.heap.size, 5, none⟩ (.int .i64 s2)).heap.size = w.heap.size + 1 := by simpa using hs2A
    generalize w2.setCell ⟨w.heap.size, 5, none⟩ (.int .i64 s2) = w3 at *
    have HF3 : Hid (Fr (fun q => N q ∨ q = ig) w w3) := Lib.hid (FZ.out.mono (fun q hq (e : q = w.heap.size) => by omega))
    have hzN : ∀ q, N q → q ≠ w.heap.size := fun q hq e => by have := HH.out.2.2.2.2.2.2.2.2 q hq; omega
    have hs3' : w3.heap.size = w.heap.size + 1 := hszZ
    have HT : Hid (TM w3 (.nd w.heap.size (.nd b1 l1 r1 it1 k1 rx sx) (.nd b2 l2 r2 it2 k2 ry sy) [] 0 (rx + 1) sz) (Grw N w w3)) := Lib.hid ⟨none, 0, 0, Nx, Ny, ⟨BZ3.out, Own.nil _ _ _, HX.out.fr FZ.out (fun q hq e => hzN q (HH.out.2.2.2.2.2.2.1 q hq) e), HY.out.fr FZ.out (fun q hq e => hzN q (HH.out.2.2.2.2.2.2.2.1 q hq) e), .inr ⟨Nat.le_refl _, by omega⟩, fun q hq => absurd hq (onBlk_none _), fun q hq => ⟨.inl (HH.out.2.2.2.2.2.2.1 q hq), hzN q (HH.out.2.2.2.2.2.2.1 q hq), HH.out.2.2.2.2.2.1 q hq⟩, fun q hq => ⟨.inl (HH.out.2.2.2.2.2.2.2.1 q hq), hzN q (HH.out.2.2.2.2.2.2.2.1 q hq)⟩, Grw.lt HH.out.2.2.2.2.2.2.2.2 (by omega)⟩⟩
    have HI3 : Hid (HI w3 hb ig m cI I (Grw N w w3)) := Lib.hid ((HI0.out.fr FZ.out (fun (e : hb = w.heap.size) => by omega) (fun (e : ig = w.heap.size) => by have := HI0.out.ilt; omega)).grw hhl HI0.out.ilt)
    refine (refill_any n _ _ _ _ HH.out.2.1 _ hb ig m cI (Grw N w w3) HT.out HI3.out (fun i hi => HH.out.2.2.2.1 i (by simpa [Tr.ids] using hi)) (by have := HH.out.2.2.2.2.1; simpa [Tr.ids] using this)).mono ?_
    rintro e w9 ⟨rfl, T9, I9, F9⟩
    have HP9 := Lib.hid (And.intro T9 (And.intro I9 F9))
    clear T9 I9 F9
    go_wp2_with fail
    go_ret
    obtain ⟨T9, I9, F9⟩ := HP9.out
    have hs3 := HF3.out.size
    have hs9 := F9.size
    refine ⟨n, z, I', _, sz, ?_, HH.out.1, HH.out.2.1, HH.out.2.2.1, T9.big (Grw.trans hs3 hs9) (Grw.lt HH.out.2.2.2.2.2.2.2.2 (by omega)), { I9 with hN := fun e => e.elim (fun e => HI3.out.hN (.inl e)) (fun e => by omega), gN := fun e => e.elim (fun e => HI3.out.gN (.inl e)) (fun e => by omega) }, HF3.out.trans F9 (fun q hq e => e.elim (fun e => e.elim .inl (fun e => by omega)) .inr)⟩
    rw [Rf.ptr HH.out.2.1]
    rfl
  · have hss : sz = 1 := by rw [hsz, if_neg hbig]
    subst hss
    have hd : ¬ (rate : Int) + 5 < (rx : Int) + 1 := by omega
    clear hsz hbig hs1
    go_wp2_with fail
    go_quiet (fail)
    have BZ3 : Hid (Blk (w1.drewN nq) w.heap.size 62 (ndS (some ⟨b1, 0, none⟩) (some ⟨b2, 0, none⟩) none 0 0 0 (rx + 1) 1)) := Lib.hid BZ.out
    have FZ : Hid (Fr F0 w (w1.drewN nq)) := Lib.hid (FA.out.drewN nq)
    have hszZ : (w1.drewN nq).heap.size = w.heap.size + 1 := hsA
    clear BZ FA hsA c4 c5 z5 hr1 x51
    generalize w1.drewN nq = w3 at *
    go_wp2_with fail
    have HF3 : Hid (Fr (fun q => N q ∨ q = ig) w w3) := Lib.hid (FZ.out.mono (fun q hq e => e.elim))
    have hzN : ∀ q, N q → q ≠ w.heap.size := fun q hq e => by have := HH.out.2.2.2.2.2.2.2.2 q hq; omega
    have hs3' : w3.heap.size = w.heap.size + 1 := hszZ
    have HT : Hid (TM w3 (.nd w.heap.size (.nd b1 l1 r1 it1 k1 rx sx) (.nd b2 l2 r2 it2 k2 ry sy) [] 0 (rx + 1) 1) (Grw N w w3)) := Lib.hid ⟨none, 0, 0, Nx, Ny, ⟨BZ3.out, Own.nil _ _ _, HX.out.fr FZ.out (fun q hq e => (fun _ e => False.elim e) (HH.out.2.2.2.2.2.2.1 q hq) e), HY.out.fr FZ.out (fun q hq e => (fun _ e => False.elim e) (HH.out.2.2.2.2.2.2.2.1 q hq) e), .inr ⟨Nat.le_refl _, by omega⟩, fun q hq => absurd hq (onBlk_none _), fun q hq => ⟨.inl (HH.out.2.2.2.2.2.2.1 q hq), hzN q (HH.out.2.2.2.2.2.2.1 q hq), HH.out.2.2.2.2.2.1 q hq⟩, fun q hq => ⟨.inl (HH.out.2.2.2.2.2.2.2.1 q hq), hzN q (HH.out.2.2.2.2.2.2.2.1 q hq)⟩, Grw.lt HH.out.2.2.2.2.2.2.2.2 (by omega)⟩⟩
    have HI3 : Hid (HI w3 hb ig m cI I (Grw N w w3)) := Lib.hid ((HI0.out.fr FZ.out id id).grw hhl HI0.out.ilt)
    refine (refill_any n _ _ _ _ HH.out.2.1 _ hb ig m cI (Grw N w w3) HT.out HI3.out (fun i hi => HH.out.2.2.2.1 i (by simpa [Tr.ids] using hi)) (by have := HH.out.2.2.2.2.1; simpa [Tr.ids] using this)).mono ?_
    rintro e w9 ⟨rfl, T9, I9, F9⟩
    have HP9 := Lib.hid (And.intro T9 (And.intro I9 F9))
    clear T9 I9 F9
    go_wp2_with fail
    go_ret
    obtain ⟨T9, I9, F9⟩ := HP9.out
    have hs3 := HF3.out.size
    have hs9 := F9.size
    refine ⟨n, z, I', _, 1, ?_, HH.out.1, HH.out.2.1, HH.out.2.2.1, T9.big (Grw.trans hs3 hs9) (Grw.lt HH.out.2.2.2.2.2.2.2.2 (by omega)), { I9 with hN := fun e => e.elim (fun e => HI3.out.hN (.inl e)) (fun e => by omega), gN := fun e => e.elim (fun e => HI3.out.gN (.inl e)) (fun e => by omega) }, HF3.out.trans F9 (fun q hq e => e.elim (fun e => e.elim .inl (fun e => by omega)) .inr)⟩
    rw [Rf.ptr HH.out.2.1]
    rfl
end Go.Proofs.Ytdphademoeofkaa
