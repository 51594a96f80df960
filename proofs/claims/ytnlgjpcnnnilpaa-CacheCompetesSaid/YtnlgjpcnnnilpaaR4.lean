/- Touch: a hit; what is refused. -/
import Derived.Test.YtnlgjpcnnnilpaaR3
namespace Go.Proofs.Ytnlgjpcnnnilpaa
open Go.RowKit
attribute [local go_sem ↓] Go.wp_at_zero Go.wp_at_succ

structure CX (w : World) (B x m mi s : Nat) (K : List Int) (bm gb gn gp cb cn cp : Nat) (BL : List Int) (NX PV : List Nat) (f : Int → Option Value) (S : List Nat) : Prop where
  cl : CL w B x m mi bm gb gn gp cb cn cp s BL NX PV
  mp : MapV w 3 bm s f
  rg : Ring s BL NX PV f S K
  dm : bm ≠ gn ∧ bm ≠ gp ∧ bm ≠ gb ∧ bm ≠ x
  bb : B ≤ bm
  hs : s ≤ m
  hm1 : 1 ≤ m
  hm : m ≤ 1000
  hK : ∀ b ∈ K, 0 ≤ b ∧ b ≤ 1048576
abbrev on5 (x bm gb gn gp : Nat) : Nat → Prop := fun k => k = x ∨ k = bm ∨ k = gb ∨ k = gn ∨ k = gp
def TPost (w : World) (B x m mi : Nat) (K : List Int) (b : Int) (bm gb gn gp : Nat) (e : Ending) (w' : World) : Prop :=
  ∃ s' gb' gn' gp' cb' cn' cp' BL' NX' PV' f' S', e = .returned (.tuple #[.bool (touchL K m b).2, .int .i64 0]) ∧ CX w' B x m (if (touchL K m b).2 then mi else mi + 1) s' (touchL K m b).1 bm gb' gn' gp' cb' cn' cp' BL' NX' PV' f' S' ∧
    Fr (on5 x bm gb gn gp) w w' ∧ ∀ k, (k = gb' ∨ k = gn' ∨ k = gp') → (k = gb ∨ k = gn ∨ k = gp) ∨ w.heap.size ≤ k
theorem on5_G {x bm gb gn gp k : Nat} (h : onG gn gp k) : on5 x bm gb gn gp k := by
  rcases h with h | h
  · exact .inr (.inr (.inr (.inl h)))
  · exact .inr (.inr (.inr (.inr h)))
set_option maxRecDepth 100000 in
theorem Touch_nil (b : Int) (w : World) : Calls Try.prog 17 #[.pointer none, .int .i64 b] w fun e w' => e = .returned (.tuple #[.bool false, .int .i64 1]) ∧ w = w' := by
  go_enter Try.func17, Try.ntmps17
  go_wp2_with fail
  go_ret2
  exact ⟨rfl, rfl⟩
set_option maxRecDepth 100000 in
theorem Touch_bad (x : Nat) (b : Int) (w : World) (hb : b < 0 ∨ 1048576 < b) : Calls Try.prog 17 #[.pointer (some ⟨x, 0, none⟩), .int .i64 b] w fun e w' => e = .returned (.tuple #[.bool false, .int .i64 1]) ∧ w = w' := by
  rcases hb with h | h
  · go_enter Try.func17, Try.ntmps17
    go_wp2_with fail
    go_ret2
    exact ⟨rfl, rfl⟩
  · have h0 : ¬ b < 0 := by omega
    go_enter Try.func17, Try.ntmps17
    go_wp2_with fail
    go_ret2
    exact ⟨rfl, rfl⟩
section
variable {w : World} {B x m mi s : Nat} {K : List Int} {bm gb gn gp cb cn cp : Nat} {BL : List Int} {NX PV : List Nat} {f : Int → Option Value} {S : List Nat}
theorem touch_mem {K : List Int} {m : Nat} {b : Int} (h : ∀ y ∈ K, 0 ≤ y ∧ y ≤ 1048576) (hb : 0 ≤ b ∧ b ≤ 1048576) : ∀ y ∈ (touchL K m b).1, 0 ≤ y ∧ y ≤ 1048576 := by
  intro y hy
  unfold touchL at hy
  split at hy
  · rcases List.mem_cons.1 hy with rfl | hy
    · exact hb
    · exact h y ((List.eraseIdx_sublist _ _).mem hy)
  · rcases List.mem_cons.1 hy with rfl | hy
    · exact hb
    · split at hy
      · exact h y (List.mem_of_mem_take hy)
      · exact h y hy
set_option maxRecDepth 100000 in
set_option maxHeartbeats 4000000 in
theorem Touch_hit (h : CX w B x m mi s K bm gb gn gp cb cn cp BL NX PV f S) (b : Int) (hb0 : 0 ≤ b) (hb1 : b ≤ 1048576) (hb : b ∈ K) :
    Calls Try.prog 17 #[.pointer (some ⟨x, 0, none⟩), .int .i64 b] w (TPost w B x m mi K b bm gb gn gp) := by
  obtain ⟨i, p, n, hd, hf, hi0, hi, e1, e2, hpi, hni, hp, hn, e3, hhi, hh, S', hR, ht⟩ := h.rg.hit hb m
  obtain ⟨_, _, k2, _, _, _⟩ := six_cells h.cl.kx
  have hlook := h.mp.look_ok under50 plainI (wfI_of (k := b) (by omega) (by omega))
  rw [hf] at hlook
  simp only [Option.getD_some, Option.isSome_some] at hlook
  have hcut := cut_R h.cl hi e1 e2 hpi hni hp hn
  have hsm := h.hs
  have hm := h.hm
  have H := Lib.hid h
  have HR := Lib.hid hR
  have Ht := Lib.hid ht
  have E3' := Lib.hid e3
  clear h hR ht e1 e2 e3 hf hpi hni
  go_enter Try.func17, Try.ntmps17
  go_wp2_with (first | (refine hcut.mono ?_; rintro e w2 ⟨rfl, C2, F2⟩; replace C2 := Lib.hid C2; replace F2 := Lib.hid F2; clear hcut) | (refine (front_R C2.out hi hi0 E3'.out hhi hh (by omega)).mono ?_; rintro e w3 ⟨rfl, C3, F3⟩; replace C3 := Lib.hid C3; replace F3 := Lib.hid F3))
  go_ret2
  have hm2 := H.out.dm
  have FF : Fr (onG gn gp) w w3 := F2.out.trans F3.out (fun _ _ h => h)
  unfold TPost
  refine ⟨s, gb, gn, gp, cb, cn, cp, BL, ((NX.set p n).set i hd).set 0 i, ((PV.set n p).set i 0).set hd i, f, S', by rw [Ht.out]; rfl, ?_, FF.mono (fun k _ h => on5_G h), fun k hk => .inl hk⟩
  rw [Ht.out]
  exact ⟨C3.out, H.out.mp.fr FF (fun h => by rcases h with h | h; · exact hm2.1 h
                                             · exact hm2.2.1 h), HR.out, H.out.dm, H.out.bb, H.out.hs, H.out.hm1, H.out.hm, touch_mem H.out.hK ⟨hb0, hb1⟩⟩
end
end Go.Proofs.Ytnlgjpcnnnilpaa
