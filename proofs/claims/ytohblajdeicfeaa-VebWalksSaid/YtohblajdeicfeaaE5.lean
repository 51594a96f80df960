/- parts. -/
import Derived.Test.YtohblajdeicfeaaE4
namespace Go.Proofs.Ytohblajdeicfeaa
open Go.RowKit
attribute [local go_sem ↓] Go.wp_at_zero Go.wp_at_succ
theorem zero55 : ∀ w : World, (zeroValue 55).run Try.prog w = .ok (.pointer none) w := fun w => by kernel_rfl
theorem T69 : Try.prog.underlying 69 = some (.map 3 55) := by kernel_rfl
/-- 'm[k]' at the operation. -/
theorem wpMapLookP {w : World} {b n : Nat} {f : Int → Option Value} (h : MapP w b n f) {k : Int} (hk : wfI k) (v : Value) (hv : (f k).getD (.pointer none) = v)
    {ops : Array Oper} {rest : List Oper} {act : Act} {Q : Exit → Act → World → Prop} {dst : Option Tmp} {ty : TypeId} {pos : String} {after : Array Edge} {m x : Operand}
    (hm : act.eval m = .map (some b)) (hx : act.eval x = .int .i64 k)
    (K : wpList Try.prog ops Q rest (act.put dst v) w) :
    wpList Try.prog ops Q ({ dst, op := .lookup 69 m x false, type := ty, pos, after, guard := none } :: rest) act w := by
  subst hv
  refine wpList_plain rfl fun K' hK' => ?_
  have hrun := h.look T69 zero55 hk
  unfold Oper.wp
  simp [execOp, hm, hx, hrun, Result.andThen]
  exact hK' _ _ K
def PtPost (d : Nat) (w : World) (k b : Nat) (mn mx : Int) (R N : Nat → Prop) (h : Nat) (e : Ending) (w' : World) : Prop :=
  ∃ sb c mb n M Ns Nc, e = .returned (.tuple #[.pointer (some ⟨sb, 0, none⟩), .pointer (some ⟨c, 0, none⟩)]) ∧ Blk w' b 71 (ndC k mn mx 0 (some ⟨sb, 0, none⟩) (some mb)) ∧ Parts (VT d) w' k b sb mb n M R (Grw N w w') Ns Nc ∧ M h = some c ∧ Fr N w w'
theorem wfN {h : Nat} (hh : h < 2 ^ 40) : wfI (h : Int) := wfI_of (by omega) (by omega)
theorem h40 {k h : Nat} (h20 : k ≤ 20) (hh : h < 2 ^ (k - k / 2)) : h < 2 ^ 40 := Nat.lt_of_lt_of_le hh (Nat.pow_le_pow_right (by decide) (by omega))
set_option maxHeartbeats 1000000 in
theorem parts_have {d k b sb mb n h c : Nat} {w : World} {mn mx : Int} {M : Nat → Option Nat} {R N Ns : Nat → Prop} {Nc : Nat → Nat → Prop} (hb : Blk w b 71 (ndC k mn mx 0 (some ⟨sb, 0, none⟩) (some mb))) (P : Parts (VT d) w k b sb mb n M R N Ns Nc)
    (h20 : k ≤ 20) (hh : h < 2 ^ (k - k / 2)) (hM : M h = some c) :
    Calls Try.prog 52 #[.pointer (some ⟨b, 0, none⟩), .int .i64 h] w (PtPost d w k b mn mx R N h) := by
  have HB := Lib.hid hb
  have HP := Lib.hid P
  have HM := Lib.hid hM
  have y4 : w.cell? ⟨b, 4, none⟩ = some (.pointer (some ⟨sb, 0, none⟩)) := hb.cell (i := 4) rfl
  have y5 : w.cell? ⟨b, 5, none⟩ = some (.map (some mb)) := hb.cell (i := 5) rfl
  have hwf := Lib.hid (wfN (h40 h20 hh))
  have hv := Lib.hid (show (ptrM M (h : Int)).getD (.pointer none) = .pointer (some ⟨c, 0, none⟩) by rw [ptrM_nat, hM]; rfl)
  clear hb P hM hh h20
  go_enter Try.func52, Try.ntmps52
  go_wp2_with (at_lookup; refine wpMapLookP HP.out.map hwf.out _ hv.out rfl rfl ?_)
  go_ret2
  exact ⟨sb, c, mb, n, M, Ns, Nc, rfl, HB.out, HP.out.big (fun q hq => .inl hq) (Grw.lt HP.out.lt (Nat.le_refl _)), HM.out, Fr.refl _ _⟩
set_option maxHeartbeats 1000000 in
theorem parts_more {d k b sb mb n h : Nat} {w : World} {mn mx : Int} {M : Nat → Option Nat} {R N Ns : Nat → Prop} {Nc : Nat → Nat → Prop} (hb : Blk w b 71 (ndC k mn mx 0 (some ⟨sb, 0, none⟩) (some mb))) (P : Parts (VT d) w k b sb mb n M R N Ns Nc)
    (hk : k ≤ 6 * 2 ^ (d + 1)) (h20 : k ≤ 20) (hh : h < 2 ^ (k - k / 2)) (hM : M h = none) :
    Calls Try.prog 52 #[.pointer (some ⟨b, 0, none⟩), .int .i64 h] w (PtPost d w k b mn mx R N h) := by
  have HB := Lib.hid hb
  have HP := Lib.hid P
  have HM := Lib.hid hM
  have HH := Lib.hid (And.intro hk (And.intro h20 hh))
  have y4 : w.cell? ⟨b, 4, none⟩ = some (.pointer (some ⟨sb, 0, none⟩)) := hb.cell (i := 4) rfl
  have y5 : w.cell? ⟨b, 5, none⟩ = some (.map (some mb)) := hb.cell (i := 5) rfl
  have hwf := Lib.hid (wfN (h40 h20 hh))
  have hv := Lib.hid (show (ptrM M (h : Int)).getD (.pointer none) = .pointer none by rw [ptrM_nat, hM]; rfl)
  have hlb : b < w.heap.size := lt_of_block hb
  have hn : n < 9223372036854775807 := by
    have h1 := cntM_le M (2 ^ (k - k / 2))
    have h2 : (2 : Nat) ^ (k - k / 2) ≤ 2 ^ 20 := Nat.pow_le_pow_right (by decide) (by omega)
    have := P.cnt
    omega
  have HN := Lib.hid hn
  clear hb P hM hh h20 hk hn
  go_enter Try.func52, Try.ntmps52
  go_wp2_with (first
    | (at_lookup; refine wpMapLookP HP.out.map hwf.out _ hv.out rfl rfl ?_)
    | (go_at_call 57; refine (half_any HB.out HH.out.2.1).mono ?_; rintro e w1 ⟨rfl, rfl⟩)
    | (go_at_call 47; refine (newTree_any _ _).mono ?_; rintro e w1 ⟨rfl, rfl⟩)
    | (at_mapUpdate; refine wpMapStoreP (HP.out.map.fr ((Fr.refl F0 w).alloc (.cells #[.int .i64 ((k / 2 : Nat) : Int), .int .i64 (-1), .int .i64 (-1), .int .u64 0, .pointer none, .map none] 71)) id) T69 HN.out hwf.out ⟨_, ptrR_some _⟩ rfl rfl rfl ?_; intro w2 HM2 F2; have c4 : w2.cell? ⟨b, 4, none⟩ = some (.pointer (some ⟨sb, 0, none⟩)) := F2.cell (((Fr.refl F0 w).alloc _).cell y4 id) HP.out.bm))
  go_ret2
  have hM0 : ((ptrM M (h : Int)).isSome = true) = False := by rw [ptrM_nat, HM.out]; simp
  simp only [hM0, if_false] at HM2
  have fr2 : Fr (onB mb) w w2 := ((Fr.refl (onB mb) w).alloc _).trans F2 (fun _ _ h => h)
  have hsz := F2.size
  simp only [size_alloc] at hsz
  refine ⟨sb, w.heap.size, mb, n + 1, setM M h w.heap.size, Ns, _, rfl, HB.out.fr fr2 HP.out.bm, HP.out.more HH.out.1 HH.out.2.1 HH.out.2.2 HM.out ((Blk.new w 71 (ndC (k / 2) (-1) (-1) 0 none none)).fr F2 (fun e => ?_)) (Nat.le_refl _) fr2 (fun q e _ => .inl e) HM2 (fun q hq => .inl hq) (.inr ⟨Nat.le_refl _, by omega⟩) (Grw.lt HP.out.lt (by omega)), by simp [setM], fr2.mono (fun q _ (e : q = mb) => e ▸ HP.out.nm)⟩
  have := HP.out.lt mb HP.out.nm
  have e' : w.heap.size = mb := e
  omega
set_option maxHeartbeats 1000000 in
theorem parts_first {d k b h : Nat} {w : World} {mn mx : Int} {R N : Nat → Prop} (hb : Blk w b 71 (ndC k mn mx 0 none none)) (hR : ∀ x, ¬ R x) (hN : N b) (hl : ∀ q, N q → q < w.heap.size)
    (hk : k ≤ 6 * 2 ^ (d + 1)) (h20 : k ≤ 20) (h6 : 6 < k) (hh : h < 2 ^ (k - k / 2)) :
    Calls Try.prog 52 #[.pointer (some ⟨b, 0, none⟩), .int .i64 h] w (PtPost d w k b mn mx R N h) := by
  have HB := Lib.hid hb
  have HH := Lib.hid (And.intro hk (And.intro h20 hh))
  have HN := Lib.hid (And.intro hR (And.intro hN hl))
  have y0 : w.cell? ⟨b, 0, none⟩ = some (.int .i64 k) := hb.cell (i := 0) rfl
  have y4 : w.cell? ⟨b, 4, none⟩ = some (.pointer none) := hb.cell (i := 4) rfl
  have y5 : w.cell? ⟨b, 5, none⟩ = some (.map none) := hb.cell (i := 5) rfl
  have z4 := hb.free 4
  have z5 := hb.free 5
  have hwf := Lib.hid (wfN (h40 h20 hh))
  have hlb : b < w.heap.size := lt_of_block hb
  have hmm := @run_makeMap Try.prog
  have hws : IntKind.i64.wrap ((k : Int) - (k : Int) / 2) = ((k - k / 2 : Nat) : Int) := by
    have e : (k : Int) - (k : Int) / 2 = ((k - k / 2 : Nat) : Int) := by omega
    rw [e, IntKind.wrap_i64]
    omega
  clear hb hR hN hl hh hk
  go_enter Try.func52, Try.ntmps52
  go_wp2_with fail
  go_region_with (first | (go_at_call 57; refine (half_any HB.out.drew h20).mono ?_; rintro e w1 ⟨rfl, rfl⟩) | (go_at_call 47; refine (newTree_any _ _).mono ?_; rintro e w1 ⟨rfl, rfl⟩))
  all_goals
    obtain ⟨W, hW⟩ : ∃ W, W = ((w.setCell ⟨b, 4, none⟩ (.pointer (some ⟨w.heap.size, 0, none⟩))).alloc (.cells #[.int .i64 ((k - k / 2 : Nat) : Int), .int .i64 (-1), .int .i64 (-1), .int .u64 0, .pointer none, .map none] 71)).drew := ⟨_, rfl⟩
    rw [← hW]
    have HB1 : Hid (Blk W b 71 (ndC k mn mx 0 (some ⟨w.heap.size, 0, none⟩) none)) := by rw [hW]; exact Lib.hid ((HB.out.set 4 _).alloc _)
    have HS1 : Hid (Blk W w.heap.size 71 (ndC (k - k / 2) (-1) (-1) 0 none none)) := by
      rw [hW]
      have h := Blk.new (w.setCell ⟨b, 4, none⟩ (.pointer (some ⟨w.heap.size, 0, none⟩))) 71 (ndC (k - k / 2) (-1) (-1) 0 none none)
      rw [show (w.setCell ⟨b, 4, none⟩ (.pointer (some ⟨w.heap.size, 0, none⟩))).heap.size = w.heap.size by simp] at h
      exact Lib.hid h
    have HF1 : Hid (Fr (onB b) w W) := by rw [hW]; exact Lib.hid ((((Fr.refl (onB b) w).setB 4 _).alloc _).drew)
    have hs1 : W.heap.size = w.heap.size + 1 := by rw [hW]; show (World.alloc _ _).heap.size = _; rw [size_alloc]; simp
    clear hW y0 y4 y5 z4 z5 hws HB
    have y0 : W.cell? ⟨b, 0, none⟩ = some (.int .i64 k) := HB1.out.cell (i := 0) rfl
    have y4 : W.cell? ⟨b, 4, none⟩ = some (.pointer (some ⟨w.heap.size, 0, none⟩)) := HB1.out.cell (i := 4) rfl
    have y5 : W.cell? ⟨b, 5, none⟩ = some (.map none) := HB1.out.cell (i := 5) rfl
    have z5 := HB1.out.free 5
    have hb1 : b < W.heap.size := lt_of_block HB1.out
    have hne : b ≠ W.heap.size := by omega
    have HM1 : Hid (MapP ((W.setCell ⟨b, 5, none⟩ (.map (some W.heap.size))).alloc (.map #[] 0)) W.heap.size 0 (fun _ => none)) := by
      have h := MapP.made (W.setCell ⟨b, 5, none⟩ (.map (some W.heap.size)))
      rw [show (W.setCell ⟨b, 5, none⟩ (.map (some W.heap.size))).heap.size = W.heap.size by simp] at h
      exact Lib.hid h
    have HH1 := Lib.hid hs1
    clear hs1
    go_wp2_with (first
      | (at_lookup; refine wpMapLookP HM1.out hwf.out _ rfl rfl rfl ?_)
      | (go_at_call 57; refine (half_any (((HB1.out.set 5 (.map (some W.heap.size)))).alloc _) h20).mono ?_; rintro e w1 ⟨rfl, rfl⟩)
      | (go_at_call 47; refine (newTree_any _ _).mono ?_; rintro e w1 ⟨rfl, rfl⟩)
      | (at_mapUpdate; refine wpMapStoreP (HM1.out.fr ((Fr.refl F0 _).alloc (.cells #[.int .i64 ((k / 2 : Nat) : Int), .int .i64 (-1), .int .i64 (-1), .int .u64 0, .pointer none, .map none] 71)) id) T69 (by omega) hwf.out ⟨_, ptrR_some _⟩ rfl rfl rfl ?_; intro w2 HM2 F2; have B2 : Hid (Blk w2 b 71 (ndC k mn mx 0 (some ⟨w.heap.size, 0, none⟩) (some W.heap.size))) := Lib.hid ((((HB1.out.set 5 _).alloc _).alloc _).fr F2 hne); have c4 : w2.cell? ⟨b, 4, none⟩ = some (.pointer (some ⟨w.heap.size, 0, none⟩)) := B2.out.cell (i := 4) rfl))
    go_ret2
    have hs1 := HH1.out
    obtain ⟨hR, hN, hl⟩ := HN.out
    obtain ⟨q1, q2, q3⟩ := HH.out
    have e1 : ((W.setCell ⟨b, 5, none⟩ (.map (some W.heap.size))).alloc (.map #[] 0)).heap.size = W.heap.size + 1 := by rw [size_alloc]; simp
    have hsz := F2.size
    rw [size_alloc, e1] at hsz
    have hmsz : W.heap.size ≠ W.heap.size + 1 := by omega
    have fb5 := ((Fr.refl (onB b) W).setB 5 (.map (some W.heap.size))).alloc (.map #[] 0)
    have P0 : Parts (VT d) ((W.setCell ⟨b, 5, none⟩ (.map (some W.heap.size))).alloc (.map #[] 0)) k b w.heap.size W.heap.size 0 (fun _ => none) R (fun q => N q ∨ (w.heap.size ≤ q ∧ q < W.heap.size + 1)) (fun q => q = w.heap.size) (fun _ _ => False) :=
      Parts.first q1 q2 h6 (HS1.out.fr fb5 (fun (e : w.heap.size = b) => by omega)) HM1.out hR (.inl hN) (.inr ⟨Nat.le_refl _, by omega⟩) (.inr ⟨by omega, by omega⟩) hne (by omega) (by omega) (fun q hq => by
        rw [e1]
        rcases hq with hq | hq
        · have := hl q hq; omega
        · exact hq.2)
    have F2' : Fr (onB W.heap.size) ((W.setCell ⟨b, 5, none⟩ (.map (some W.heap.size))).alloc (.map #[] 0)) w2 := ((Fr.refl (onB W.heap.size) _).alloc _).trans F2 (fun _ _ h => h)
    have B3 : Blk w2 (W.heap.size + 1) 71 (ndC (k / 2) (-1) (-1) 0 none none) := by
      have h := Blk.new ((W.setCell ⟨b, 5, none⟩ (.map (some W.heap.size))).alloc (.map #[] 0)) 71 (ndC (k / 2) (-1) (-1) 0 none none)
      rw [e1] at h
      exact h.fr F2 (fun (e : W.heap.size + 1 = W.heap.size) => by omega)
    have HM3 : MapP w2 W.heap.size (0 + 1) (setV (ptrM fun _ => none) (h : Int) (some (.pointer (some ⟨W.heap.size + 1, 0, none⟩)))) := by
      have e : (ptrM fun _ => none) = fun _ => none := by funext x; unfold ptrM; split <;> rfl
      rw [e]; exact HM2
    have P1 := P0.more (N' := Grw N w w2) q1 q2 q3 rfl B3 (by rw [e1]; exact Nat.le_refl _) F2' (fun q e _ => .inl e) HM3 (fun q hq => by
        rcases hq with hq | hq
        · exact .inl hq
        · exact .inr ⟨hq.1, by omega⟩) (.inr ⟨by omega, by omega⟩) (Grw.lt hl (by omega))
    refine ⟨w.heap.size, W.heap.size + 1, W.heap.size, _, _, _, _, rfl, B2.out, P1, by simp [setM], ?_⟩
    have g1 : Fr N w W := HF1.out.mono (fun q _ (e : q = b) => e ▸ hN)
    have g2 : Fr N W ((W.setCell ⟨b, 5, none⟩ (.map (some W.heap.size))).alloc (.map #[] 0)) := fb5.mono (fun q _ (e : q = b) => e ▸ hN)
    exact (g1.trans g2 (fun _ _ h => h)).trans F2' (fun q hq (e : q = W.heap.size) => by omega)
theorem Fr.upN {N : Nat → Prop} {w w' : World} {b : Nat} (h : Fr (onB b) w w') (hN : N b) : Fr N w w' := h.mono (fun q _ (e : q = b) => e ▸ hN)
theorem parts_any {d k b h : Nat} {w : World} {mn mx : Int} {sp : Option Addr} {mp : Option Nat} {S N : Nat → Prop} (B : Bg (VT d) w k b S N mn mx sp mp) (hk : k ≤ 6 * 2 ^ (d + 1)) (hh : h < 2 ^ (k - k / 2)) :
    Calls Try.prog 52 #[.pointer (some ⟨b, 0, none⟩), .int .i64 h] w (PtPost d w k b mn mx (Rest S mn) N h) := by
  rcases B.parts with ⟨rfl, rfl, hR⟩ | ⟨sb, mb, n, M, Ns, Nc, rfl, rfl, P⟩
  · exact parts_first B.blk hR B.nb B.lt hk B.k20 B.k7 hh
  · cases hM : M h with
    | none => exact parts_more B.blk P hk B.k20 hh hM
    | some c => exact parts_have B.blk P B.k20 hh hM
end Go.Proofs.Ytohblajdeicfeaa
