/- splay. -/
import Derived.Test.YtfeokafjehpgnaaW15
namespace Go.Proofs.Ytfeokafjehpgnaa
open Go.RowKit Go.Shelf
theorem up_all {n : Nat} {V : K.Vs} (g : GV n V) {y : Nat} {l : List Nat} (h : K.UpRun V y l) : y ≤ n → y ≠ 0 → ∀ z ∈ l, z ≤ n ∧ z ≠ 0 := by
  induction h with
  | done _ => intro hy hy0 z hz; rw [List.mem_singleton.1 hz]; exact ⟨hy, hy0⟩
  | @up y l ht hr ih =>
    intro hy hy0 z hz
    rcases List.mem_cons.1 hz with e | e
    · rw [e]; exact ⟨hy, hy0⟩
    · refine ih (g.up y hy) ?_ z e
      intro e0
      unfold K.topB at ht
      rw [e0] at ht
      simp at ht
theorem inBlock_exit {id : Nat} {Q : Exit → Act → World → Prop} {a : Act} {w : World} (h : Q .normal a w) : Exit.inBlock id Q (.exit id) a w := by
  unfold Exit.inBlock
  simpa using h
theorem wpIn_step {F : Fence} {n : Nat} {P : Program} {c : Code} {R : Act → World → Prop} {Q : Exit → Act → World → Prop} {a : Act} {w : World} (h : c.wpIn F n P (Exit.then R fun _ _ _ => False) a w) (hQ : ∀ a w, R a w → Q .normal a w) : c.wpIn F n P Q a w := by
  refine wpIn_mono h (fun e a w he => ?_)
  cases e with
  | normal => exact hQ a w he
  | _ => exact he.elim
set_option maxRecDepth 100000 in
set_option maxHeartbeats 1000000 in
theorem splay_any (w : World) {f b n : Nat} {s : Int} {V Vf : K.Vs} {x k N : Nat} (h : FS w f b n s V) (g : GV n V) (hx : x ≤ n) (hx0 : x ≠ 0) (hs : K.Splay (GV n) N V x k Vf) (hN : N ≤ 900) (hs1 : -4611686018427387904 ≤ s) (hs2 : s + k ≤ 4611686018427387904) :
    Calls Try.prog 53 #[.pointer (some ⟨f, 0, none⟩), .int .i64 x] w fun e w' => e = .returned (.tuple #[]) ∧ FS w' f b n (s + k) Vf ∧ Fr (onFB f b) w w' := by
  obtain ⟨l, hu, hl, hk, hsp⟩ := hs
  have hall := up_all g hu hx hx0
  refine (callsIn_wide (n := 3)).1 ?_
  refine callsIn_of_wp_marks Try.func53 rfl trivial ?_
  simp only [Try.ntmps53, List.size_toArray, List.length_cons, List.length_nil, Nat.reduceAdd, Nat.reduceSub, Array.replicate_succ, Array.replicate_zero, List.push_toArray, List.append_toArray, List.nil_append, List.cons_append]
  refine wpIn_seq (wpIn_wide.2 (wp_step (spl_r0 rfl h) (fun a0 W0 k0 => ?_)))
  obtain ⟨e0, S0⟩ := k0
  refine wpIn_seq (wpIn_wide.2 (wp_step (spl_r1 e0 S0) (fun a1 W1 k1 => ?_)))
  obtain ⟨pa, pc, k1⟩ := k1
  refine wpIn_seq (wpIn_wide.2 ?_)
  refine wp_seq (wp_step (spl_r2 k1.1 k1.2.2 hx) (fun a2 W2 k2 => ?_))
  refine wp_block (wp_loop_rounds l.length (up_rounds g hx hu [] pa 1 pc a2 W2 hx (by omega) k2 (fun pa pn pc z a3 W3 k3 => ?_)))
  rw [List.nil_append] at k3
  refine inBlock_exit ?_
  refine (show Code.wpIn _ _ _ _ _ _ _ from ?_)
  refine wpIn_seq (wpIn_seq (wpIn_wide.2 (wp_step (spl_r6 k3.1 k3.2.2) (fun a4 W4 k4 => ?_))))
  obtain ⟨Bs, ⟨B1, B2, B3, B4⟩, k4⟩ := k4
  have hln : l.length = pn := by have := k4.2.2.path.len; unfold nats at this; simpa using this
  have hpos : 0 < pn := by
    rw [← hln]
    cases hu with
    | done _ => simp
    | up _ _ => simp
  obtain ⟨pb, hpb, _⟩ := k4.2.2.path.at hpos
  subst hpb
  subst hln
  refine wpIn_step (spl_range k4.1 (k4.2.1 (by decide)) k4.2.2 g B1 B2 hall hx hx0 (by omega)) (fun a5 W5 k5 => ?_)
  obtain ⟨d, k5⟩ := k5
  obtain ⟨m, hm⟩ := sp_rounds (w := w) (f := f) (b := b) (n := n) (x := x) (bx := w.heap.size) (c5 := .int .i64 (z : Nat)) (c7 := undef) (pa := some ⟨pb, 0, none⟩) (pn := l.length) (pc := pc) (vs := l) (Ds := [d]) (ds := [{ target := .collected d, args := #[] }]) (Q := Exit.inBlock 4 (bodyPostM Fence.wide 3 Try.prog Try.f53 fun e w' => e = .returned (.tuple #[]) ∧ FS w' f b n (s + k) Vf ∧ Fr (onFB f b) w w')) hx hsp s (g.pushes _) hs1 hs2 (fun c8 c9 a6 W6 k6 => by
    refine inBlock_exit ?_
    rw [k6.1]
    obtain ⟨d1, d2⟩ := k6.2.2.dq d (List.mem_singleton.2 rfl)
    have hf := k6.2.2.hf
    have hb := k6.2.2.hb
    refine ⟨by simp, .inl ⟨_, _, rfl, run_takeDeferred d2, ?_⟩⟩
    refine ⟨_, results_none rfl _ _ _, rfl, ?_, ?_⟩
    · have F : Fr (fun i => i = d) W6 (W6.putObj d (.deferred none)) := ⟨rfl, rfl, rfl, by simp, fun i hi hn => World.putObj_heap_other (fun e => hn e)⟩
      exact k6.2.2.fs.fr F (by omega) (by omega)
    · have F : Fr (fun i => i = d) W6 (W6.putObj d (.deferred none)) := ⟨rfl, rfl, rfl, by simp, fun i hi hn => World.putObj_heap_other (fun e => hn e)⟩
      exact k6.2.2.fr.trans F (fun i hi e => by omega))
  exact wpIn_wide.2 (wp_block (wp_loop_rounds m (hm _ _ _ _ k5)))
end Go.Proofs.Ytfeokafjehpgnaa
