/- splay: its range over slices.Backward. -/
import Derived.Test.YtfeokafjehpgnaaW14
namespace Go.Proofs.Ytfeokafjehpgnaa
open Go.RowKit Go.Shelf
attribute [local go_sem] Oper.semAt_some
theorem FS.cells_f {w : World} {f b n : Nat} {s : Int} {V : K.Vs} (h : FS w f b n s V) {o : Obj} (ho : w.heap[f]? = some o) : o.isCells = true := by
  have := h.fb
  unfold Blk at this
  rw [this] at ho
  injection ho with ho
  rw [← ho]; rfl
theorem FS.cells_b {w : World} {f b n : Nat} {s : Int} {V : K.Vs} (h : FS w f b n s V) {o : Obj} (ho : w.heap[b]? = some o) : o.isCells = true := by
  obtain ⟨_, _, h2⟩ := h.vb
  rw [h2] at ho
  injection ho with ho
  rw [← ho]; rfl
theorem Own.cellsB {w : World} {B : Nat} {T : TypeId} {a : Option Addr} {n c : Nat} {vs : List Value} (h : Own w B T a n c vs) {k : Nat} (hk : onBlk a k) {o : Obj} (ho : w.heap[k]? = some o) : o.isCells = true := by
  rcases h.2 with ⟨hv, _⟩ | ⟨g, cap, cur, hv, hb, hh, _⟩
  · injection hv with ha
    rw [ha] at hk
    exact absurd hk (onBlk_none _)
  · injection hv with ha
    rw [ha] at hk
    have := (onBlk_some _ _ _ _).1 hk
    subst this
    rw [hh] at ho
    injection ho with ho
    rw [← ho]; rfl
theorem SS.grown {w W W' : World} {f b n : Nat} {s : Int} {V : K.Vs} {bx : Nat} {pa : Option Addr} {pn pc : Nat} {vs : List Nat} (h : SS w W f b n s V bx pa pn pc vs []) {row : Option Nat} (hg : W.grownBy W' row) (hr : ∀ r, row = some r → w.heap.size ≤ r ∧ ∃ o : Obj, W.heap[r]? = some o ∧ o.isCells = false) :
    SS w W' f b n s V bx pa pn pc vs [] := by
  have F : Fr (fun k => row = some k) W W' := ⟨hg.os, hg.tape, hg.output, hg.size, fun k hk hn => hg.block k hk (fun e => hn e.symm)⟩
  have key : ∀ k, (∀ o : Obj, W.heap[k]? = some o → o.isCells = true) → ¬ (row = some k) := by
    intro k hk e
    obtain ⟨_, o, ho, hc⟩ := hr k e
    rw [hk o ho] at hc
    cases hc
  refine ⟨h.fs.fr F (key f fun o => h.fs.cells_f) (key b fun o => h.fs.cells_b), ⟨F.os.trans h.fr.os, F.tape.trans h.fr.tape, F.output.trans h.fr.output, Nat.le_trans h.fr.size F.size, fun k hk hn => ?_⟩, h.one.fr F (key bx fun o ho => ?_), h.hbx, h.path.fr F (fun k hk => key k fun o => h.path.cellsB hk), h.ap, h.hf, h.hb, fun d hd => by cases hd⟩
  · refine (F.block k (Nat.lt_of_lt_of_le hk h.fr.size) (fun e => ?_)).trans (h.fr.block k hk hn)
    have := (hr k e).1
    omega
  · have h2 := h.one
    unfold One at h2
    rw [h2] at ho
    injection ho with ho
    rw [← ho]; rfl
theorem One.grown {w w' : World} {k T : Nat} {v : Value} (h : One w k T v) {row : Option Nat} (hg : w.grownBy w' row) (hr : ∀ r, row = some r → ∃ o : Obj, w.heap[r]? = some o ∧ o.isCells = false) : One w' k T v := by
  refine (hg.block k h.lt (fun e => ?_)).trans h
  obtain ⟨o, ho, hc⟩ := hr k e.symm
  have h2 := h
  unfold One at h2
  rw [h2] at ho
  injection ho with ho
  rw [← ho] at hc
  cases hc
theorem GV.pushes {n : Nat} : ∀ (l : List Nat) {V : K.Vs}, GV n V → GV n (l.foldl K.pushF V)
  | [], _, g => g
  | x :: l, _, g => GV.pushes l (g.push x)
/-- A vertex and its place in a path. -/
abbrev PV (n : Nat) : Type := { p : Nat × Nat // p.2 ≤ n ∧ p.2 ≠ 0 }
theorem SF_defers {f x : Nat} {c2 c4 c5 c7 c8 c9 : Value} {a : Act} (ha : a = SF f x c2 c4 c5 c7 c8 c9 [] (gOf a)) (ds : List Deferred) : { a with defers := ds } = SF f x c2 c4 c5 c7 c8 c9 ds (gOf { a with defers := ds }) := by
  have h1 : a.tmps = (SF f x c2 c4 c5 c7 c8 c9 [] (gOf a)).tmps := congrArg Act.tmps ha
  show Act.mk a.tmps ds = Act.mk (SF f x c2 c4 c5 c7 c8 c9 [] (gOf a)).tmps ds
  rw [← h1]
set_option maxRecDepth 100000 in
set_option maxHeartbeats 1000000 in
theorem spl_range {w W : World} {f b n : Nat} {s : Int} {V : K.Vs} {x bx Bs pb pc : Nat} {vs : List Nat} {c5 c7 c8 c9 : Value} {a : Act}
    (ha : a = SF f x (.pointer (some ⟨bx, 0, none⟩)) (.slice (some ⟨pb, 0, none⟩) vs.length pc) c5 c7 c8 c9 [] (gOf a)) (hk : gOf a 30 = .func (.func 68) #[] #[.pointer (some ⟨Bs, 0, none⟩)])
    (S : SS w W f b n s V bx (some ⟨pb, 0, none⟩) vs.length pc vs []) (g : GV n V) (hB : One W Bs 22 (.slice (some ⟨pb, 0, none⟩) vs.length pc)) (hB1 : w.heap.size ≤ Bs) (hall : ∀ y ∈ vs, y ≤ n ∧ y ≠ 0) (hx : x ≤ n) (hx0 : x ≠ 0) (hv : vs.length ≤ 1000) :
    (Code.block 2 (.rangeFunc (.tmp 30) #[31, 32] (rg53 7) (.block 3 (rg53 8)))).wpIn Fence.wide 3 Try.prog (Exit.then (fun a D => ∃ d, SO w f b n s (vs.reverse.foldl K.pushF V) x bx (some ⟨pb, 0, none⟩) vs.length pc vs [d] c5 c7 c8 c9 [{ target := .collected d, args := #[] }] 0 undef a D) fun _ _ _ => False) a W := by
  obtain ⟨el, hel⟩ : ∃ el : Nat → PV n, ∀ m, m < vs.length → (el m).1 = (m, vs.getD m 0) := by
    refine ⟨fun m => if h : m < vs.length then ⟨(m, vs.getD m 0), ?_⟩ else ⟨(0, x), hx, hx0⟩, fun m hm => ?_⟩
    · have : vs.getD m 0 ∈ vs := by rw [List.getD_eq_getElem?_getD, List.getElem?_eq_getElem h]; exact List.getElem_mem h
      exact hall _ this
    · dsimp only
      rw [dif_pos hm]
  have hpl : pb < W.heap.size := (S.path.blk pb ((onBlk_some _ _ _ _).2 rfl)).2
  have hBl := hB.lt
  have hcs : ∀ j, j < vs.length → W.cell? ⟨pb, j, none⟩ = some (.int .i64 (vs.getD j 0 : Nat)) := by
    intro j hj
    obtain ⟨_, _, e, hc⟩ := S.path.rd.cells (by omega)
    injection e with e
    injection e with e1 e2
    subst e1
    subst e2
    have := hc j (.int .i64 (vs.getD j 0 : Nat)) (by unfold nats; simp [List.getD_eq_getElem?_getD, List.getElem?_eq_getElem hj])
    rwa [Nat.zero_add] at this
  have seq := back_stops (fun q : PV n => q.1) el Fence.wide 2 trivial rfl (by omega) Bs pb pc vs (by omega) hel W hBl hpl hB.cell hcs
  have hrv : (came el vs.length 0).map (fun q => q.1.2) = vs.reverse := came_rev el (fun q => q.1.2) vs (fun m hm => by rw [hel m hm])
  have heval : a.eval (.tmp 30) = .func (.func 68) #[] #[.pointer (some ⟨Bs, 0, none⟩)] := hk
  have hf := S.hf
  have hb := S.hb
  have hsz := S.fr.size
  refine wpIn_block ?_
  refine wpIn_rangeFunc_ownF (n := 3) rfl (by omega) (gf := 68) (lb := #[.pointer (some ⟨Bs, 0, none⟩)]) heval trivial (enters_of Try.func68 (by kernel_rfl) rfl) seq (fun h k => KP.trans h k)
    (fun A l o o' hl ho hc _ => ⟨World.putObj_heap_other (by omega), World.putObj_heap_other (by omega)⟩) (Below.refl _ _) (fun _ => rfl)
    (fun (pre : List (PV n)) A => SS w A f b n s ((pre.map fun q : PV n => q.1.2).foldl K.pushF V) bx (some ⟨pb, 0, none⟩) vs.length pc vs [] ∧ One A Bs 22 (.slice (some ⟨pb, 0, none⟩) vs.length pc))
    (fun _ _ _ => False)
    (fun pre A A' row hs hg hr => ⟨hs.1.grown hg (fun r e => ⟨Nat.le_trans hsz (hr r e).1, (hr r e).2⟩), ?_⟩)
    (fun _ _ _ _ _ hs _ _ => hs)
    ⟨S, hB⟩
    (fun q : PV n => SF f x (.pointer (some ⟨bx, 0, none⟩)) (.slice (some ⟨pb, 0, none⟩) vs.length pc) c5 (.int .i64 (q.1.2 : Nat)) c8 c9 [] (fun i => if i = 31 then .int .i64 (q.1.1 : Nat) else if i = 32 then .int .i64 (q.1.2 : Nat) else gOf a i)) ?assign ?body ?done ?stop
  · exact hs.2.grown hg (fun r e => (hr r e).2)
  case assign =>
    intro l q A K hK
    clear hk heval
    rw [ha]
    generalize gOf a = gg at *
    unfold SF at hK ⊢
    conv => arg 4; whnf
    gi_wp2
    exact hK
  case body =>
    rintro l pre ⟨⟨i, y⟩, hy, hy0⟩ A ⟨S1, B1⟩ _
    have o0 := S1.one.cell
    have g1 : GV n ((pre.map fun q : PV n => q.1.2).foldl K.pushF V) := g.pushes _
    have HS := Lib.hid S1
    have HB := Lib.hid B1
    clear S1 B1
    dsimp only
    dsimp only at hy hy0
    generalize (fun j => if j = 31 then Value.int .i64 (i : Nat) else if j = 32 then Value.int .i64 (y : Nat) else gOf a j) = gg
    refine wpIn_block ?_
    unfold SF
    conv => arg 4; whnf
    gi_wp2_with (refine ⟨trivial, ?_⟩; gi_at_call 52; refine (CallsIn.inRound l (callsIn_wide.2 (push_any _ HS.out.fs g1 hy hy0))).mono ?_; rintro e w1 ⟨rfl, hw1, F1⟩; replace hw1 := Lib.hid hw1; replace F1 := Lib.hid F1)
    have hKO : KeepsOthers A w1 := ⟨F1.out.size, fun k o hk ho => (F1.out.block k (lt_of_block hk) (fun e => by subst e; rw [HS.out.fs.cells_b hk] at ho; cases ho)).trans hk⟩
    have hpl1 : pb < A.heap.size := (HS.out.path.blk pb ((onBlk_some _ _ _ _).2 rfl)).2
    have hpb : w.heap.size ≤ pb := (HS.out.path.blk pb ((onBlk_some _ _ _ _).2 rfl)).1
    have hBA : Bs < A.heap.size := HB.out.lt
    have hKP : KP pb Bs A w1 := ⟨F1.out.block pb hpl1 (fun e => by unfold onB at e; omega), F1.out.block Bs hBA (fun e => by unfold onB at e; omega)⟩
    refine (show ownPostK _ _ _ _ _ .normal _ _ from ⟨hKO, hKP, ?_, HB.out.fr F1.out (fun e => by unfold onB at e; omega)⟩)
    rw [List.map_append, List.foldl_append]
    exact HS.out.on hw1.out (F1.out.mono (fun k _ hk => .inr hk))
  case done =>
    rintro D xs A hD rfl ⟨S1, B1⟩ hK
    rw [hrv] at S1
    have hd : a.defers = [] := congrArg Act.defers ha
    rw [hd]
    refine ⟨D, SF_defers ha _, fun h => absurd rfl h, ?_⟩
    exact ⟨S1.fs, S1.fr, S1.one, S1.hbx, S1.path, S1.ap, S1.hf, S1.hb, fun d hd => by rw [List.mem_singleton.1 hd]; exact ⟨Nat.le_trans hsz hD, hK⟩⟩
  case stop =>
    rintro D c pre A _ _ h _
    exact h.elim
end Go.Proofs.Ytfeokafjehpgnaa
