/- Buffer trees: all runs. -/
import Derived.Test.YtkmnnfflibamnaaG212
import Derived.OwnWalkIn
namespace Go.Proofs.Ytkmnnfflibamnaa
open Go.RowKit Go.Shelf
attribute [local go_sem] Oper.semAt_some
def lget (lv : List LV) (x : Nat) : LV := lv.getD x lv0
theorem lget_some {lv : List LV} {x : Nat} {L : LV} (h : lv[x]? = some L) : lget lv x = L := by unfold lget; rw [List.getD_eq_getElem?_getD, h]; rfl
/-- The runs of the levels numbered pre. -/
def rO (lv : List LV) (pre : List Nat) : List RV := pre.flatMap fun x => (lget lv x).rv
theorem rO_snoc (lv : List LV) (pre : List Nat) (x : Nat) : rO lv (pre ++ [x]) = rO lv pre ++ (lget lv x).rv := by unfold rO; rw [List.flatMap_append]; simp
theorem came_map {α : Type} (f : Nat → α) (vs : List α) (h : ∀ m, (hm : m < vs.length) → f m = vs[m]) : (came id vs.length 0).map f = vs.reverse := by
  unfold came
  rw [List.map_map]
  apply List.ext_getElem
  · simp
  · intro i h1 h2
    simp only [List.length_map, List.length_range, Nat.sub_zero] at h1
    have h3 : vs.length - 1 - i < vs.length := by omega
    rw [List.getElem_map, List.getElem_reverse, Function.comp_apply, List.getElem_range]
    exact h _ h3
theorem rO_came (lv : List LV) : ls (rO lv (came id lv.length 0)) = runsT (lvT lv) := by
  have e : (came id lv.length 0).map (fun x => (lget lv x).rv) = (lv.map LV.rv).reverse := by
    have := came_map (fun x => (lget lv x).rv) (lv.map LV.rv) (fun m hm => by
      rw [List.getElem_map]
      rw [lget_some (List.getElem?_eq_getElem (by simpa using hm))])
    rwa [List.length_map] at this
  unfold rO runsT lvT
  rw [List.flatMap_def, e]
  unfold ls
  rw [List.map_flatten, List.map_reverse, List.map_map]
  rfl
/-- What lies in memory while the runs gather. -/
structure KS (w A : World) (vB : Value) (a : Option Addr) (c : Nat) (R : List RV) : Prop where
  own : Own A (w.heap.size + 2) 74 a R.length c (rvs R)
  box : One A w.heap.size 104 (.slice a R.length c)
  bb : One A (w.heap.size + 1) 75 vB
  fr : Fr F0 w A
theorem KS.cellsB {w W : World} {vB : Value} {a : Option Addr} {c : Nat} {R : List RV} (h : KS w W vB a c R) {k : Nat} (hk : k = w.heap.size ∨ onBlk a k) {o : Obj} (ho : W.heap[k]? = some o) : o.isCells = true := by
  rcases hk with rfl | hk
  · have := h.box; unfold One at this; rw [this] at ho; injection ho with ho; rw [← ho]; rfl
  · rcases h.own.2 with ⟨hv, _⟩ | ⟨g, cap, cur, hv, hb, hh, _⟩
    · injection hv with ha
      rw [ha] at hk
      exact absurd hk (onBlk_none _)
    · injection hv with ha
      rw [ha] at hk
      have := (onBlk_some _ _ _ _).1 hk
      subst this
      rw [hh] at ho
      injection ho with ho
      rw [← ho]; rfl
theorem KS.grown {w W W' : World} {vB : Value} {a : Option Addr} {c : Nat} {R : List RV} (h : KS w W vB a c R) {row : Option Nat} (hg : W.grownBy W' row) (hr : ∀ r, row = some r → w.heap.size + 2 ≤ r ∧ ∃ o : Obj, W.heap[r]? = some o ∧ o.isCells = false) : KS w W' vB a c R := by
  have F : Fr (fun k => row = some k) W W' := ⟨hg.os, hg.tape, hg.output, hg.size, fun k hk hn => hg.block k hk (fun e => hn e.symm)⟩
  refine ⟨h.own.fr F (fun k hk e => ?_), h.box.fr F (fun e => by have := (hr _ e).1; omega), h.bb.fr F (fun e => by have := (hr _ e).1; omega), ⟨F.os.trans h.fr.os, F.tape.trans h.fr.tape, F.output.trans h.fr.output, Nat.le_trans h.fr.size F.size, fun k hk hn => ?_⟩⟩
  · obtain ⟨_, o, ho, hc⟩ := hr k e
    rw [h.cellsB (.inr hk) ho] at hc; cases hc
  · refine (F.block k (Nat.lt_of_lt_of_le hk h.fr.size) (fun e => ?_)).trans (h.fr.block k hk hn)
    have := (hr k e).1
    omega
theorem rv_one (rv : List RV) : ∀ u ∈ rvs rv, u.oneCell' = true := by
  intro u hu
  obtain ⟨_, _, rfl⟩ := List.mem_map.1 hu
  rfl
/-- 'append(s, x...)' in a plain region within a fence. -/
theorem wpInAppRd {F : Fence} {nn : Nat} {P : Program} {w : World} {t T : TypeId} {z : Value} {bytes : Nat} (E : Elem1 P t T z bytes) {a : Option Addr} {n c B : Nat} {vs : List Value} (own : Own w B T a n c vs)
    {b : Option Addr} {m cx : Nat} {us : List Value} (hr : Rd w b m us) (h1 : ∀ u ∈ us, u.oneCell' = true)
    (hlen : (n + m) * bytes ≤ 140737488355328) (hmax : n + m ≤ 9223372036854775807) (hB : B ≤ w.heap.size) (k : Nat) (hk : n + m = k)
    {ops : Array Oper} {rest : List Oper} {act : Act} {Q : Exit → Act → World → Prop} {dst : Option Tmp} {ty : TypeId} {pos : String} {after : Array Edge} {s x : Operand}
    (hs : act.eval s = .slice a n c) (hx : act.eval x = .slice b m cx)
    (K : ∀ a' c' w', Own w' B T a' k c' (vs ++ us) → Fr (onBlk a) w w' → (∀ k, onBlk a' k → onBlk a k ∨ w.heap.size ≤ k) → wpListIn F nn P ops Q rest (act.put dst (.slice a' k c')) w') :
    wpListIn F nn P ops Q ({ dst, op := .call { callee := .builtin .append, args := #[s, x], argTypes := #[t, t] }, type := ty, pos, after, guard := none } :: rest) act w := by
  subst hk
  refine wpListIn_plain rfl fun K' hK => ?_
  obtain ⟨a', c', w', hrun, g1, g2, g3⟩ := runAppRd E own hr h1 hlen hmax hB (cx := cx) ty
  unfold Oper.wpIn
  refine ⟨by simp [Oper.about, resolve, Target.leads, Sem.run_pure], ?_⟩
  rw [Oper.semAt_plain F _ _ (by intro c hc'; cases hc')]
  simp [execOp, resolve, invoke, builtin, hs, hx, hrun, Result.andThen]
  exact hK _ _ (K a' c' w' g1 g2 g3)
set_option maxRecDepth 100000 in
set_option maxHeartbeats 2000000 in
theorem runs_any {w : World} {col : Nat → Nat} {t B M : Nat} {T : TV} (h : TS w col t B M T) (hl : T.lv.length ≤ 2000) (hr : ∀ L ∈ T.lv, L.rv.length ≤ 2000) :
    Calls Try.prog 56 #[.pointer (some ⟨t, 0, none⟩)] w fun e w' => ∃ a' c' R, e = .returned (.slice a' R.length c') ∧ R = rO T.lv (came id T.lv.length 0) ∧ Own w' w.heap.size 74 a' R.length c' (rvs R) ∧ Fr F0 w w' := by
  have y3 := h.blk.cell (i := 3) rfl
  have HO := Lib.hid h.lown
  have hrv : ∀ x, (lget T.lv x).rv.length ≤ 2000 ∧ Rd w (lget T.lv x).a (lget T.lv x).rv.length (rvs (lget T.lv x).rv) ∧ ∀ k, onBlk (lget T.lv x).a k → k < w.heap.size := fun x => by
    unfold lget
    rw [List.getD_eq_getElem?_getD]
    cases hx : T.lv[x]? with
    | none => exact ⟨Nat.zero_le _, Rd.nil _ _, fun k hk => absurd hk (onBlk_none _)⟩
    | some L => exact ⟨hr L (List.mem_of_getElem? hx), (h.lev x L hx).1.rd, fun k hk => ((h.lev x L hx).1.blk k hk).2⟩
  have HR := Lib.hid hrv
  obtain ⟨lv, hlv⟩ : ∃ lv, lv = T.lv := ⟨_, rfl⟩
  obtain ⟨la, hla⟩ : ∃ la, la = T.la := ⟨_, rfl⟩
  obtain ⟨lc, hlc⟩ : ∃ lc, lc = T.lc := ⟨_, rfl⟩
  rw [← hlv, ← hla, ← hlc] at y3 HO
  rw [← hlv] at HR hl ⊢
  obtain ⟨n, hn⟩ : ∃ n, n = lv.length := ⟨_, rfl⟩
  rw [← hn] at y3 HO hl ⊢
  have Hn := Lib.hid hn
  clear h hr hrv hlv hla hlc hn
  refine (callsIn_wide (n := 3)).1 ?_
  refine callsIn_of_wp_marks Try.func56 rfl trivial ?_
  simp only [Try.ntmps56, List.size_toArray, List.length_cons, List.length_nil, Nat.reduceAdd, Nat.reduceSub, Array.replicate_succ, Array.replicate_zero, List.push_toArray, List.append_toArray, List.nil_append, List.cons_append]
  have y3' : (w.alloc (.cells #[.slice none 0 0] 104)).cell? ⟨t, 3, none⟩ = some (.slice la n lc) := ((Fr.refl F0 w).alloc _).cell y3 id
  gi_wp2_with (refine ⟨trivial, ?_⟩; gi_at_call 81; refine (callsIn_wide.2 (backL_in _ _ _ _)).mono ?_; rintro e w1 ⟨rfl, rfl⟩)
  obtain ⟨b, hb, ha, hc⟩ : ∃ b, (b < w.heap.size ∨ b = w.heap.size + 1) ∧ (0 < n → la = some ⟨b, 0, none⟩) ∧ ∀ j, j < n → w.cell? ⟨b, j, none⟩ = some (lget lv j).v := by
    rcases Nat.eq_zero_or_pos n with h0 | h0
    · exact ⟨w.heap.size + 1, .inr rfl, fun h => by omega, fun j h => by omega⟩
    · obtain ⟨g, hg, _, hl, hcc, _⟩ := HO.out.at h0
      refine ⟨g, .inl hl, fun _ => hg, fun j hj => hcc j _ ?_⟩
      have := Hn.out
      rw [List.getElem?_map, List.getElem?_eq_getElem (by omega), lget_some (List.getElem?_eq_getElem (by omega))]; rfl
  have hbs : One ((w.alloc (.cells #[.slice none 0 0] 104)).alloc (.cells #[.slice la n lc] 75)) (w.heap.size + 1) 75 (.slice la n lc) := by
    have := One.new (w := w.alloc (.cells #[.slice none 0 0] 104)) 75 (.slice la n lc)
    rwa [size_alloc] at this
  have F2 : Fr F0 w ((w.alloc (.cells #[.slice none 0 0] 104)).alloc (.cells #[.slice la n lc] 75)) := ((Fr.refl _ _).alloc _).alloc _
  have S0 : KS w ((w.alloc (.cells #[.slice none 0 0] 104)).alloc (.cells #[.slice la n lc] 75)) (.slice la n lc) none 0 (rO lv []) := ⟨Own.nil _ _ _, (One.new 104 _).alloc _, hbs, F2⟩
  have hcs : ∀ j, j < n → ((w.alloc (.cells #[.slice none 0 0] 104)).alloc (.cells #[.slice la n lc] 75)).cell? ⟨b, j, none⟩ = some (lget lv j).v := fun j hj => F2.cell (hc j hj) id
  have hsz : ((w.alloc (.cells #[.slice none 0 0] 104)).alloc (.cells #[.slice la n lc] 75)).heap.size = w.heap.size + 2 := by simp
  have seq := backL_stops Fence.wide 2 trivial rfl (by omega) (w.heap.size + 1) b lc n la (fun x => (lget lv x).v) (by omega) ha _ (by rw [hsz]; omega) (by rw [hsz]; omega) hbs.cell hcs
  have Hb := Lib.hid hb
  have Hsz := Lib.hid hsz
  clear hc hcs hb hsz
  refine wpIn_rangeFunc_ownF (n := 3) rfl (by omega) (gf := 105) (lb := #[.pointer (some ⟨w.heap.size + 1, 0, none⟩)]) rfl trivial (enters_of Try.func105 (by kernel_rfl) rfl) seq (fun h k => KP.trans h k)
    (fun A l o o' hl ho hc _ => ⟨World.putObj_heap_other (by have := Hb.out; have := Hsz.out; omega), World.putObj_heap_other (by have := Hsz.out; omega)⟩) (Below.refl _ _) (fun _ => rfl)
    (fun (pre : List Nat) A => ∃ a' c', KS w A (.slice la n lc) a' c' (rO lv pre) ∧ (rO lv pre).length ≤ pre.length * 2000)
    (fun _ _ _ => False)
    (fun pre A A' row hs hg hr => ?_)
    (fun _ _ _ _ _ hs _ _ => hs)
    ⟨none, 0, S0, Nat.zero_le _⟩
    (fun x : Nat => (⟨#[.pointer (some ⟨t, 0, none⟩), undef, .slice none 0 0, .pointer (some ⟨w.heap.size, 0, none⟩), undef, (lget lv x).v, .pointer (some ⟨t, 0, none⟩), .pointer (some ⟨t, 0, none⟩), .pointer (some ⟨t, 3, none⟩), .slice la n lc, .func (.func 105) #[] #[.pointer (some ⟨w.heap.size + 1, 0, none⟩)], .int .i64 (x : Nat), (lget lv x).v, undef, undef, undef, undef], []⟩ : Act)) ?assign ?body ?done ?stop
  · obtain ⟨a', c', h, h2⟩ := hs
    exact ⟨a', c', h.grown hg (fun r e => by have := hr r e; rw [Hsz.out] at this; exact this), h2⟩
  case assign =>
    intro l q A K hK
    conv => arg 4; whnf
    gi_wp2
    exact hK
  case body =>
    rintro l pre x A ⟨a0, c0, S1, S2⟩ hpre
    have hsn := rO_snoc lv pre x
    obtain ⟨h1, h2, h3⟩ := HR.out x
    have hO9 : (rO lv pre).length ≤ 4000000 := Nat.le_trans S2 (by have := Nat.mul_le_mul_right 2000 (Nat.le_of_lt hpre); omega)
    generalize rO lv pre = R0 at hsn S1 S2 hO9
    generalize lget lv x = L at hsn h1 h2 h3
    obtain ⟨Lr, La, Lc⟩ := L
    dsimp only at h1 h2 h3 hsn
    unfold LV.v
    dsimp only
    have hbc := S1.box.cell
    have hrd := h2.fr0 S1.fr
    have nob : ∀ k, onBlk a0 k → w.heap.size + 2 ≤ k := fun k hk => (S1.own.blk k hk).1
    have HSn := Lib.hid hsn
    have hlen0 := congrArg List.length hsn
    rw [List.length_append] at hlen0
    have HS := Lib.hid (And.intro S1 (And.intro S2 (And.intro nob (And.intro hlen0 hrd))))
    clear hsn S1 S2 seq ha hrd h2 hlen0 nob
    gi_wp2_with (gi_at_builtin; refine wpInAppRd E74 HS.out.1.own HS.out.2.2.2.2 (rv_one _) (by omega) (by omega) (by have := HS.out.1.bb.lt; omega) _ rfl (by rfl) (by rfl) ?_; intro a9 c9 w9 own9 fr9 at9; have b9 := HS.out.1.box.fr fr9 (fun hk => by have := HS.out.2.2.1 _ hk; omega); have b9c := b9.cell; have b9f := b9.free; have H9 := Lib.hid (And.intro own9 (And.intro fr9 (And.intro at9 b9))); clear own9 fr9 at9 b9)
    obtain ⟨S1, S2, nob, hsz9, _⟩ := HS.out
    obtain ⟨own9, fr9, at9, b9⟩ := H9.out
    have hl := S1.bb.lt
    have FA : Fr (fun k => k = w.heap.size ∨ onBlk a0 k) A (w9.setCell ⟨w.heap.size, 0, none⟩ (.slice a9 (R0.length + Lr.length) c9)) := Fr.setCell (fr9.mono (fun _ _ h => .inr h)) (fun _ => .inl rfl) _
    refine (show ownPostK _ _ _ _ _ .normal _ _ from ⟨⟨FA.size, fun k o hk ho => (FA.block k (lt_of_block hk) (fun h => ?_)).trans hk⟩, ⟨?_, ?_⟩, a9, c9, ⟨?_, ?_, ?_, ?_⟩, ?_⟩)
    · rw [S1.cellsB h hk] at ho; cases ho
    · refine FA.block b ?_ (fun h => ?_)
      · have := Hb.out; omega
      · rcases h with h | h
        · have := Hb.out; omega
        · have := nob _ h; have := Hb.out; omega
    · refine FA.block _ hl (fun h => ?_)
      rcases h with h | h
      · omega
      · have := nob _ h; omega
    · rw [hsz9, HSn.out]
      have e : rvs (R0 ++ Lr) = rvs R0 ++ rvs Lr := List.map_append ..
      rw [e]
      exact own9.other (fun hk => by have := (own9.blk _ hk).1; dsimp only at this; omega) _
    · rw [hsz9]; exact b9.set _
    · exact (S1.bb.fr fr9 (fun hk => by have := nob _ hk; omega)).other (by dsimp only; omega) _
    · exact Fr.setCell (S1.fr.trans fr9 (fun k hk h => by have := nob _ h; omega)) (fun h => by dsimp only at h; omega) _
    · rw [hsz9, List.length_append, List.length_singleton, Nat.add_mul, Nat.one_mul]; omega
  case done =>
    rintro D xs A hD rfl ⟨a', c', S1, S2⟩ hK
    have hbx := S1.box.cell
    have HS := Lib.hid S1
    have HK := Lib.hid hK
    clear S1 S2 hK seq ha
    gi_wp2_with fail
    refine ⟨by simp, .inl ⟨_, _, rfl, run_takeDeferred HK.out, ?_⟩⟩
    refine ⟨_, results_tmp rfl _ _ _, a', c', _, rfl, rfl, ?_, HS.out.fr.dfr (by have := Hsz.out; omega)⟩
    refine (HS.out.own.mono (by omega)).fr (S := fun i => i = D) (Fr.putD _ _) (fun k hk e => ?_)
    subst e
    have := HS.out.cellsB (.inr hk) HK.out
    cases this
  case stop =>
    rintro D c pre A _ _ h _
    exact h.elim
end Go.Proofs.Ytkmnnfflibamnaa
