/- Common texts of this seat, one behind another. -/
import Derived.Test.YtkmnnfflibamnaaG2
import Derived.Laws.CopyRow
import Derived.Lib.AppendZerosOnto
import Derived.Lib.AppendZeros
import Derived.Lib.Overlaps
import Derived.Deep.DeepCutAuto
/- Buffer trees: copy between rows of entries; slices.Insert. -/
namespace Go.Proofs.Ytkmnnfflibamnaa
open Go.RowKit
attribute [local go_sem ↓] Go.wp_at_zero Go.wp_at_succ
theorem E80 : ElemZ Try.prog 74 80 (.agg #[.int .i64 0, .int .i64 0, .bool false]) 3 24 := ⟨by kernel_rfl, by kernel_rfl, rfl⟩
/-- 'append(s, x...)' in a plain region, elements of several cells. -/
theorem wpAppZRd {P : Program} {w : World} {t T : TypeId} {z : Value} {sz bytes : Nat} (E : ElemZ P t T z sz bytes) (hs0 : 0 < sz) {a : Option Addr} {n c B : Nat} {vs : List Value} (own : OwnZ w B T sz a n c vs)
    {b : Option Addr} {m cx : Nat} {us : List Value} (hr : RdZ w sz b m us) (h1 : ∀ u ∈ us, u.oneCell' = true)
    (hlen : (n + m) * bytes ≤ 140737488355328) (hmax : n + m ≤ 9223372036854775807) (hB : B ≤ w.heap.size) (k : Nat) (hk : n + m = k)
    {ops : Array Oper} {rest : List Oper} {act : Act} {Q : Exit → Act → World → Prop} {dst : Option Tmp} {ty : TypeId} {pos : String} {after : Array Edge} {s x : Operand}
    (hs : act.eval s = .slice a n c) (hx : act.eval x = .slice b m cx)
    (K : ∀ a' c' w', OwnZ w' B T sz a' k c' (vs ++ us) → Fr (onBlk a) w w' → (∀ k, onBlk a' k → onBlk a k ∨ w.heap.size ≤ k) → wpList P ops Q rest (act.put dst (.slice a' k c')) w') :
    wpList P ops Q ({ dst, op := .call { callee := .builtin .append, args := #[s, x], argTypes := #[t, t] }, type := ty, pos, after, guard := none } :: rest) act w := by
  subst hk
  refine wpList_plain rfl fun K' hK => ?_
  obtain ⟨a', c', w', hrun, g1, g2, g3⟩ := runAppZ E hs0 own hr h1 hlen hmax hB (cx := cx) ty
  unfold Oper.wp execOp
  simp only [resolve, invoke, builtin, Sem.run_bind, Sem.run_pure, Result.andThen_ok, List.map_toArray, List.map_cons, List.map_nil, hs, hx, hrun]
  exact hK _ _ (K a' c' w' g1 g2 g3)
theorem zeroCells_size (z : Array Value) (n : Nat) : (Builtin.zeroCells z n).size = n * z.size := by unfold Builtin.zeroCells; simp
/-- cs laid over L from place off on. -/
def spl (L : List Value) (off : Nat) (cs : List Value) : List Value := L.take off ++ cs ++ L.drop (off + cs.length)
theorem spl_len {L : List Value} {off : Nat} {cs : List Value} (h : off + cs.length ≤ L.length) : (spl L off cs).length = L.length := by unfold spl; simp; omega
/-- 'copy' onto a row, elements of s cells. -/
theorem run_copy_rowZ {P : Program} (w : World) (dT sT ty elem : TypeId) (sz g o dLen dCap : Nat) (a : Addr) (sLen sCap : Nat) (cur : Array Value) (t : TypeId) (cs : List Value)
    (hu : P.underlying dT = some (.slice elem)) (hs : (P.info? elem).map (·.size) = some sz)
    (hg : w.heap[g]? = some (.cells cur t (0, 0))) (hn : cs.length = Nat.min sLen dLen * sz)
    (hsrc : ∀ j v, cs[j]? = some v → w.cell? (a.add j) = some v) (hfit : o + cs.length ≤ cur.size) (h1 : ∀ v ∈ cs, v.oneCell' = true) :
    (Builtin.copy_ #[dT, sT] ty #[.slice (some ⟨g, o, none⟩) dLen dCap, .slice (some a) sLen sCap]).run P w =
      .ok (goInt (Nat.min sLen dLen)) (w.setRow g (cur.toList.take o ++ cs ++ cur.toList.drop (o + cs.length)).toArray) := by
  have hl := run_loadCells_list (P := P) w a cs hsrc
  have hst := run_storeCells_at P g o t cs 0 cur w hg (by simpa using hfit) h1
  cases hq : P.info? elem with
  | none => simp [hq] at hs
  | some i =>
    have hi : i.size = sz := by simpa [hq] using hs
    rw [hn] at hl
    simp [Builtin.copy_, run_underlying hu, Builtin.lenOf, Builtin.firstCells, sizeOf, typeInfo, hq, hi, hl, hst]
theorem OwnZ.copy {w : World} {B : Nat} {T : TypeId} {s g n c : Nat} {vs : List Value} (h : OwnZ w B T s (some ⟨g, 0, none⟩) n c vs) {off : Nat} {cs : List Value} (hf : off + cs.length ≤ n * s) :
    ∃ cur, w.heap[g]? = some (.cells cur T (0, 0)) ∧ off + cs.length ≤ cur.size ∧ OwnZ (w.setRow g (cur.toList.take off ++ cs ++ cur.toList.drop (off + cs.length)).toArray) B T s (some ⟨g, 0, none⟩) n c (spl vs off cs) ∧ Fr (onBlk (some ⟨g, 0, none⟩)) w (w.setRow g (cur.toList.take off ++ cs ++ cur.toList.drop (off + cs.length)).toArray) := by
  obtain ⟨hl, h⟩ := h
  rcases h with ⟨hv, _⟩ | ⟨g', cap, cur, hv, hb, hh, h1, h2, h3, h4⟩
  · cases hv
  · injection hv with ha hn hc
    injection ha with ha
    injection ha with ha
    subst ha
    have hns : n * s ≤ cap * s := Nat.mul_le_mul_right _ h1
    refine ⟨cur, hh, by omega, ⟨by rw [spl_len (by omega)]; exact hl, .inr ⟨g, cap, _, by rw [hc], hb, setRow_heap w g cur _ T _ hh, h1, h2, ?_, ?_⟩⟩, ⟨rfl, rfl, rfl, by simp [World.setRow], fun k hk hne => setRow_other w g k _ (fun e => hne ((onBlk_some _ _ _ _).2 (by omega)))⟩⟩
    · rw [← h3]; simp; omega
    · rw [← h4]
      unfold spl
      simp only [List.take_append, List.take_take, List.length_append, List.length_take, Array.length_toList]
      apply List.ext_getElem?
      intro j
      simp only [List.getElem?_append, List.getElem?_take, List.getElem?_drop, List.length_append, List.length_take, Array.length_toList]
      generalize hN : n * s = N at *
      have hc : N ≤ cur.size := by omega
      rw [show min (min N off) cur.size = off by omega, show min N off = off by omega, show min off cur.size = off by omega, show min (min off N) cur.size = off by omega, show min off N = off by omega, show min (N - off) cs.length = cs.length by omega]
      by_cases c1 : j < off
      · rw [if_pos (by omega), if_pos c1, if_pos c1, if_pos (by omega), if_pos c1]
      · by_cases c2 : j < off + cs.length
        · rw [if_pos c2, if_neg c1, if_pos (by omega), if_pos c2, if_neg c1]
        · rw [if_neg c2, if_neg c2]
          by_cases c3 : j < N
          · rw [if_pos (by omega), if_pos (by omega)]
          · rw [if_neg (by omega), if_neg (by omega)]
theorem OwnZ.more {w : World} {B : Nat} {T : TypeId} {s g n c : Nat} {vs : List Value} (h : OwnZ w B T s (some ⟨g, 0, none⟩) n c vs) {k : Nat} (hk : n + k ≤ c) :
    ∃ vs', OwnZ w B T s (some ⟨g, 0, none⟩) (n + k) c vs' ∧ vs'.take (n * s) = vs := by
  obtain ⟨hl, h⟩ := h
  rcases h with ⟨hv, _⟩ | ⟨g', cap, cur, hv, hb, hh, h1, h2, h3, h4⟩
  · cases hv
  · injection hv with ha hn hc
    injection ha with ha
    injection ha with ha
    subst ha
    subst hc
    have h5 : (n + k) * s ≤ c * s := Nat.mul_le_mul_right _ hk
    refine ⟨cur.toList.take ((n + k) * s), ⟨by rw [List.length_take, Array.length_toList]; omega, .inr ⟨g, c, cur, rfl, hb, hh, hk, h2, h3, rfl⟩⟩, ?_⟩
    rw [List.take_take, Nat.min_eq_left (Nat.mul_le_mul_right _ (by omega)), h4]
theorem wpCopyRun {P : Program} {w : World} {ops : Array Oper} {rest : List Oper} {a : Act} {Q : Exit → Act → World → Prop} {dst : Option Tmp} {ty : TypeId} {pos : String} {after : Array Edge} {d s : Operand} {t t' : TypeId}
    (v u : Value) (hd : a.eval d = v) (hs : a.eval s = u) {v' : Value} {w' : World}
    (hr : (Builtin.copy_ #[t, t'] ty #[v, u]).run P w = .ok v' w') (h : wpList P ops Q rest (a.put dst v') w') :
    wpList P ops Q ({ dst, op := .call { callee := .builtin .copy, args := #[d, s], argTypes := #[t, t'] }, type := ty, pos, after, guard := none } :: rest) a w := by
  refine wpList_plain rfl fun K hK => ?_
  unfold Oper.wp execOp
  simp [resolve, invoke, builtin, hd, hs, hr, Result.andThen]
  exact hK _ _ h
theorem stepCopyRun {P : Program} {w : World} {ops : Array Oper} {o : Oper} {a : Act} {K : Act → World → Prop} {Q : Exit → Act → World → Prop} {E : Prop} (hgd : o.guard = none) {d s : Operand} {t t' : TypeId}
    (ho : o.op = .call { callee := .builtin .copy, args := #[d, s], argTypes := #[t, t'] })
    (v u : Value) (hd : a.eval d = v) (hs : a.eval s = u) {v' : Value} {w' : World}
    (hr : ∀ ty, (Builtin.copy_ #[t, t'] ty #[v, u]).run P w = .ok v' w') (hK : K (a.put o.dst v') w') :
    if Region.wanted o (yielded ops a.tmps) = true then Oper.wp P o a w K Q else E := by
  have hw : Region.wanted o (yielded ops a.tmps) = true := by simp [Region.wanted, hgd]
  rw [if_pos hw]
  unfold Oper.wp
  simp [execOp, ho, resolve, invoke, builtin, hd, hs, hr o.type, Result.andThen]
  exact hK
/-- The base of 's[k:]', elements of s cells. -/
def cutZ (s : Nat) (a : Option Addr) (c k : Nat) : Option Addr := if c = k then a else a.map (·.add (k * s))
theorem cutZ_some (s b o c k : Nat) : cutZ s (some ⟨b, o, none⟩) c k = some ⟨b, if c = k then o else o + k * s, none⟩ := by
  unfold cutZ
  split
  · rfl
  · simp [Addr.add_lit]
theorem run_cutLoZ {P : Program} {t T : TypeId} {z : Value} {s bytes : Nat} (E : ElemZ P t T z s bytes) (w : World) (a : Option Addr) {n c k r : Nat} (hkn : n = k + r) {x : Int} (hx : x = (k : Int)) :
    (Instr.sliceAt t (.slice a n c) (some (.int .i64 x)) none none).run P w = .ok (.slice (cutZ s a c k) r (c - k)) w := by
  obtain ⟨E1, E2, _⟩ := E
  obtain ⟨i0, hi, _, hz1, _⟩ := info_parts E2
  have hr : r = n - k := by omega
  subst hr
  subst hx
  have ht : P.underlying t = some (.slice (P.elem t)) := by simp [Program.elem, E1]
  have hel : P.elem t = T := by simp [Program.elem, E1]
  have hsz : (sizeOf T).run P w = .ok s w := by simp [sizeOf, typeInfo, hi, hz1]
  rw [run_sliceAt_slice _ _ _ _ _ _ ht, run_slice_l w t a n c ht .i64 k (by omega) (by omega), hel, hsz]
  simp [Result.andThen, sliced, cutZ]
theorem spl_room {vs' L c3 : List Value} {n i : Nat} (hl : vs'.length = (n + 1) * 3) (ht : vs'.take (n * 3) = L) (hi : i ≤ n) (h3 : c3.length = 3) :
    spl (spl vs' ((i + 1) * 3) (L.drop (i * 3))) (i * 3) c3 = L.take (i * 3) ++ c3 ++ L.drop (i * 3) := by
  have hL : L.length = n * 3 := by rw [← ht, List.length_take]; omega
  have e1 : spl vs' ((i + 1) * 3) (L.drop (i * 3)) = vs'.take ((i + 1) * 3) ++ L.drop (i * 3) := by
    unfold spl
    rw [List.drop_of_length_le (l := vs') (by rw [List.length_drop]; omega), List.append_nil]
  rw [e1]
  unfold spl
  have e2 : (vs'.take ((i + 1) * 3) ++ L.drop (i * 3)).take (i * 3) = L.take (i * 3) := by
    rw [List.take_append_of_le_length (by rw [List.length_take]; omega), List.take_take, ← ht, List.take_take, Nat.min_eq_left (by omega), Nat.min_eq_left (by omega)]
  have e3 : (vs'.take ((i + 1) * 3) ++ L.drop (i * 3)).drop (i * 3 + c3.length) = L.drop (i * 3) := by
    rw [h3, List.drop_append, List.drop_of_length_le (by rw [List.length_take]; omega), List.nil_append, List.length_take, show i * 3 + 3 - min ((i + 1) * 3) vs'.length = 0 by omega, List.drop_zero]
  rw [e2, e3]
theorem spl_grow {vs0 L c3 : List Value} {n i : Nat} (hl : vs0.length = (n + 1) * 3) (hL : L.length = n * 3) (ht : vs0.take (i * 3) = L.take (i * 3)) (hi : i ≤ n) (h3 : c3.length = 3) :
    spl (spl vs0 (i * 3) c3) ((i + 1) * 3) (L.drop (i * 3)) = L.take (i * 3) ++ c3 ++ L.drop (i * 3) := by
  have hls : (spl vs0 (i * 3) c3).length = (n + 1) * 3 := by rw [spl_len (by omega)]; exact hl
  have e1 : (spl vs0 (i * 3) c3).take ((i + 1) * 3) = L.take (i * 3) ++ c3 := by
    unfold spl
    rw [List.take_append_of_le_length (by rw [List.length_append, List.length_take]; omega), List.take_of_length_le (by rw [List.length_append, List.length_take]; omega), ht]
  unfold spl at *
  rw [List.drop_of_length_le (l := _ ++ _) (by rw [List.length_drop, hls]; omega), List.append_nil, e1]
/-- A further entry at place i. -/
def insAt (l : List En) (i : Nat) (e : En) : List En := l.take i ++ [e] ++ l.drop i
theorem ents_mid (l : List En) (i : Nat) (e : En) : ents (insAt l i e) = (ents l).take (i * 3) ++ en3 e ++ (ents l).drop (i * 3) := by
  have ht : ∀ (l : List En) (i : Nat), ents (l.take i) = (ents l).take (i * 3) ∧ ents (l.drop i) = (ents l).drop (i * 3) := by
    intro l
    induction l with
    | nil => intro i; simp [ents]
    | cons x l ih =>
      intro i
      cases i with
      | zero => simp [ents]
      | succ i =>
        obtain ⟨h1, h2⟩ := ih i
        have hx : ents (x :: l) = en3 x ++ ents l := by unfold ents; rw [List.flatMap_cons]
        have hx2 : ents (x :: l.take i) = en3 x ++ ents (l.take i) := by unfold ents; rw [List.flatMap_cons]
        rw [List.take_succ_cons, List.drop_succ_cons, hx2, hx, h1, h2]
        have e3 : (en3 x).length = 3 := rfl
        constructor
        · rw [List.take_append, List.take_of_length_le (l := en3 x) (by omega), e3, show (i + 1) * 3 - 3 = i * 3 by omega]
        · rw [List.drop_append, List.drop_of_length_le (l := en3 x) (by omega), e3, show (i + 1) * 3 - 3 = i * 3 by omega, List.nil_append]
  unfold insAt
  rw [ents_app, ents_app, (ht l i).1, (ht l i).2]
  congr 2
set_option maxRecDepth 100000 in
set_option maxHeartbeats 8000000 in
theorem Insert_any {w : World} {B : Nat} {a : Option Addr} {n c i gv : Nat} {l : List En} {e : En} (own : OwnZ w B 80 3 a n c (ents l)) (hvB : Blk w gv 80 (en3 e)) (hgv : ¬ onBlk a gv) (hB : B ≤ w.heap.size) (hi : i ≤ n) (hn : n ≤ 100000) :
    Calls Try.prog 65 #[.slice a n c, .int .i64 (i : Int), .slice (some ⟨gv, 0, none⟩) 1 1] w fun e' w' => ∃ a' c', e' = .returned (.slice a' (n + 1) c') ∧ OwnZ w' B 80 3 a' (n + 1) c' (ents (insAt l i e)) ∧ Fr (onBlk a) w w' ∧ (∀ k, onBlk a' k → onBlk a k ∨ w.heap.size ≤ k) := by
  have hv : RdZ w 3 (some ⟨gv, 0, none⟩) 1 (ents [e]) := ⟨rfl, by omega, fun _ => ⟨gv, 0, rfl, fun j u hu => by
    rw [Nat.zero_add]
    refine hvB.cell (i := j) ?_
    simpa [ents] using hu⟩⟩
  have HvB := Lib.hid hvB
  have hl : l.length = n := by have := own.1; rw [ents_len] at this; omega
  have hcap := OwnZ.cap own
  have hmax : c ≤ 9223372036854775807 := by
    rcases own.2 with ⟨hv, _⟩ | ⟨g, cap, cur, hv, _, _, _, h2, _, _⟩
    · injection hv with _ _ hc; omega
    · injection hv with _ _ hc; rw [hc]; exact h2
  have HO := Lib.hid own
  have HV := Lib.hid hv
  have HB := Lib.hid hB
  have HGv := Lib.hid hgv
  clear own hv hB hgv
  have h1a : ∀ W : World, (Instr.sliceAt 74 (.slice a n c) (some (.int .i64 (i : Int))) none none).run Try.prog W = .ok (.slice (cutZ 3 a c i) (n - i) (c - i)) W := fun W => run_cutLoZ E80 W a (k := i) (by omega) rfl
  by_cases hin : i = n
  · subst hin
    have hlist : ents l ++ ents [e] = ents (insAt l i e) := by unfold insAt; rw [← ents_app, List.take_of_length_le (by omega), List.drop_of_length_le (by omega), List.append_nil]
    have HLi := Lib.hid hlist
    clear hlist
    go_enter Try.func65, Try.ntmps65
    go_wp2_with (at_builtin; refine wpAppZRd E80 (by omega) HO.out HV.out (ents_one _) (by omega) (by omega) HB.out (i + 1) rfl (by rfl) (by rfl) ?_; intro a' c' w' own' fr' at'; have HX := Lib.hid (And.intro own' (And.intro fr' at')); clear own' fr' at')
    go_ret
    exact ⟨a', c', rfl, by rw [← HLi.out]; exact HX.out.1, HX.out.2.1, HX.out.2.2⟩
  · have hin' : ¬ (i : Int) = (n : Int) := by omega
    obtain ⟨g, hg, _, _, hcell, hfro⟩ := OwnZ.at HO.out (by omega)
    subst hg
    have hgne : gv ≠ g := fun e => HGv.out ((onBlk_some _ _ _ _).2 (by omega))
    obtain ⟨cur0, hh0, hsz0⟩ : ∃ cur, w.heap[g]? = some (.cells cur 80 (0, 0)) ∧ 3 ≤ cur.size := by
      rcases HO.out.2 with ⟨hv, _⟩ | ⟨g', cap, cur, hv, _, hh, q1, _, q3, _⟩
      · cases hv
      · injection hv with ha _ _
        injection ha with ha
        injection ha with ha
        subst ha
        exact ⟨cur, hh, by rw [q3]; omega⟩
    have hov : ∀ o lb cb, (callFunc 89 #[.slice (some ⟨gv, 0, none⟩) 1 1, .slice (some ⟨g, o, none⟩) lb cb]).run Try.prog w = .ok (.value (.bool false)) w := fun o lb cb => by
      rw [run_callFunc_extern Try.func89 (by kernel_rfl) (by kernel_rfl) (by kernel_rfl) (e := Extern.SlicesOverlaps.overlaps #[74, 74] #[4]) (by kernel_rfl),
        Lib.run_overlaps_apart w 74 4 80 Try.underlying74 3 Try.sizeOf80 ⟨gv, 0, none⟩ ⟨g, o, none⟩ 1 1 lb cb hgne 80 80 (en3 e).length cur0.size (by unfold World.shape?; rw [HvB.out]; rfl) (by unfold World.shape?; rw [hh0]) (by omega) (by unfold World.frozen?; rw [HvB.out]; rfl) (by unfold World.frozen?; rw [HvB.out]; rfl)]
      rfl
    by_cases hroom : n + 1 ≤ c
    · have hr' : ¬ (c : Int) < (n : Int) + 1 := by omega
      obtain ⟨vs', O1, hv1⟩ := OwnZ.more HO.out (k := 1) hroom
      have hvl := O1.1
      obtain ⟨L, hL⟩ : ∃ L, L = ents l := ⟨_, rfl⟩
      have hLl : L.length = n * 3 := by rw [hL, ents_len]; omega
      have hL1 : ∀ u ∈ L, u.oneCell' = true := by rw [hL]; exact ents_one l
      obtain ⟨wd, hwd⟩ : ∃ W, W = w.drew := ⟨_, rfl⟩
      have Fd : Fr F0 w wd := by rw [hwd]; exact (Fr.refl F0 _).drew
      have O1d := OwnZ.fr0 O1 Fd
      obtain ⟨cur1, hc1, hf1, O2, F2⟩ := OwnZ.copy O1d (off := (i + 1) * 3) (cs := L.drop (i * 3)) (by rw [List.length_drop]; omega)
      have hr1 : ∀ ty dc sc, (Builtin.copy_ #[74, 74] ty #[.slice (some ⟨g, (i + 1) * 3, none⟩) (n - i) dc, .slice (some ⟨g, i * 3, none⟩) (n + 1 - i) sc]).run Try.prog wd = .ok (goInt (Nat.min (n + 1 - i) (n - i))) (wd.setRow g (cur1.toList.take ((i + 1) * 3) ++ L.drop (i * 3) ++ cur1.toList.drop ((i + 1) * 3 + (L.drop (i * 3)).length)).toArray) := fun ty dc sc =>
        run_copy_rowZ wd 74 74 ty 80 3 g ((i + 1) * 3) (n - i) dc ⟨g, i * 3, none⟩ (n + 1 - i) sc cur1 80 (L.drop (i * 3)) Try.underlying74 (by kernel_rfl) hc1 (by rw [List.length_drop, hLl, show Nat.min (n + 1 - i) (n - i) = n - i from Nat.min_eq_right (by omega)]; omega)
          (fun j v hj => by rw [Addr.add_lit]; refine Fd.cell (hcell _ _ ?_) id; rw [← hL]; rwa [List.getElem?_drop] at hj) hf1 (fun v hv => hL1 v (List.mem_of_mem_drop hv))
      obtain ⟨w2, hw2⟩ : ∃ W, W = wd.setRow g (cur1.toList.take ((i + 1) * 3) ++ L.drop (i * 3) ++ cur1.toList.drop ((i + 1) * 3 + (L.drop (i * 3)).length)).toArray := ⟨_, rfl⟩
      rw [← hw2] at hr1 O2 F2
      obtain ⟨cur2, hc2, hf2, O3, F3⟩ := OwnZ.copy O2 (off := i * 3) (cs := en3 e) (by show i * 3 + 3 ≤ _; omega)
      have Bv2 := (HvB.out.fr Fd id).fr F2 (fun hk => hgne (by have := (onBlk_some _ _ _ _).1 hk; omega))
      have hr2 : ∀ ty dc, (Builtin.copy_ #[74, 74] ty #[.slice (some ⟨g, i * 3, none⟩) (n + 1 - i) dc, .slice (some ⟨gv, 0, none⟩) 1 1]).run Try.prog w2 = .ok (goInt (Nat.min 1 (n + 1 - i))) (w2.setRow g (cur2.toList.take (i * 3) ++ en3 e ++ cur2.toList.drop (i * 3 + (en3 e).length)).toArray) := fun ty dc =>
        run_copy_rowZ w2 74 74 ty 80 3 g (i * 3) (n + 1 - i) dc ⟨gv, 0, none⟩ 1 1 cur2 80 (en3 e) Try.underlying74 (by kernel_rfl) hc2 (by show 3 = _; rw [show Nat.min 1 (n + 1 - i) = 1 from Nat.min_eq_left (by omega)])
          (fun j v hj => by rw [Addr.add_lit, Nat.zero_add]; exact Bv2.cell hj) hf2 (fun v hv => ents_one [e] v (by simpa [ents] using hv))
      obtain ⟨w3, hw3⟩ : ∃ W, W = w2.setRow g (cur2.toList.take (i * 3) ++ en3 e ++ cur2.toList.drop (i * 3 + (en3 e).length)).toArray := ⟨_, rfl⟩
      rw [← hw3] at hr2 O3 F3
      have hfin : spl (spl vs' ((i + 1) * 3) (L.drop (i * 3))) (i * 3) (en3 e) = ents (insAt l i e) := by
        rw [ents_mid, ← hL]; exact spl_room hvl (by rw [hv1, hL]) hi rfl
      rw [hfin] at O3
      have HX := Lib.hid (And.intro O3 ((Fd.mono (fun _ _ h => h.elim)).trans (F2.trans F3 (fun _ _ h => h)) (fun _ _ h => h)))
      have hw1 : IntKind.i64.wrap ((i : Int) + 1) = (i : Int) + 1 := wI (by omega) (by omega)
      have h2a : ∀ W : World, (Instr.sliceAt 74 (.slice (some ⟨g, 0, none⟩) (n + 1) c) (some (.int .i64 ((i : Int) + 1))) none none).run Try.prog W = .ok (.slice (some ⟨g, (i + 1) * 3, none⟩) (n - i) (c - (i + 1))) W := fun W => by
        have := run_cutLoZ E80 W (some ⟨g, 0, none⟩) (n := n + 1) (c := c) (k := i + 1) (r := n - i) (by omega) (x := (i : Int) + 1) (by omega)
        rw [cutZ_some, if_neg (by omega), Nat.zero_add] at this; exact this
      have h2b : ∀ W : World, (Instr.sliceAt 74 (.slice (some ⟨g, 0, none⟩) (n + 1) c) (some (.int .i64 (i : Int))) none none).run Try.prog W = .ok (.slice (some ⟨g, i * 3, none⟩) (n + 1 - i) (c - i)) W := fun W => by
        have := run_cutLoZ E80 W (some ⟨g, 0, none⟩) (n := n + 1) (c := c) (k := i) (r := n + 1 - i) (by omega) (x := (i : Int)) rfl
        rw [cutZ_some, if_neg (by omega), Nat.zero_add] at this; exact this
      clear hcell hfro hh0 O1 hv1 O1d O2 F2 O3 F3 hc1 hc2 hfin Bv2 hL1 hL hf1 hf2 hw2 hw3 hvl hLl Fd
      go_enter Try.func65, Try.ntmps65
      go_wp2_with (simp only [hov])
      refine wp_region_last 8 (fun _ : World => True) (by kernel_rfl) ?_
      rw [← hwd]
      have hHeld : (fun _ : World => True) wd := trivial
      clear hov hwd
      refine anyP_takeF 0 (v := ?_) rfl (by kernel_rfl) (fun _ _ _ h => h) (Or.inl ⟨by rfl, ?_⟩) (.inr hHeld) ?_
      rotate_left 1
      · (intro w0 hSw; (try dsimp only at hSw); go_simp; (try (with_reducible rfl)))
      (try simp only [Act.put, List.setIfInBounds_toArray, List.set_cons_zero, List.set_cons_succ])
      refine anyP_takeF 1 (v := ?_) rfl (by kernel_rfl) (fun _ _ _ h => h) (Or.inl ⟨by rfl, ?_⟩) (.inr hHeld) ?_
      rotate_left 1
      · (intro w0 hSw; (try dsimp only at hSw); go_simp; (try (with_reducible rfl)))
      (try simp only [Act.put, List.setIfInBounds_toArray, List.set_cons_zero, List.set_cons_succ])
      refine anyP_takeF 2 (v := ?_) rfl (by kernel_rfl) (fun _ _ _ h => h) (Or.inl ⟨by rfl, ?_⟩) (.inr hHeld) ?_
      rotate_left 1
      · (intro w0 hSw; (try dsimp only at hSw); go_simp; (try (with_reducible rfl)))
      (try simp only [Act.put, List.setIfInBounds_toArray, List.set_cons_zero, List.set_cons_succ])
      refine anyP_takeF 3 (v := ?_) rfl (by kernel_rfl) (fun _ _ _ h => h) (Or.inl ⟨by rfl, ?_⟩) (.inr hHeld) ?_
      rotate_left 1
      · (intro w0 hSw; (try dsimp only at hSw); go_simp; (try (with_reducible rfl)))
      (try simp only [Act.put, List.setIfInBounds_toArray, List.set_cons_zero, List.set_cons_succ])
      refine anyP_takeF 4 (v := ?_) rfl (by kernel_rfl) (fun _ _ _ h => h) (Or.inl ⟨by rfl, ?_⟩) (.inr hHeld) ?_
      rotate_left 1
      · (intro w0 hSw; (try dsimp only at hSw); go_simp; (try (with_reducible rfl)))
      (try simp only [Act.put, List.setIfInBounds_toArray, List.set_cons_zero, List.set_cons_succ])
      refine anyP_takeF 5 (v := ?_) rfl (by kernel_rfl) (fun _ _ _ h => h) (Or.inl ⟨by rfl, ?_⟩) (.inr hHeld) ?_
      rotate_left 1
      · (intro w0 hSw; (try dsimp only at hSw); go_simp; (try (with_reducible rfl)))
      (try simp only [Act.put, List.setIfInBounds_toArray, List.set_cons_zero, List.set_cons_succ])
      refine anyP_takeF 6 (v := ?_) rfl (by kernel_rfl) (fun _ _ _ h => h) (Or.inl ⟨by rfl, ?_⟩) (.inr hHeld) ?_
      rotate_left 1
      · (intro w0 hSw; (try dsimp only at hSw); go_simp; (try (with_reducible rfl)))
      (try simp only [Act.put, List.setIfInBounds_toArray, List.set_cons_zero, List.set_cons_succ])
      refine anyP_takeF 7 (v := ?_) rfl (by kernel_rfl) (fun _ _ _ h => h) (Or.inl ⟨by rfl, ?_⟩) (.inr hHeld) ?_
      rotate_left 1
      · (intro w0 hSw; (try dsimp only at hSw); go_simp; (try (with_reducible rfl)))
      (try simp only [Act.put, List.setIfInBounds_toArray, List.set_cons_zero, List.set_cons_succ])
      refine anyP_one 8 (by kernel_rfl) rfl (fun K hK => ?_)
      replace hK := Lib.hid hK
      go_simp
      refine hK.out _ _ (.inl (by kernel_rfl)) ?_
      clear hK K
      (try simp only [Act.put, List.setIfInBounds_toArray, List.set_cons_zero, List.set_cons_succ])
      refine anyP_done (by kernel_rfl) ?_ _
      refine NoPanic.normal ?_
      go_wp2_with fail
      go_ret
      exact ⟨_, _, rfl, HX.out.1, HX.out.2, fun k hk => .inl hk⟩
    · skip
      have hr' : (c : Int) < (n : Int) + 1 := by omega
      obtain ⟨L, hL⟩ : ∃ L, L = ents l := ⟨_, rfl⟩
      have hLl : L.length = n * 3 := by rw [hL, ents_len]; omega
      have hL1 : ∀ u ∈ L, u.oneCell' = true := by rw [hL]; exact ents_one l
      obtain ⟨i0, hi0, hz0, hz1, hz2⟩ := info_parts E80.2.1
      have hold : (Builtin.firstCells i0.size i (.slice (some ⟨g, 0, none⟩) i c)).run Try.prog w.drew = .ok (L.take (i * 3)).toArray w.drew := by
        rw [hz1]
        refine run_firstCells_some w.drew 3 i ⟨g, 0, none⟩ i c (L.take (i * 3)) (by rw [List.length_take]; omega) (fun j v hj => ?_)
        rw [Addr.add_lit, Nat.zero_add]
        rw [List.getElem?_take] at hj
        split at hj
        · rw [hL] at hj; exact hcell j v hj
        · cases hj
      have hrz : ∀ ty, (Builtin.append_ #[74, 3] ty #[.slice (some ⟨g, 0, none⟩) i c, .int .i64 ((n : Int) + 1 - (i : Int))]).run Try.prog w =
          .ok (.slice (some ⟨w.heap.size, 0, none⟩) (n + 1) (grownCap w (n + 1) c 80)) (w.drew.alloc (.cells ((L.take (i * 3)).toArray ++ Builtin.zeroCells (Value.agg #[.int .i64 0, .int .i64 0, .bool false]).cells (n + 1 - i) ++ Builtin.zeroCells (Value.agg #[.int .i64 0, .int .i64 0, .bool false]).cells (grownCap w (n + 1) c 80 - (n + 1))) 80)) := fun ty => by
        have h := Lib.run_append_grow_zeros w 74 3 ty 80 i0 _ .i64 .i64 Try.underlying74 Try.underlying3 hi0 hz0 (some ⟨g, 0, none⟩) i c _ hold (n + 1 - i) (by omega) (by omega) (by omega) (by omega) (by rw [hz2]; omega) (by rw [hz2, show i + (n + 1 - i) = n + 1 by omega]; exact growslice_fits (by omega) (by omega))
        rw [show i + (n + 1 - i) = n + 1 by omega] at h
        rw [show (n : Int) + 1 - (i : Int) = ((n + 1 - i : Nat) : Int) by omega]
        exact h
      have hG := grownCap_ge w (n + 1) c 80
      have hG2 := grownCap_le_maxLen w (n + 1) c 80 (by unfold maxLen; omega)
      have hG3 : grownCap w (n + 1) c 80 ≤ 9223372036854775807 := hG2
      generalize grownCap w (n + 1) c 80 = G at hrz hG hG2 hG3
      obtain ⟨ROW, hROW⟩ : ∃ R, R = (L.take (i * 3)).toArray ++ Builtin.zeroCells (Value.agg #[.int .i64 0, .int .i64 0, .bool false]).cells (n + 1 - i) ++ Builtin.zeroCells (Value.agg #[.int .i64 0, .int .i64 0, .bool false]).cells (G - (n + 1)) := ⟨_, rfl⟩
      rw [← hROW] at hrz
      have hRs : ROW.size = G * 3 := by
        rw [hROW, Array.size_append, Array.size_append, zeroCells_size, zeroCells_size]
        have : (Value.agg #[.int .i64 0, .int .i64 0, .bool false]).cells.size = 3 := rfl
        rw [this, List.size_toArray, List.length_take]; omega
      have hRt : (ROW.toList.take ((n + 1) * 3)).take (i * 3) = L.take (i * 3) := by
        rw [List.take_take, Nat.min_eq_left (by omega), hROW, Array.toList_append, Array.toList_append, List.append_assoc, List.take_append_of_le_length (by simp; omega), List.take_of_length_le (by simp; omega)]
      obtain ⟨W1, hW1⟩ : ∃ W, W = w.drew.alloc (.cells ROW 80) := ⟨_, rfl⟩
      have O1 : OwnZ W1 B 80 3 (some ⟨w.heap.size, 0, none⟩) (n + 1) G (ROW.toList.take ((n + 1) * 3)) := by
        rw [hW1]
        exact ⟨by rw [List.length_take, Array.length_toList]; omega, .inr ⟨w.heap.size, G, ROW, rfl, HB.out, heap_alloc_new w.drew _, hG, hG3, hRs, rfl⟩⟩
      have F1 : Fr F0 w W1 := by rw [hW1]; exact (Fr.refl F0 w).drew.alloc _
      rw [← hW1] at hrz
      obtain ⟨g1, hg1⟩ : ∃ z, z = w.heap.size := ⟨_, rfl⟩
      rw [← hg1] at O1 hrz
      have hgl : g < g1 ∧ gv < g1 := by rw [hg1]; exact ⟨(Array.getElem?_eq_some_iff.1 hh0).1, HvB.out.lt⟩
      obtain ⟨cur1, hc1, hf1, O2, F2⟩ := OwnZ.copy O1 (off := i * 3) (cs := en3 e) (by show i * 3 + 3 ≤ _; omega)
      have Bv1 := HvB.out.fr F1 id
      have hr1 : ∀ ty dc, (Builtin.copy_ #[74, 74] ty #[.slice (some ⟨g1, i * 3, none⟩) (n + 1 - i) dc, .slice (some ⟨gv, 0, none⟩) 1 1]).run Try.prog W1 = .ok (goInt (Nat.min 1 (n + 1 - i))) (W1.setRow g1 (cur1.toList.take (i * 3) ++ en3 e ++ cur1.toList.drop (i * 3 + (en3 e).length)).toArray) := fun ty dc =>
        run_copy_rowZ W1 74 74 ty 80 3 g1 (i * 3) (n + 1 - i) dc ⟨gv, 0, none⟩ 1 1 cur1 80 (en3 e) Try.underlying74 (by kernel_rfl) hc1 (by show 3 = _; rw [show Nat.min 1 (n + 1 - i) = 1 from Nat.min_eq_left (by omega)])
          (fun j v hj => by rw [Addr.add_lit, Nat.zero_add]; exact Bv1.cell hj) hf1 (fun v hv => ents_one [e] v (by simpa [ents] using hv))
      obtain ⟨W2, hW2⟩ : ∃ W, W = W1.setRow g1 (cur1.toList.take (i * 3) ++ en3 e ++ cur1.toList.drop (i * 3 + (en3 e).length)).toArray := ⟨_, rfl⟩
      rw [← hW2] at hr1 O2 F2
      obtain ⟨W3, hW3⟩ : ∃ W, W = W2.drew := ⟨_, rfl⟩
      have F3 : Fr F0 W2 W3 := by rw [hW3]; exact (Fr.refl F0 _).drew
      obtain ⟨cur2, hc2, hf2, O4, F4⟩ := OwnZ.copy (OwnZ.fr0 O2 F3) (off := (i + 1) * 3) (cs := L.drop (i * 3)) (by rw [List.length_drop]; omega)
      have hng : ∀ k, k < g1 → ¬ onBlk (some ⟨g1, 0, none⟩) k := fun k hk hb => by have := (onBlk_some _ _ _ _).1 hb; omega
      have hr2 : ∀ ty dc sc, (Builtin.copy_ #[74, 74] ty #[.slice (some ⟨g1, (i + 1) * 3, none⟩) (n - i) dc, .slice (some ⟨g, i * 3, none⟩) (n - i) sc]).run Try.prog W3 = .ok (goInt (Nat.min (n - i) (n - i))) (W3.setRow g1 (cur2.toList.take ((i + 1) * 3) ++ L.drop (i * 3) ++ cur2.toList.drop ((i + 1) * 3 + (L.drop (i * 3)).length)).toArray) := fun ty dc sc =>
        run_copy_rowZ W3 74 74 ty 80 3 g1 ((i + 1) * 3) (n - i) dc ⟨g, i * 3, none⟩ (n - i) sc cur2 80 (L.drop (i * 3)) Try.underlying74 (by kernel_rfl) hc2 (by rw [List.length_drop, hLl, show Nat.min (n - i) (n - i) = n - i from Nat.min_self _]; omega)
          (fun j v hj => by rw [Addr.add_lit]; refine F3.cell (F2.cell (F1.cell (hcell _ _ ?_) id) (hng g hgl.1)) id; rw [← hL]; rwa [List.getElem?_drop] at hj) hf2 (fun v hv => hL1 v (List.mem_of_mem_drop hv))
      obtain ⟨W4, hW4⟩ : ∃ W, W = W3.setRow g1 (cur2.toList.take ((i + 1) * 3) ++ L.drop (i * 3) ++ cur2.toList.drop ((i + 1) * 3 + (L.drop (i * 3)).length)).toArray := ⟨_, rfl⟩
      rw [← hW4] at hr2 O4 F4
      have hfin : spl (spl (ROW.toList.take ((n + 1) * 3)) (i * 3) (en3 e)) ((i + 1) * 3) (L.drop (i * 3)) = ents (insAt l i e) := by
        rw [ents_mid, ← hL]; exact spl_grow (by rw [List.length_take, Array.length_toList]; omega) hLl hRt hi rfl
      rw [hfin] at O4
      have hFr : Fr (onBlk (some ⟨g, 0, none⟩)) w W4 := (F1.mono (fun _ _ h => h.elim)).trans (((F2.trans0 F3).trans F4 (fun _ _ h => h)).mono (S' := onBlk (some ⟨g1, 0, none⟩)) (fun _ _ h => h)) (fun k hk hb => by exact absurd hb (hng k (by omega)))
      have HX := Lib.hid (And.intro O4 hFr)
      have Hg1 := Lib.hid hg1
      have hw1 : IntKind.i64.wrap ((i : Int) + 1) = (i : Int) + 1 := wI (by omega) (by omega)
      have hw2 : IntKind.i64.wrap ((n : Int) + 1 - (i : Int)) = (n : Int) + 1 - (i : Int) := wI (by omega) (by omega)
      have h2a : ∀ W : World, (Instr.sliceAt 74 (.slice (some ⟨g1, 0, none⟩) (n + 1) G) (some (.int .i64 ((i : Int) + 1))) none none).run Try.prog W = .ok (.slice (some ⟨g1, (i + 1) * 3, none⟩) (n - i) (G - (i + 1))) W := fun W => by
        have := run_cutLoZ E80 W (some ⟨g1, 0, none⟩) (n := n + 1) (c := G) (k := i + 1) (r := n - i) (by omega) (x := (i : Int) + 1) (by omega)
        rw [cutZ_some, if_neg (by omega), Nat.zero_add] at this; exact this
      have h2b : ∀ W : World, (Instr.sliceAt 74 (.slice (some ⟨g1, 0, none⟩) (n + 1) G) (some (.int .i64 (i : Int))) none none).run Try.prog W = .ok (.slice (some ⟨g1, i * 3, none⟩) (n + 1 - i) (G - i)) W := fun W => by
        have := run_cutLoZ E80 W (some ⟨g1, 0, none⟩) (n := n + 1) (c := G) (k := i) (r := n + 1 - i) (by omega) (x := (i : Int)) rfl
        rw [cutZ_some, if_neg (by omega), Nat.zero_add] at this; exact this
      have h2c : ∀ W : World, (Instr.sliceAt 74 (.slice (some ⟨g, 0, none⟩) n c) (some (.int .i64 (i : Int))) none none).run Try.prog W = .ok (.slice (some ⟨g, i * 3, none⟩) (n - i) (c - i)) W := fun W => by
        have := run_cutLoZ E80 W (some ⟨g, 0, none⟩) (n := n) (c := c) (k := i) (r := n - i) (by omega) (x := (i : Int)) rfl
        rw [cutZ_some, if_neg (by omega), Nat.zero_add] at this; exact this
      have h2d : ∀ W : World, (Instr.sliceAt 74 (.slice (some ⟨g, 0, none⟩) n c) none (some (.int .i64 (i : Int))) none).run Try.prog W = .ok (.slice (some ⟨g, 0, none⟩) i c) W := fun W => run_cutHiZ (E := E80) W g (by omega) rfl
      clear h1a hcell hfro hh0 O1 O2 F2 O4 F4 hc1 hc2 hfin Bv1 hL1 hL hf1 hf2 hW1 hW2 hW4 hLl F1 F3 hFr hold hROW hRs hRt hov hg1 hi0 hz0 hz1 hz2
      have h1a : ∀ W : World, (Instr.sliceAt 74 (.slice (some ⟨g, 0, none⟩) n c) (some (.int .i64 (i : Int))) none none).run Try.prog W = .ok (.slice (some ⟨g, i * 3, none⟩) (n - i) (c - i)) W := h2c
      clear h1a
      go_enter Try.func65, Try.ntmps65
      go_wp2_with (at_builtin; refine Lib.wpList_append_run _ rfl _ _ _ _ rfl _ _ rfl rfl _ _ (hrz _) ?_)
      refine wp_region_last 8 (fun _ : World => True) (by kernel_rfl) ?_
      rw [← hW3]
      have hHeld : (fun _ : World => True) W3 := trivial
      clear hW3
      refine anyP_takeF 0 (v := ?_) rfl (by kernel_rfl) (fun _ _ _ h => h) (Or.inl ⟨by rfl, ?_⟩) (.inr hHeld) ?_
      rotate_left 1
      · (intro w0 hSw; (try dsimp only at hSw); go_simp; (try (with_reducible rfl)))
      (try simp only [Act.put, List.setIfInBounds_toArray, List.set_cons_zero, List.set_cons_succ])
      refine anyP_takeF 1 (v := ?_) rfl (by kernel_rfl) (fun _ _ _ h => h) (Or.inl ⟨by rfl, ?_⟩) (.inr hHeld) ?_
      rotate_left 1
      · (intro w0 hSw; (try dsimp only at hSw); go_simp; (try (with_reducible rfl)))
      (try simp only [Act.put, List.setIfInBounds_toArray, List.set_cons_zero, List.set_cons_succ])
      refine anyP_takeF 2 (v := ?_) rfl (by kernel_rfl) (fun _ _ _ h => h) (Or.inl ⟨by rfl, ?_⟩) (.inr hHeld) ?_
      rotate_left 1
      · (intro w0 hSw; (try dsimp only at hSw); go_simp; (try (with_reducible rfl)))
      (try simp only [Act.put, List.setIfInBounds_toArray, List.set_cons_zero, List.set_cons_succ])
      refine anyP_takeF 3 (v := ?_) rfl (by kernel_rfl) (fun _ _ _ h => h) (Or.inl ⟨by rfl, ?_⟩) (.inr hHeld) ?_
      rotate_left 1
      · (intro w0 hSw; (try dsimp only at hSw); go_simp; (try (with_reducible rfl)))
      (try simp only [Act.put, List.setIfInBounds_toArray, List.set_cons_zero, List.set_cons_succ])
      refine anyP_takeF 4 (v := ?_) rfl (by kernel_rfl) (fun _ _ _ h => h) (Or.inl ⟨by rfl, ?_⟩) (.inr hHeld) ?_
      rotate_left 1
      · (intro w0 hSw; (try dsimp only at hSw); go_simp; (try (with_reducible rfl)))
      (try simp only [Act.put, List.setIfInBounds_toArray, List.set_cons_zero, List.set_cons_succ])
      refine anyP_takeF 5 (v := ?_) rfl (by kernel_rfl) (fun _ _ _ h => h) (Or.inl ⟨by rfl, ?_⟩) (.inr hHeld) ?_
      rotate_left 1
      · (intro w0 hSw; (try dsimp only at hSw); go_simp; (try (with_reducible rfl)))
      (try simp only [Act.put, List.setIfInBounds_toArray, List.set_cons_zero, List.set_cons_succ])
      refine anyP_takeF 6 (v := ?_) rfl (by kernel_rfl) (fun _ _ _ h => h) (Or.inl ⟨by rfl, ?_⟩) (.inr hHeld) ?_
      rotate_left 1
      · (intro w0 hSw; (try dsimp only at hSw); go_simp; (try (with_reducible rfl)))
      (try simp only [Act.put, List.setIfInBounds_toArray, List.set_cons_zero, List.set_cons_succ])
      refine anyP_takeF 7 (v := ?_) rfl (by kernel_rfl) (fun _ _ _ h => h) (Or.inl ⟨by rfl, ?_⟩) (.inr hHeld) ?_
      rotate_left 1
      · (intro w0 hSw; (try dsimp only at hSw); go_simp; (try (with_reducible rfl)))
      (try simp only [Act.put, List.setIfInBounds_toArray, List.set_cons_zero, List.set_cons_succ])
      refine anyP_one 8 (by kernel_rfl) rfl (fun K hK => ?_)
      replace hK := Lib.hid hK
      go_simp
      refine hK.out _ _ (.inl (by kernel_rfl)) ?_
      clear hK K
      (try simp only [Act.put, List.setIfInBounds_toArray, List.set_cons_zero, List.set_cons_succ])
      refine anyP_done (by kernel_rfl) ?_ _
      refine NoPanic.normal ?_
      go_wp2_with fail
      go_ret
      exact ⟨_, _, rfl, HX.out.1, HX.out.2, fun k hk => .inr (by have := (onBlk_some _ _ _ _).1 hk; have := Hg1.out; omega)⟩
end Go.Proofs.Ytkmnnfflibamnaa
/- Buffer trees: slices.IndexFunc, slices.DeleteFunc of removed entries. -/
namespace Go.Proofs.Ytkmnnfflibamnaa
open Go.RowKit
attribute [local go_sem ↓] Go.wp_at_zero Go.wp_at_succ
theorem rem_any (k v : Int) (rm : Bool) (w : World) : Calls Try.prog 80 #[.agg #[.int .i64 k, .int .i64 v, .bool rm]] w fun e w' => e = .returned (.bool rm) ∧ Fr F0 w w' := by
  have FB : Hid (Fr F0 w (w.alloc (.cells #[.int .i64 k, .int .i64 v, .bool rm] 80))) := Lib.hid ((Fr.refl _ _).alloc _)
  go_enter Try.func80, Try.ntmps80
  go_wp2_with fail
  go_ret
  exact ⟨rfl, FB.out⟩
def idxR (l : List En) : Int := if l.any (fun e => e.2.2) then ((l.findIdx (fun e => e.2.2) : Nat) : Int) else -1
set_option maxHeartbeats 4000000 in
theorem IndexFunc_any {w : World} {a : Option Addr} {n c : Nat} {l : List En} (h : RdZ w 3 a n (ents l)) (hn : n ≤ 1000000) :
    Calls Try.prog 104 #[.slice a n c, .func (.func 80) #[] #[]] w fun e w' => e = .returned (.int .i64 (idxR l)) ∧ Fr F0 w w' := by
  have hl : l.length = n := by have := h.len; rw [ents_len] at this; omega
  have HR := Lib.hid h
  have Hl := Lib.hid hl
  clear h hl
  go_enter Try.func104, Try.ntmps104
  go_wp2_with fail
  go_loopw [8] (fun s8 wr => ∃ k : Nat, k ≤ n ∧ s8 = .int .i64 (k : Int) ∧ Hid ((l.take k).any (fun e => e.2.2) = false ∧ Fr F0 w wr)) (fun s8 _ => n - (intOf s8).toNat)
  case atStart => exact ⟨0, Nat.zero_le _, rfl, Lib.hid ⟨by simp, Fr.refl _ _⟩⟩
  case round =>
    obtain ⟨k, hk, rfl, H⟩ := hrel
    by_cases hlt : k < n
    · have hlt' : (k : Int) < (n : Int) := by omega
      obtain ⟨x, hx⟩ : ∃ x, l[k]? = some x := ⟨_, List.getElem?_eq_getElem (by have := Hl.out; omega)⟩
      obtain ⟨b, o, rfl, d0, d1, d2⟩ := (HR.out.fr0 H.out.2).ent hx
      obtain ⟨x1, x2, x3⟩ := x
      dsimp only at d0 d1 d2
      have HX := Lib.hid hx
      have HC := Lib.hid (fun w => rem_any x1 x2 x3 w)
      clear hx
      cases hx3 : x3
      · rw [hx3] at HC HX d2
        clear hx3
        go_wp2_with fail
        refine (HC.out _).mono ?_
        rintro e w2 ⟨rfl, F2⟩
        have H2 : Hid ((l.take (k + 1)).any (fun e => e.2.2) = false ∧ Fr F0 w w2) := Lib.hid ⟨by rw [List.take_add_one, HX.out, List.any_append, H.out.1]; rfl, H.out.2.trans0 F2⟩
        clear F2
        go_wp2_with fail
        go_roundw
        case rel => exact ⟨k + 1, by omega, by go_num, H2⟩
        case measure => simp [intOf]; omega
      · rw [hx3] at HC HX d2
        clear hx3
        have hi : idxR l = (k : Int) := by
          have hx := HX.out
          have hany : l.any (fun e => e.2.2) = true := List.any_eq_true.2 ⟨_, List.mem_of_getElem? hx, rfl⟩
          unfold idxR
          rw [if_pos hany]
          have hl := Hl.out
          have h1 : l.findIdx (fun e => e.2.2) = k := by
            rw [List.findIdx_eq (by omega)]
            obtain ⟨q1, q2⟩ := List.getElem?_eq_some_iff.1 hx
            refine ⟨by rw [q2], fun j hj => ?_⟩
            have h2 := List.any_eq_false.1 H.out.1 (l[j]'(by omega)) (List.mem_take_iff_getElem.2 ⟨j, by omega, rfl⟩)
            simpa using h2
          rw [h1]
        have HI := Lib.hid hi
        clear hi
        go_wp2_with fail
        refine (HC.out _).mono ?_
        rintro e w2 ⟨rfl, F2⟩
        have H2 := Lib.hid (H.out.2.trans0 F2)
        clear F2
        go_wp2_with fail
        go_ret
        rw [HI.out]
        exact ⟨rfl, H2.out⟩
    · obtain rfl : n = k := by omega
      have hi : idxR l = -1 := by
        have := H.out.1
        rw [List.take_of_length_le (by rw [Hl.out]; exact Nat.le_refl _)] at this
        unfold idxR
        rw [this]; rfl
      have HI := Lib.hid hi
      clear hi
      go_wp2_with fail
      go_ret
      rw [HI.out]
      exact ⟨rfl, H.out.2⟩
end Go.Proofs.Ytkmnnfflibamnaa
/- Buffer trees: slices.DeleteFunc of removed entries. -/
namespace Go.Proofs.Ytkmnnfflibamnaa
open Go.RowKit
attribute [local go_sem ↓] Go.wp_at_zero Go.wp_at_succ
theorem zeroCells_one (z : Array Value) (hz : ∀ i, i < z.size → (z[i]!).oneCell' = true) (h0 : 0 < z.size) (n : Nat) : ∀ v ∈ (Builtin.zeroCells z n).toList, v.oneCell' = true := by
  intro v hv
  unfold Builtin.zeroCells at hv
  simp at hv
  obtain ⟨i, _, rfl⟩ := hv
  exact hz _ (Nat.mod_lt _ h0)
theorem clear_row {w : World} {B g n c i cc : Nat} {vs : List Value} (O : OwnZ w B 80 3 (some ⟨g, 0, none⟩) n c vs) (hi : i ≤ n) (ty : TypeId) :
    ∃ W Z, (Builtin.clear_ #[74] ty #[.slice (some ⟨g, i * 3, none⟩) (n - i) cc]).run Try.prog w = .ok (.tuple #[]) W ∧ Z.length = (n - i) * 3 ∧ OwnZ W B 80 3 (some ⟨g, 0, none⟩) n c (spl vs (i * 3) Z) ∧ Fr (onBlk (some ⟨g, 0, none⟩)) w W := by
  by_cases h0 : n - i = 0
  · refine ⟨w, [], ?_, by rw [h0]; rfl, ?_, Fr.refl _ _⟩
    · rw [h0]; simp [Builtin.clear_, run_underlying Try.underlying74]
    · have : spl vs (i * 3) [] = vs := by unfold spl; simp
      rw [this]; exact O
  · obtain ⟨Z, hZ⟩ : ∃ Z, Z = (Builtin.zeroCells (Value.agg #[.int .i64 0, .int .i64 0, .bool false]).cells (n - i)).toList := ⟨_, rfl⟩
    have hZl : Z.length = (n - i) * 3 := by rw [hZ, Array.length_toList, zeroCells_size]; rfl
    have hZ1 : ∀ v ∈ Z, v.oneCell' = true := by
      rw [hZ]
      refine zeroCells_one _ (fun i hi => ?_) (by decide) _
      have hi' : i < 3 := hi
      match i, hi' with
      | 0, _ => rfl
      | 1, _ => rfl
      | 2, _ => rfl
    obtain ⟨cur, hc, hf, O2, F2⟩ := OwnZ.copy O (off := i * 3) (cs := Z) (by rw [hZl]; omega)
    have hst := run_storeCells_at Try.prog g (i * 3) 80 Z 0 cur w hc (by simpa using hf) hZ1
    refine ⟨_, Z, ?_, hZl, O2, F2⟩
    obtain ⟨m, hm⟩ : ∃ m, n - i = m + 1 := ⟨n - i - 1, by omega⟩
    have hzv : ∀ W, (zeroValue 80).run Try.prog W = .ok (.agg #[.int .i64 0, .int .i64 0, .bool false]) W := fun W => by kernel_rfl
    rw [hm] at hZ ⊢
    simp only [Nat.add_zero] at hst
    simp [Builtin.clear_, run_underlying Try.underlying74, hzv, ← hZ, hst]
theorem ents_set : ∀ (Y : List En) (i : Nat) (e : En), ((((ents Y).set (i * 3) (.int .i64 e.1)).set (i * 3 + 1) (.int .i64 e.2.1)).set (i * 3 + 2) (.bool e.2.2)) = ents (Y.set i e) := by
  intro Y
  induction Y with
  | nil => intro i e; simp [ents]
  | cons y Y ih =>
    intro i e
    have hx : ∀ (x : En) (l : List En), ents (x :: l) = .int .i64 x.1 :: .int .i64 x.2.1 :: .bool x.2.2 :: ents l := fun x l => by unfold ents; rw [List.flatMap_cons]; rfl
    cases i with
    | zero => rw [List.set_cons_zero, hx, hx]; rfl
    | succ i =>
      rw [List.set_cons_succ, hx, hx, ← ih i e, show (i + 1) * 3 = i * 3 + 1 + 1 + 1 by omega]
      rfl
theorem ents_takeDrop (l : List En) (i : Nat) : ents (l.take i) = (ents l).take (i * 3) := by
  induction l generalizing i with
  | nil => simp [ents]
  | cons x l ih =>
    have hx : ∀ (x : En) (l : List En), ents (x :: l) = .int .i64 x.1 :: .int .i64 x.2.1 :: .bool x.2.2 :: ents l := fun x l => by unfold ents; rw [List.flatMap_cons]; rfl
    cases i with
    | zero => simp [ents]
    | succ i => rw [List.take_succ_cons, hx, hx, ih, show (i + 1) * 3 = i * 3 + 1 + 1 + 1 by omega]; rfl
theorem drp_snoc (l : List En) (j : Nat) (e : En) (he : l[j]? = some e) : drp (l.take (j + 1)) = if e.2.2 then drp (l.take j) else drp (l.take j) ++ [e] := by
  unfold drp
  rw [List.take_add_one, he, List.filter_append]
  cases h : e.2.2 <;> simp [h]
set_option maxRecDepth 100000 in
set_option maxHeartbeats 8000000 in
theorem DeleteFunc_any {w : World} {B : Nat} {a : Option Addr} {n c : Nat} {l : List En} (own : OwnZ w B 80 3 a n c (ents l)) (hn : n ≤ 1000000) :
    Calls Try.prog 79 #[.slice a n c, .func (.func 80) #[] #[]] w fun e w' => e = .returned (.slice a (drp l).length c) ∧ OwnZ w' B 80 3 a (drp l).length c (ents (drp l)) ∧ Fr (onBlk a) w w' := by
  have hl : l.length = n := by have := own.1; rw [ents_len] at this; omega
  have hcap := OwnZ.cap own
  have HO := Lib.hid own
  have Hl := Lib.hid hl
  have HI := Lib.hid (IndexFunc_any (c := c) (OwnZ.rd own) hn)
  clear own
  cases hany : l.any (fun e => e.2.2) with
  | false =>
    have hi : idxR l = -1 := by unfold idxR; rw [hany]; rfl
    rw [hi] at HI
    have hd : drp l = l := by
      unfold drp
      refine List.filter_eq_self.2 (fun e he => ?_)
      have := List.any_eq_false.1 hany e he
      simpa using this
    rw [hd, hl]
    clear hany hi hd hl
    go_enter Try.func79, Try.ntmps79
    go_wp2_with fail
    refine HI.out.mono ?_
    rintro e w2 ⟨rfl, F2⟩
    have HF := Lib.hid F2
    clear F2
    go_wp2_with fail
    go_ret
    exact ⟨rfl, OwnZ.fr0 HO.out HF.out, HF.out.mono (fun _ _ h => h.elim)⟩
  | true =>
    obtain ⟨i0, hi0⟩ : ∃ i0, i0 = l.findIdx (fun e => e.2.2) := ⟨_, rfl⟩
    have hi : idxR l = (i0 : Int) := by unfold idxR; rw [hany, if_pos rfl, hi0]
    have hlt : i0 < l.length := by rw [hi0]; exact List.findIdx_lt_length_of_exists (by simpa using hany)
    have hat : (l[i0]'hlt).2.2 = true := by subst hi0; exact List.findIdx_getElem (w := hlt)
    have hpre : drp (l.take i0) = l.take i0 := by
      unfold drp
      refine List.filter_eq_self.2 (fun e he => ?_)
      obtain ⟨j, hj, rfl⟩ := List.mem_take_iff_getElem.1 he
      have := List.not_of_lt_findIdx (p := fun e : En => e.2.2) (xs := l) (i := j) (by omega)
      simpa using this
    have hst : l.take i0 = drp (l.take (i0 + 1)) := by
      rw [drp_snoc l i0 _ (List.getElem?_eq_getElem hlt), hat, if_pos rfl, hpre]
    rw [hi] at HI
    obtain ⟨g, hg, _, _, _, _⟩ := OwnZ.at HO.out (by omega)
    subst hg
    have HS := Lib.hid hst
    have hne : ¬ (i0 : Int) = -1 := by omega
    have hneb : ((i0 : Int) == -1) = false := by simp
    clear hany hi0 hi hat hpre hst
    go_enter Try.func79, Try.ntmps79
    go_wp2_with fail
    refine HI.out.mono ?_
    rintro e w2 ⟨rfl, F2⟩
    have HF : Hid (OwnZ w2 B 80 3 (some ⟨g, 0, none⟩) n c (ents l) ∧ Fr (onBlk (some ⟨g, 0, none⟩)) w w2) := Lib.hid ⟨OwnZ.fr0 HO.out F2, F2.mono (fun _ _ h => h.elim)⟩
    clear F2 HI HO
    go_wp2_with fail
    go_loopw [5, 6] (fun s5 s6 wr => ∃ (i j : Nat) (Y : List En), i < j ∧ j ≤ n ∧ s5 = .int .i64 (i : Int) ∧ s6 = .int .i64 (j : Int) ∧ Hid (OwnZ wr B 80 3 (some ⟨g, 0, none⟩) n c (ents Y) ∧ Y.length = n ∧ Y.take i = drp (l.take j) ∧ Y.drop j = l.drop j ∧ Fr (onBlk (some ⟨g, 0, none⟩)) w wr)) (fun _ s6 _ => n - (intOf s6).toNat)
    case atStart => exact ⟨i0, i0 + 1, l, by omega, by omega, rfl, by go_num, Lib.hid ⟨HF.out.1, Hl.out, HS.out, rfl, HF.out.2⟩⟩
    case round =>
      obtain ⟨i, j, Y, hij, hj, rfl, rfl, H⟩ := hrel
      by_cases hlt2 : j < n
      · have hlt2' : (j : Int) < (n : Int) := by omega
        have hYj : Y[j]? = l[j]? := by
          have := congrArg (fun z => z[0]?) H.out.2.2.2.1
          simpa using this
        obtain ⟨x, hx⟩ : ∃ x, l[j]? = some x := ⟨_, List.getElem?_eq_getElem (by omega)⟩
        rw [hx] at hYj
        obtain ⟨g', hg', _, _, hcell, hfro⟩ := OwnZ.at H.out.1 (by omega)
        injection hg' with hg'
        injection hg' with hg'
        subst hg'
        obtain ⟨b, o, hb, d0, d1, d2⟩ := (OwnZ.rd H.out.1).ent hYj
        injection hb with hb
        injection hb with hb1 hb2
        subst hb1
        subst hb2
        rw [Nat.zero_add] at d0 d1 d2
        obtain ⟨y, hy⟩ : ∃ y, Y[i]? = some y := ⟨_, List.getElem?_eq_getElem (by have := H.out.2.1; omega)⟩
        have c0 := hcell _ (.int .i64 y.1) (by rw [ents_get hy 0 (by omega)]; rfl)
        have c1 := hcell _ (.int .i64 y.2.1) (by rw [ents_get hy 1 (by omega)]; rfl)
        have c2 := hcell _ (.bool y.2.2) (by rw [ents_get hy 2 (by omega)]; rfl)
        rw [Nat.add_zero] at c0
        have f0 := hfro (i * 3)
        have f1 := hfro (i * 3 + 1)
        have f2 := hfro (i * 3 + 2)
        obtain ⟨x1, x2, x3⟩ := x
        dsimp only at d0 d1 d2
        have HX := Lib.hid (And.intro hx hYj)
        clear hcell hfro hx hYj hy
        go_upto_region 8 with fail
        have F5 := (Fr.refl F0 wr).alloc (.cells #[.int .i64 x1, .int .i64 x2, .bool x3] 80)
        have P5 := Blk.new wr 80 [.int .i64 x1, .int .i64 x2, .bool x3]
        have hgl : g < wr.heap.size := (OwnZ.blk H.out.1 g ((onBlk_some _ _ _ _).2 rfl)).2
        obtain ⟨p, hp⟩ : ∃ b, b = wr.heap.size := ⟨_, rfl⟩
        obtain ⟨w5, hw5⟩ : ∃ W, W = wr.alloc (.cells #[.int .i64 x1, .int .i64 x2, .bool x3] 80) := ⟨_, rfl⟩
        change Blk (wr.alloc (.cells #[.int .i64 x1, .int .i64 x2, .bool x3] 80)) _ _ _ at P5
        rw [← hw5] at F5 P5 ⊢
        rw [← hp] at P5 ⊢
        have y0 := P5.cell (i := 0) rfl
        have y1 := P5.cell (i := 1) rfl
        have y2 := P5.cell (i := 2) rfl
        have HF5 := Lib.hid F5
        have HP5 := Lib.hid P5
        have HC := Lib.hid (fun w => rem_any x1 x2 x3 w)
        have Hp := Lib.hid hgl
        rw [← hp] at Hp
        clear hw5 hp F5 P5 d0 d1 d2 hgl
        go_wp2_with fail
        refine (HC.out _).mono ?_
        rintro e w6 ⟨rfl, F6⟩
        have HF6 := Lib.hid (HF5.out.trans0 F6)
        have z0 := F6.cell y0 id
        have z1 := F6.cell y1 id
        have z2 := F6.cell y2 id
        have e0 := HF6.out.cell c0 id
        have e1 := HF6.out.cell c1 id
        have e2 := HF6.out.cell c2 id
        have k0 := (HF6.out.frozen (p := ⟨g, i * 3, none⟩) (by have := Hp.out; have := HP5.out.lt; exact Nat.lt_of_lt_of_le (OwnZ.blk H.out.1 g ((onBlk_some _ _ _ _).2 rfl)).2 (Nat.le_refl _)) id).trans f0
        have k1 := (HF6.out.frozen (p := ⟨g, i * 3 + 1, none⟩) (OwnZ.blk H.out.1 g ((onBlk_some _ _ _ _).2 rfl)).2 id).trans f1
        have k2 := (HF6.out.frozen (p := ⟨g, i * 3 + 2, none⟩) (OwnZ.blk H.out.1 g ((onBlk_some _ _ _ _).2 rfl)).2 id).trans f2
        have hdr : Y.drop (j + 1) = l.drop (j + 1) := by
          have := congrArg (fun z => z.drop 1) H.out.2.2.2.1
          simpa [List.drop_drop] using this
        have H6 : Hid (OwnZ w6 B 80 3 (some ⟨g, 0, none⟩) n c (ents Y) ∧ Fr (onBlk (some ⟨g, 0, none⟩)) w w6 ∧ Y.drop (j + 1) = l.drop (j + 1)) := Lib.hid ⟨OwnZ.fr0 H.out.1 HF6.out, H.out.2.2.2.2.trans0 HF6.out, hdr⟩
        have hin : i < n := by omega
        clear F6 c0 c1 c2 f0 f1 f2 y0 y1 y2 hdr
        cases x3
        · go_wp2_with fail
          have hos := ((OwnZ.set (i := i * 3) H6.out.1 (.int .i64 x1)).set (i := i * 3 + 1) (.int .i64 x2)).set (i := i * 3 + 2) (.bool false)
          have hes := ents_set Y i (x1, x2, false)
          dsimp only at hes
          rw [hes] at hos
          have hfs := ((H6.out.2.1.setOn (i * 3) (.int .i64 x1)).setOn (i * 3 + 1) (.int .i64 x2)).setOn (i * 3 + 2) (.bool false)
          have htk : (Y.set i (x1, x2, false)).take (i + 1) = drp (l.take (j + 1)) := by
            rw [drp_snoc l j _ HX.out.1, if_neg (by simp), ← H.out.2.2.1, List.take_add_one, List.getElem?_set_self (by have := H.out.2.1; omega), List.take_set_of_le (Nat.le_refl _)]
            rfl
          have hdr : (Y.set i (x1, x2, false)).drop (j + 1) = l.drop (j + 1) := by
            rw [List.drop_set_of_lt (by omega)]; exact H6.out.2.2
          go_roundw
          case rel => exact ⟨i + 1, j + 1, Y.set i (x1, x2, false), by omega, by omega, by go_num, by go_num, Lib.hid ⟨hos, by rw [List.length_set]; exact H.out.2.1, htk, hdr, hfs⟩⟩
          case measure => simp [intOf]; omega
        · go_wp2_with fail
          go_roundw
          case rel => exact ⟨i, j + 1, Y, by omega, by omega, rfl, by go_num, Lib.hid ⟨H6.out.1, H.out.2.1, by rw [drp_snoc l j _ HX.out.1, if_pos rfl]; exact H.out.2.2.1, H6.out.2.2, H6.out.2.1⟩⟩
          case measure => simp [intOf]; omega
      · obtain rfl : n = j := by omega
        obtain ⟨W9, Z, hcl, hZl, O9, F9⟩ := clear_row (i := i) (cc := c - i) H.out.1 (by omega) 0
        have hYt : Y.take i = drp l := by
          have := H.out.2.2.1
          rw [List.take_of_length_le (l := l) (by omega)] at this; exact this
        have hil : (drp l).length = i := by rw [← hYt, List.length_take]; have := H.out.2.1; omega
        have hO := OwnZ.cutHi O9 (k := i) (by omega)
        have htk : (spl (ents Y) (i * 3) Z).take (i * 3) = ents (drp l) := by
          have hel : (ents Y).length = n * 3 := by rw [ents_len, H.out.2.1]
          unfold spl
          rw [List.append_assoc, List.take_append_of_le_length (by rw [List.length_take]; omega), List.take_take, Nat.min_self, ← ents_takeDrop, hYt]
        rw [htk] at hO
        have HX := Lib.hid (And.intro hO (H.out.2.2.2.2.trans F9 (fun _ _ h => h)))
        have Hil := Lib.hid hil
        have h2a : ∀ W : World, (Instr.sliceAt 74 (.slice (some ⟨g, 0, none⟩) n c) (some (.int .i64 (i : Int))) none none).run Try.prog W = .ok (.slice (some ⟨g, i * 3, none⟩) (n - i) (c - i)) W := fun W => by
          have := run_cutLoZ E80 W (some ⟨g, 0, none⟩) (n := n) (c := c) (k := i) (r := n - i) (by omega) (x := (i : Int)) rfl
          rw [cutZ_some, if_neg (by omega), Nat.zero_add] at this; exact this
        have h2d : ∀ W : World, (Instr.sliceAt 74 (.slice (some ⟨g, 0, none⟩) n c) none (some (.int .i64 (i : Int))) none).run Try.prog W = .ok (.slice (some ⟨g, 0, none⟩) i c) W := fun W => run_cutHiZ (E := E80) W g (by omega) rfl
        clear O9 F9 hO htk hYt hil hZl
        go_wp2_with fail
        go_ret
        rw [Hil.out]
        exact ⟨rfl, HX.out.1, HX.out.2⟩
end Go.Proofs.Ytkmnnfflibamnaa
