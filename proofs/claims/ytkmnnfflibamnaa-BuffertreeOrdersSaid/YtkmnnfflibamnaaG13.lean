/- Buffer trees: joined. -/
import Derived.Test.YtkmnnfflibamnaaG12
import Derived.Test.YtkmnnfflibamnaaG6
namespace Go.Proofs.Ytkmnnfflibamnaa
open Go.RowKit Go.Shelf
attribute [local go_sem] Oper.semAt_some
theorem Lo_ins {l : List En} (h : Sd l) {e : En} {i : Nat} (hi : Lo l e.1 i) (hn : lk l e.1 = none) : insAt l i e = ins l e := by
  rw [ins_split hi.le (fun j y hj hy => hi.lo j y hy hj) (fun y hy => by have := hi.hi i y hy (Nat.le_refl _); omega)]
  unfold insAt
  congr 1
  cases hy : l[i]? with
  | none => rw [List.drop_eq_nil_iff.2 (by have := List.getElem?_eq_none_iff.1 hy; exact this)]
  | some y =>
    have := hi.found h hy
    rw [hn] at this
    dsimp only
    by_cases c : y.1 = e.1
    · rw [if_pos c] at this; cases this
    · rw [if_neg c]
theorem Lo_ins_eq {l : List En} {e y : En} {i : Nat} (hi : Lo l e.1 i) (hy : l[i]? = some y) (hk : y.1 = e.1) : ins l e = l.set i e := by
  rw [ins_split hi.le (fun j y hj hy => hi.lo j y hy hj) (fun y hy => by have := hi.hi i y hy (Nat.le_refl _); omega), hy]
  dsimp only
  rw [if_pos hk, List.set_eq_take_append_cons_drop, if_pos (List.getElem?_eq_some_iff.1 hy).1]
  simp
theorem foldN_len (m : List En) : ∀ l : List En, (m.foldl insN l).length ≤ l.length + m.length := by
  induction m with
  | nil => intro l; simp
  | cons x m ih =>
    intro l
    have h1 := ih (insN l x)
    have h2 : (insN l x).length ≤ l.length + 1 := by
      unfold insN; split
      · omega
      · exact ins_len x
    rw [List.foldl_cons, List.length_cons]; omega
/-- A run in memory. -/
structure RV where
  l : List En
  a : Option Addr
  c : Nat
def rv0 : RV := ⟨[], none, 0⟩
def RV.v (r : RV) : Value := .slice r.a r.l.length r.c
abbrev rvs (rv : List RV) : List Value := rv.map RV.v
def ls (rv : List RV) : List (List En) := rv.map (·.l)
def rget (rv : List RV) (x : Nat) : RV := rv.getD x rv0
theorem rget_some {rv : List RV} {x : Nat} {r : RV} (h : rv[x]? = some r) : rget rv x = r := by unfold rget; rw [List.getD_eq_getElem?_getD, h]; rfl
/-- The runs lie in memory, each readable. -/
def RunsR (w : World) (R : Nat) (rv : List RV) : Prop := ∀ r ∈ rv, RdZ w 3 r.a r.l.length (ents r.l) ∧ Sd r.l ∧ r.l.length ≤ R
theorem RdZ.none (w : World) : RdZ w 3 none 0 [] := ⟨rfl, by omega, fun h => absurd h (by omega)⟩
theorem RunsR.get {w : World} {R : Nat} {rv : List RV} (h : RunsR w R rv) (x : Nat) : RdZ w 3 (rget rv x).a (rget rv x).l.length (ents (rget rv x).l) ∧ Sd (rget rv x).l ∧ (rget rv x).l.length ≤ R := by
  unfold rget
  rw [List.getD_eq_getElem?_getD]
  cases hx : rv[x]? with
  | none => exact ⟨RdZ.none w, List.Pairwise.nil, Nat.zero_le _⟩
  | some r => obtain ⟨h1, h2, h3⟩ := h r (List.mem_of_getElem? hx); exact ⟨h1, h2, h3⟩
/-- What the runs numbered pre say, the newest first. -/
def jO (rv : List RV) (pre : List Nat) : List En := (pre.map fun x => (rget rv x).l).flatten.foldl insN []
theorem jO_snoc (rv : List RV) (pre : List Nat) (x : Nat) : jO rv (pre ++ [x]) = (rget rv x).l.foldl insN (jO rv pre) := by
  unfold jO; rw [List.map_append, List.flatten_append, List.foldl_append]; simp
theorem jO_len {rv : List RV} {R : Nat} (h : ∀ x, (rget rv x).l.length ≤ R) : ∀ pre : List Nat, (jO rv pre).length ≤ pre.length * R := fun pre => by
  unfold jO
  have h1 := foldN_len (pre.map fun x => (rget rv x).l).flatten []
  have h2 : (pre.map fun x => (rget rv x).l).flatten.length ≤ pre.length * R := by
    induction pre with
    | nil => exact Nat.zero_le _
    | cons y pre ih => have := h y; rw [List.map_cons, List.flatten_cons, List.length_append, List.length_cons, Nat.succ_mul]; have := ih (foldN_len _ _); omega
  simp only [List.length_nil] at h1; omega
theorem jO_sd (rv : List RV) (pre : List Nat) : Sd (jO rv pre) := foldN_sd _ _ List.Pairwise.nil
theorem jO_came (rv : List RV) : jO rv (came id rv.length 0) = jn (ls rv) := by
  unfold jO jn
  congr 1
  congr 1
  unfold came ls
  rw [List.map_map]
  apply List.ext_getElem
  · simp
  · intro i h1 h2
    simp only [List.length_map, List.length_range, Nat.sub_zero] at h1
    rw [List.getElem_map, List.getElem_reverse, Function.comp_apply, List.getElem_range, List.getElem_map]
    have h3 : rv.length - 1 - i < rv.length := by omega
    show (rget rv (rv.length - 1 - i)).l = _
    rw [rget_some (List.getElem?_eq_getElem h3)]
    simp
def jres (all : Bool) (runs : List (List En)) : List En := if all then jn runs else drp (jn runs)
/-- What lies in memory while joined runs. -/
structure JS (w A : World) (vB : Value) (a : Option Addr) (c : Nat) (O : List En) : Prop where
  own : OwnZ A (w.heap.size + 2) 80 3 a O.length c (ents O)
  box : One A w.heap.size 74 (.slice a O.length c)
  bb : One A (w.heap.size + 1) 104 vB
  fr : Fr F0 w A
theorem JS.fr0 {w W W' : World} {vB : Value} {a : Option Addr} {c : Nat} {O : List En} (h : JS w W vB a c O) (f : Fr F0 W W') : JS w W' vB a c O := ⟨h.own.fr0 f, h.box.fr f id, h.bb.fr f id, h.fr.trans0 f⟩
theorem JS.box3 {w W W2 w' : World} {vB : Value} {a : Option Addr} {c : Nat} {O : List En} {o : Obj} (h : JS w W vB a c O) (F3 : Fr F0 W W2) (hF : Fr (onBlk a) (W2.alloc o) w') : One w' w.heap.size 74 (.slice a O.length c) :=
  ((h.box.fr F3 id).alloc o).fr hF (fun hk => by have := (h.own.blk _ hk).1; omega)
theorem JS.put {w W W2 w' : World} {vB : Value} {a a2 : Option Addr} {c c2 k : Nat} {O O2 : List En} {o : Obj} {u : Value} (h : JS w W vB a c O) (F3 : Fr F0 W W2) (own : OwnZ w' (w.heap.size + 2) 80 3 a2 k c2 (ents O2)) (hF : Fr (onBlk a) (W2.alloc o) w') (hk : O2.length = k) (hb : One w' w.heap.size 74 u) :
    JS w (w'.setCell ⟨w.heap.size, 0, none⟩ (.slice a2 k c2)) vB a2 c2 O2 := by
  subst hk
  have hlt := h.bb.lt
  have hsz := F3.size
  refine ⟨own.other (fun hk => by have := (own.blk _ hk).1; dsimp only at this; omega) _, hb.set _, (((h.bb.fr F3 id).alloc o).fr hF (fun hk => by have := (h.own.blk _ hk).1; omega)).other (by dsimp only; omega) _, Fr.setCell ?_ (fun h => by dsimp only at h; omega) _⟩
  exact ((h.fr.trans0 F3).alloc o).trans hF (fun k hk hb => by have := (h.own.blk _ hb).1; omega)
theorem JS.box2 {w W w' : World} {vB : Value} {a : Option Addr} {c : Nat} {O : List En} (h : JS w W vB a c O) (hF : Fr (onBlk a) W w') : One w' w.heap.size 74 (.slice a O.length c) :=
  h.box.fr hF (fun hk => by have := (h.own.blk _ hk).1; omega)
theorem Fr.putD (w : World) (D : Nat) {o : Obj} : Fr (fun i => i = D) w (w.putObj D o) := ⟨rfl, rfl, rfl, by simp, fun _ _ hn => World.putObj_heap_other (fun e => hn e)⟩
theorem Fr.dfr {S : Nat → Prop} {w A : World} {D : Nat} {o : Obj} (h : Fr S w A) (hD : w.heap.size ≤ D) : Fr S w (A.putObj D o) := h.trans (Fr.putD A D) (fun k hk e => by omega)
theorem JS.cellsB {w W : World} {vB : Value} {a : Option Addr} {c : Nat} {O : List En} (h : JS w W vB a c O) {k : Nat} (hk : k = w.heap.size ∨ onBlk a k) {o : Obj} (ho : W.heap[k]? = some o) : o.isCells = true := by
  rcases hk with rfl | hk
  · have := h.box; unfold One at this; rw [this] at ho; injection ho with ho; rw [← ho]; rfl
  · rcases h.own.2 with ⟨hv, _⟩ | ⟨g, cap, cur, hv, hb, hh, _⟩
    · injection hv with ha
      rw [ha] at hk
      exact absurd hk (onBlk_none _)
    · injection hv with ha
      rw [ha] at hk
      have := (onBlk_some _ _ _ _).1 hk
      subst this
      rw [hh] at ho
      injection ho with ho
      rw [← ho]; rfl
theorem JS.grown {w W W' : World} {vB : Value} {a : Option Addr} {c : Nat} {O : List En} (h : JS w W vB a c O) {row : Option Nat} (hg : W.grownBy W' row) (hr : ∀ r, row = some r → w.heap.size + 2 ≤ r ∧ ∃ o : Obj, W.heap[r]? = some o ∧ o.isCells = false) : JS w W' vB a c O := by
  have F : Fr (fun k => row = some k) W W' := ⟨hg.os, hg.tape, hg.output, hg.size, fun k hk hn => hg.block k hk (fun e => hn e.symm)⟩
  refine ⟨h.own.fr F (fun k hk e => ?_), h.box.fr F (fun e => by have := (hr _ e).1; omega), h.bb.fr F (fun e => by have := (hr _ e).1; omega), ⟨F.os.trans h.fr.os, F.tape.trans h.fr.tape, F.output.trans h.fr.output, Nat.le_trans h.fr.size F.size, fun k hk hn => ?_⟩⟩
  · obtain ⟨_, o, ho, hc⟩ := hr k e
    rcases h.own.2 with ⟨hv, _⟩ | ⟨g, cap, cur, hv, hb, hh, _⟩
    · injection hv with ha
      rw [ha] at hk
      exact absurd hk (onBlk_none _)
    · injection hv with ha
      rw [ha] at hk
      have := (onBlk_some _ _ _ _).1 hk
      subst this
      rw [hh] at ho
      injection ho with ho
      rw [← ho] at hc; cases hc
  · refine (F.block k (Nat.lt_of_lt_of_le hk h.fr.size) (fun e => ?_)).trans (h.fr.block k hk hn)
    have := (hr k e).1
    omega
set_option maxRecDepth 100000 in
set_option maxHeartbeats 2000000 in
theorem joined_any {w : World} {B0 n c : Nat} {a : Option Addr} {rv : List RV} (all : Bool) (own : Own w B0 74 a n c (rvs rv)) {R : Nat} (hr : RunsR w R rv) (hn : n ≤ 1000) (hR : R ≤ 1000) (hnR : n * R ≤ 90000) :
    Calls Try.prog 55 #[.slice a n c, .bool all] w fun e w' => ∃ a' c', e = .returned (.slice a' (jres all (ls rv)).length c') ∧ OwnZ w' w.heap.size 80 3 a' (jres all (ls rv)).length c' (ents (jres all (ls rv))) ∧ Fr F0 w w' := by
  have hln : rv.length = n := by have := own.len; simpa using this
  have HO := Lib.hid own
  have HR := Lib.hid hr
  clear own hr
  refine (callsIn_wide (n := 3)).1 ?_
  refine callsIn_of_wp_marks Try.func55 rfl trivial ?_
  simp only [Try.ntmps55, List.size_toArray, List.length_cons, List.length_nil, Nat.reduceAdd, Nat.reduceSub, Array.replicate_succ, Array.replicate_zero, List.push_toArray, List.append_toArray, List.nil_append, List.cons_append]
  gi_wp2_with (refine ⟨trivial, ?_⟩; gi_at_call 60; refine (callsIn_wide.2 (backR_in _ _ _ _)).mono ?_; rintro e w1 ⟨rfl, rfl⟩)
  obtain ⟨b, hb, ha, hc⟩ : ∃ b, (b < w.heap.size ∨ b = w.heap.size + 1) ∧ (0 < n → a = some ⟨b, 0, none⟩) ∧ ∀ j, j < n → w.cell? ⟨b, j, none⟩ = some (rget rv j).v := by
    rcases Nat.eq_zero_or_pos n with h0 | h0
    · exact ⟨w.heap.size + 1, .inr rfl, fun h => by omega, fun j h => by omega⟩
    · obtain ⟨g, hg, _, hl, hcc, _⟩ := HO.out.at h0
      refine ⟨g, .inl hl, fun _ => hg, fun j hj => hcc j _ ?_⟩
      rw [List.getElem?_map, List.getElem?_eq_getElem (by omega), rget_some (List.getElem?_eq_getElem (by omega))]; rfl
  have hbs : One ((w.alloc (.cells #[.slice none 0 0] 74)).alloc (.cells #[.slice a n c] 104)) (w.heap.size + 1) 104 (.slice a n c) := by
    have := One.new (w := w.alloc (.cells #[.slice none 0 0] 74)) 104 (.slice a n c)
    rwa [size_alloc] at this
  have F2 : Fr F0 w ((w.alloc (.cells #[.slice none 0 0] 74)).alloc (.cells #[.slice a n c] 104)) := ((Fr.refl _ _).alloc _).alloc _
  have S0 : JS w ((w.alloc (.cells #[.slice none 0 0] 74)).alloc (.cells #[.slice a n c] 104)) (.slice a n c) none 0 (jO rv []) := ⟨OwnZ.nil _ _ _ _, (One.new 74 _).alloc _, hbs, F2⟩
  have hcs : ∀ j, j < n → ((w.alloc (.cells #[.slice none 0 0] 74)).alloc (.cells #[.slice a n c] 104)).cell? ⟨b, j, none⟩ = some (rget rv j).v := fun j hj => F2.cell (hc j hj) id
  have hsz : ((w.alloc (.cells #[.slice none 0 0] 74)).alloc (.cells #[.slice a n c] 104)).heap.size = w.heap.size + 2 := by simp
  have seq := backR_stops Fence.wide 2 trivial rfl (by omega) (w.heap.size + 1) b c n a (fun x => (rget rv x).v) (by omega) ha _ (by rw [hsz]; omega) (by rw [hsz]; omega) hbs.cell hcs
  have hlen := jO_len (rv := rv) (fun x => (HR.out.get x).2.2)
  have HLen := Lib.hid hlen
  have Hb := Lib.hid hb
  clear hlen hc hcs hb
  refine wpIn_rangeFunc_ownF (n := 3) rfl (by omega) (gf := 85) (lb := #[.pointer (some ⟨w.heap.size + 1, 0, none⟩)]) rfl trivial (enters_of Try.func85 (by kernel_rfl) rfl) seq (fun h k => KP.trans h k)
    (fun A l o o' hl ho hc _ => ⟨World.putObj_heap_other (by have := Hb.out; omega), World.putObj_heap_other (by omega)⟩) (Below.refl _ _) (fun _ => rfl)
    (fun (pre : List Nat) A => ∃ a' c', JS w A (.slice a n c) a' c' (jO rv pre))
    (fun _ _ _ => False)
    (fun pre A A' row hs hg hr => ?_)
    (fun _ _ _ _ _ hs _ _ => hs)
    ⟨none, 0, S0⟩
    (fun x : Nat => (⟨#[.slice a n c, .bool all, undef, undef, .slice none 0 0, .pointer (some ⟨w.heap.size, 0, none⟩), undef, (rget rv x).v, undef, undef, undef, undef, .slice a n c, .func (.func 85) #[] #[.pointer (some ⟨w.heap.size + 1, 0, none⟩)], .int .i64 (x : Nat), (rget rv x).v, undef, undef, undef, undef, undef, undef, undef, undef, undef, undef, undef, undef, undef, undef, undef, undef, undef, undef, undef, undef, undef, undef, undef, undef, undef, undef], []⟩ : Act)) ?assign ?body ?done ?stop
  · obtain ⟨a', c', h⟩ := hs
    exact ⟨a', c', h.grown hg (fun r e => by have := hr r e; rw [hsz] at this; exact this)⟩
  case assign =>
    intro l q A K hK
    conv => arg 4; whnf
    gi_wp2
    exact hK
  case body =>
    rintro l pre x A ⟨a0, c0, S1⟩ hpre
    have hsn := jO_snoc rv pre x
    obtain ⟨h1, h2, h3⟩ := HR.out.get x
    have hO9 : (jO rv pre).length ≤ 90000 := Nat.le_trans (HLen.out pre) (Nat.le_trans (Nat.mul_le_mul_right R (Nat.le_of_lt hpre)) hnR)
    have hOsd : Sd (jO rv pre) := jO_sd rv pre
    generalize jO rv pre = O0 at hsn S1 hO9 hOsd
    generalize rget rv x = r at hsn h1 h2 h3
    obtain ⟨rl, ra, rc⟩ := r
    dsimp only at h1 h2 h3 hsn
    unfold RV.v
    dsimp only
    obtain ⟨m, hm⟩ : ∃ m, m = rl.length := ⟨_, rfl⟩
    rw [← hm] at h1 h3
    rw [← hm]
    have hap0 : 0 < m → ∀ k, onBlk ra k → ¬ (k = w.heap.size ∨ onBlk a0 k) := fun h0 k hk hk2 => by
      obtain ⟨b2, o2, rfl, hc⟩ := h1.cells h0
      have hl : (ents rl).length = m * 3 := h1.len
      have hlt := World.block_lt_of_cell? _ _ (hc 0 ((ents rl)[0]'(by omega)) (by simp))
      have := (onBlk_some _ _ _ _).1 hk
      subst this
      rcases hk2 with h | h
      · dsimp only at hlt; omega
      · have := (S1.own.blk _ h).1; dsimp only at hlt; omega
    have HA0 := Lib.hid hap0
    have HRd := Lib.hid (h1.fr0 S1.fr)
    have Hm := Lib.hid hm
    have Hsd := Lib.hid h2
    have HSn := Lib.hid hsn
    have HS := Lib.hid S1
    have HSd := Lib.hid hOsd
    have hbx0 := S1.box.cell
    clear h1 h2 hm hsn S1 hOsd seq ha HLen hap0
    gi_wp2_with fail
    gi_loopw [18] (fun s18 wr => ∃ (j k : Nat) (a' : Option Addr) (c' : Nat), j ≤ m ∧ s18 = .int .i64 (j : Int) ∧ k ≤ 90000 + j ∧ Hid (k = ((rl.take j).foldl insN O0).length ∧ JS w wr (.slice a n c) a' c' ((rl.take j).foldl insN O0) ∧ Fr (fun k => k = w.heap.size ∨ onBlk a0 k) A wr ∧ ∀ k, onBlk a' k → onBlk a0 k ∨ A.heap.size ≤ k)) (fun s18 _ => m - (intOf s18).toNat)
    case atStart => exact ⟨0, O0.length, a0, c0, Nat.zero_le _, rfl, hO9, Lib.hid ⟨rfl, HS.out, Fr.refl _ _, fun k hk => .inl hk⟩⟩
    case round =>
      obtain ⟨j, k, a', c', hj, rfl, hk9, H⟩ := hrel
      by_cases hlt : j < m
      · have hlt' : (j : Int) < (m : Int) := by omega
        obtain ⟨x, hx⟩ : ∃ x, rl[j]? = some x := ⟨_, List.getElem?_eq_getElem (by have := Hm.out; omega)⟩
        have hap : ∀ k, onBlk ra k → ¬ (k = w.heap.size ∨ onBlk a0 k) := HA0.out (by omega)
        obtain ⟨b2, o2, rfl, e0, e1, e2⟩ := (HRd.out.fr H.out.2.2.1 hap).ent hx
        have hfin : (rl.take (j + 1)).foldl insN O0 = insN ((rl.take j).foldl insN O0) x := by
          rw [List.take_add_one, hx, List.foldl_append]; rfl
        have hOs : Sd ((rl.take j).foldl insN O0) := foldN_sd _ _ HSd.out
        obtain ⟨O, hO⟩ : ∃ O, O = (rl.take j).foldl insN O0 := ⟨_, rfl⟩
        rw [← hO] at H hfin hOs
        have HFin := Lib.hid hfin
        clear hfin hO hx
        obtain ⟨hk, HJ, HFA, Hat⟩ := H.out
        subst hk
        have hbx := (HJ.box.alloc (.cells #[.int .i64 x.1, .int .i64 x.2.1, .bool x.2.2] 80)).cell
        have hB : Blk (wr.alloc (.cells #[.int .i64 x.1, .int .i64 x.2.1, .bool x.2.2] 80)) wr.heap.size 80 (en3 x) := Blk.new wr 80 (en3 x)
        have HW := Lib.hid (And.intro hB ((Fr.refl F0 wr).alloc (.cells #[.int .i64 x.1, .int .i64 x.2.1, .bool x.2.2] 80)))
        have HF := Lib.hid (fun W (hF : Fr F0 wr W) => find_any (c := c') x.1 (HJ.own.rd.fr0 hF) hOs (by omega))
        have HJ1 := Lib.hid HJ
        have HFA1 := Lib.hid HFA
        have Hat1 := Lib.hid Hat
        have HOs := Lib.hid hOs
        have hd0 := hB.cell (i := 0) rfl
        have hd1 := hB.cell (i := 1) rfl
        have hd2 := hB.cell (i := 2) rfl
        obtain ⟨x1, x2, x3⟩ := x
        dsimp only at e0 e1 e2 HF
        dsimp only at hd0 hd1 hd2 hbx HW
        clear H HJ HFA Hat hB hap hOs
        cases hlk : lk O x1 with
        | none =>
          rw [hlk] at HF
          have HLk := Lib.hid hlk
          clear hlk
          have HI : Hid (∀ (W : World) (i : Nat), Lo O x1 i → Fr F0 wr W → Calls Try.prog 65 #[.slice a' O.length c', .int .i64 (i : Int), .slice (some ⟨W.heap.size, 0, none⟩) 1 1] (W.alloc (.cells #[.int .i64 x1, .int .i64 x2, .bool x3] 80)) fun e' w' => ∃ a2 c2, e' = .returned (.slice a2 (O.length + 1) c2) ∧ OwnZ w' (w.heap.size + 2) 80 3 a2 (O.length + 1) c2 (ents (insAt O i (x1, x2, x3))) ∧ Fr (onBlk a') (W.alloc (.cells #[.int .i64 x1, .int .i64 x2, .bool x3] 80)) w' ∧ (∀ k, onBlk a2 k → onBlk a' k ∨ (W.alloc (.cells #[.int .i64 x1, .int .i64 x2, .bool x3] 80)).heap.size ≤ k)) := Lib.hid (fun W i hL hF => by
            have h1 := HJ1.out.fr.size
            have h2 := hF.size
            refine Insert_any (e := (x1, x2, x3)) ((HJ1.out.own.fr0 hF).alloc _) (Blk.new W 80 (en3 (x1, x2, x3))) (fun h => ?_) ?_ hL.le (by omega)
            · have := (HJ1.out.own.blk _ h).2; omega
            · have := (HJ1.out.own.fr0 hF); rw [size_alloc]; have := HJ1.out.box.lt; have := HJ1.out.bb.lt; omega)
          gi_wp2_with (first | (refine ⟨trivial, ?_⟩; gi_at_call 59; refine (CallsIn.inRound l (callsIn_wide.2 (HF.out _ HW.out.2))).mono ?_; rintro e w2 ⟨i, rfl, hL, F2⟩; have H2 := Lib.hid (And.intro hL F2); have g0 := F2.cell hd0 id; have g1 := F2.cell hd1 id; have g2 := F2.cell hd2 id; have gb := F2.cell hbx id; clear F2 hL) | (refine ⟨trivial, ?_⟩; gi_at_call 65; refine (CallsIn.inRound l (callsIn_wide.2 (HI.out _ _ H2.out.1 (HW.out.2.trans0 H2.out.2)))).mono ?_; rintro e w3 ⟨a2, c2, rfl, hI1, hI2, hI3⟩; have b3 := HJ1.out.box3 (HW.out.2.trans0 H2.out.2) hI2; have b3c := b3.cell; have b3f := b3.free; have H3 := Lib.hid (And.intro hI1 (And.intro hI2 (And.intro hI3 b3))); clear hI1 hI2 hI3 b3))
          go_roundw
          case rel =>
            have hN : insN O (x1, x2, x3) = insAt O i (x1, x2, x3) := by unfold insN; rw [HLk.out]; exact (Lo_ins HOs.out H2.out.1 HLk.out).symm
            have hNl : (insAt O i (x1, x2, x3)).length = O.length + 1 := by have := H3.out.1.1; rw [ents_len] at this; omega
            have hJ := HJ1.out.put (HW.out.2.trans0 H2.out.2) H3.out.1 H3.out.2.1 hNl H3.out.2.2.2
            have F3 := HW.out.2.trans0 H2.out.2
            have hsA : A.heap.size ≤ wr.heap.size := HFA1.out.size
            have hs3 := F3.size
            refine ⟨j + 1, O.length + 1, a2, c2, by omega, by go_num, by omega, Lib.hid ⟨by rw [HFin.out, hN, hNl], by rw [HFin.out, hN]; exact hJ, ?_, fun k hk => ?_⟩⟩
            · refine Fr.setCell ((HFA1.out.trans0 F3).trans (((Fr.refl _ _).alloc _).trans H3.out.2.1 (fun _ _ h => h)) (fun k hk h => ?_)) (fun _ => .inl rfl) _
              rcases Hat1.out k h with h | h
              · exact .inr h
              · omega
            · rcases H3.out.2.2.1 k hk with h | h
              · exact Hat1.out k h
              · rw [size_alloc] at h; exact .inr (by omega)
          case measure => simp [intOf]; omega
        | some y =>
          rw [hlk] at HF
          have HLk := Lib.hid hlk
          clear hlk
          gi_wp2_with (refine ⟨trivial, ?_⟩; gi_at_call 59; refine (CallsIn.inRound l (callsIn_wide.2 (HF.out _ HW.out.2))).mono ?_; rintro e w2 ⟨i, rfl, hL, F2⟩; have H2 := Lib.hid (And.intro hL F2); clear F2 hL)
          go_roundw
          case rel =>
            have F3 := HW.out.2.trans0 H2.out.2
            have hN : insN O (x1, x2, x3) = O := by unfold insN; rw [HLk.out]; rfl
            exact ⟨j + 1, O.length, a', c', by omega, by go_num, by omega, Lib.hid ⟨by rw [HFin.out, hN], by rw [HFin.out, hN]; exact HJ1.out.fr0 F3, HFA1.out.trans0 F3, Hat1.out⟩⟩
          case measure => simp [intOf]; omega
      · obtain rfl : m = j := by omega
        have H9 := H.out
        rw [List.take_of_length_le (by rw [Hm.out]; exact Nat.le_refl _), ← HSn.out] at H9
        have H10 := Lib.hid H9
        clear H9
        gi_wp2_with fail
        refine (show ownPostK _ _ _ _ _ .normal _ _ from ⟨⟨H10.out.2.2.1.size, fun k o hk ho => (H10.out.2.2.1.block k (lt_of_block hk) (fun h => ?_)).trans hk⟩, ⟨?_, ?_⟩, a', c', H10.out.2.1⟩)
        · rw [HS.out.cellsB h hk] at ho; cases ho
        · refine H10.out.2.2.1.block b ?_ (fun h => ?_)
          · have := HS.out.bb.lt; have := Hb.out; omega
          · rcases h with h | h
            · have := Hb.out; omega
            · have := (HS.out.own.blk _ h).1; have := Hb.out; omega
        · refine H10.out.2.2.1.block _ HS.out.bb.lt (fun h => ?_)
          rcases h with h | h
          · omega
          · have := (HS.out.own.blk _ h).1; omega
  case done =>
    rintro D xs A hD rfl ⟨a', c', S1⟩ hK
    rw [show came id n 0 = came id rv.length 0 by rw [hln], jO_came] at S1
    have hJl : (jn (ls rv)).length ≤ 1000000 := by rw [← jO_came]; exact Nat.le_trans (HLen.out _) (by rw [came_length, Nat.sub_zero, hln]; omega)
    have HJl := Lib.hid hJl
    clear hJl
    have hbx := S1.box.cell
    have hbf := S1.box.free
    have HS := Lib.hid S1
    have HK := Lib.hid hK
    have Hsz := Lib.hid hsz
    clear S1 hK seq ha HLen hsz
    generalize hJ : jn (ls rv) = J at *
    have HJ := Lib.hid hJ
    clear hJ
    cases all with
    | true =>
      gi_wp2_with fail
      refine ⟨by simp, .inl ⟨_, _, rfl, run_takeDeferred HK.out, ?_⟩⟩
      have hj : jres true (ls rv) = J := HJ.out
      have F : Fr F0 w (A.putObj D (.deferred none)) := HS.out.fr.dfr (by have := Hsz.out; omega)
      refine ⟨_, results_tmp rfl _ _ _, a', c', by rw [hj]; rfl, ?_, F⟩
      rw [hj]
      refine (HS.out.own.mono (by omega)).fr (S := fun i => i = D) (Fr.putD _ _) (fun k hk e => ?_)
      subst e
      have := HS.out.cellsB (.inr hk) HK.out
      cases this
    | false =>
      have HD := Lib.hid (DeleteFunc_any HS.out.own HJl.out)
      gi_wp2_with (refine ⟨trivial, ?_⟩; gi_at_call 79; refine (callsIn_wide.2 HD.out).mono ?_; rintro e w2 ⟨rfl, d1, d2⟩; have b2 := HS.out.box2 d2; have b2c := b2.cell; have b2f := b2.free; have H2 := Lib.hid (And.intro d1 (And.intro d2 b2)); clear d1 d2 b2)
      have hj : jres false (ls rv) = drp J := congrArg drp HJ.out
      have hDb : ¬ onBlk a' D := fun h => by have := HS.out.cellsB (.inr h) HK.out; cases this
      have hDk : (w2.setCell ⟨w.heap.size, 0, none⟩ (.slice a' (drp J).length c')).heap[D]? = some (.deferred (some [])) := by
        rw [Below.heap_setCell _ _ _ _ (by dsimp only; have := Hsz.out; omega)]
        exact (H2.out.2.1.block D (lt_of_block HK.out) hDb).trans HK.out
      refine ⟨by simp, .inl ⟨_, _, rfl, run_takeDeferred hDk, ?_⟩⟩
      have F1 : Fr F0 w (w2.setCell ⟨w.heap.size, 0, none⟩ (.slice a' (drp J).length c')) := Fr.setCell (HS.out.fr.trans H2.out.2.1 (fun k hk h => by have := (HS.out.own.blk _ h).1; omega)) (fun h => by dsimp only at h; omega) _
      refine ⟨_, results_tmp rfl _ _ _, a', c', by rw [hj]; rfl, ?_, F1.dfr (by have := Hsz.out; omega)⟩
      rw [hj]
      have ho := (H2.out.1.mono (show w.heap.size ≤ w.heap.size + 2 by omega)).other (p := ⟨w.heap.size, 0, none⟩) (fun h => by have := (HS.out.own.blk _ h).1; dsimp only at this; omega) (.slice a' (drp J).length c')
      exact ho.fr (S := fun i => i = D) (Fr.putD _ _) (fun k hk e => by subst e; exact hDb hk)
  case stop =>
    rintro D c pre A _ _ h _
    exact h.elim
end Go.Proofs.Ytkmnnfflibamnaa
