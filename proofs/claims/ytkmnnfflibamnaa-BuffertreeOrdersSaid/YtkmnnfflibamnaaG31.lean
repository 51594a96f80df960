/- Buffer trees: Sort. -/
import Derived.Test.YtkmnnfflibamnaaG30c
namespace Go.Proofs.Ytkmnnfflibamnaa
open Go.RowKit Go.Shelf
section
attribute [local go_sem ↓] Go.wp_at_zero Go.wp_at_succ
set_option maxRecDepth 100000 in
theorem Sort_bad {w : World} {a : Option Addr} {n c : Nat} (b m : Int) (h : szB b m = false) : Calls Try.prog 17 #[.slice a n c, .int .i64 b, .int .i64 m] w fun e w' => e = .returned (.tuple #[.slice none 0 0, .int .i64 0, .int .i64 2]) ∧ Fr F0 w w' := by
  have HR := Lib.hid (fun w => right_any b m w)
  rw [h] at HR
  have FB : Hid (Fr F0 w (w.alloc (.cells #[.int .i64 b, .int .i64 m] 73))) := Lib.hid ((Fr.refl _ _).alloc _)
  clear h
  go_enter Try.func17, Try.ntmps17
  go_wp2_with (go_at_call 34; refine (HR.out _).mono ?_; rintro e w1 ⟨rfl, F1⟩; replace F1 := Lib.hid F1)
  go_ret3
  exact ⟨rfl, FB.out.trans0 F1.out⟩
set_option maxRecDepth 100000 in
theorem Sort_many {w : World} {a : Option Addr} {n c : Nat} (b m : Int) (h : szB b m = true) (hn : 4096 < n) : Calls Try.prog 17 #[.slice a n c, .int .i64 b, .int .i64 m] w fun e w' => e = .returned (.tuple #[.slice none 0 0, .int .i64 0, .int .i64 4]) ∧ Fr F0 w w' := by
  have HR := Lib.hid (fun w => right_any b m w)
  rw [h] at HR
  have FB : Hid (Fr F0 w (w.alloc (.cells #[.int .i64 b, .int .i64 m] 73))) := Lib.hid ((Fr.refl _ _).alloc _)
  have hn' : (4096 : Int) < (n : Int) := by omega
  clear h
  go_enter Try.func17, Try.ntmps17
  go_wp2_with (go_at_call 34; refine (HR.out _).mono ?_; rintro e w1 ⟨rfl, F1⟩; replace F1 := Lib.hid F1)
  go_ret3
  exact ⟨rfl, FB.out.trans0 F1.out⟩
end
attribute [local go_sem] Oper.semAt_some
def QF (a : Option Addr) (n c B M z p q : Nat) (c12 c13 c14 c17 c54 c55 c56 : Value) (g : Nat → Value) (ds : List Deferred) : Act := ⟨#[.slice a n c, .int .i64 (B : Int), .int .i64 (M : Int), g 3, g 4, g 5, g 6, g 7, g 8, .pointer (some ⟨z, 0, none⟩), .pointer (some ⟨p, 0, none⟩), .pointer (some ⟨q, 0, none⟩), c12, c13, c14, g 15, g 16, c17, g 18, g 19, g 20, g 21, g 22, g 23, g 24, g 25, g 26, g 27, g 28, g 29, g 30, g 31, g 32, g 33, g 34, g 35, g 36, g 37, g 38, g 39, g 40, g 41, g 42, g 43, g 44, g 45, g 46, g 47, g 48, g 49, g 50, g 51, g 52, g 53, c54, c55, c56, g 57, g 58, g 59, g 60, g 61, g 62, g 63, g 64, g 65, g 66, g 67, g 68, g 69, g 70, g 71, g 72, g 73, g 74, g 75, g 76, g 77, g 78, g 79, g 80, g 81, g 82, g 83, g 84, g 85, g 86, g 87, g 88], ds⟩
theorem sum_le {ls : List Nat} {m k : Nat} (h : ∀ v ∈ ls, v ≤ m) (hk : ls.length = k) : ls.sum ≤ k * m := by
  subst hk
  induction ls with
  | nil => exact Nat.zero_le _
  | cons x l ih =>
    have h1 := h x (List.mem_cons_self ..)
    have h2 := ih (fun v hv => h v (List.mem_cons_of_mem _ hv))
    rw [List.sum_cons, List.length_cons, Nat.succ_mul]; omega
theorem nch_le {n m : Nat} (hm : 0 < m) : nch n m ≤ n := by
  rcases Nat.lt_or_ge n (nch n m) with h | h
  · have := (nch_lt hm).1 h
    have h2 : n * 1 ≤ n * m := Nat.mul_le_mul_left n hm
    omega
  · exact h
def qlen (w : World) (q : Nat) : Nat := match w.cell? ⟨q, 0, none⟩ with | some (.slice _ n _) => n | _ => 0
theorem YS.qlen {W1 W : World} {z p q B M mv : Nat} {a : Option Addr} {c : Nat} {rv : List IV} (h : YS W1 W z p q B M mv a c rv) : qlen W q = rv.length := by unfold Go.Proofs.Ytkmnnfflibamnaa.qlen; rw [h.bx.cell]
def lensV (rv : List IV) : List Nat := rv.map fun r => r.l.length
theorem iflat_len (rv : List IV) : (iflat rv).length = (lensV rv).sum := by
  unfold iflat lensV; rw [List.length_flatMap]
theorem chnk_map {α β : Type} (f : α → β) (l : List α) (m j : Nat) : chnk (l.map f) m j = (chnk l m j).map f := by unfold chnk; rw [List.map_take, List.map_drop]
theorem Rd.chunk {w : World} {b o n : Nat} {vs : List Value} (h : Rd w (some ⟨b, o, none⟩) n vs) (m j : Nat) : Rd w (some ⟨b, o + j * m, none⟩) (chl n m j) (chnk vs m j) := by
  refine ⟨by rw [chnk_len, h.len], by have := h.max; unfold chl; omega, fun hn => ⟨_, _, rfl, fun i u hu => ?_⟩⟩
  unfold chnk at hu
  rw [List.getElem?_take] at hu
  split at hu
  · rw [List.getElem?_drop] at hu
    have hi := (List.getElem?_eq_some_iff.1 hu).1
    have hl := h.len
    obtain ⟨b', o', e, hc⟩ := h.cells (by omega)
    injection e with e; injection e with e1 e2; subst e1; subst e2
    rw [Nat.add_assoc]
    exact hc _ _ hu
  · cases hu
/-- The next lists take the place of the lists. -/
theorem YS.lift {W1 W W2 A : World} {z p q nb B M mv mv1 : Nat} {a a1 : Option Addr} {c c1 n1 : Nat} {rv rv1 : List IV} (h0 : YS W1 W z p q B M mv a c rv) (F2 : Fr F0 W W2) (hnb : W.heap.size ≤ nb) (h1 : YS W2 A z p nb B M mv1 a1 c1 rv1) (hn1 : rv1.length = n1) : YS W1 (A.setCell ⟨q, 0, none⟩ (.slice a1 n1 c1)) z p q B M mv1 a1 c1 rv1 := by
  subst hn1
  have g1 := h0.lo; have g2 := h0.ne; have g3 := h0.fr.size; have g4 := F2.size
  have hb := fun k hk => (h1.own.blk k hk).1
  have bq := (h0.bx.fr F2 id).fr h1.fr (fun e => by omega)
  have hfr : Fr (fun k => k = p ∨ k = q) W1 A := (h0.fr.trans0 F2).trans h1.fr (fun k hk e => by
    rcases e with e | e
    · exact .inl e
    · omega)
  refine ⟨h1.sz.other (by dsimp only; omega) _, h1.mvb.other (by dsimp only; omega) _, bq.set _, (h1.own.mono (by omega)).other (fun hk => by have := hb _ hk; dsimp only at this; omega) _, fun r hr => ?_, hfr.setCell (fun _ => .inr rfl) _, h0.lo, h0.ne⟩
  obtain ⟨e1, e2, e3⟩ := h1.rd r hr
  exact ⟨e1.other (fun hk => by have := (e3 _ hk).1; dsimp only at this; omega) _, e2, fun k hk => ⟨by have := (e3 k hk).1; omega, by have := (e3 k hk).2.1; simpa using this, (e3 k hk).2.2⟩⟩
/-- The state ahead of a round of merging. -/
def LI (W1 : World) (a : Option Addr) (n c B M z p q : Nat) (l : List Int) (a9 : Act) (W : World) : Prop := ∃ a' c' rv mv ds N, a9 = QF a n c B M z p q (gOf a9 12) (gOf a9 13) (gOf a9 14) (gOf a9 17) (gOf a9 54) (gOf a9 55) (gOf a9 56) (gOf a9) ds ∧ YS W1 W z p q B M mv a' c' rv ∧ MK W (p + 4) ds ∧ (iflat rv).Perm l ∧ (∀ r ∈ rv, r.l.Pairwise (· ≤ ·)) ∧ rv.length ≤ N ∧ sortF B (fanN B M) N (lensV rv) mv = srtN B (fanN B M) M n ∧ mv + 10000 * rv.length ≤ 50000000
theorem srtN_zero {B F M : Nat} (hM : 0 < M) : srtN B F M 0 = 0 := by
  have e : nch 0 M = 0 := by unfold nch; exact Nat.div_eq_of_lt (by omega)
  unfold srtN chL
  rw [e]; rfl
theorem sum_take_le (l : List Nat) (k : Nat) : (l.take k).sum ≤ l.sum := by
  have := congrArg List.sum (List.take_append_drop k l)
  rw [List.sum_append] at this; omega
theorem sum_drop_le (l : List Nat) (k : Nat) : (l.drop k).sum ≤ l.sum := by
  have := congrArg List.sum (List.take_append_drop k l)
  rw [List.sum_append] at this; omega
theorem chnk_sum_le (l : List Nat) (m j : Nat) : (chnk l m j).sum ≤ l.sum := Nat.le_trans (sum_take_le _ _) (sum_drop_le _ _)
theorem flat_sum_le {α : Type} {f : α → List Nat} {m : Nat} : ∀ {xs : List α}, (∀ y, (f y).sum ≤ m) → (xs.flatMap f).sum ≤ xs.length * m
  | [], _ => Nat.zero_le _
  | x :: xs, h => by
    have h1 := h x
    have h2 := flat_sum_le (xs := xs) h
    rw [List.flatMap_cons, List.sum_append, List.length_cons, Nat.succ_mul]; omega
theorem YS.alloc1 {W1 W w' : World} {z p q B M mv : Nat} {a : Option Addr} {c : Nat} {rv : List IV} {o : Obj} (h : YS W1 W z p q B M mv a c rv) (F : Fr (onBlk a) (W.alloc o) w') : One w' q 82 (.slice a rv.length c) :=
  (h.bx.alloc o).fr F (fun hk => by have := (h.own.blk _ hk).1; have := h.lo; omega)
/-- Lists, each with the elements of the other in order. -/
def SrtP : List IV → List (List Int) → Prop
  | [], [] => True
  | r :: rv, x :: xs => (r.l.Perm x ∧ r.l.Pairwise (· ≤ ·)) ∧ SrtP rv xs
  | _, _ => False
theorem SrtP.snoc : ∀ {rv : List IV} {xs : List (List Int)} {r : IV} {x : List Int}, SrtP rv xs → r.l.Perm x → r.l.Pairwise (· ≤ ·) → SrtP (rv ++ [r]) (xs ++ [x])
  | [], [], _, _, _, h1, h2 => ⟨⟨h1, h2⟩, trivial⟩
  | [], _ :: _, _, _, h, _, _ => h.elim
  | _ :: _, [], _, _, h, _, _ => h.elim
  | _ :: _, _ :: _, _, _, h, h1, h2 => ⟨h.1, SrtP.snoc h.2 h1 h2⟩
theorem SrtP.perm : ∀ {rv : List IV} {xs : List (List Int)}, SrtP rv xs → (iflat rv).Perm xs.flatten
  | [], [], _ => List.Perm.refl _
  | [], _ :: _, h => h.elim
  | _ :: _, [], h => h.elim
  | _ :: _, _ :: _, h => by
    unfold iflat
    rw [List.flatMap_cons, List.flatten_cons]
    exact List.Perm.append h.1.1 (SrtP.perm h.2)
theorem SrtP.lens : ∀ {rv : List IV} {xs : List (List Int)}, SrtP rv xs → rv.map (fun r => r.l.length) = xs.map List.length
  | [], [], _ => rfl
  | [], _ :: _, h => h.elim
  | _ :: _, [], h => h.elim
  | _ :: _, _ :: _, h => by rw [List.map_cons, List.map_cons, h.1.1.length_eq, SrtP.lens h.2]
theorem SrtP.all : ∀ {rv : List IV} {xs : List (List Int)}, SrtP rv xs → ∀ r ∈ rv, r.l.Pairwise (· ≤ ·)
  | [], _, _, _, hr => by cases hr
  | _ :: _, [], h, _, _ => h.elim
  | _ :: _, _ :: _, h, r, hr => by
    rcases List.mem_cons.1 hr with rfl | hr
    · exact h.1.2
    · exact SrtP.all h.2 r hr
theorem Rd.sub {w : World} {b o n : Nat} {l : List Int} (h : Rd w (some ⟨b, o, none⟩) n (ints l)) (m j : Nat) : ∀ (i : Nat) (v : Int), (chnk l m j)[i]? = some v → w.cell? ⟨b, o + j * m + i, none⟩ = some (.int .i64 v) := fun i v hv => by
  unfold chnk at hv
  rw [List.getElem?_take] at hv
  split at hv
  · rw [List.getElem?_drop] at hv
    have hi := (List.getElem?_eq_some_iff.1 hv).1
    have hl := h.len
    rw [List.length_map] at hl
    obtain ⟨b', o', e, hc⟩ := h.cells (by omega)
    injection e with e; injection e with e1 e2; subst e1; subst e2
    rw [Nat.add_assoc]
    exact hc _ _ (by rw [List.getElem?_map, hv]; rfl)
  · cases hv
set_option maxRecDepth 100000 in
set_option maxHeartbeats 8000000 in
theorem BSort_any {w : World} {a : Option Addr} {n c B M : Nat} {l : List Int} (h : Rd w a n (ints l)) (hc : n ≤ c) (hn : n ≤ 4096) (hB : 1 ≤ B ∧ B ≤ 64) (hM : 2 * B ≤ M ∧ M ≤ 1000) :
    Calls Try.prog 17 #[.slice a n c, .int .i64 (B : Int), .int .i64 (M : Int)] w fun e w' => ∃ a' c' ys, e = .returned (.tuple #[.slice a' n c', .int .i64 (srtN B (fanN B M) M n : Int), .int .i64 0]) ∧ ys.Perm l ∧ ys.Pairwise (· ≤ ·) ∧ Rd w' a' n (ints ys) ∧ Fr F0 w w' := by
  have hsz : szB (B : Int) (M : Int) = true := szB_iff.2 (by omega)
  have HR := Lib.hid (fun w => right_any (B : Int) (M : Int) w)
  rw [hsz] at HR
  have hll : l.length = n := by have := h.len; simpa using this
  have hn4 : ¬ 4096 < (n : Int) := by omega
  have hdn : decide (4096 < (n : Int)) = false := decide_eq_false hn4
  have HL := Lib.hid h
  have Hll := Lib.hid hll
  clear h hsz hll
  refine (callsIn_wide (n := 3)).1 ?_
  refine callsIn_of_wp_marks Try.func17 rfl trivial ?_
  simp only [Try.ntmps17, List.size_toArray, List.length_cons, List.length_nil, Nat.reduceAdd, Nat.reduceSub, Array.replicate_succ, Array.replicate_zero, List.push_toArray, List.append_toArray, List.nil_append, List.cons_append]
  gi_wp2_with (first | (refine ⟨trivial, ?_⟩; gi_at_call 34; refine (callsIn_wide.2 (HR.out _)).mono ?_; rintro e w1 ⟨rfl, F1⟩; replace F1 := Lib.hid F1) | (refine ⟨trivial, ?_⟩; gi_at_call 37; refine (callsIn_wide.2 (chunkI_in _ _ _ _ _ (by omega))).mono ?_; rintro e w2 ⟨rfl, rfl⟩))
  obtain ⟨z, hz⟩ : ∃ z, z = w.heap.size := ⟨_, rfl⟩
  obtain ⟨p, hp⟩ : ∃ p, p = w1.heap.size := ⟨_, rfl⟩
  obtain ⟨W1, hW1⟩ : ∃ W1, W1 = (((w1.alloc (.cells #[.int .i64 0] 3)).alloc (.cells #[.slice none 0 0] 82)).alloc (.cells #[.slice a n c] 36)).alloc (.cells #[.int .i64 (M : Int)] 3) := ⟨_, rfl⟩
  have hzp : z < p := by rw [hz, hp]; have := F1.out.size; rw [size_alloc] at this; omega
  have hs1 : W1.heap.size = p + 4 := by rw [hW1, hp]; simp
  have Bz := (Blk.new w 73 [.int .i64 (B : Int), .int .i64 (M : Int)]).fr F1.out id
  have FW : Fr F0 w1 W1 := by rw [hW1]; exact ((((Fr.refl F0 w1).alloc _).alloc _).alloc _).alloc _
  have Bz1 := Bz.fr FW id
  have Op : One W1 p 3 (.int .i64 (0 : Nat)) := by rw [hW1, hp]; exact (((One.new 3 _).alloc _).alloc _).alloc _
  have Oq : One W1 (p + 1) 82 (.slice none 0 0) := by
    have := ((One.new (w := w1.alloc (.cells #[.int .i64 0] 3)) 82 (.slice none 0 0)).alloc (.cells #[.slice a n c] 36)).alloc (.cells #[.int .i64 (M : Int)] 3)
    rw [size_alloc] at this
    rw [hW1, hp]; exact this
  have O2 : One W1 (p + 2) 36 (.slice a n c) := by
    have := (One.new (w := (w1.alloc (.cells #[.int .i64 0] 3)).alloc (.cells #[.slice none 0 0] 82)) 36 (.slice a n c)).alloc (.cells #[.int .i64 (M : Int)] 3)
    rw [size_alloc, size_alloc] at this
    rw [hW1, hp]; exact this
  have O3 : One W1 (p + 3) 3 (.int .i64 (M : Int)) := by
    have := One.new (w := ((w1.alloc (.cells #[.int .i64 0] 3)).alloc (.cells #[.slice none 0 0] 82)).alloc (.cells #[.slice a n c] 36)) 3 (.int .i64 (M : Int))
    rw [size_alloc, size_alloc, size_alloc] at this
    rw [hW1, hp]; exact this
  rw [← hW1, ← hp, ← hz, show p + 1 + 1 + 1 = p + 3 from rfl, show p + 1 + 1 = p + 2 from rfl]
  rw [← hz] at Bz1
  have FW0 : Fr F0 w W1 := (((Fr.refl F0 w).alloc _).trans0 F1.out).trans0 FW
  have Y0 : YS W1 W1 z p (p + 1) B M 0 none 0 [] := ⟨Bz1, Op, Oq, Own.nil _ _ _, fun r hr => (by cases hr), Fr.refl _ _, by omega, by omega⟩
  obtain ⟨q, hq⟩ : ∃ q, q = p + 1 := ⟨_, rfl⟩
  have hpq : q < W1.heap.size ∧ p < q ∧ q < p + 2 := by omega
  obtain ⟨b, o, ha⟩ : ∃ b o, 0 < n → a = some ⟨b, o, none⟩ := by
    rcases Nat.eq_zero_or_pos n with h0 | h0
    · exact ⟨0, 0, fun h => by omega⟩
    · obtain ⟨b, o, e, _⟩ := HL.out.cells h0; exact ⟨b, o, fun _ => e⟩
  have seq := chunkI_stopsF Fence.wide 2 trivial rfl (by omega) (p + 2) (p + 3) b o c n M a (by omega) (by omega) hc ha W1 (by omega) (by omega) O2.cell O3.cell
  rw [← hq] at Y0 ⊢
  have HFW0 := Lib.hid FW0
  have HY0 := Lib.hid Y0
  have Hz := Lib.hid (And.intro hz hzp)
  have Hs1 := Lib.hid hs1
  have Ha := Lib.hid ha
  clear hz hp hW1 hzp hs1 Bz FW Bz1 Op Oq O2 O3 FW0 Y0 hq ha F1
  refine wpIn_rangeFunc_ownF (n := 3) rfl (by omega) (gf := 66) (lb := #[.pointer (some ⟨p + 2, 0, none⟩), .pointer (some ⟨p + 3, 0, none⟩)]) rfl trivial (enters_of Try.func66 (by kernel_rfl) rfl) seq (fun h k => KP.trans h k)
    (fun A l o o' hl ho hc _ => ⟨World.putObj_heap_other (by have := Hs1.out; omega), World.putObj_heap_other (by have := Hs1.out; omega)⟩) (Below.refl _ _) (fun _ => rfl)
    (fun (pre : List (CIx n M)) A => ∃ a' c' rv mv, YS W1 A z p q B M mv a' c' rv ∧ SrtP rv (pre.map fun x => chnk l M x.1) ∧ mv = 2 * cstL B (pre.map fun x => chl n M x.1))
    (fun _ _ _ => False)
    (fun pre A A' row hs hg hr => ?_)
    (fun _ _ _ _ _ hs _ _ => hs)
    ⟨none, 0, [], 0, HY0.out, trivial, rfl⟩
    (fun x : CIx n M => (⟨#[.slice a n c, .int .i64 (B : Int), .int .i64 (M : Int), undef, undef, undef, .slice none 0 0, .int .i64 0, .int .i64 0, .pointer (some ⟨z, 0, none⟩), .pointer (some ⟨p, 0, none⟩), .pointer (some ⟨q, 0, none⟩), chv b o n M x.1, undef, undef, undef, undef, undef, .int .i64 (B : Int), .int .i64 (M : Int), .agg #[.int .i64 (B : Int), .int .i64 (M : Int)], .bool false, .agg #[.int .i64 (B : Int), .int .i64 (M : Int)], .bool true, .bool false, .bool false, .slice a n c, .int .i64 (n : Int), .bool false, .slice a n c, .int .i64 (M : Int), .func (.func 66) #[] #[.pointer (some ⟨p + 2, 0, none⟩), .pointer (some ⟨p + 3, 0, none⟩)], chv b o n M x.1, undef, undef, undef, undef, undef, undef, undef, undef, undef, undef, undef, undef, undef, undef, undef, undef, undef, undef, undef, undef, undef, undef, undef, undef, undef, undef, undef, undef, undef, undef, undef, undef, undef, undef, undef, undef, undef, undef, undef, undef, undef, undef, undef, undef, undef, undef, undef, undef, undef, undef, undef, undef, undef, undef, undef, undef], []⟩ : Act)) ?assign ?body ?done ?stop
  · obtain ⟨a', c', rv, mv, h1, h2, h3⟩ := hs
    exact ⟨a', c', rv, mv, h1.rowd hg hr, h2, h3⟩
  case assign =>
    intro l y A K hK
    conv => arg 4; whnf
    gi_wp2
    exact hK
  case body =>
    rintro l9 pre ⟨x, hx⟩ A ⟨a0, c0, rv, mv, Y1, Y2, Y3⟩ hpre
    have hxm : x * M < n := (nch_lt (by omega)).1 hx
    obtain ⟨k, hk⟩ : ∃ k, k = chl n M x := ⟨_, rfl⟩
    have hk1 : 1 ≤ k ∧ k ≤ M := by rw [hk]; unfold chl; omega
    have hcv : chv b o n M x = .slice (some ⟨b, o + x * M, none⟩) k k := by unfold chv; rw [hk]
    have ha := Ha.out (by omega)
    have hcl : (chnk l M x).length = k := by rw [chnk_len, Hll.out, hk]
    dsimp only
    rw [hcv]
    have hsub := Rd.sub (by have := HL.out; rw [ha] at this; exact this) M x
    have hmv9 : mv ≤ 100000000 := by
      have h1 := cstL_le hB.1 (pre.map fun x => chl n M x.1)
      have h2 : (pre.map fun x : CIx n M => chl n M x.1).sum ≤ pre.length * 1000 := sum_le (fun v hv => by obtain ⟨y, _, rfl⟩ := List.mem_map.1 hv; exact Nat.le_trans (Nat.min_le_left _ _) hM.2) (List.length_map ..)
      have h3 : nch n M ≤ n := nch_le (by omega)
      omega
    have HBk : Hid (∀ W, Calls Try.prog 38 #[.agg #[.int .i64 (B : Int), .int .i64 (M : Int)], .int .i64 (k : Int)] W fun e w' => e = .returned (.int .i64 (cnt B k : Int)) ∧ Fr F0 W w') := Lib.hid (fun W => blocks_any B (M : Int) k W hB (by omega))
    obtain ⟨ck, hck⟩ : ∃ ck, ck = cnt B k := ⟨_, rfl⟩
    have hck9 : ck ≤ 1000 := by rw [hck]; exact Nat.le_trans (cnt_le hB.1 k) (by omega)
    rw [← hck] at HBk
    have hw1 : IntKind.i64.wrap (2 * (ck : Int)) = 2 * (ck : Int) := wI (by omega) (by omega)
    have hw2 : IntKind.i64.wrap ((mv : Int) + 2 * (ck : Int)) = (mv : Int) + 2 * (ck : Int) := wI (by omega) (by omega)
    have HK := Lib.hid (And.intro hk (And.intro hcl (And.intro hck (And.intro hsub (And.intro Y2 Y3)))))
    have HY1 := Lib.hid Y1
    have x0 := Y1.sz.cell (i := 0) rfl
    have x1 := Y1.sz.cell (i := 1) rfl
    have x2 := Y1.mvb.cell
    have x3 := Y1.bx.cell
    obtain ⟨nr, hnr⟩ : ∃ nr, nr = rv.length := ⟨_, rfl⟩
    rw [← hnr] at x3
    have Hnr := Lib.hid hnr
    have hnr9 : nr ≤ 100000 := by have h1 := SrtP.lens Y2; have h2 := congrArg List.length h1; rw [List.length_map, List.length_map, List.length_map] at h2; have h3 : nch n M ≤ n := nch_le (by omega); omega
    clear hk hcl hck hsub Y1 Y2 Y3 hnr seq hcv ha
    gi_wp2_with fail
    refine wpIn_step (R := fun a9 W9 => a9 = QF a n c B M z p q (.slice (some ⟨b, o + x * M, none⟩) k k) (gOf a9 13) (gOf a9 14) (gOf a9 17) (gOf a9 54) (gOf a9 55) (gOf a9 56) (gOf a9) [] ∧ YS W1 W9 z p q B M (mv + 2 * ck) a0 c0 rv ∧ Fr (fun j => j = p ∨ j = q ∨ onBlk a0 j) A W9) (wpIn_region_last 7 (fun w' : World => w'.cell? ⟨z, 0, none⟩ = some (.int .i64 (B : Int)) ∧ w'.cell? ⟨z, 1, none⟩ = some (.int .i64 (M : Int)) ∧ w'.cell? ⟨p, 0, none⟩ = some (.int .i64 (mv : Int))) (by kernel_rfl) (by kernel_rfl) ?_) ?_
    ·
      have hHeld : (fun w' : World => w'.cell? ⟨z, 0, none⟩ = some (.int .i64 (B : Int)) ∧ w'.cell? ⟨z, 1, none⟩ = some (.int .i64 (M : Int)) ∧ w'.cell? ⟨p, 0, none⟩ = some (.int .i64 (mv : Int))) A.drew := ⟨x0, x1, x2⟩
      refine anyP_take 0 (v := ?_) rfl rfl (by kernel_rfl) (fun _ _ _ h => h) (Or.inl ⟨by rfl, ?_⟩) hHeld ?_
      rotate_left 1
      · (intro w0 hSw; (try dsimp only at hSw); go_simp; (try (with_reducible rfl)))
      (try simp only [Act.put, List.setIfInBounds_toArray])
      refine anyP_take 1 (v := ?_) rfl rfl (by kernel_rfl) (fun _ _ _ h => h) (Or.inl ⟨by rfl, ?_⟩) hHeld ?_
      rotate_left 1
      · (intro w0 hSw; (try dsimp only at hSw); go_simp; (try (with_reducible rfl)))
      (try simp only [Act.put])
      refine anyP_takeF 2 (v := ?_) rfl (by kernel_rfl) (fun _ _ _ h => h) (Or.inl ⟨by rfl, ?_⟩) (.inr hHeld) ?_
      rotate_left 1
      · (intro w0 hSw; (try dsimp only at hSw); go_simp; (try (with_reducible rfl)))
      (try simp only [Act.put])
      refine anyP_takeF 3 (v := ?_) rfl (by kernel_rfl) (fun _ _ _ h => h) (Or.inl ⟨by rfl, ?_⟩) (.inr hHeld) ?_
      rotate_left 1
      · (intro w0 hSw; (try dsimp only at hSw); go_simp; (try (with_reducible rfl)))
      (try simp only [Act.put])
      refine anyP_one 4 (by kernel_rfl) rfl (fun K hK => ?_)
      replace hK := Lib.hid hK
      go_simp
      refine (HBk.out _).mono ?_
      rintro e w2 ⟨rfl, F2⟩
      have F3 := (Fr.refl F0 A).drew.trans0 F2
      replace hHeld : (fun w' : World => w'.cell? ⟨z, 0, none⟩ = some (.int .i64 (B : Int)) ∧ w'.cell? ⟨z, 1, none⟩ = some (.int .i64 (M : Int)) ∧ w'.cell? ⟨p, 0, none⟩ = some (.int .i64 (mv : Int))) w2 := ⟨F2.cell x0 id, F2.cell x1 id, F2.cell x2 id⟩
      have HY2 := Lib.hid (HY1.out.fr0 F3)
      have z2 := HY2.out.mvb.cell
      have f2 := HY2.out.mvb.free
      have HF3 := Lib.hid F3
      clear F2 F3
      refine hK.out _ _ (.inr hHeld) ?_
      clear hK K
      (try simp only [Act.put, List.setIfInBounds_toArray, List.set_cons_zero, List.set_cons_succ])
      refine anyP_takeF 5 (v := ?_) rfl (by kernel_rfl) (fun _ _ _ h => h) (Or.inl ⟨by rfl, ?_⟩) (.inr hHeld) ?_
      rotate_left 1
      · (intro w0 hSw; (try dsimp only at hSw); go_simp; (try (with_reducible rfl)))
      (try simp only [Act.put, List.setIfInBounds_toArray])
      refine anyP_takeF 6 (v := ?_) rfl (by kernel_rfl) (fun _ _ _ h => h) (Or.inl ⟨by rfl, ?_⟩) (.inr hHeld) ?_
      rotate_left 1
      · (intro w0 hSw; (try dsimp only at hSw); go_simp; (try (with_reducible rfl)))
      (try simp only [Act.put])
      refine anyP_one 7 (by kernel_rfl) rfl (fun K hK => ?_)
      replace hK := Lib.hid hK
      go_simp
      refine hK.out _ _ (.inl (by kernel_rfl)) ?_
      clear hK K
      (try simp only [Act.put, List.setIfInBounds_toArray, List.set_cons_zero, List.set_cons_succ])
      refine anyP_done (by kernel_rfl) ?_ _
      refine NoPanic.normal ?_
      refine ⟨rfl, ?_, ((HF3.out.mono (S' := (fun j => j = p ∨ j = q ∨ onBlk a0 j)) (fun _ _ h => h.elim)).setCell (fun _ => .inl rfl) _)⟩
      have hh := HY2.out.mvd (mv + 2 * ck)
      rw [show ((mv + 2 * ck : Nat) : Int) = (mv : Int) + 2 * (ck : Int) by omega] at hh
      exact hh
    rintro a9 w2 ⟨ha9, Y9, F9⟩
    rw [ha9]
    clear ha9 x0 x1 x2 x3
    generalize gOf a9 = g
    unfold QF
    have HY9 := Lib.hid Y9
    have HF9 := Lib.hid F9
    have x3 := Y9.bx.cell
    rw [← Hnr.out] at x3
    clear Y9 F9
    gi_wp2_with fail
    refine wpIn_step (R := fun a9 W9 => ∃ a1 c1 r, YS W1 W9 z p q B M (mv + 2 * ck) a1 c1 (rv ++ [r]) ∧ r.l.Perm (chnk l M x) ∧ r.l.Pairwise (· ≤ ·) ∧ Fr (fun j => j = p ∨ j = q ∨ onBlk a0 j) A W9) (wpIn_region_last 6 (fun w' : World => w'.cell? ⟨q, 0, none⟩ = some (.slice a0 nr c0)) (by kernel_rfl) (by kernel_rfl) ?_) ?_
    ·
      obtain ⟨w3, hw3⟩ : ∃ wz, wz = w2.drew := ⟨_, rfl⟩
      rw [← hw3]
      have F3 : Fr F0 w2 w3 := by rw [hw3]; exact (Fr.refl _ _).drew
      have HX : Hid (∀ W, Fr F0 w2 W → (fun w' : World => w'.cell? ⟨q, 0, none⟩ = some (.slice a0 nr c0)) W) := Lib.hid (fun W F => F.cell x3 id)
      have hHeld := HX.out w3 F3
      have HF3 := Lib.hid F3
      clear hw3 F3 x3
      refine anyP_take 0 (v := ?_) rfl rfl (by kernel_rfl) (fun _ _ _ h => h) (Or.inl ⟨by rfl, ?_⟩) hHeld ?_
      rotate_left 1
      · (intro w0 hSw; (try dsimp only at hSw); go_simp; (try (with_reducible rfl)))
      (try simp only [Act.put, List.setIfInBounds_toArray])
      refine anyP_takeF 1 (v := ?_) rfl (by kernel_rfl) (fun _ _ _ h => h) (Or.inl ⟨by rfl, ?_⟩) (.inr hHeld) ?_
      rotate_left 1
      · (intro w0 hSw; (try dsimp only at hSw); go_simp; (try (with_reducible rfl)))
      (try simp only [Act.put])
      refine anyP_one 2 (by kernel_rfl) rfl (fun K hK => ?_)
      replace hK := Lib.hid hK
      go_simp
      refine (Values_any _ _ _ _).mono ?_
      rintro e w4 ⟨rfl, hw4⟩
      have F4 : Fr F0 w3 w4 := by rw [hw4]; exact (Fr.refl _ _).alloc _
      have F5 := HF3.out.trans0 F4
      have b4 : One w4 w3.heap.size 36 (.slice (some ⟨b, o + x * M, none⟩) k k) := by rw [hw4]; exact One.new 36 _
      have HF5 := Lib.hid F5
      have HB4 := Lib.hid b4
      refine hK.out _ _ (.inr (HX.out _ F5)) ?_
      clear hK K
      (try simp only [Act.put, List.setIfInBounds_toArray, List.set_cons_zero, List.set_cons_succ])
      clear F4 F5 hw4 b4
      obtain ⟨gb, hgb⟩ : ∃ gb, gb = w3.heap.size := ⟨_, rfl⟩
      rw [← hgb] at HB4 ⊢
      clear hgb
      have hcl := HK.out.2.1
      have hcells : ∀ (i : Nat) (v : Int), (chnk l M x)[i]? = some v → w4.cell? ⟨b, o + x * M + i, none⟩ = some (.int .i64 v) := fun i v hv => by
        have h0 := HK.out.2.2.2.1 i v hv
        have h1 := World.block_lt_of_cell? _ _ h0
        have h2 := Hz.out
        have h3 := Hs1.out
        dsimp only at h1
        refine HF5.out.cell (HF9.out.cell (HY1.out.fr.cell (HFW0.out.cell h0 id) (fun e => ?_)) (fun e => ?_)) id
        · have e' : b = p ∨ b = q := e
          omega
        · have e' : b = p ∨ b = q ∨ onBlk a0 b := e
          rcases e' with e | e | e
          · omega
          · omega
          · have := (HY1.out.own.blk _ e).1; omega
      have hSo := Sorted_any (w := w4) (vs := chnk l M x) (Bs := gb) (b := b) (o := o + x * M) (cap := k) (by rw [hcl]; omega) (by rw [hcl]; exact HB4.out.cell) hcells
      rw [hcl] at hSo
      have HSo := Lib.hid hSo
      clear hSo hcl
      have hHeld := HX.out _ HF5.out
      refine anyP_one 3 (by kernel_rfl) rfl (fun K hK => ?_)
      replace hK := Lib.hid hK
      go_simp
      refine HSo.out.mono ?_
      rintro e w6 ⟨a6, c6, ys, rfl, s1, s2, s3, s4⟩
      have F7 := HF5.out.trans0 s4
      have HF7 := Lib.hid F7
      have HS := Lib.hid (And.intro s1 (And.intro s2 s3))
      refine hK.out _ _ (.inr (HX.out _ F7)) ?_
      clear hK K
      (try simp only [Act.put, List.setIfInBounds_toArray, List.set_cons_zero, List.set_cons_succ])
      have hHeld := HX.out _ HF7.out
      clear s1 s2 s3 s4 F7 HSo
      refine anyP_one 4 (by kernel_rfl) rfl (fun K hK => ?_)
      replace hK := Lib.hid hK
      go_simp
      refine hK.out _ _ (.inr (HX.out _ (HF7.out.alloc _))) ?_
      clear hK K
      (try simp only [Act.put, List.setIfInBounds_toArray, List.set_cons_zero, List.set_cons_succ])
      have lit := Own.rd (Own.lit (w := w6) (B := 0) (T := 36) [.slice a6 k c6] 1 rfl (Nat.zero_le _) (by omega))
      have F8 := HF7.out.alloc (.cells [.slice a6 k c6].toArray 36)
      have s38 := HS.out.2.2.alloc (.cells [.slice a6 k c6].toArray 36)
      have hw46 : w2.heap.size ≤ w4.heap.size := HF5.out.size
      obtain ⟨w8, hw8⟩ : ∃ W, W = w6.alloc (.cells [.slice a6 k c6].toArray 36) := ⟨_, rfl⟩
      obtain ⟨g8, hg8⟩ : ∃ g, g = w6.heap.size := ⟨_, rfl⟩
      change anyP _ _ _ _ _ _ _ _ _ (w6.alloc (.cells [.slice a6 k c6].toArray 36))
      rw [← hw8] at lit F8 s38 ⊢
      rw [← hg8] at lit ⊢
      have HF8 := Lib.hid F8
      have Hlit := Lib.hid lit
      have HS8 := Lib.hid s38
      clear hw8 hg8 F8 lit s38 hHeld
      have own8 := (HY9.out.fr0 HF8.out).own
      rw [← Hnr.out] at own8
      have Hown8 := Lib.hid own8
      clear own8
      refine anyP_one 5 (by kernel_rfl) rfl (fun KK hKK => ?_)
      replace hKK := Lib.hid hKK
      refine stepAppRd E82 (by rfl) (by rfl) (by rfl) (by rfl) Hown8.out Hlit.out (fun u hu => by simp at hu; subst hu; rfl) (by omega) (by omega) (Nat.le_trans HY9.out.fr.size HF8.out.size) (nr + 1) rfl ?_
      intro a10 c10 w10 own10 fr10 at10
      have Y8 := HY9.out.fr0 HF8.out
      have h1q := Y8.lo
      have nq : ¬ onBlk a0 q := fun e => by have := (Y8.own.blk _ e).1; omega
      have b10 := Y8.bx.fr fr10 nq
      have y10 := b10.cell
      have f10 := b10.free
      rw [← Hnr.out] at y10
      have hys : ys.length = k := HS.out.1.length_eq.trans HK.out.2.1
      have P10 := YS.push (r := ⟨ys, a6, c6⟩) Y8 Hnr.out.symm (by show Own _ _ 36 _ _ _ (ivs rv ++ [.slice a6 ys.length c6]); rw [hys]; exact own10) fr10 at10 (by show Rd _ a6 ys.length (ints ys); rw [hys]; exact HS8.out.rd) (by show 0 < ys.length; omega) (fun j hj => ⟨by have := (HS8.out.blk j hj).1; have := HY9.out.fr.size; omega, (HS8.out.blk j hj).2, fun e => by have h1 := (HS8.out.blk j hj).1; have h2 := (HY9.out.own.blk j e).2; omega⟩)
      have F10 : Fr (fun j => j = p ∨ j = q ∨ onBlk a0 j) A (w10.setCell ⟨q, 0, none⟩ (.slice a10 (nr + 1) c10)) := (((HF9.out.trans0 HF8.out).trans fr10 (fun _ _ e => .inr (.inr e))).setCell (fun _ => .inr (.inl rfl)) _)
      have HP10 := Lib.hid (And.intro P10 F10)
      refine hKK.out _ _ (.inr y10) ?_
      clear hKK KK
      (try simp only [Act.put, List.setIfInBounds_toArray])
      clear own10 fr10 at10 Y8 b10 nq P10 F10 hys
      refine anyP_one 6 (by kernel_rfl) rfl (fun K hK => ?_)
      replace hK := Lib.hid hK
      go_simp
      refine hK.out _ _ (.inl (by kernel_rfl)) ?_
      clear hK K
      (try simp only [Act.put, List.setIfInBounds_toArray, List.set_cons_zero, List.set_cons_succ])
      refine anyP_done (by kernel_rfl) ?_ _
      refine NoPanic.normal ?_
      exact ⟨a10, c10, ⟨ys, a6, c6⟩, HP10.out.1, HS.out.1, HS.out.2.1, HP10.out.2⟩
    rintro a9 w9 ⟨a1, c1, r, P1, P2, P3, P4⟩
    gi_wp2_with fail
    have h4 := Hs1.out
    have hA := HY1.out.fr.size
    have nob : ∀ j, onBlk a0 j → W1.heap.size ≤ j := fun j hj => (HY1.out.own.blk j hj).1
    have nob2 : ∀ j, q < j → j < W1.heap.size → ¬ (j = p ∨ j = q ∨ onBlk a0 j) := fun j h5 h6 e => by
      rcases e with e | e | e
      · omega
      · omega
      · have := nob _ e; omega
    refine (show ownPostK _ _ _ _ _ .normal _ _ from ⟨HY1.out.keeps P4, ⟨P4.block _ (by omega) (fun e => ?_), P4.block _ (by omega) (fun e => ?_)⟩, a1, c1, rv ++ [r], mv + 2 * ck, P1, ?_, ?_⟩)
    · exact nob2 _ (by omega) (by omega) e
    · exact nob2 _ (by omega) (by omega) e
    · rw [List.map_append]; exact SrtP.snoc HK.out.2.2.2.2.1 P2 P3
    · rw [List.map_append, cstL_app, HK.out.2.2.1, HK.out.1, HK.out.2.2.2.2.2]
      unfold cstL
      simp only [List.map_cons, List.map_nil, List.sum_cons, List.sum_nil]
      omega
  case done =>
    rintro D xs A hD hxs ⟨a0, c0, rv, mv, Y1, Y2, Y3⟩ hK
    have hxr : (xs.map fun x : CIx n M => chl n M x.1) = chL n M := by
      unfold chL; rw [← hxs, List.map_map]; rfl
    have hxc : (xs.map fun x : CIx n M => chnk l M x.1).flatten = l := by
      have e1 := chnk_all l (show 0 < M by omega)
      rw [Hll.out, ← hxs, List.flatMap_def, List.map_map] at e1
      exact e1
    have hlens : lensV rv = chL n M := by
      have := SrtP.lens Y2
      unfold lensV; rw [this, List.map_map, ← hxr]
      refine List.map_congr_left (fun x _ => ?_)
      show (chnk l M x.1).length = _
      rw [chnk_len, Hll.out]
    have hrl : rv.length = nch n M := by have := congrArg List.length hlens; unfold lensV chL at this; rw [List.length_map, List.length_map, List.length_range] at this; exact this
    have hnn : nch n M ≤ n := nch_le (by omega)
    have hmv : mv = 2 * cstL B (chL n M) := by rw [Y3, hxr]
    have hmv2 : cstL B (chL n M) ≤ n := Nat.le_trans (cstL_le hB.1 _) (by rw [chL_sum (by omega)]; exact Nat.le_refl _)
    have h4 := Hs1.out
    have hperm : (iflat rv).Perm l := by have := Y2.perm; rwa [hxc] at this
    have hLI := And.intro Y1 (And.intro ((MK.nil A (p + 4)).cons (by omega) hK (fun h => by cases h)) (And.intro hperm (And.intro (SrtP.all Y2) (And.intro (Nat.le_refl rv.length) (And.intro (show sortF B (fanN B M) rv.length (lensV rv) mv = srtN B (fanN B M) M n by rw [hlens, hrl, hmv]; rfl) (show mv + 10000 * rv.length ≤ 50000000 by omega))))))
    have HLI := Lib.hid hLI
    clear hLI hperm hxs hxr hxc hlens hrl hnn hmv hmv2 h4 Y1 Y2 Y3 hK seq
    gi_wp2_with fail
    refine wpIn_loop (I := LI W1 a n c B M z p q l) (μ := fun _ W => qlen W q) ?_ ?_
    · exact ⟨a0, c0, rv, mv, _, rv.length, rfl, HLI.out⟩
    · clear HLI
      rintro a9 W ⟨a0, c0, rv, mv, ds, N, ha9, Y1, Y2, Y3, Y4, Y5, Y6, Y7⟩
      rw [ha9]
      clear ha9
      generalize gOf a9 = g
      unfold QF
      have hql := Y1.qlen
      rw [hql]
      have x3 := Y1.bx.cell
      have x2 := Y1.mvb.cell
      have w0 := Y1.sz.cell (i := 0) rfl
      have w1' := Y1.sz.cell (i := 1) rfl
      obtain ⟨nr, hnr⟩ : ∃ nr, nr = rv.length := ⟨_, rfl⟩
      rw [← hnr] at x3 Y5 Y7 ⊢
      have HY := Lib.hid (And.intro Y1 (And.intro Y2 (And.intro Y3 (And.intro Y4 (And.intro Y5 (And.intro Y6 (And.intro Y7 hnr)))))))
      clear Y1 Y2 Y3 Y4 Y5 Y6 hql hnr
      have h4 := Hs1.out
      by_cases hlen : 1 < nr
      · have hlen' : (1 : Int) < (nr : Int) := by omega
        obtain ⟨b0, hb0, _, hb0l, hbc, _⟩ := HY.out.1.own.at (by rw [← HY.out.2.2.2.2.2.2.2]; omega)
        subst hb0
        have HFn := Lib.hid (fun W => fan_any B M W hB hM)
        obtain ⟨F, hF⟩ : ∃ F, F = fanN B M := ⟨_, rfl⟩
        have hF2 : 2 ≤ F ∧ F ≤ 1000 := by rw [hF]; unfold fanN; have := Nat.div_le_self M B; omega
        rw [← hF] at HFn
        have HF := Lib.hid hF
        have hnr9 : nr ≤ 10000 := by omega
        obtain ⟨nb, hnb⟩ : ∃ nb, nb = W.heap.size := ⟨_, rfl⟩
        have FA : Fr F0 W (W.alloc (.cells #[.slice none 0 0] 82)) := (Fr.refl _ _).alloc _
        have Onb : One (W.alloc (.cells #[.slice none 0 0] 82)) nb 82 (.slice none 0 0) := by rw [hnb]; exact One.new 82 _
        obtain ⟨Wa, hWa⟩ : ∃ Wa, Wa = W.alloc (.cells #[.slice none 0 0] 82) := ⟨_, rfl⟩
        have Hnb := Lib.hid hnb
        rw [← hWa] at FA Onb
        have HFA := Lib.hid FA
        have HOnb := Lib.hid Onb
        have HWa := Lib.hid hWa
        clear hF hnb hWa FA Onb x2 hbc
        gi_wp2_with fail
        rw [← HWa.out, ← Hnb.out]
        refine wpIn_wide.2 (wp_step (R := fun a9 W9 => ∃ Bs Bn, a9 = QF a n c B M z p q (gOf a9 12) (.pointer (some ⟨nb, 0, none⟩)) (gOf a9 14) (gOf a9 17) (gOf a9 54) (gOf a9 55) (gOf a9 56) (gOf a9) ds ∧ gOf a9 52 = .func (.func 69) #[] #[.pointer (some ⟨Bs, 0, none⟩), .pointer (some ⟨Bn, 0, none⟩)] ∧ Fr F0 Wa W9 ∧ One W9 Bs 82 (.slice (some ⟨b0, 0, none⟩) nr c0) ∧ One W9 Bn 3 (.int .i64 (F : Int)) ∧ Wa.heap.size ≤ Bs ∧ Wa.heap.size ≤ Bn) ?_ ?_)
        ·
          have HX : Hid (∀ W9, Fr F0 Wa W9 → (fun w' : World => w'.cell? ⟨q, 0, none⟩ = some (.slice (some ⟨b0, 0, none⟩) nr c0) ∧ w'.cell? ⟨z, 0, none⟩ = some (.int .i64 (B : Int)) ∧ w'.cell? ⟨z, 1, none⟩ = some (.int .i64 (M : Int))) W9) := Lib.hid (fun W9 F9 => ⟨F9.cell (HFA.out.cell x3 id) id, F9.cell (HFA.out.cell w0 id) id, F9.cell (HFA.out.cell w1' id) id⟩)
          refine wp_region_held_drew (S := (fun w' : World => w'.cell? ⟨q, 0, none⟩ = some (.slice (some ⟨b0, 0, none⟩) nr c0) ∧ w'.cell? ⟨z, 0, none⟩ = some (.int .i64 (B : Int)) ∧ w'.cell? ⟨z, 1, none⟩ = some (.int .i64 (M : Int)))) (by kernel_rfl) (by first | exact HX.out _ (Fr.refl _ _) | exact HX.out _ (Fr.refl _ _).drew | go_keep) (fun hHeld => ?_)
          refine wpAnyH_take (i := 0) (v := ?_) (by simp only [List.getElem?_toArray, List.getElem?_cons_zero] <;> rfl) (by kernel_rfl) (by kernel_rfl) (by kernel_rfl) (by exact fun _ _ _ h => h) (Or.inl ⟨by rfl, ?_⟩) (by assumption) ?_
          rotate_left
          · intro w hSw
            try dsimp only at hSw
            go_simp <;> with_reducible rfl
          (try simp only [Act.put, List.setIfInBounds_toArray, List.set_cons_zero, List.set_cons_succ])
          refine wpAnyH_take (i := 1) (v := ?_) (by simp only [List.getElem?_toArray, List.getElem?_cons_succ, List.getElem?_cons_zero] <;> rfl) (by kernel_rfl) (by kernel_rfl) (by kernel_rfl) (by exact fun _ _ _ h => h) (Or.inl ⟨by rfl, ?_⟩) (by assumption) ?_
          rotate_left
          · intro w hSw
            try dsimp only at hSw
            go_simp <;> with_reducible rfl
          (try simp only [Act.put, List.setIfInBounds_toArray, List.set_cons_zero, List.set_cons_succ])
          refine wpAnyH_ready (rs := [2]) (by kernel_rfl) (by simp) ?_
          refine AllReadyH.cons (by simp only [List.getElem?_toArray, List.getElem?_cons_succ, List.getElem?_cons_zero] <;> rfl) (fun KK hKK => ?_) AllReadyH.nil
          go_simp
          refine (HFn.out _).mono ?_
          rintro e W3 ⟨rfl, F3⟩
          have HF3 := Lib.hid ((Fr.refl F0 Wa).drew.trans0 F3)
          clear F3
          refine hKK.out _ _ (HX.out _ HF3.out) (fun hHeld => ?_)
          clear hKK KK
          (try simp only [Act.put, List.setIfInBounds_toArray, List.set_cons_zero, List.set_cons_succ])
          refine wpAnyH_ready (rs := [3]) (by kernel_rfl) (by simp) ?_
          refine AllReadyH.cons (by simp only [List.getElem?_toArray, List.getElem?_cons_succ, List.getElem?_cons_zero] <;> rfl) (fun KK hKK => ?_) AllReadyH.nil
          go_simp
          refine (chunkL_in _ _ _ _ _ (by omega)).mono ?_
          rintro e W4 ⟨rfl, hW4⟩
          have F4 : Fr F0 W3 W4 := by rw [hW4]; exact ((Fr.refl _ _).alloc _).alloc _
          have O4 : One W4 W3.heap.size 82 (.slice (some ⟨b0, 0, none⟩) nr c0) := by rw [hW4]; exact (One.new 82 _).alloc _
          have O5 : One W4 (W3.heap.size + 1) 3 (.int .i64 (F : Int)) := by have := One.new (w := W3.alloc (.cells #[.slice (some ⟨b0, 0, none⟩) nr c0] 82)) 3 (.int .i64 (F : Int)); rw [size_alloc] at this; rw [hW4]; exact this
          have H4 := Lib.hid (And.intro (HF3.out.trans0 F4) (And.intro O4 O5))
          clear F4 O4 O5 hW4
          refine hKK.out _ _ (HX.out _ H4.out.1) (fun hHeld => ?_)
          clear hKK KK
          (try simp only [Act.put, List.setIfInBounds_toArray, List.set_cons_zero, List.set_cons_succ])
          refine wpAnyH_done (by kernel_rfl) ?_ _
          exact ⟨_, _, rfl, rfl, H4.out.1, H4.out.2.1, H4.out.2.2, HF3.out.size, by have := HF3.out.size; omega⟩
        rintro a9 W2 ⟨Bs, Bn, ha9, h52, F9, OBs, OBn, hBs, hBn⟩
        rw [ha9]
        clear ha9 x3 w0 w1'
        generalize gOf a9 = g at h52
        unfold QF
        rw [h52]
        have hszA := HFA.out.size
        have hnbA := HOnb.out.lt
        have hnbW := Hnb.out
        have hlo := HY.out.1.lo
        have hne := HY.out.1.ne
        have hfs := HY.out.1.fr.size
        have F29 := HFA.out.trans0 F9
        have Y20 := HY.out.1.fr0 F29
        have Z0 : YS W2 W2 z p nb B M mv none 0 [] := ⟨Y20.sz, Y20.mvb, HOnb.out.fr F9 id, Own.nil _ _ _, fun r hr => (by cases hr), Fr.refl _ _, by have := F9.size; omega, by omega⟩
        have hs2 := F9.size
        have seq := chunkL_stopsF Fence.wide 2 trivial rfl (by omega) Bs Bn b0 0 c0 nr F (some ⟨b0, 0, none⟩) (by omega) (by omega) (by have := Own.cap HY.out.1.own; rw [← HY.out.2.2.2.2.2.2.2] at this; exact this) (fun _ => rfl) W2 OBs.lt OBn.lt OBs.cell OBn.cell
        have H2 := Lib.hid (And.intro F29 (And.intro Y20 (And.intro Z0 (And.intro OBs (And.intro OBn F9)))))
        have HB2 := Lib.hid (show Bs < W2.heap.size ∧ Bn < W2.heap.size ∧ nb < Bs ∧ nb < Bn ∧ q < Bs ∧ q < Bn ∧ p < Bs ∧ p < Bn by have := OBs.lt; have := OBn.lt; omega)
        clear hszA hnbA hnbW hlo hne hfs F29 Y20 Z0 OBs OBn F9 hs2 h52
        gi_wp2_with fail
        refine wpIn_rangeFunc_ownF (n := 3) rfl (by omega) (gf := 69) (lb := #[.pointer (some ⟨Bs, 0, none⟩), .pointer (some ⟨Bn, 0, none⟩)]) rfl trivial (enters_of Try.func69 (by kernel_rfl) rfl) seq (fun h k => KP.trans h k)
          (fun A l o o' hl ho hc _ => ⟨World.putObj_heap_other (by have := HB2.out; omega), World.putObj_heap_other (by have := HB2.out; omega)⟩) (Below.refl _ _) (fun _ => rfl)
          (fun (pre : List (CIx nr F)) A => ∃ a1 c1 rv1 mv1, YS W2 A z p nb B M mv1 a1 c1 rv1 ∧ SrtP rv1 (pre.map fun x => iflat (chnk rv F x.1)) ∧ mv1 = mv + (cstL B (pre.flatMap fun x => chnk (lensV rv) F x.1) + cstL B (pre.map fun x => (chnk (lensV rv) F x.1).sum)))
          (fun _ _ _ => False)
          (fun pre A A' row hs hg hr => ?_)
          (fun _ _ _ _ _ hs _ _ => hs)
          ⟨none, 0, [], mv, H2.out.2.2.1, trivial, rfl⟩
          (fun x : CIx nr F => (⟨#[.slice a n c, .int .i64 (B : Int), .int .i64 (M : Int), g 3, g 4, g 5, g 6, g 7, g 8, .pointer (some ⟨z, 0, none⟩), .pointer (some ⟨p, 0, none⟩), .pointer (some ⟨q, 0, none⟩), g 12, .pointer (some ⟨nb, 0, none⟩), chv b0 0 nr F x.1, g 15, g 16, g 17, g 18, g 19, g 20, g 21, g 22, g 23, g 24, g 25, g 26, g 27, g 28, g 29, g 30, g 31, g 32, g 33, g 34, g 35, g 36, g 37, g 38, g 39, g 40, g 41, g 42, g 43, g 44, g 45, g 46, g 47, g 48, g 49, g 50, g 51, .func (.func 69) #[] #[.pointer (some ⟨Bs, 0, none⟩), .pointer (some ⟨Bn, 0, none⟩)], chv b0 0 nr F x.1, g 54, g 55, g 56, g 57, g 58, g 59, g 60, g 61, g 62, g 63, g 64, g 65, g 66, g 67, g 68, g 69, g 70, g 71, g 72, g 73, g 74, g 75, g 76, g 77, g 78, g 79, g 80, g 81, g 82, g 83, g 84, g 85, g 86, g 87, g 88], []⟩ : Act)) ?assign2 ?body2 ?done2 ?stop2
        · obtain ⟨a', c', rv, mv, h1, h2, h3⟩ := hs
          exact ⟨a', c', rv, mv, h1.rowd hg hr, h2, h3⟩
        case assign2 =>
          intro l y A K hK
          conv => arg 4; whnf
          gi_wp2
          exact hK
        case body2 =>
          rintro l9 pre ⟨x, hx⟩ A ⟨a1, c1, rv1, mv1, Z1, Z2, Z3⟩ hpre
          have hnr := HY.out.2.2.2.2.2.2.2
          have hxm : x * F < nr := (nch_lt (by omega)).1 hx
          obtain ⟨k, hk⟩ : ∃ k, k = chl nr F x := ⟨_, rfl⟩
          have hk1 : 1 ≤ k ∧ k ≤ F := by rw [hk]; unfold chl; omega
          obtain ⟨off, hoff⟩ : ∃ off, off = 0 + x * F := ⟨_, rfl⟩
          have hcv : chv b0 0 nr F x = .slice (some ⟨b0, off, none⟩) k k := by unfold chv; rw [hk, hoff]
          dsimp only
          rw [hcv]
          have hg : (chnk rv F x).length = k := by rw [chnk_len, ← hnr, hk]
          have hsubm : ∀ r ∈ chnk rv F x, r ∈ rv := fun r hr => List.mem_of_mem_drop (List.mem_of_mem_take hr)
          have hflen : (lensV rv).sum = n := by rw [← iflat_len, HY.out.2.2.1.length_eq]; exact Hll.out
          have hgl : (lensV (chnk rv F x)).sum ≤ n := by
            rw [← hflen]; unfold lensV chnk
            rw [List.map_take, List.map_drop]
            exact Nat.le_trans (sum_take_le _ _) (sum_drop_le _ _)
          have hlg : chnk (lensV rv) F x = lensV (chnk rv F x) := chnk_map _ _ _ _
          have hmb : mv1 ≤ 60000000 := by
            have hfl : ∀ j, (chnk (lensV rv) F j).sum ≤ 4096 := fun j => Nat.le_trans (chnk_sum_le _ _ _) (by omega)
            have e0 : (pre.flatMap fun x : CIx nr F => chnk (lensV rv) F x.1).sum ≤ pre.length * 4096 := flat_sum_le (fun y => hfl y.1)
            have e0' : (pre.map fun x : CIx nr F => (chnk (lensV rv) F x.1).sum).sum ≤ pre.length * 4096 := sum_le (fun v hv => by obtain ⟨y, _, rfl⟩ := List.mem_map.1 hv; exact hfl y.1) (List.length_map ..)
            have e1 := cstL_le hB.1 (pre.flatMap fun x : CIx nr F => chnk (lensV rv) F x.1)
            have e1' := cstL_le hB.1 (pre.map fun x : CIx nr F => (chnk (lensV rv) F x.1).sum)
            have e2 := HY.out.2.2.2.2.2.2.1
            have e3 : nch nr F ≤ nr := nch_le (by omega)
            have e4 : pre.length ≤ nr := by omega
            omega
          have h5 := HY.out.1.lo
          have h6 := HY.out.1.fr.size
          have h7 := Hnb.out
          have h8 := HB2.out
          have h9 := H2.out.1.size
          have hnob : ∀ j, onBlk a1 j → W2.heap.size ≤ j := fun j hj => (Z1.own.blk j hj).1
          have hkeep2 : ∀ j, j < W.heap.size → W1.heap.size ≤ j → ¬ (j = p ∨ j = nb ∨ onBlk a1 j) := fun j h1 h2 e => by
            rcases e with e | e | e
            · omega
            · omega
            · have := hnob j e; omega
          have hkeep : ∀ j, j < W.heap.size → W1.heap.size ≤ j → ¬ (j = p ∨ j = nb) ∧ ¬ (j = p ∨ j = nb ∨ onBlk a1 j) := fun j h1 h2 => ⟨fun e => by omega, hkeep2 j h1 h2⟩
          have hrow : ∀ W9, Fr (fun j => j = p ∨ j = nb ∨ onBlk a1 j) A W9 → Rd W9 (some ⟨b0, off, none⟩) k (ivs (chnk rv F x)) := fun W9 F9 => by
            have r1 := (HY.out.1.own.rd)
            have hbk := HY.out.1.own.blk
            have r2 := (((r1.fr0 H2.out.1).fr Z1.fr (fun j hj => (hkeep j (hbk j hj).2 (hbk j hj).1).1)).fr F9 (fun j hj => (hkeep j (hbk j hj).2 (hbk j hj).1).2)).chunk F x
            rw [← hnr, ← hk, chnk_map, ← hoff] at r2
            exact r2
          have hisr : ∀ W9, Fr (fun j => j = p ∨ j = nb ∨ onBlk a1 j) A W9 → IsR W9 (chnk rv F x) := fun W9 F9 r hr => by
            obtain ⟨e1, _, e3⟩ := HY.out.1.rd r (hsubm r hr)
            exact ((e1.fr0 H2.out.1).fr Z1.fr (fun j hj => (hkeep j (e3 j hj).2.1 (e3 j hj).1).1)).fr F9 (fun j hj => (hkeep j (e3 j hj).2.1 (e3 j hj).1).2)
          obtain ⟨rg, hrg⟩ : ∃ rg, rg = chnk rv F x := ⟨_, rfl⟩
          rw [← hrg] at hrow hisr hg hgl hlg
          have HRow := Lib.hid hrow
          have HIsr := Lib.hid hisr
          have HG := Lib.hid (And.intro hg (And.intro hgl (And.intro hlg (And.intro hnob hrg))))
          have HZ := Lib.hid (And.intro Z1 (And.intro Z2 Z3))
          have hft : (iflat rg).length ≤ 4096 := by rw [iflat_len]; omega
          have htp : 0 < (iflat rg).length := by
            obtain ⟨r0, hr0⟩ : ∃ r0, rg[0]? = some r0 := ⟨_, List.getElem?_eq_getElem (by omega)⟩
            have hm0 := List.mem_of_getElem? hr0
            rw [hrg] at hm0
            have hp0 := (HY.out.1.rd r0 (hsubm r0 hm0)).2.1
            have h1 := iflat_le rg 1
            have h2 := iflat_take hr0
            rw [h2, List.length_append] at h1
            omega
          clear hk hcv hg hsubm hflen hgl hlg hrow hisr hrg Z1 Z2 Z3 hnr hnob hkeep hkeep2 hoff hxm h5 h6 h7 h8 h9 seq
          gi_wp2_with fail
          refine wpIn_loop (I := fun a9 W9 => ∃ i : Nat, a9 = QF a n c B M z p q (gOf a9 12) (.pointer (some ⟨nb, 0, none⟩)) (.slice (some ⟨b0, off, none⟩) k k) (gOf a9 17) (.slice (some ⟨b0, off, none⟩) k k) (.int .i64 (k : Int)) (.int .i64 (i : Int)) (gOf a9) [] ∧ i ≤ k ∧ YS W2 W9 z p nb B M (mv1 + cstL B (lensV (rg.take i))) a1 c1 rv1 ∧ Fr (fun j => j = p ∨ j = nb ∨ onBlk a1 j) A W9) (μ := fun a9 _ => k - (intOf (gOf a9 56)).toNat) ?_ ?_
          · exact ⟨0, rfl, Nat.zero_le _, HZ.out.1, Fr.refl _ _⟩
          · rintro a9 W9 ⟨i, ha9, hi, Y9, F9⟩
            have hmu : k - (intOf (gOf a9 56)).toNat = k - i := by rw [ha9]; rfl
            rw [hmu]
            clear hmu
            rw [ha9]
            clear ha9
            generalize gOf a9 = g
            unfold QF
            by_cases hlt : i < k
            · have hlt' : (i : Int) < (k : Int) := by omega
              obtain ⟨r, hr⟩ : ∃ r, rg[i]? = some r := ⟨_, List.getElem?_eq_getElem (by have := HG.out.1; omega)⟩
              obtain ⟨b', o', e9, d0⟩ := (HRow.out W9 F9).iv hr
              injection e9 with e9; injection e9 with e91 e92; subst e91; subst e92
              obtain ⟨len, hlen9⟩ : ∃ len, len = r.l.length := ⟨_, rfl⟩
              rw [← hlen9] at d0
              have htk : cstL B (lensV (rg.take (i + 1))) = cstL B (lensV (rg.take i)) + cnt B len := by unfold lensV; rw [List.take_add_one, hr, List.map_append, cstL_app, hlen9]; simp [cstL]
              have hl4 : len ≤ 4096 := by rw [hlen9]; exact Nat.le_trans (by have := iflat_take hr; have h2 := iflat_le rg (i + 1); rw [this, List.length_append] at h2; omega) hft
              have hmt : cstL B (lensV (rg.take i)) ≤ 4096 := Nat.le_trans (cstL_le hB.1 _) (by rw [← iflat_len]; exact Nat.le_trans (iflat_le rg i) hft)
              obtain ⟨m, hm⟩ : ∃ m, m = mv1 + cstL B (lensV (rg.take i)) := ⟨_, rfl⟩
              rw [← hm] at Y9
              have HBk : Hid (∀ W, Calls Try.prog 38 #[.agg #[.int .i64 (B : Int), .int .i64 (M : Int)], .int .i64 (len : Int)] W fun e w' => e = .returned (.int .i64 (cnt B len : Int)) ∧ Fr F0 W w') := Lib.hid (fun W => blocks_any B (M : Int) len W hB (by omega))
              obtain ⟨ck, hck⟩ : ∃ ck, ck = cnt B len := ⟨_, rfl⟩
              have hck9 : ck ≤ 4096 := by rw [hck]; exact Nat.le_trans (cnt_le hB.1 len) (by omega)
              have hm9 : m ≤ 70000000 := by omega
              have hw2 : IntKind.i64.wrap ((m : Int) + (ck : Int)) = (m : Int) + (ck : Int) := wI (by omega) (by omega)
              rw [← hck] at HBk htk
              have HTk := Lib.hid (show mv1 + cstL B (lensV (rg.take (i + 1))) = m + ck by rw [htk, hm, Nat.add_assoc])
              have HY9 := Lib.hid Y9
              have HF9 := Lib.hid F9
              have x0 := Y9.sz.cell (i := 0) rfl
              have x1 := Y9.sz.cell (i := 1) rfl
              have x2 := Y9.mvb.cell
              clear hr hlen9 htk hm hck Y9 F9 hmt
              gi_wp2_with fail
              refine wpIn_step (R := fun a9 W10 => a9 = QF a n c B M z p q (gOf a9 12) (.pointer (some ⟨nb, 0, none⟩)) (.slice (some ⟨b0, off, none⟩) k k) (gOf a9 17) (.slice (some ⟨b0, off, none⟩) k k) (.int .i64 (k : Int)) (.int .i64 (i : Int)) (gOf a9) [] ∧ YS W2 W10 z p nb B M (m + ck) a1 c1 rv1 ∧ Fr (fun j => j = p ∨ j = nb ∨ onBlk a1 j) A W10) (wpIn_region_last 6 (fun w' : World => w'.cell? ⟨z, 0, none⟩ = some (.int .i64 (B : Int)) ∧ w'.cell? ⟨z, 1, none⟩ = some (.int .i64 (M : Int)) ∧ w'.cell? ⟨p, 0, none⟩ = some (.int .i64 (m : Int))) (by kernel_rfl) (by kernel_rfl) ?_) ?_
              ·
                have hHeld : (fun w' : World => w'.cell? ⟨z, 0, none⟩ = some (.int .i64 (B : Int)) ∧ w'.cell? ⟨z, 1, none⟩ = some (.int .i64 (M : Int)) ∧ w'.cell? ⟨p, 0, none⟩ = some (.int .i64 (m : Int))) W9.drew := ⟨x0, x1, x2⟩
                refine anyP_take 0 (v := ?_) rfl rfl (by kernel_rfl) (fun _ _ _ h => h) (Or.inl ⟨by rfl, ?_⟩) hHeld ?_
                rotate_left 1
                · (intro w0 hSw; (try dsimp only at hSw); go_simp; (try (with_reducible rfl)))
                (try simp only [Act.put, List.setIfInBounds_toArray])
                refine anyP_take 1 (v := ?_) rfl rfl (by kernel_rfl) (fun _ _ _ h => h) (Or.inl ⟨by rfl, ?_⟩) hHeld ?_
                rotate_left 1
                · (intro w0 hSw; (try dsimp only at hSw); go_simp; (try (with_reducible rfl)))
                (try simp only [Act.put])
                refine anyP_takeF 2 (v := ?_) rfl (by kernel_rfl) (fun _ _ _ h => h) (Or.inl ⟨by rfl, ?_⟩) (.inr hHeld) ?_
                rotate_left 1
                · (intro w0 hSw; (try dsimp only at hSw); go_simp; (try (with_reducible rfl)))
                (try simp only [Act.put])
                refine anyP_takeF 3 (v := ?_) rfl (by kernel_rfl) (fun _ _ _ h => h) (Or.inl ⟨by rfl, ?_⟩) (.inr hHeld) ?_
                rotate_left 1
                · (intro w0 hSw; (try dsimp only at hSw); go_simp; (try (with_reducible rfl)))
                (try simp only [Act.put])
                refine anyP_one 4 (by kernel_rfl) rfl (fun K hK => ?_)
                replace hK := Lib.hid hK
                go_simp
                refine (HBk.out _).mono ?_
                rintro e w2 ⟨rfl, F2⟩
                have F3 := (Fr.refl F0 W9).drew.trans0 F2
                replace hHeld : (fun w' : World => w'.cell? ⟨z, 0, none⟩ = some (.int .i64 (B : Int)) ∧ w'.cell? ⟨z, 1, none⟩ = some (.int .i64 (M : Int)) ∧ w'.cell? ⟨p, 0, none⟩ = some (.int .i64 (m : Int))) w2 := ⟨F2.cell x0 id, F2.cell x1 id, F2.cell x2 id⟩
                have HY2 := Lib.hid (HY9.out.fr0 F3)
                have z2 := HY2.out.mvb.cell
                have f2 := HY2.out.mvb.free
                have HF3 := Lib.hid F3
                clear F2 F3
                refine hK.out _ _ (.inr hHeld) ?_
                clear hK K
                (try simp only [Act.put, List.setIfInBounds_toArray, List.set_cons_zero, List.set_cons_succ])
                refine anyP_takeF 5 (v := ?_) rfl (by kernel_rfl) (fun _ _ _ h => h) (Or.inl ⟨by rfl, ?_⟩) (.inr hHeld) ?_
                rotate_left 1
                · (intro w0 hSw; (try dsimp only at hSw); go_simp; (try (with_reducible rfl)))
                (try simp only [Act.put, List.setIfInBounds_toArray])
                refine anyP_one 6 (by kernel_rfl) rfl (fun K hK => ?_)
                replace hK := Lib.hid hK
                go_simp
                refine hK.out _ _ (.inl (by kernel_rfl)) ?_
                clear hK K
                (try simp only [Act.put, List.setIfInBounds_toArray, List.set_cons_zero, List.set_cons_succ])
                refine anyP_done (by kernel_rfl) ?_ _
                refine NoPanic.normal ?_
                refine ⟨rfl, ?_, ((HF9.out.trans0 HF3.out).setCell (fun _ => .inl rfl) _)⟩
                have hh := HY2.out.mvd (m + ck)
                rw [show ((m + ck : Nat) : Int) = (m : Int) + (ck : Int) by omega] at hh
                exact hh
              rintro a9 W10 ⟨ha9, Y10, F10⟩
              rw [ha9]
              clear ha9 x0 x1 x2 d0
              generalize gOf a9 = g
              unfold QF
              have H10 := Lib.hid (And.intro Y10 F10)
              clear Y10 F10
              gi_wp2_with fail
              refine ⟨⟨i + 1, rfl, by omega, by rw [HTk.out]; exact H10.out.1, H10.out.2⟩, ?_⟩
              show k - (intOf (.int .i64 ((i : Int) + 1))).toNat < k - i
              simp [intOf]; omega
            · obtain rfl : k = i := by omega
              have hlt' : ¬ (k : Int) < (k : Int) := by omega
              rw [List.take_of_length_le (by rw [HG.out.1]; exact Nat.le_refl _)] at Y9
              have HCo := Lib.hid (Concat_any (c := k) (HRow.out W9 F9) (HIsr.out W9 F9) (by omega) (by omega))
              obtain ⟨tot, htot⟩ : ∃ tot, tot = (iflat rg).length := ⟨_, rfl⟩
              rw [← htot] at HCo hft htp
              have hmt : cstL B (lensV rg) ≤ 4096 := Nat.le_trans (cstL_le hB.1 _) (by rw [← iflat_len, ← htot]; exact hft)
              have HY9 := Lib.hid Y9
              have HF9 := Lib.hid F9
              have HTot := Lib.hid htot
              clear Y9 F9 htot
              gi_wp2_with (first | (refine ⟨trivial, ?_⟩; gi_at_call 43; refine (CallsIn.inRound l9 (callsIn_wide.2 HCo.out)).mono ?_; rintro e w3 ⟨a3, c3, rfl, o3, f3⟩; have H3 := Lib.hid (And.intro o3 f3); clear o3 f3) | (refine ⟨trivial, ?_⟩; gi_at_call 44; refine (CallsIn.inRound l9 (callsIn_wide.2 (Sort_any _ _ _ _ _ _ H3.out.1 (by omega)))).mono ?_; rintro e w4 ⟨rfl, ys, s1, s2, s3, s4⟩; have H4 := Lib.hid (And.intro s1 (And.intro s2 (And.intro s3 s4))); clear s1 s2 s3 s4))
              have F4 : Fr F0 W9 w4 := H3.out.2.trans H4.out.2.2.2 (fun j hj e => by have := (H3.out.1.blk j e).1; omega)
              have Y4 := HY9.out.fr0 F4
              obtain ⟨m, hm⟩ : ∃ m, m = mv1 + cstL B (lensV rg) := ⟨_, rfl⟩
              rw [← hm] at Y4
              have HBk : Hid (∀ W, Calls Try.prog 38 #[.agg #[.int .i64 (B : Int), .int .i64 (M : Int)], .int .i64 (tot : Int)] W fun e w' => e = .returned (.int .i64 (cnt B tot : Int)) ∧ Fr F0 W w') := Lib.hid (fun W => blocks_any B (M : Int) tot W hB (by omega))
              obtain ⟨ck, hck⟩ : ∃ ck, ck = cnt B tot := ⟨_, rfl⟩
              have hck9 : ck ≤ 4096 := by rw [hck]; exact Nat.le_trans (cnt_le hB.1 tot) (by omega)
              have hm9 : m ≤ 70000000 := by omega
              have hw2 : IntKind.i64.wrap ((m : Int) + (ck : Int)) = (m : Int) + (ck : Int) := wI (by omega) (by omega)
              rw [← hck] at HBk
              have HY4 := Lib.hid Y4
              have HF4 := Lib.hid (HF9.out.trans0 F4)
              have HMc := Lib.hid (And.intro hm hck)
              have x0 := Y4.sz.cell (i := 0) rfl
              have x1 := Y4.sz.cell (i := 1) rfl
              have x2 := Y4.mvb.cell
              clear hm hck Y4 hmt
              refine wpIn_step (R := fun a9 W10 => a9 = QF a n c B M z p q (gOf a9 12) (.pointer (some ⟨nb, 0, none⟩)) (gOf a9 14) (.slice a3 tot c3) (gOf a9 54) (gOf a9 55) (gOf a9 56) (gOf a9) [] ∧ YS W2 W10 z p nb B M (m + ck) a1 c1 rv1 ∧ Fr (fun j => j = p ∨ j = nb ∨ onBlk a1 j) A W10 ∧ Fr (fun j => j = p) w4 W10) (wpIn_region_last 6 (fun w' : World => w'.cell? ⟨z, 0, none⟩ = some (.int .i64 (B : Int)) ∧ w'.cell? ⟨z, 1, none⟩ = some (.int .i64 (M : Int)) ∧ w'.cell? ⟨p, 0, none⟩ = some (.int .i64 (m : Int))) (by kernel_rfl) (by kernel_rfl) ?_) ?_
              ·
                have hHeld : (fun w' : World => w'.cell? ⟨z, 0, none⟩ = some (.int .i64 (B : Int)) ∧ w'.cell? ⟨z, 1, none⟩ = some (.int .i64 (M : Int)) ∧ w'.cell? ⟨p, 0, none⟩ = some (.int .i64 (m : Int))) w4.drew := ⟨x0, x1, x2⟩
                refine anyP_take 0 (v := ?_) rfl rfl (by kernel_rfl) (fun _ _ _ h => h) (Or.inl ⟨by rfl, ?_⟩) hHeld ?_
                rotate_left 1
                · (intro w0 hSw; (try dsimp only at hSw); go_simp; (try (with_reducible rfl)))
                (try simp only [Act.put, List.setIfInBounds_toArray])
                refine anyP_take 1 (v := ?_) rfl rfl (by kernel_rfl) (fun _ _ _ h => h) (Or.inl ⟨by rfl, ?_⟩) hHeld ?_
                rotate_left 1
                · (intro w0 hSw; (try dsimp only at hSw); go_simp; (try (with_reducible rfl)))
                (try simp only [Act.put])
                refine anyP_takeF 2 (v := ?_) rfl (by kernel_rfl) (fun _ _ _ h => h) (Or.inl ⟨by rfl, ?_⟩) (.inr hHeld) ?_
                rotate_left 1
                · (intro w0 hSw; (try dsimp only at hSw); go_simp; (try (with_reducible rfl)))
                (try simp only [Act.put])
                refine anyP_takeF 3 (v := ?_) rfl (by kernel_rfl) (fun _ _ _ h => h) (Or.inl ⟨by rfl, ?_⟩) (.inr hHeld) ?_
                rotate_left 1
                · (intro w0 hSw; (try dsimp only at hSw); go_simp; (try (with_reducible rfl)))
                (try simp only [Act.put])
                refine anyP_one 4 (by kernel_rfl) rfl (fun K hK => ?_)
                replace hK := Lib.hid hK
                go_simp
                refine (HBk.out _).mono ?_
                rintro e w2 ⟨rfl, F2⟩
                have F3 := (Fr.refl F0 w4).drew.trans0 F2
                replace hHeld : (fun w' : World => w'.cell? ⟨z, 0, none⟩ = some (.int .i64 (B : Int)) ∧ w'.cell? ⟨z, 1, none⟩ = some (.int .i64 (M : Int)) ∧ w'.cell? ⟨p, 0, none⟩ = some (.int .i64 (m : Int))) w2 := ⟨F2.cell x0 id, F2.cell x1 id, F2.cell x2 id⟩
                have HY2 := Lib.hid (HY4.out.fr0 F3)
                have z2 := HY2.out.mvb.cell
                have f2 := HY2.out.mvb.free
                have HF3 := Lib.hid F3
                clear F2 F3
                refine hK.out _ _ (.inr hHeld) ?_
                clear hK K
                (try simp only [Act.put, List.setIfInBounds_toArray, List.set_cons_zero, List.set_cons_succ])
                refine anyP_takeF 5 (v := ?_) rfl (by kernel_rfl) (fun _ _ _ h => h) (Or.inl ⟨by rfl, ?_⟩) (.inr hHeld) ?_
                rotate_left 1
                · (intro w0 hSw; (try dsimp only at hSw); go_simp; (try (with_reducible rfl)))
                (try simp only [Act.put, List.setIfInBounds_toArray])
                refine anyP_one 6 (by kernel_rfl) rfl (fun K hK => ?_)
                replace hK := Lib.hid hK
                go_simp
                refine hK.out _ _ (.inl (by kernel_rfl)) ?_
                clear hK K
                (try simp only [Act.put, List.setIfInBounds_toArray, List.set_cons_zero, List.set_cons_succ])
                refine anyP_done (by kernel_rfl) ?_ _
                refine NoPanic.normal ?_
                refine ⟨rfl, ?_, ((HF4.out.trans0 HF3.out).setCell (fun _ => .inl rfl) _), ((HF3.out.mono (S' := fun j => j = p) (fun _ _ h => h.elim)).setCell (fun _ => rfl) _)⟩
                have hh := HY2.out.mvd (m + ck)
                rw [show ((m + ck : Nat) : Int) = (m : Int) + (ck : Int) by omega] at hh
                exact hh
              rintro a9 W10 ⟨ha9, Y10, F10, F11⟩
              rw [ha9]
              clear ha9 x0 x1 x2
              generalize gOf a9 = g
              unfold QF
              have x3 := Y10.bx.cell
              obtain ⟨n1, hn1⟩ : ∃ n1, n1 = rv1.length := ⟨_, rfl⟩
              rw [← hn1] at x3
              have hys : ys.length = tot := by rw [H4.out.1.length_eq]; exact HTot.out.symm
              have hpp : p < W9.heap.size := by have := HY9.out.lo; have := HY9.out.fr.size; omega
              have h3b := H3.out.1.blk
              have hq9 : ∀ j, onBlk a3 j → W9.heap.size ≤ j ∧ j < w4.heap.size := fun j hj => ⟨(h3b j hj).1, Nat.lt_of_lt_of_le (h3b j hj).2 H4.out.2.2.2.size⟩
              have rd10 : Rd W10 a3 tot (ints ys) := H4.out.2.2.1.rd.fr F11 (fun j hj e => by have := (hq9 j hj).1; omega)
              have h10 : Hid _ := Lib.hid (And.intro Y10 (And.intro F10 (And.intro F11 (And.intro rd10 (And.intro hys (And.intro hq9 hn1))))))
              have hn1b : n1 ≤ 100000 := by have h1 := SrtP.lens HZ.out.2.1; have h2 := congrArg List.length h1; rw [List.length_map, List.length_map, List.length_map] at h2; have h3 : nch nr F ≤ nr := nch_le (by omega); omega
              have own10 := Y10.own
              rw [← hn1] at own10
              have Hown := Lib.hid own10
              clear Y10 F10 F11 rd10 hys hq9 hn1 h3b own10
              gi_wp2_with (gi_at_builtin; refine wpInAppRd (w := W10.alloc (.cells #[.slice a3 tot c3] 36)) E82 (Hown.out.alloc _) (Own.rd (Own.lit (w := W10) (B := 0) (T := 36) [.slice a3 tot c3] 1 rfl (Nat.zero_le _) (by omega))) (fun u hu => by simp at hu; subst hu; rfl) (by omega) (by omega) (by rw [size_alloc]; have := h10.out.1.fr.size; omega) (n1 + 1) rfl (by rfl) (by rfl) ?_; intro a11 c11 w11 own11 fr11 at11; have Y11 := h10.out.1.alloc1 fr11; have b11 := Y11.cell; have f11 := Y11.free; have H11 := Lib.hid (And.intro own11 (And.intro fr11 at11)); clear own11 fr11 at11 Y11)
              obtain ⟨Y10, F10, F11, rd10, hys, hq9, hn1⟩ := h10.out
              obtain ⟨own11, fr11, at11⟩ := H11.out
              have FA0 : Fr F0 W10 (W10.alloc (.cells #[.slice a3 tot c3] 36)) := (Fr.refl _ _).alloc _
              have hs94 : W2.heap.size ≤ W9.heap.size := HY9.out.fr.size
              have hs10 : w4.heap.size ≤ W10.heap.size := F11.size
              have hoa1 := fun j hj => (HY9.out.own.blk j hj).2
              have P11 := YS.push (r := ⟨ys, a3, c3⟩) (Y10.fr0 FA0) hn1.symm (by show Own _ _ 36 _ _ _ (ivs rv1 ++ [.slice a3 ys.length c3]); rw [hys]; exact own11) fr11 at11 (by show Rd _ a3 ys.length (ints ys); rw [hys]; exact rd10.fr0 FA0) (by show 0 < ys.length; rw [hys]; exact htp) (fun j hj => ⟨by have := (hq9 j hj).1; omega, by have := (hq9 j hj).2; rw [size_alloc]; omega, fun e => by have h1 := (hq9 j hj).1; have h2 := hoa1 j e; omega⟩)
              have F12 : Fr (fun j => j = p ∨ j = nb ∨ onBlk a1 j) A (w11.setCell ⟨nb, 0, none⟩ (.slice a11 (n1 + 1) c11)) := (((F10.trans0 FA0).trans fr11 (fun _ _ e => .inr (.inr e))).setCell (fun _ => .inr (.inl rfl)) _)
              have hAz := HZ.out.1.fr.size
              have h8 := HB2.out
              have nob2 : ∀ j, j < W2.heap.size → nb < j → p < j → ¬ (j = p ∨ j = nb ∨ onBlk a1 j) := fun j e1 e2 e3 e => by
                rcases e with e | e | e
                · omega
                · omega
                · have := HG.out.2.2.2.1 j e; omega
              refine (show ownPostK _ _ _ _ _ .normal _ _ from ⟨HZ.out.1.keeps F12, ⟨F12.block _ (by omega) (nob2 _ h8.1 h8.2.2.1 h8.2.2.2.2.2.2.1), F12.block _ (by omega) (nob2 _ h8.2.1 h8.2.2.2.1 h8.2.2.2.2.2.2.2)⟩, a11, c11, rv1 ++ [⟨ys, a3, c3⟩], m + ck, P11, ?_, ?_⟩)
              · rw [List.map_append]
                refine SrtP.snoc HZ.out.2.1 ?_ H4.out.2.1
                show ys.Perm (iflat (chnk rv F x))
                rw [← HG.out.2.2.2.2]; exact H4.out.1
              · rw [List.flatMap_append, cstL_app, List.map_append, cstL_app, HMc.out.1, HMc.out.2, HZ.out.2.2]
                have e1 : tot = (chnk (lensV rv) F x).sum := by rw [HG.out.2.2.1, ← iflat_len]; exact HTot.out
                rw [e1]
                have e2 : lensV rg = chnk (lensV rv) F x := HG.out.2.2.1.symm
                rw [e2]
                have e3 : cstL B (List.flatMap (fun x : CIx nr F => chnk (lensV rv) F x.1) [⟨x, hx⟩]) = cstL B (chnk (lensV rv) F x) := by simp
                have e4 : cstL B (List.map (fun x : CIx nr F => (chnk (lensV rv) F x.1).sum) [⟨x, hx⟩]) = cnt B (chnk (lensV rv) F x).sum := by simp [cstL]
                rw [e3, e4]
                omega
        case done2 =>
          rintro D xs A hD hxs ⟨a1, c1, rv1, mv1, Z1, Z2, Z3⟩ hK
          have hnr := HY.out.2.2.2.2.2.2.2
          have hll9 : (lensV rv).length = nr := by unfold lensV; rw [List.length_map, ← hnr]
          have hx1 : (xs.map fun x : CIx nr F => (chnk (lensV rv) F x.1).sum) = roundL F (lensV rv) := by unfold roundL; rw [hll9, ← hxs, List.map_map]; rfl
          have hx2 : (xs.flatMap fun x : CIx nr F => chnk (lensV rv) F x.1) = lensV rv := by
            have e1 := chnk_all (lensV rv) (show 0 < F by omega)
            rw [hll9, ← hxs, List.flatMap_map] at e1
            exact e1
          have hx3 : (xs.map fun x : CIx nr F => iflat (chnk rv F x.1)).flatten = iflat rv := by
            have e1 := chnk_all rv (show 0 < F by omega)
            rw [← hnr, ← hxs, List.flatMap_map] at e1
            conv => rhs; rw [← e1]
            unfold iflat
            rw [List.flatMap_assoc, ← List.flatMap_def]
          have hx4 : lensV rv1 = roundL F (lensV rv) := by
            have := SrtP.lens Z2
            unfold lensV at *
            rw [this, List.map_map, ← hx1]
            refine List.map_congr_left (fun x _ => ?_)
            show (iflat (chnk rv F x.1)).length = _
            rw [iflat_len, chnk_map]; rfl
          have hrl1 : rv1.length = nch nr F := by have := congrArg List.length hx4; rw [roundL_len, hll9] at this; unfold lensV at this; rwa [List.length_map] at this
          have hless := nch_less hF2.1 hlen
          have hsum : (lensV rv).sum = n := by rw [← iflat_len, HY.out.2.2.1.length_eq]; exact Hll.out
          have hc1 : cstL B (lensV rv) ≤ n := by have := cstL_le hB.1 (lensV rv); omega
          have hc2 : cstL B (roundL F (lensV rv)) ≤ n := by have := cstL_le hB.1 (roundL F (lensV rv)); rw [chnk_sums (by omega)] at this; omega
          rw [hx1, hx2] at Z3
          have hfin : ∃ N', rv1.length ≤ N' ∧ sortF B (fanN B M) N' (lensV rv1) mv1 = srtN B (fanN B M) M n := by
            have h1 := HY.out.2.2.2.2.1
            have h2 := HY.out.2.2.2.2.2.1
            cases N with
            | zero => omega
            | succ N' =>
              refine ⟨N', by omega, ?_⟩
              rw [sortF_step (by rw [hll9]; exact hlen), ← HF.out] at h2
              rw [hx4, Z3, ← HF.out, ← Nat.add_assoc]; exact h2
          obtain ⟨N', hN1, hN2⟩ := hfin
          have hpm : (iflat rv1).Perm l := by have := Z2.perm; rw [hx3] at this; exact this.trans HY.out.2.2.1
          obtain ⟨n1, hn1⟩ : ∃ n1, n1 = rv1.length := ⟨_, rfl⟩
          have z9 := Z1.bx.cell
          rw [← hn1] at z9
          have bq := (HY.out.1.bx.fr H2.out.1 id).fr Z1.fr (fun e => by have := HB2.out; have := HY.out.1.ne; have := HY.out.1.lo; have := Hnb.out; have := HY.out.1.fr.size; omega)
          have q9 := bq.cell
          have q9f := bq.free
          have YN := YS.lift HY.out.1 H2.out.1 (by rw [Hnb.out]; exact Nat.le_refl _) Z1 hn1.symm
          have FM : Fr (fun j => j = p ∨ j = nb ∨ j = q) W (A.setCell ⟨q, 0, none⟩ (.slice a1 n1 c1)) := (((H2.out.1.mono (S' := fun j => j = p ∨ j = nb ∨ j = q) (fun _ _ h => h.elim)).trans Z1.fr (fun k _ e => by rcases e with e | e; exact .inl e; exact .inr (.inl e))).setCell (fun _ => .inr (.inr rfl)) _)
          have HZ := Lib.hid (And.intro YN (And.intro FM (And.intro hpm (And.intro (SrtP.all Z2) (And.intro hN1 (And.intro hN2 (And.intro (show mv1 + 10000 * rv1.length ≤ 50000000 by omega) (And.intro (show rv1.length < nr by omega) hK))))))))
          clear hll9 hx1 hx2 hx3 hx4 hrl1 hless hsum hc1 hc2 Z1 Z2 Z3 hN1 hN2 hpm hn1 bq YN FM hK hnr hxs seq
          gi_wp2_with fail
          obtain ⟨YN, FM, hpm, hal, hN1, hN2, hmb, hlt9, hK⟩ := HZ.out
          have hYs := YN.qlen
          refine ⟨⟨a1, c1, rv1, mv1, _, N', rfl, YN, ?_, hpm, hal, hN1, hN2, hmb⟩, by rw [hYs]; exact hlt9⟩
          have h5 := HY.out.1.lo
          have h6 := HY.out.1.fr.size
          have h7 := Hnb.out
          have h8 := HB2.out
          have h9 : (W1.heap.size : Nat) = p + 4 := Hs1.out
          refine (HY.out.2.1.fr FM (fun r hr hh e => ?_)).cons (by omega) ?_ (fun hm => ?_)
          · rcases e with e | e | e
            · omega
            · have := lt_of_block hh; omega
            · omega
          · rw [Below.heap_setCell _ _ _ _ (by dsimp only; omega)]; exact hK
          · obtain ⟨r, e, _, hr⟩ := HY.out.2.1.all _ hm
            injection e with e _
            injection e with e
            subst e
            have := lt_of_block hr
            omega
        case stop2 =>
          rintro D c pre A _ _ h _
          exact h.elim
      · have hlen' : ¬ (1 : Int) < (nr : Int) := by omega
        rcases Nat.lt_or_ge 0 nr with h0 | h0
        · obtain rfl : nr = 1 := by omega
          obtain ⟨r, hrv⟩ : ∃ r, rv = [r] := by
            have hnr := HY.out.2.2.2.2.2.2.2
            match rv, hnr with
            | [r], _ => exact ⟨r, rfl⟩
          subst hrv
          obtain ⟨g9, hg9, _, _, hcc, _⟩ := HY.out.1.own.at (by simp)
          have c0' := hcc 0 (.slice r.a r.l.length r.c) rfl
          subst hg9
          have hrl : r.l.length = n := by have := HY.out.2.2.1.length_eq; unfold iflat at this; simp at this; rw [this]; exact Hll.out
          rw [hrl] at c0'
          clear hcc
          gi_wp2_with fail
          refine wpIn_wide.2 (wp_step (R := fun a9 W9 => gOf a9 6 = .slice r.a n r.c ∧ gOf a9 7 = .int .i64 (mv : Int) ∧ gOf a9 8 = .int .i64 0 ∧ a9.defers = ds ∧ Fr F0 W W9) ?_ ?_)
          ·
            have Fd : Fr F0 W W.drew := (Fr.refl _ _).drew
            refine wp_region_held_drew (S := (fun w' : World => w'.cell? ⟨q, 0, none⟩ = some (.slice (some ⟨g9, 0, none⟩) 1 c0) ∧ w'.cell? ⟨g9, 0, none⟩ = some (.slice r.a n r.c) ∧ w'.cell? ⟨p, 0, none⟩ = some (.int .i64 (mv : Int)))) (by kernel_rfl) (by first | exact ⟨x3, c0', x2⟩ | go_keep) (fun hHeld => ?_)
            refine wpAnyH_take (i := 0) (v := ?_) (by simp only [List.getElem?_toArray, List.getElem?_cons_zero] <;> rfl) (by kernel_rfl) (by kernel_rfl) (by kernel_rfl) (by exact fun _ _ _ h => h) (Or.inl ⟨by rfl, ?_⟩) (by assumption) ?_
            rotate_left
            · intro w hSw
              try dsimp only at hSw
              go_simp <;> with_reducible rfl
            (try simp only [Act.put, List.setIfInBounds_toArray, List.set_cons_zero, List.set_cons_succ])
            refine wpAnyH_take (i := 1) (v := ?_) (by simp only [List.getElem?_toArray, List.getElem?_cons_succ, List.getElem?_cons_zero] <;> rfl) (by kernel_rfl) (by kernel_rfl) (by kernel_rfl) (by exact fun _ _ _ h => h) (Or.inl ⟨by rfl, ?_⟩) (by assumption) ?_
            rotate_left
            · intro w hSw
              try dsimp only at hSw
              go_simp <;> with_reducible rfl
            (try simp only [Act.put, List.setIfInBounds_toArray, List.set_cons_zero, List.set_cons_succ])
            refine wpAnyH_take (i := 2) (v := ?_) (by simp only [List.getElem?_toArray, List.getElem?_cons_succ, List.getElem?_cons_zero] <;> rfl) (by kernel_rfl) (by kernel_rfl) (by kernel_rfl) (by exact fun _ _ _ h => h) (Or.inl ⟨by rfl, ?_⟩) (by assumption) ?_
            rotate_left
            · intro w hSw
              try dsimp only at hSw
              go_simp <;> with_reducible rfl
            (try simp only [Act.put, List.setIfInBounds_toArray, List.set_cons_zero, List.set_cons_succ])
            refine wpAnyH_take (i := 3) (v := ?_) (by simp only [List.getElem?_toArray, List.getElem?_cons_succ, List.getElem?_cons_zero] <;> rfl) (by kernel_rfl) (by kernel_rfl) (by kernel_rfl) (by exact fun _ _ _ h => h) (Or.inl ⟨by rfl, ?_⟩) (by assumption) ?_
            rotate_left
            · intro w hSw
              try dsimp only at hSw
              go_simp <;> with_reducible rfl
            (try simp only [Act.put, List.setIfInBounds_toArray, List.set_cons_zero, List.set_cons_succ])
            refine wpAnyH_take (i := 4) (v := ?_) (by simp only [List.getElem?_toArray, List.getElem?_cons_succ, List.getElem?_cons_zero] <;> rfl) (by kernel_rfl) (by kernel_rfl) (by kernel_rfl) (by exact fun _ _ _ h => h) (Or.inl ⟨by rfl, ?_⟩) (by assumption) ?_
            rotate_left
            · intro w hSw
              try dsimp only at hSw
              go_simp <;> with_reducible rfl
            (try simp only [Act.put, List.setIfInBounds_toArray, List.set_cons_zero, List.set_cons_succ])
            refine wpAnyH_take (i := 5) (v := ?_) (by simp only [List.getElem?_toArray, List.getElem?_cons_succ, List.getElem?_cons_zero] <;> rfl) (by kernel_rfl) (by kernel_rfl) (by kernel_rfl) (by exact fun _ _ _ h => h) (Or.inl ⟨by rfl, ?_⟩) (by assumption) ?_
            rotate_left
            · intro w hSw
              try dsimp only at hSw
              go_simp <;> with_reducible rfl
            (try simp only [Act.put, List.setIfInBounds_toArray, List.set_cons_zero, List.set_cons_succ])
            refine wpAnyH_take (i := 6) (v := ?_) (by simp only [List.getElem?_toArray, List.getElem?_cons_succ, List.getElem?_cons_zero] <;> rfl) (by kernel_rfl) (by kernel_rfl) (by kernel_rfl) (by exact fun _ _ _ h => h) (Or.inl ⟨by rfl, ?_⟩) (by assumption) ?_
            rotate_left
            · intro w hSw
              try dsimp only at hSw
              go_simp <;> with_reducible rfl
            (try simp only [Act.put, List.setIfInBounds_toArray, List.set_cons_zero, List.set_cons_succ])
            refine wpAnyH_done (by kernel_rfl) ?_ _
            exact ⟨rfl, rfl, rfl, rfl, Fd⟩
          rintro a9 W9 ⟨v6, v7, v8, v9, F9⟩
          obtain ⟨tm, dd⟩ := a9
          dsimp only at v9
          subst v9
          gi_wp2_with fail
          refine leaves_marks (B := p + 4) dd (HY.out.2.1.fr F9 (fun _ _ _ h => h)) (fun w' F' => ?_)
          have hYr := HY.out.1.rd r (by simp)
          have hfin : mv = srtN B (fanN B M) M n := by have := HY.out.2.2.2.2.2.1; rw [sortF_end _ _ _ (by simp [lensV])] at this; exact this
          refine ⟨_, results_tmp3 rfl _ _ _, r.a, r.c, r.l, ?_, ?_, HY.out.2.2.2.1 r (by simp), ?_, ?_⟩
          · have e6 : tm.getD 6 undef = _ := v6
            have e7 : tm.getD 7 undef = _ := v7
            have e8 : tm.getD 8 undef = _ := v8
            rw [e6, e7, e8, ← hfin]
          · have := HY.out.2.2.1; unfold iflat at this; simpa using this
          · rw [← hrl]
            refine ((hYr.1.fr0 F9).fr F' (fun k hk e => ?_))
            obtain ⟨b9, o9, hra, hcc9⟩ := (hYr.1.fr0 F9).cells (by have := hYr.2.1; omega)
            rw [hra] at hk
            have := (onBlk_some _ _ _ _).1 hk
            subst this
            have hl9 := hYr.1.len
            have h2 := hYr.2.1
            have := cells_of_cell (hcc9 0 ((ints r.l)[0]'(by omega)) (by simp)) e.2
            cases this
          · have := HY.out.1.lo
            have hz := Hz.out
            refine ((HFW0.out.trans HY.out.1.fr (fun k hk e => by rcases e with e | e <;> omega)).trans0 F9).trans F' (fun k hk e => by have := e.1; omega)
        · obtain rfl : nr = 0 := by omega
          have hrv : rv = [] := List.length_eq_zero_iff.1 HY.out.2.2.2.2.2.2.2.symm
          subst hrv
          have Hl0 : Hid (l = []) := Lib.hid (List.Perm.nil_eq HY.out.2.2.1 |>.symm)
          have Hn0 : Hid (n = 0) := Lib.hid (by rw [← Hll.out, Hl0.out]; rfl)
          gi_wp2_with fail
          refine leaves_marks (B := p + 4) ds HY.out.2.1 (fun w' F' => ?_)
          refine ⟨_, results_tmp3 rfl _ _ _, ?_⟩
          refine ⟨none, ⟨0, ?_⟩, [], by rw [Hl0.out], List.Pairwise.nil, by rw [Hn0.out]; exact Rd.nil _ _, ?_⟩
          · rw [Hn0.out, srtN_zero (by omega)]; rfl
          · have := HY.out.1.lo
            have hz := Hz.out
            exact (HFW0.out.trans HY.out.1.fr (fun k hk e => by rcases e with e | e <;> omega)).trans F' (fun k hk e => by have := e.1; omega)
  case stop =>
          rintro D c pre A _ _ h _
          exact h.elim
end Go.Proofs.Ytkmnnfflibamnaa
