/- Buffer trees: Get of the reference. -/
import Derived.Test.YtkmnnfflibamnaaR5
import Derived.Test.YtkmnnfflibamnaaG212
import Derived.Test.YtkmnnfflibamnaaH568
namespace Go.Proofs.Ytkmnnfflibamnaa
open Go.RowKit
attribute [local go_sem ↓] Go.wp_at_zero Go.wp_at_succ
theorem hasI_some {l : List En} {k : Int} {e : En} (h : lk l k = some e) : ∃ i : Nat, hasI l k = (i : Int) ∧ l[i]? = some e := by
  have h1 := h
  unfold lk at h1
  rw [List.find?_eq_some_iff_getElem] at h1
  obtain ⟨hk, i, hi, he, hj⟩ := h1
  have hx : l[i]? = some e := by rw [List.getElem?_eq_getElem hi, he]
  refine ⟨i, (hasI_hit hx (by simpa using hk) (fun j y hji hy => ?_)).1, hx⟩
  have := hj j hji
  rw [List.getElem?_eq_getElem (by omega)] at hy
  injection hy with hy
  rw [hy] at this
  simpa using this
theorem hasI_none {l : List En} {k : Int} (h : lk l k = none) : hasI l k = -1 := by unfold hasI; rw [h]; rfl
/-- All runs of the reference below a level, the newest first. -/
def newRL (rs : Rs) (n : Nat) : List (List En) := (List.range n).flatMap (fun i => (lvl rs i).reverse)
def newR (rs : Rs) : List (List En) := newRL rs (high rs + 1).toNat
theorem newRL_succ (rs : Rs) (n : Nat) : newRL rs (n + 1) = newRL rs n ++ (lvl rs n).reverse := by
  unfold newRL
  rw [List.range_succ, List.flatMap_append]; simp
theorem newRL_split (rs : Rs) {i n : Nat} (h : i < n) : ∃ t, newRL rs n = newRL rs i ++ ((lvl rs i).reverse ++ t) := by
  induction n with
  | zero => omega
  | succ n ih =>
    rw [newRL_succ]
    by_cases c : i = n
    · subst c; exact ⟨[], by rw [List.append_nil]⟩
    · obtain ⟨t, ht⟩ := ih (by omega)
      exact ⟨t ++ (lvl rs n).reverse, by rw [ht]; simp⟩
def getR (r : RT) (buf : List En) (k : Int) : RT × Int × Int := match lk buf k with
  | some e => (r, eVal (some e))
  | none => (⟨r.rs, r.bl + (lkR (newR r.rs) k).1⟩, eVal (lkR (newR r.rs) k).2)
/-- What the search finds, and how many runs it reads. -/
def resG (rs : Rs) (buf : List En) (k : Int) : Nat × Option En := match lk buf k with
  | some e => (0, some e)
  | none => lkR (newR rs) k
theorem getR_res (rs : Rs) (bl : Nat) (buf : List En) (k : Int) : getR ⟨rs, bl⟩ buf k = (⟨rs, bl + (resG rs buf k).1⟩, eVal (resG rs buf k).2) := by
  unfold getR resG
  cases lk buf k with
  | some e => rfl
  | none => rfl
/-- How far the search is. -/
def GR (rs : Rs) (buf : List En) (k : Int) (bl : Nat) (z : Int) (b' : Nat) (f : En) (pre : List (List En)) : Prop :=
  (z < 0 ∧ (∀ r ∈ pre, lk r k = none) ∧ b' = bl + pre.length ∧ f = (0, 0, true) ∧ resG rs buf k = lkR (newR rs) k) ∨ (0 ≤ z ∧ ∃ c, b' = bl + c ∧ resG rs buf k = (c, some f))
theorem GR.le {rs : Rs} {buf : List En} {k : Int} {bl : Nat} {z : Int} {b' : Nat} {f : En} {pre pre' : List (List En)} (h : GR rs buf k bl z b' f pre) (hz : 0 ≤ z) : GR rs buf k bl z b' f pre' := by
  rcases h with h | h
  · omega
  · exact .inr h
theorem newRL_len (rs : Rs) : ∀ n, (newRL rs n).length = (rs.filter (fun r => decide (r.1 < n))).length
  | 0 => by rw [List.filter_eq_nil_iff.2 (fun r _ => by simp)]; rfl
  | n + 1 => by
    rw [newRL_succ, List.length_append, List.length_reverse, newRL_len rs n]
    unfold lvl
    rw [List.length_map]
    induction rs with
    | nil => rfl
    | cons x rs ih =>
      rw [List.filter_cons, List.filter_cons, List.filter_cons]
      by_cases c1 : x.1 < n
      · have c2 : ¬ x.1 = n := by omega
        have c3 : x.1 < n + 1 := by omega
        simp only [c1, c2, c3, decide_true, beq_iff_eq, if_true, if_false, List.length_cons]
        omega
      · by_cases c2 : x.1 = n
        · have c3 : x.1 < n + 1 := by omega
          simp only [c1, c3, decide_true, decide_false, beq_iff_eq, if_true, if_false, List.length_cons, if_pos c2, Bool.false_eq_true]
          omega
        · have c3 : ¬ x.1 < n + 1 := by omega
          simp only [c1, c2, c3, decide_false, beq_iff_eq, if_false, Bool.false_eq_true]
          exact ih
theorem newRL_le (rs : Rs) (n : Nat) : (newRL rs n).length ≤ rs.length := by rw [newRL_len]; exact List.length_filter_le _ _
/-- The runs looked at when c runs of a level are left. -/
def preG (rs : Rs) (rv : List RunV) (lev c : Nat) : List (List En) := newRL rs lev ++ (lvl (rsO (rv.drop c)) lev).reverse
theorem preG_step {rs : Rs} {rv : List RunV} {lev c : Nat} {r : RunV} (hr : rv[c]? = some r) : preG rs rv lev c = if lev = r.lv then preG rs rv lev (c + 1) ++ [r.l] else preG rs rv lev (c + 1) := by
  obtain ⟨hc, rfl⟩ := List.getElem?_eq_some_iff.1 hr
  unfold preG
  have e : rsO (rv.drop c) = [((rv[c]).lv, (rv[c]).l)] ++ rsO (rv.drop (c + 1)) := by
    rw [List.drop_eq_getElem_cons hc]; rfl
  rw [e, lvl_app, lvl_one]
  split
  · rw [List.reverse_append, ← List.append_assoc]; rfl
  · rfl
theorem preG_all {rs : Rs} {rv : List RunV} (h : rs = rsO rv) (lev : Nat) : preG rs rv lev 0 = newRL rs (lev + 1) := by
  unfold preG
  rw [newRL_succ, List.drop_zero, ← h]
theorem preG_start {rs : Rs} {rv : List RunV} (lev : Nat) {n : Nat} (h : n = rv.length) : preG rs rv lev n = newRL rs lev := by
  unfold preG
  rw [List.drop_of_length_le (by omega)]
  show newRL rs lev ++ [] = _
  rw [List.append_nil]
theorem preG_split {rs : Rs} {rv : List RunV} (h : rs = rsO rv) {lev c N : Nat} (hl : lev < N) : ∃ t, newRL rs N = preG rs rv lev c ++ t := by
  obtain ⟨t, ht⟩ := newRL_split rs hl
  have e : lvl rs lev = lvl (rsO (rv.take c)) lev ++ lvl (rsO (rv.drop c)) lev := by
    rw [← lvl_app, h]
    unfold rsO
    rw [← List.map_append, List.take_append_drop]
  refine ⟨(lvl (rsO (rv.take c)) lev).reverse ++ t, ?_⟩
  rw [ht, e, List.reverse_append]
  unfold preG
  simp
theorem preG_le {rs : Rs} {rv : List RunV} (h : rs = rsO rv) (lev c : Nat) : (preG rs rv lev c).length ≤ rv.length := by
  obtain ⟨t, ht⟩ := preG_split h (c := c) (Nat.lt_succ_self lev)
  have h1 := newRL_le rs (lev + 1)
  rw [ht, List.length_append] at h1
  have h2 : rs.length = rv.length := by rw [h]; unfold rsO; rw [List.length_map]
  omega
theorem GR.fin {rs : Rs} {buf : List En} {k : Int} {bl : Nat} {z : Int} {b' : Nat} {f : En} {pre : List (List En)} (h : GR rs buf k bl z b' f pre) (he : 0 ≤ z ∨ pre = newR rs) : b' = bl + (resG rs buf k).1 ∧ eVal (resG rs buf k).2 = eVal (some f) := by
  rcases h with ⟨hz, hn, hb, hf, hr⟩ | ⟨hz, c, hb, hr⟩
  · rcases he with he | he
    · omega
    · subst he
      have := lkR_none (b := []) hn
      rw [List.append_nil] at this
      rw [hr, this, hf]
      exact ⟨hb, rfl⟩
  · rw [hr]; exact ⟨hb, rfl⟩
/-- A run that has not the key. -/
theorem GR.miss {rs : Rs} {buf : List En} {k : Int} {bl : Nat} {z : Int} {b' : Nat} {f : En} {pre : List (List En)} {l : List En} (h : GR rs buf k bl z b' f pre) (hz : z < 0) (hl : lk l k = none) : GR rs buf k bl (-1) (b' + 1) f (pre ++ [l]) := by
  rcases h with ⟨_, hn, hb, hf, hr⟩ | ⟨hz2, _⟩
  · refine .inl ⟨by omega, fun r hm => ?_, by rw [List.length_append, List.length_singleton]; omega, hf, hr⟩
    rcases List.mem_append.1 hm with hm | hm
    · exact hn r hm
    · rw [List.mem_singleton] at hm; subst hm; exact hl
  · omega
/-- A run that has it. -/
theorem GR.hit {rs : Rs} {buf : List En} {k : Int} {bl : Nat} {z : Int} {b' : Nat} {f e : En} {pre t pre' : List (List En)} {l : List En} {i : Nat} (h : GR rs buf k bl z b' f pre) (hz : z < 0) (hl : lk l k = some e) (hsp : newR rs = pre ++ [l] ++ t) : GR rs buf k bl (i : Int) (b' + 1) e pre' := by
  rcases h with ⟨_, hn, hb, hf, hr⟩ | ⟨hz2, _⟩
  · refine .inr ⟨by omega, pre.length + 1, by omega, ?_⟩
    rw [hr, hsp, List.append_assoc]
    exact lkR_hit hn hl
  · omega
theorem GR.lt {rs : Rs} {buf : List En} {k : Int} {bl : Nat} {z : Int} {b' : Nat} {f : En} {pre : List (List En)} (h : GR rs buf k bl z b' f pre) (hz : z < 0) : b' = bl + pre.length := by
  rcases h with ⟨_, _, hb, _⟩ | ⟨hz2, _⟩
  · exact hb
  · omega
/-- What lies in memory while the reference looks for a key. -/
structure GV (w wr : World) (vs : List Value) (f : En) : Prop where
  bx : Blk wr w.heap.size 51 vs
  rb : Blk wr (w.heap.size + 1) 51 tcz
  fb : Blk wr (w.heap.size + 2) 58 (en3 f)
  fr : Fr F0 w wr
theorem GV.fr0 {w wr w' : World} {vs : List Value} {f : En} (h : GV w wr vs f) (F : Fr F0 wr w') : GV w w' vs f := ⟨h.bx.fr F id, h.rb.fr F id, h.fb.fr F id, h.fr.trans0 F⟩
theorem GV.set {w wr : World} {vs : List Value} {f : En} (h : GV w wr vs f) (i : Nat) (u : Value) : GV w (wr.setCell ⟨w.heap.size, i, none⟩ u) (vs.set i u) f :=
  ⟨h.bx.set i u, h.rb.other (by show w.heap.size + 1 ≠ w.heap.size; omega) u, h.fb.other (by show w.heap.size + 2 ≠ w.heap.size; omega) u, h.fr.trans (Fr.setCell (S := fun k => w.heap.size ≤ k) (Fr.refl _ _) (fun _ => Nat.le_refl _) u) (fun k hk hs => by omega)⟩
theorem GV.put {w wr : World} {vs : List Value} {f : En} (h : GV w wr vs f) (x1 x2 : Int) (x3 : Bool) : GV w (((wr.setCell ⟨w.heap.size + 2, 0, none⟩ (.int .i64 x1)).setCell ⟨w.heap.size + 2, 1, none⟩ (.int .i64 x2)).setCell ⟨w.heap.size + 2, 2, none⟩ (.bool x3)) vs (x1, x2, x3) := by
  have F3 : Fr (fun k => k = w.heap.size + 2) wr (((wr.setCell ⟨w.heap.size + 2, 0, none⟩ (.int .i64 x1)).setCell ⟨w.heap.size + 2, 1, none⟩ (.int .i64 x2)).setCell ⟨w.heap.size + 2, 2, none⟩ (.bool x3)) :=
    Fr.setCell (S := fun k => k = w.heap.size + 2) (Fr.setCell (S := fun k => k = w.heap.size + 2) (Fr.setCell (S := fun k => k = w.heap.size + 2) (Fr.refl _ wr) (fun _ => rfl) _) (fun _ => rfl) _) (fun _ => rfl) _
  exact ⟨h.bx.fr F3 (by show ¬ w.heap.size = w.heap.size + 2; omega), h.rb.fr F3 (by show ¬ w.heap.size + 1 = w.heap.size + 2; omega), ((h.fb.set 0 (.int .i64 x1)).set 1 (.int .i64 x2)).set 2 (.bool x3), h.fr.trans F3 (fun k hk hs => by rw [hs] at hk; omega)⟩
theorem GV.out {w wr : World} {vs : List Value} {f : En} {P : Nat → Prop} {B M : Nat} {t : RT} {buf : List En} {v : Value} (h : GV w wr vs f) (hT : TrS wr P B M t buf v) (hP : ∀ k, P k → k < w.heap.size) (v0 v1 v2 v3 v4 : Value) :
    Blk (((((wr.setCell ⟨w.heap.size + 1, 0, none⟩ v0).setCell ⟨w.heap.size + 1, 1, none⟩ v1).setCell ⟨w.heap.size + 1, 2, none⟩ v2).setCell ⟨w.heap.size + 1, 3, none⟩ v3).setCell ⟨w.heap.size + 1, 4, none⟩ v4) (w.heap.size + 1) 51 [v0, v1, v2, v3, v4] ∧
    TrS (((((wr.setCell ⟨w.heap.size + 1, 0, none⟩ v0).setCell ⟨w.heap.size + 1, 1, none⟩ v1).setCell ⟨w.heap.size + 1, 2, none⟩ v2).setCell ⟨w.heap.size + 1, 3, none⟩ v3).setCell ⟨w.heap.size + 1, 4, none⟩ v4) P B M t buf v ∧
    Fr F0 w (((((wr.setCell ⟨w.heap.size + 1, 0, none⟩ v0).setCell ⟨w.heap.size + 1, 1, none⟩ v1).setCell ⟨w.heap.size + 1, 2, none⟩ v2).setCell ⟨w.heap.size + 1, 3, none⟩ v3).setCell ⟨w.heap.size + 1, 4, none⟩ v4) :=
  ⟨((((h.rb.set 0 v0).set 1 v1).set 2 v2).set 3 v3).set 4 v4, hT.fr (Fr.set5 wr (w.heap.size + 1) v0 v1 v2 v3 v4) (fun k hk hs => by have := hP k hk; omega), h.fr.trans (Fr.set5 wr (w.heap.size + 1) v0 v1 v2 v3 v4) (fun k hk hs => by rw [hs] at hk; omega)⟩
set_option maxRecDepth 100000 in
set_option maxHeartbeats 4000000 in
theorem rget_bad {P : Nat → Prop} {w : World} {B M : Nat} {t : RT} {buf : List En} {v : Value} (h : TrS w P B M t buf v) (hP : ∀ k, P k → k < w.heap.size) (k : Int) (hk : inK k = false) :
    Calls Try.prog 49 #[v, .int .i64 k] w fun r w' => ∃ v', r = .returned (.tuple #[v', .int .i64 0, .int .i64 2]) ∧ TrS w' P B M t buf v' ∧ Fr F0 w w' := by
  obtain ⟨ba, bc, ra, rc, rv, rfl, hrs, hrf, hbf, hbn, hbP⟩ := h
  have HK := Lib.hid (fun w => rkey_any k w)
  unfold inK at hk
  rw [hk] at HK
  clear hk
  obtain ⟨bn, hbnl⟩ : ∃ bn, bn = buf.length := ⟨_, rfl⟩
  obtain ⟨n, hN⟩ : ∃ n, n = rv.length := ⟨_, rfl⟩
  obtain ⟨bl, hbl⟩ : ∃ bl, bl = t.bl := ⟨_, rfl⟩
  unfold rtv
  rw [← hbl, ← hbnl, ← hN]
  have HX := Lib.hid (VS.new w (tcs B M bl ba bn bc ra n rc))
  have HT : Hid (TrS w P B M t buf (rtv B M bl ba bn bc ra n rc)) := Lib.hid ⟨ba, bc, ra, rc, rv, by rw [hbl, hbnl, hN], hrs, hrf, hbf, hbn, hbP⟩
  have HP := Lib.hid hP
  clear hrs hrf hbf hbn hbP hbl hbnl hN hP
  go_enter Try.func49, Try.ntmps49
  go_upto_region 1 with fail
  generalize hW0 : World.alloc (World.alloc w _) _ = W0
  have X0 : Hid (VS w W0 (tcs B M bl ba bn bc ra n rc)) := Lib.hid (by rw [← hW0]; exact HX.out)
  clear HX hW0
  have x0 := X0.out.bx.cell (i := 0) rfl
  have x1 := X0.out.bx.cell (i := 1) rfl
  have x2 := X0.out.bx.cell (i := 2) rfl
  have x3 := X0.out.bx.cell (i := 3) rfl
  have x4 := X0.out.bx.cell (i := 4) rfl
  have q0 := X0.out.rb.free
  have p0 := X0.out.rb.cell (i := 0) rfl
  have p1 := X0.out.rb.cell (i := 1) rfl
  have p2 := X0.out.rb.cell (i := 2) rfl
  have p3 := X0.out.rb.cell (i := 3) rfl
  have p4 := X0.out.rb.cell (i := 4) rfl
  go_wp2_with (go_at_call 74; refine (HK.out _).mono ?_; rintro e w1 ⟨rfl, rfl⟩)
  have Y := ((((X0.out.rb.set 0 (.int .i64 (B : Int))).set 1 (.int .i64 (M : Int))).set 2 (.int .i64 (bl : Int))).set 3 (.slice ba bn bc)).set 4 (.slice ra n rc)
  have F5 := Fr.set5 W0 (w.heap.size + 1) (.int .i64 (B : Int)) (.int .i64 (M : Int)) (.int .i64 (bl : Int)) (.slice ba bn bc) (.slice ra n rc)
  refine bodyPost_ret (results_c3 rfl rfl Y rfl) rfl ?_
  exact ⟨_, rfl, (HT.out.fr X0.out.fr (fun _ _ => id)).fr F5 (fun k hk hs => by have := HP.out k hk; omega), X0.out.fr.trans F5 (fun k hk hs => by rw [hs] at hk; omega)⟩
set_option maxRecDepth 100000 in
set_option maxHeartbeats 8000000 in
theorem rget_any {P : Nat → Prop} {w : World} {B M : Nat} {t : RT} {buf : List En} {v : Value} {a9 b2 c2 : Nat} (h : TrS w P B M t buf v) (hP : ∀ k, P k → k < w.heap.size) (hp : PR t a9 b2 c2) (ha : a9 + buf.length ≤ 400) (hb2 : b2 ≤ 10000) (hc2 : c2 ≤ 900000000) (k : Int) (hk : inK k = true) :
    Calls Try.prog 49 #[v, .int .i64 k] w fun r w' => ∃ v', r = .returned (.tuple #[v', .int .i64 (getR t buf k).2.1, .int .i64 (getR t buf k).2.2]) ∧ TrS w' P B M (getR t buf k).1 buf v' ∧ Fr F0 w w' := by
  obtain ⟨ba, bc, ra, rc, rv, rfl, hrs, hrf, hbf, hbn, hbP⟩ := h
  have HK := Lib.hid (fun w => rkey_any k w)
  unfold inK at hk
  rw [hk] at HK
  clear hk
  have htt : t = ⟨rsO rv, t.bl⟩ := by rw [hrs]
  obtain ⟨bl, hbl⟩ : ∃ bl, bl = t.bl := ⟨_, rfl⟩
  rw [← hbl] at htt ⊢
  rw [htt] at hp ⊢
  clear hbl hrs htt
  obtain ⟨hn, hh, hblx, htot⟩ := hp.small
  have hs := (high_spec (rsO rv)).2.2
  rw [getR_res]
  have HR : Hid (∀ W, Fr F0 w W → RefS W P ra rc rv) := Lib.hid (fun W F => hrf.fr0 F)
  have HBf : Hid (∀ W, Fr F0 w W → RdZ W 3 ba buf.length (ents buf)) := Lib.hid (fun W F => hbf.fr0 F)
  have HP := Lib.hid (And.intro hP hbP)
  have HX := Lib.hid (VS.new w (tcs B M bl ba buf.length bc ra rv.length rc))
  have HHi : Hid (∀ W, Fr F0 w W → _) := Lib.hid (fun W F => highest_any (w := W) B M bl ba buf.length bc (hrf.fr0 F) (by omega))
  have Htot := Lib.hid htot
  obtain ⟨N, hNd⟩ : ∃ N : Nat, N = (high (rsO rv) + 1).toNat := ⟨_, rfl⟩
  have hNz : high (rsO rv) = (N : Int) - 1 := by omega
  have hN2 : N ≤ 10001 := by omega
  rw [hNz] at HHi
  have HNd : Hid (newR (rsO rv) = newRL (rsO rv) N) := Lib.hid (by unfold newR; rw [hNd])
  obtain ⟨z0, hz0⟩ : ∃ z0, z0 = hasI buf k := ⟨_, rfl⟩
  have HH : Hid (∀ W, Fr F0 w W → Calls Try.prog 75 #[.slice ba buf.length bc, .int .i64 k] W fun e w' => e = .returned (.int .i64 z0) ∧ W = w') := Lib.hid (fun W F => by rw [hz0]; exact has_any k (hbf.fr0 F) (by omega))
  obtain ⟨bn, hbnl⟩ : ∃ bn, bn = buf.length := ⟨_, rfl⟩
  obtain ⟨n, hN⟩ : ∃ n, n = rv.length := ⟨_, rfl⟩
  obtain ⟨rs, hrs⟩ : ∃ rs, rs = rsO rv := ⟨_, rfl⟩
  unfold rtv at HHi ⊢
  rw [← hbnl] at HX HBf HH HHi hbn ha ⊢
  rw [← hN] at HX HHi hn ⊢
  rw [← hrs] at HNd Htot ⊢
  have HN := Lib.hid (And.intro hN (And.intro hbnl hrs))
  have Hz0 := Lib.hid hz0
  clear hrf hbf hbP hP hp hN hbnl hz0 hrs hNd hNz hh hs htot
  go_enter Try.func49, Try.ntmps49
  go_upto_region 1 with fail
  generalize hW0 : World.alloc (World.alloc w _) _ = W0
  have X0 : Hid (VS w W0 (tcs B M bl ba bn bc ra n rc)) := Lib.hid (by rw [← hW0]; exact HX.out)
  have S0 : W0.heap.size = w.heap.size + 2 := by rw [← hW0, size_alloc, size_alloc]
  clear HX hW0
  go_upto_region 4 with (go_at_call 74; refine (HK.out _).mono ?_; rintro e w1 ⟨rfl, rfl⟩)
  have X1 : Hid (GV w (W0.alloc (.cells #[.int .i64 0, .int .i64 0, .bool true] 58)) (tcs B M bl ba bn bc ra n rc) (0, 0, true)) := Lib.hid ⟨X0.out.bx.alloc _, X0.out.rb.alloc _, by have := Blk.new W0 58 (en3 (0, 0, true)); rw [S0] at this; exact this, X0.out.fr.alloc _⟩
  clear S0
  generalize W0.alloc (.cells #[.int .i64 0, .int .i64 0, .bool true] 58) = W1 at *
  clear X0
  have x3 := X1.out.bx.cell (i := 3) rfl
  cases hlb : lk buf k with
  | none =>
    have hz1 : z0 = -1 := by rw [Hz0.out]; exact hasI_none hlb
    have X3 : Hid (GR rs buf k bl (-1) bl (0, 0, true) (newRL rs 0) ∧ GV w W1 (tcs B M bl ba bn bc ra n rc) (0, 0, true)) := Lib.hid ⟨.inl ⟨by omega, fun r hr => (by cases hr), rfl, rfl, by unfold resG; rw [hlb]⟩, X1.out⟩
    clear hlb
    subst hz1
    go_upto_region 7 with (go_at_call 75; refine (HH.out _ X1.out.fr).mono ?_; rintro e w1 ⟨rfl, rfl⟩)
    clear x3
    have x0 := X3.out.2.bx.cell (i := 0) rfl
    have x1 := X3.out.2.bx.cell (i := 1) rfl
    have x2 := X3.out.2.bx.cell (i := 2) rfl
    have x3 := X3.out.2.bx.cell (i := 3) rfl
    have x4 := X3.out.2.bx.cell (i := 4) rfl
    go_wp2_with (go_at_call 78; refine (HHi.out _ X3.out.2.fr).mono ?_; rintro e w2 ⟨rfl, F2⟩; have X2 := Lib.hid (And.intro X3.out.1 (X3.out.2.fr0 F2)); clear F2)
    clear x0 x1 x2 x3 x4
    go_loopw [8, 10, 11] (fun s8 s10 s11 wr => ∃ (lev : Nat) (z : Int) (b' : Nat) (f : En), lev ≤ N ∧ b' ≤ 900020000 ∧ s10 = .int .i64 (lev : Int) ∧ s8 = .int .i64 z ∧ Hid (GR rs buf k bl z b' f (newRL rs lev) ∧ GV w wr (tcs B M b' ba bn bc ra n rc) f)) (fun _ s10 _ _ => N - (intOf s10).toNat)
    case atStart => exact ⟨0, (-1), bl, (0, 0, true), Nat.zero_le _, by omega, rfl, rfl, Lib.hid X2.out⟩
    case round =>
      obtain ⟨lev, z, b', f, hlev, hb', rfl, rfl, H⟩ := hrel
      have y4 := H.out.2.bx.cell (i := 4) rfl
      have hsplit : (lev < N ∧ z < 0) ∨ ((0 ≤ z ∨ newRL rs lev = newR rs) ∧ ¬ (lev < N ∧ z < 0)) := by
        by_cases c1 : lev < N
        · by_cases c2 : z < 0
          · exact .inl ⟨c1, c2⟩
          · exact .inr ⟨.inl (by omega), fun c => c2 c.2⟩
        · exact .inr ⟨.inr (by rw [HNd.out]; congr 1; omega), fun c => c1 c.1⟩
      rcases hsplit with ⟨hlt, hz⟩ | ⟨hfin, hex⟩
      · have hlt' : (lev : Int) ≤ (N : Int) - 1 := by omega
        go_wp2_with fail
        go_loopw [8, 11] (fun s8 s11 wr => ∃ (c : Nat) (z : Int) (b' : Nat) (f : En), c ≤ n ∧ b' ≤ 900020000 ∧ s11 = .int .i64 ((c : Int) - 1) ∧ s8 = .int .i64 z ∧ Hid (GR rs buf k bl z b' f (preG rs rv lev c) ∧ GV w wr (tcs B M b' ba bn bc ra n rc) f)) (fun _ s11 _ => (intOf s11 + 1).toNat)
        case atStart => exact ⟨n, z, b', f, Nat.le_refl _, hb', by go_num, rfl, Lib.hid (by rw [preG_start lev HN.out.1]; exact H.out)⟩
        case round =>
          obtain ⟨c, z, b', f, hc, hb', rfl, rfl, H⟩ := hrel
          clear y4
          have y0 := H.out.2.bx.cell (i := 0) rfl
          have y1 := H.out.2.bx.cell (i := 1) rfl
          have y2 := H.out.2.bx.cell (i := 2) rfl
          have y4 := H.out.2.bx.cell (i := 4) rfl
          have q0 := H.out.2.bx.free
          by_cases hc0 : 0 < c
          · by_cases hz1 : z < 0
            · have hc1 : 0 ≤ (c : Int) - 1 := by omega
              obtain ⟨j, hj⟩ : ∃ j, c = j + 1 := ⟨c - 1, by omega⟩
              subst hj
              have ejj : ((j + 1 : Nat) : Int) - 1 = (j : Int) := by omega
              rw [ejj] at hc1 ⊢
              obtain ⟨r, hr⟩ : ∃ r, rv[j]? = some r := ⟨_, List.getElem?_eq_getElem (by have := HN.out.1; omega)⟩
              obtain ⟨b, o, rfl, d0, d1, hrd, hrc⟩ := (HR.out _ H.out.2.fr).at hr
              have hps := preG_step (rs := rs) (lev := lev) hr
              have hjn : (j : Int) < (n : Int) := by omega
              have hrl : r.l.length ≤ 400 := Nat.le_trans (totR_run (List.mem_of_getElem? hr)) (by have := Htot.out; rw [HN.out.2.2] at this; omega)
              have hbb : b' + 1 ≤ 900020000 := by
                have h1 := H.out.1.lt hz1
                have h2 := preG_le HN.out.2.2 lev (j + 1)
                have h3 := HN.out.1
                omega
              obtain ⟨m, hm⟩ : ∃ m, m = r.l.length := ⟨_, rfl⟩
              rw [← hm] at d1 hrd hrl
              have HRd : Hid (∀ W, Fr F0 w W → RdZ W 3 r.a m (ents r.l) ∧ W.cell? ⟨b, o + j * 2 + 1, none⟩ = some (.slice r.a m r.c)) := Lib.hid (fun W F => by
                obtain ⟨b3, o3, e3, d3, d4, h3, _⟩ := (HR.out _ F).at hr
                injection e3 with e3; injection e3 with e3 e4
                subst e3 e4
                rw [← hm] at d4 h3
                exact ⟨h3, d4⟩)
              by_cases hk : lev = r.lv
              · rw [if_pos hk] at hps
                have hb : ((r.lv : Int) == (lev : Int)) = true := by simp [hk]
                have hb2 : (r.lv == lev) = true := by simp [hk]
                have HPS := Lib.hid hps
                obtain ⟨t9, ht9⟩ := preG_split HN.out.2.2 (c := j) hlt
                have hsp : newR rs = preG rs rv lev (j + 1) ++ [r.l] ++ t9 := by rw [HNd.out, ht9, hps]
                have HSp := Lib.hid hsp
                clear hr hk hps hrd hrc hm hsp ht9
                have X5 := Lib.hid (H.out.2.set 2 (.int .i64 ((b' : Int) + 1)))
                have d5 := (HRd.out _ X5.out.fr).2
                have g4 := X5.out.bx.cell (i := 4) rfl
                cases hlk : lk r.l k with
                | none =>
                  have hI : hasI r.l k = -1 := hasI_none hlk
                  have HP5 : Hid (Calls Try.prog 75 #[.slice r.a m r.c, .int .i64 k] (wr.setCell ⟨w.heap.size, 2, none⟩ (.int .i64 ((b' : Int) + 1))) fun e w' => e = .returned (.int .i64 (-1)) ∧ _ = w') := Lib.hid (by rw [← hI]; exact has_any k (HRd.out _ X5.out.fr).1 (by omega))
                  have HG := Lib.hid (H.out.1.miss hz1 hlk)
                  clear hlk hI
                  go_wp2_with (go_at_call 75; refine HP5.out.mono ?_; rintro e w5 ⟨rfl, rfl⟩)
                  go_roundw
                  case rel => exact ⟨j, -1, b' + 1, f, by omega, hbb, by go_num, rfl, Lib.hid ⟨by rw [HPS.out]; exact HG.out, X5.out⟩⟩
                  case measure => simp [intOf] <;> omega
                | some e9 =>
                  obtain ⟨i9, hI, hx9⟩ := hasI_some hlk
                  have HP5 : Hid (Calls Try.prog 75 #[.slice r.a m r.c, .int .i64 k] (wr.setCell ⟨w.heap.size, 2, none⟩ (.int .i64 ((b' : Int) + 1))) fun e w' => e = .returned (.int .i64 (i9 : Int)) ∧ _ = w') := Lib.hid (by rw [← hI]; exact has_any k (HRd.out _ X5.out.fr).1 (by omega))
                  have HG : Hid (∀ pre', GR rs buf k bl (i9 : Int) (b' + 1) e9 pre') := Lib.hid (fun pre' => H.out.1.hit hz1 hlk HSp.out)
                  obtain ⟨b3, o3, hra, f0, f1, f2⟩ := (HRd.out _ X5.out.fr).1.ent hx9
                  have hi9 : (i9 : Int) < (m : Int) := by
                    have h1 := (List.getElem?_eq_some_iff.1 hx9).1
                    have h2 := (HRd.out _ X5.out.fr).1.len
                    rw [ents_len] at h2
                    omega
                  have hi0 : 0 ≤ (i9 : Int) := by omega
                  rw [hra] at d1 d5 HP5
                  obtain ⟨e1, e2, e3⟩ := e9
                  dsimp only at f0 f1 f2
                  have X6 := Lib.hid (X5.out.put e1 e2 e3)
                  have q1 := X5.out.fb.free
                  have u0 := X5.out.fb.cell (i := 0) rfl
                  have u1 := X5.out.fb.cell (i := 1) rfl
                  have u2 := X5.out.fb.cell (i := 2) rfl
                  clear hlk hI hra hx9
                  go_wp2_with (go_at_call 75; refine HP5.out.mono ?_; rintro e w5 ⟨rfl, rfl⟩)
                  go_roundw
                  case rel => exact ⟨j, (i9 : Int), b' + 1, (e1, e2, e3), by omega, hbb, by go_num, rfl, Lib.hid ⟨HG.out _, X6.out⟩⟩
                  case measure => simp [intOf] <;> omega
              · rw [if_neg hk] at hps
                have hb : ((r.lv : Int) == (lev : Int)) = false := by simp; omega
                have hb2 : (r.lv == lev) = false := by simp; omega
                have HPS := Lib.hid hps
                clear hr hk hps hrd hrc hm
                go_wp2_with fail
                go_roundw
                case rel => exact ⟨j, z, b', f, by omega, hb', by go_num, rfl, Lib.hid ⟨by rw [HPS.out]; exact H.out.1, H.out.2⟩⟩
                case measure => simp [intOf] <;> omega
            · have hc1 : 0 ≤ (c : Int) - 1 := by omega
              have HG := Lib.hid (H.out.1.le (pre' := newRL rs (lev + 1)) (by omega))
              go_wp2_with fail
              go_roundw
              case rel => exact ⟨lev + 1, z, b', f, by omega, hb', by go_num, rfl, Lib.hid ⟨HG.out, H.out.2⟩⟩
              case measure => simp [intOf] <;> omega
          · have hc1 : ¬ 0 ≤ (c : Int) - 1 := by omega
            have HG : Hid (GR rs buf k bl z b' f (newRL rs (lev + 1))) := Lib.hid (by
              have h1 := H.out.1
              rw [show c = 0 by omega, preG_all HN.out.2.2] at h1
              exact h1)
            go_wp2_with fail
            go_roundw
            case rel => exact ⟨lev + 1, z, b', f, by omega, hb', by go_num, rfl, Lib.hid ⟨HG.out, H.out.2⟩⟩
            case measure => simp [intOf] <;> omega
      · obtain ⟨f1, f2⟩ := H.out.1.fin hfin
        have HF := Lib.hid (And.intro f1 f2)
        clear f1 f2 hfin
        obtain ⟨e1, e2, e3⟩ := f
        have y0 := H.out.2.bx.cell (i := 0) rfl
        have y1 := H.out.2.bx.cell (i := 1) rfl
        have y2 := H.out.2.bx.cell (i := 2) rfl
        have y3 := H.out.2.bx.cell (i := 3) rfl
        have q0 := H.out.2.rb.free
        have p0 := H.out.2.rb.cell (i := 0) rfl
        have p1 := H.out.2.rb.cell (i := 1) rfl
        have p2 := H.out.2.rb.cell (i := 2) rfl
        have p3 := H.out.2.rb.cell (i := 3) rfl
        have p4 := H.out.2.rb.cell (i := 4) rfl
        have u1 := H.out.2.fb.cell (i := 1) rfl
        have u2 := H.out.2.fb.cell (i := 2) rfl
        dsimp only at u1 u2
        have HT : Hid (TrS wr P B M ⟨rs, b'⟩ buf (rtv B M b' ba bn bc ra n rc)) := Lib.hid ⟨ba, bc, ra, rc, rv, by rw [HN.out.1, HN.out.2.1], HN.out.2.2.symm, HR.out _ H.out.2.fr, by rw [← HN.out.2.1]; exact HBf.out _ H.out.2.fr, by rw [← HN.out.2.1]; exact hbn, HP.out.2⟩
        by_cases c1 : lev < N
        · have c2 : ¬ z < 0 := fun c => hex ⟨c1, c⟩
          have hlt' : (lev : Int) ≤ (N : Int) - 1 := by omega
          cases e3 with
          | true =>
            go_wp2_with fail
            have Y := H.out.2.out HT.out HP.out.1 (.int .i64 (B : Int)) (.int .i64 (M : Int)) (.int .i64 (b' : Int)) (.slice ba bn bc) (.slice ra n rc)
            refine bodyPost_ret (results_c3 rfl rfl Y.1 rfl) rfl ?_
            dsimp only
            rw [HF.out.2, ← HF.out.1]
            exact ⟨_, rfl, Y.2⟩
          | false =>
            go_upto_region 21 with fail
            go_region
            go_wp2_with fail
            have Y := H.out.2.out HT.out HP.out.1 (.int .i64 (B : Int)) (.int .i64 (M : Int)) (.int .i64 (b' : Int)) (.slice ba bn bc) (.slice ra n rc)
            refine bodyPost_ret (results_c3 rfl rfl Y.1.drew rfl) rfl ?_
            dsimp only
            rw [HF.out.2, ← HF.out.1]
            exact ⟨_, rfl, Y.2.1.fr ((Fr.refl F0 _).drew) (fun _ _ => id), Y.2.2.drew⟩
        · have hlt' : ¬ (lev : Int) ≤ (N : Int) - 1 := by omega
          cases e3 with
          | true =>
            go_wp2_with fail
            have Y := H.out.2.out HT.out HP.out.1 (.int .i64 (B : Int)) (.int .i64 (M : Int)) (.int .i64 (b' : Int)) (.slice ba bn bc) (.slice ra n rc)
            refine bodyPost_ret (results_c3 rfl rfl Y.1 rfl) rfl ?_
            dsimp only
            rw [HF.out.2, ← HF.out.1]
            exact ⟨_, rfl, Y.2⟩
          | false =>
            go_upto_region 21 with fail
            go_region
            go_wp2_with fail
            have Y := H.out.2.out HT.out HP.out.1 (.int .i64 (B : Int)) (.int .i64 (M : Int)) (.int .i64 (b' : Int)) (.slice ba bn bc) (.slice ra n rc)
            refine bodyPost_ret (results_c3 rfl rfl Y.1.drew rfl) rfl ?_
            dsimp only
            rw [HF.out.2, ← HF.out.1]
            exact ⟨_, rfl, Y.2.1.fr ((Fr.refl F0 _).drew) (fun _ _ => id), Y.2.2.drew⟩
  | some e0 =>
    obtain ⟨i0, hI0, hx0⟩ := hasI_some hlb
    have hz1 : z0 = (i0 : Int) := by rw [Hz0.out]; exact hI0
    obtain ⟨b3, o3, hra, f0, f1, f2⟩ := (HBf.out _ X1.out.fr).ent hx0
    have hi9 : (i0 : Int) < (bn : Int) := by
      have h1 := (List.getElem?_eq_some_iff.1 hx0).1
      have h2 := HN.out.2.1
      omega
    have hi0 : 0 ≤ (i0 : Int) := by omega
    have HG : Hid (∀ f, f = e0 → GR rs buf k bl (i0 : Int) bl f (newRL rs 0)) := Lib.hid (fun f hf => .inr ⟨by omega, 0, rfl, by unfold resG; rw [hlb, hf]⟩)
    subst hz1
    subst hra
    obtain ⟨e1, e2, e3⟩ := e0
    dsimp only at f0 f1 f2
    have q1 := X1.out.fb.free
    have u0 := X1.out.fb.cell (i := 0) rfl
    have u1 := X1.out.fb.cell (i := 1) rfl
    have u2 := X1.out.fb.cell (i := 2) rfl
    have X3 : Hid (GR rs buf k bl (i0 : Int) bl (e1, e2, e3) (newRL rs 0) ∧ GV w _ (tcs B M bl (some ⟨b3, o3, none⟩) bn bc ra n rc) (e1, e2, e3)) := Lib.hid ⟨HG.out _ rfl, X1.out.put e1 e2 e3⟩
    clear hlb hI0 hx0 HG
    go_upto_region 7 with (go_at_call 75; refine (HH.out _ X1.out.fr).mono ?_; rintro e w1 ⟨rfl, rfl⟩)
    generalize ((W1.setCell ⟨w.heap.size + 2, 0, none⟩ (.int .i64 e1)).setCell ⟨w.heap.size + 2, 1, none⟩ (.int .i64 e2)).setCell ⟨w.heap.size + 2, 2, none⟩ (.bool e3) = W3 at *
    clear x3 q1 u0 u1 u2 f0 f1 f2
    have x0 := X3.out.2.bx.cell (i := 0) rfl
    have x1 := X3.out.2.bx.cell (i := 1) rfl
    have x2 := X3.out.2.bx.cell (i := 2) rfl
    have x3 := X3.out.2.bx.cell (i := 3) rfl
    have x4 := X3.out.2.bx.cell (i := 4) rfl
    go_wp2_with (go_at_call 78; refine (HHi.out _ X3.out.2.fr).mono ?_; rintro e w2 ⟨rfl, F2⟩; have X2 := Lib.hid (And.intro X3.out.1 (X3.out.2.fr0 F2)); clear F2)
    clear x0 x1 x2 x3 x4
    go_loopw [8, 10, 11] (fun s8 s10 s11 wr => ∃ (lev : Nat) (z : Int) (b' : Nat) (f : En), lev ≤ N ∧ b' ≤ 900020000 ∧ s10 = .int .i64 (lev : Int) ∧ s8 = .int .i64 z ∧ Hid (GR rs buf k bl z b' f (newRL rs lev) ∧ GV w wr (tcs B M b' (some ⟨b3, o3, none⟩) bn bc ra n rc) f)) (fun _ s10 _ _ => N - (intOf s10).toNat)
    case atStart => exact ⟨0, (i0 : Int), bl, (e1, e2, e3), Nat.zero_le _, by omega, rfl, rfl, Lib.hid X2.out⟩
    case round =>
      obtain ⟨lev, z, b', f, hlev, hb', rfl, rfl, H⟩ := hrel
      have y4 := H.out.2.bx.cell (i := 4) rfl
      have hsplit : (lev < N ∧ z < 0) ∨ ((0 ≤ z ∨ newRL rs lev = newR rs) ∧ ¬ (lev < N ∧ z < 0)) := by
        by_cases c1 : lev < N
        · by_cases c2 : z < 0
          · exact .inl ⟨c1, c2⟩
          · exact .inr ⟨.inl (by omega), fun c => c2 c.2⟩
        · exact .inr ⟨.inr (by rw [HNd.out]; congr 1; omega), fun c => c1 c.1⟩
      rcases hsplit with ⟨hlt, hz⟩ | ⟨hfin, hex⟩
      · have hlt' : (lev : Int) ≤ (N : Int) - 1 := by omega
        go_wp2_with fail
        go_loopw [8, 11] (fun s8 s11 wr => ∃ (c : Nat) (z : Int) (b' : Nat) (f : En), c ≤ n ∧ b' ≤ 900020000 ∧ s11 = .int .i64 ((c : Int) - 1) ∧ s8 = .int .i64 z ∧ Hid (GR rs buf k bl z b' f (preG rs rv lev c) ∧ GV w wr (tcs B M b' (some ⟨b3, o3, none⟩) bn bc ra n rc) f)) (fun _ s11 _ => (intOf s11 + 1).toNat)
        case atStart => exact ⟨n, z, b', f, Nat.le_refl _, hb', by go_num, rfl, Lib.hid (by rw [preG_start lev HN.out.1]; exact H.out)⟩
        case round =>
          obtain ⟨c, z, b', f, hc, hb', rfl, rfl, H⟩ := hrel
          clear y4
          have y0 := H.out.2.bx.cell (i := 0) rfl
          have y1 := H.out.2.bx.cell (i := 1) rfl
          have y2 := H.out.2.bx.cell (i := 2) rfl
          have y4 := H.out.2.bx.cell (i := 4) rfl
          have q0 := H.out.2.bx.free
          by_cases hc0 : 0 < c
          · by_cases hz1 : z < 0
            · have hc1 : 0 ≤ (c : Int) - 1 := by omega
              obtain ⟨j, hj⟩ : ∃ j, c = j + 1 := ⟨c - 1, by omega⟩
              subst hj
              have ejj : ((j + 1 : Nat) : Int) - 1 = (j : Int) := by omega
              rw [ejj] at hc1 ⊢
              obtain ⟨r, hr⟩ : ∃ r, rv[j]? = some r := ⟨_, List.getElem?_eq_getElem (by have := HN.out.1; omega)⟩
              obtain ⟨b, o, rfl, d0, d1, hrd, hrc⟩ := (HR.out _ H.out.2.fr).at hr
              have hps := preG_step (rs := rs) (lev := lev) hr
              have hjn : (j : Int) < (n : Int) := by omega
              have hrl : r.l.length ≤ 400 := Nat.le_trans (totR_run (List.mem_of_getElem? hr)) (by have := Htot.out; rw [HN.out.2.2] at this; omega)
              have hbb : b' + 1 ≤ 900020000 := by
                have h1 := H.out.1.lt hz1
                have h2 := preG_le HN.out.2.2 lev (j + 1)
                have h3 := HN.out.1
                omega
              obtain ⟨m, hm⟩ : ∃ m, m = r.l.length := ⟨_, rfl⟩
              rw [← hm] at d1 hrd hrl
              have HRd : Hid (∀ W, Fr F0 w W → RdZ W 3 r.a m (ents r.l) ∧ W.cell? ⟨b, o + j * 2 + 1, none⟩ = some (.slice r.a m r.c)) := Lib.hid (fun W F => by
                obtain ⟨b3, o3, e3, d3, d4, h3, _⟩ := (HR.out _ F).at hr
                injection e3 with e3; injection e3 with e3 e4
                subst e3 e4
                rw [← hm] at d4 h3
                exact ⟨h3, d4⟩)
              by_cases hk : lev = r.lv
              · rw [if_pos hk] at hps
                have hb : ((r.lv : Int) == (lev : Int)) = true := by simp [hk]
                have hb2 : (r.lv == lev) = true := by simp [hk]
                have HPS := Lib.hid hps
                obtain ⟨t9, ht9⟩ := preG_split HN.out.2.2 (c := j) hlt
                have hsp : newR rs = preG rs rv lev (j + 1) ++ [r.l] ++ t9 := by rw [HNd.out, ht9, hps]
                have HSp := Lib.hid hsp
                clear hr hk hps hrd hrc hm hsp ht9
                have X5 := Lib.hid (H.out.2.set 2 (.int .i64 ((b' : Int) + 1)))
                have d5 := (HRd.out _ X5.out.fr).2
                have g4 := X5.out.bx.cell (i := 4) rfl
                cases hlk : lk r.l k with
                | none =>
                  have hI : hasI r.l k = -1 := hasI_none hlk
                  have HP5 : Hid (Calls Try.prog 75 #[.slice r.a m r.c, .int .i64 k] (wr.setCell ⟨w.heap.size, 2, none⟩ (.int .i64 ((b' : Int) + 1))) fun e w' => e = .returned (.int .i64 (-1)) ∧ _ = w') := Lib.hid (by rw [← hI]; exact has_any k (HRd.out _ X5.out.fr).1 (by omega))
                  have HG := Lib.hid (H.out.1.miss hz1 hlk)
                  clear hlk hI
                  go_wp2_with (go_at_call 75; refine HP5.out.mono ?_; rintro e w5 ⟨rfl, rfl⟩)
                  go_roundw
                  case rel => exact ⟨j, -1, b' + 1, f, by omega, hbb, by go_num, rfl, Lib.hid ⟨by rw [HPS.out]; exact HG.out, X5.out⟩⟩
                  case measure => simp [intOf] <;> omega
                | some e9 =>
                  obtain ⟨i9, hI, hx9⟩ := hasI_some hlk
                  have HP5 : Hid (Calls Try.prog 75 #[.slice r.a m r.c, .int .i64 k] (wr.setCell ⟨w.heap.size, 2, none⟩ (.int .i64 ((b' : Int) + 1))) fun e w' => e = .returned (.int .i64 (i9 : Int)) ∧ _ = w') := Lib.hid (by rw [← hI]; exact has_any k (HRd.out _ X5.out.fr).1 (by omega))
                  have HG : Hid (∀ pre', GR rs buf k bl (i9 : Int) (b' + 1) e9 pre') := Lib.hid (fun pre' => H.out.1.hit hz1 hlk HSp.out)
                  obtain ⟨b3, o3, hra, f0, f1, f2⟩ := (HRd.out _ X5.out.fr).1.ent hx9
                  have hi9 : (i9 : Int) < (m : Int) := by
                    have h1 := (List.getElem?_eq_some_iff.1 hx9).1
                    have h2 := (HRd.out _ X5.out.fr).1.len
                    rw [ents_len] at h2
                    omega
                  have hi0 : 0 ≤ (i9 : Int) := by omega
                  rw [hra] at d1 d5 HP5
                  obtain ⟨e1, e2, e3⟩ := e9
                  dsimp only at f0 f1 f2
                  have X6 := Lib.hid (X5.out.put e1 e2 e3)
                  have q1 := X5.out.fb.free
                  have u0 := X5.out.fb.cell (i := 0) rfl
                  have u1 := X5.out.fb.cell (i := 1) rfl
                  have u2 := X5.out.fb.cell (i := 2) rfl
                  clear hlk hI hra hx9
                  go_wp2_with (go_at_call 75; refine HP5.out.mono ?_; rintro e w5 ⟨rfl, rfl⟩)
                  go_roundw
                  case rel => exact ⟨j, (i9 : Int), b' + 1, (e1, e2, e3), by omega, hbb, by go_num, rfl, Lib.hid ⟨HG.out _, X6.out⟩⟩
                  case measure => simp [intOf] <;> omega
              · rw [if_neg hk] at hps
                have hb : ((r.lv : Int) == (lev : Int)) = false := by simp; omega
                have hb2 : (r.lv == lev) = false := by simp; omega
                have HPS := Lib.hid hps
                clear hr hk hps hrd hrc hm
                go_wp2_with fail
                go_roundw
                case rel => exact ⟨j, z, b', f, by omega, hb', by go_num, rfl, Lib.hid ⟨by rw [HPS.out]; exact H.out.1, H.out.2⟩⟩
                case measure => simp [intOf] <;> omega
            · have hc1 : 0 ≤ (c : Int) - 1 := by omega
              have HG := Lib.hid (H.out.1.le (pre' := newRL rs (lev + 1)) (by omega))
              go_wp2_with fail
              go_roundw
              case rel => exact ⟨lev + 1, z, b', f, by omega, hb', by go_num, rfl, Lib.hid ⟨HG.out, H.out.2⟩⟩
              case measure => simp [intOf] <;> omega
          · have hc1 : ¬ 0 ≤ (c : Int) - 1 := by omega
            have HG : Hid (GR rs buf k bl z b' f (newRL rs (lev + 1))) := Lib.hid (by
              have h1 := H.out.1
              rw [show c = 0 by omega, preG_all HN.out.2.2] at h1
              exact h1)
            go_wp2_with fail
            go_roundw
            case rel => exact ⟨lev + 1, z, b', f, by omega, hb', by go_num, rfl, Lib.hid ⟨HG.out, H.out.2⟩⟩
            case measure => simp [intOf] <;> omega
      · obtain ⟨f1, f2⟩ := H.out.1.fin hfin
        have HF := Lib.hid (And.intro f1 f2)
        clear f1 f2 hfin
        obtain ⟨e1, e2, e3⟩ := f
        have y0 := H.out.2.bx.cell (i := 0) rfl
        have y1 := H.out.2.bx.cell (i := 1) rfl
        have y2 := H.out.2.bx.cell (i := 2) rfl
        have y3 := H.out.2.bx.cell (i := 3) rfl
        have q0 := H.out.2.rb.free
        have p0 := H.out.2.rb.cell (i := 0) rfl
        have p1 := H.out.2.rb.cell (i := 1) rfl
        have p2 := H.out.2.rb.cell (i := 2) rfl
        have p3 := H.out.2.rb.cell (i := 3) rfl
        have p4 := H.out.2.rb.cell (i := 4) rfl
        have u1 := H.out.2.fb.cell (i := 1) rfl
        have u2 := H.out.2.fb.cell (i := 2) rfl
        dsimp only at u1 u2
        have HT : Hid (TrS wr P B M ⟨rs, b'⟩ buf (rtv B M b' (some ⟨b3, o3, none⟩) bn bc ra n rc)) := Lib.hid ⟨some ⟨b3, o3, none⟩, bc, ra, rc, rv, by rw [HN.out.1, HN.out.2.1], HN.out.2.2.symm, HR.out _ H.out.2.fr, by rw [← HN.out.2.1]; exact HBf.out _ H.out.2.fr, by rw [← HN.out.2.1]; exact hbn, HP.out.2⟩
        by_cases c1 : lev < N
        · have c2 : ¬ z < 0 := fun c => hex ⟨c1, c⟩
          have hlt' : (lev : Int) ≤ (N : Int) - 1 := by omega
          cases e3 with
          | true =>
            go_wp2_with fail
            have Y := H.out.2.out HT.out HP.out.1 (.int .i64 (B : Int)) (.int .i64 (M : Int)) (.int .i64 (b' : Int)) (.slice (some ⟨b3, o3, none⟩) bn bc) (.slice ra n rc)
            refine bodyPost_ret (results_c3 rfl rfl Y.1 rfl) rfl ?_
            dsimp only
            rw [HF.out.2, ← HF.out.1]
            exact ⟨_, rfl, Y.2⟩
          | false =>
            go_upto_region 21 with fail
            go_region
            go_wp2_with fail
            have Y := H.out.2.out HT.out HP.out.1 (.int .i64 (B : Int)) (.int .i64 (M : Int)) (.int .i64 (b' : Int)) (.slice (some ⟨b3, o3, none⟩) bn bc) (.slice ra n rc)
            refine bodyPost_ret (results_c3 rfl rfl Y.1.drew rfl) rfl ?_
            dsimp only
            rw [HF.out.2, ← HF.out.1]
            exact ⟨_, rfl, Y.2.1.fr ((Fr.refl F0 _).drew) (fun _ _ => id), Y.2.2.drew⟩
        · have hlt' : ¬ (lev : Int) ≤ (N : Int) - 1 := by omega
          cases e3 with
          | true =>
            go_wp2_with fail
            have Y := H.out.2.out HT.out HP.out.1 (.int .i64 (B : Int)) (.int .i64 (M : Int)) (.int .i64 (b' : Int)) (.slice (some ⟨b3, o3, none⟩) bn bc) (.slice ra n rc)
            refine bodyPost_ret (results_c3 rfl rfl Y.1 rfl) rfl ?_
            dsimp only
            rw [HF.out.2, ← HF.out.1]
            exact ⟨_, rfl, Y.2⟩
          | false =>
            go_upto_region 21 with fail
            go_region
            go_wp2_with fail
            have Y := H.out.2.out HT.out HP.out.1 (.int .i64 (B : Int)) (.int .i64 (M : Int)) (.int .i64 (b' : Int)) (.slice (some ⟨b3, o3, none⟩) bn bc) (.slice ra n rc)
            refine bodyPost_ret (results_c3 rfl rfl Y.1.drew rfl) rfl ?_
            dsimp only
            rw [HF.out.2, ← HF.out.1]
            exact ⟨_, rfl, Y.2.1.fr ((Fr.refl F0 _).drew) (fun _ _ => id), Y.2.2.drew⟩
end Go.Proofs.Ytkmnnfflibamnaa
