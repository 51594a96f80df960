/- Updates as an argument; rows; apply -/
import Derived.Test.YtehpikjhjghplaaB33
import Derived.Test.YtehpikjhjghplaaArg
import Derived.Test.YtehpikjhjghplaaB17
import Derived.Test.YtehpikjhjghplaaCom4
import Derived.LoopTactic
/- A slice of updates that came in; every one of them is fit. -/
namespace Go.Proofs.Ytehpikjhjghplaa
open Go.RowKit Go.ChangeShapes Go.WideShapes Go.Deep
attribute [local go_sem ↓] Go.wp_at_zero Go.wp_at_succ
structure ArgUs (w : World) (a : Option Addr) (n c : Nat) (xs : List Upd) : Prop where
  len : xs.length = n
  max : n ≤ 9223372036854775807
  cells : ∀ (i : Nat) (x : Upd), xs[i]? = some x → ∃ b o, a = some ⟨b, o, none⟩ ∧ w.cell? ⟨b, o + i * 2, none⟩ = some (.slice x.ap x.np x.cp) ∧ w.cell? ⟨b, o + i * 2 + 1, none⟩ = some (.slice x.ad x.nd x.cd)
  upd : ∀ (i : Nat) (x : Upd), xs[i]? = some x → UpM w x
theorem ArgUs.fr0 {w w' : World} {a : Option Addr} {n c : Nat} {xs : List Upd} (h : ArgUs w a n c xs) (f : Fr F0 w w') : ArgUs w' a n c xs :=
  ⟨h.len, h.max, fun i x hx => by
    obtain ⟨b, o, e, h1, h2⟩ := h.cells i x hx
    exact ⟨b, o, e, f.cell h1 id, f.cell h2 id⟩, fun i x hx => (h.upd i x hx).fr0 f⟩
section
variable {H : Type} {enc : TypeId × Value → H} {w : World} {held : Bool}
/-- Numbers of a field. -/
theorem open_nums {fuel : Nat} {v : Value} {x : DataW H × List MemPlace} (h : DataW.trod enc Try.prog w 0 (fun _ => true) held fuel 25 [v] = some x) : ∃ (a : Option Addr) (n c : Nat) (zs : List Int), v = .slice a n c ∧ Rd w a n (ints zs) := by
  rcases open_ints Try.underlying25 Try.underlying3 (by kernel_rfl) h with ⟨hcs2, _⟩ | ⟨x2, l2, cp2, zs, hcs2, _, hl2, hm2, hz2, _, hcell, hwz⟩
  · injection hcs2 with hcs2 _
    exact ⟨none, 0, 0, [], hcs2, Rd.nil _ _⟩
  · injection hcs2 with hcs2 _
    exact ⟨some x2, l2, cp2, zs.take l2, hcs2, (argSl_some hl2 hm2 (by simpa using hz2) hcell hwz).rd⟩
/-- Rows of a field. -/
theorem open_brows {fuel : Nat} {v : Value} {x : DataW H × List MemPlace} (h : DataW.trod enc Try.prog w 0 (fun _ => true) held fuel 26 [v] = some x) : ∃ (a : Option Addr) (n c : Nat) (vs : List Value) (ds : List (List UInt8)), v = .slice a n c ∧ Rd w a n vs ∧ RowsM w (fun j => j < w.heap.size) vs ds := by
  rcases Deep.open_int_rows Try.underlying26 Try.underlying22 Try.underlying5 (by kernel_rfl) (by kernel_rfl) h with ⟨hcs, _⟩ | ⟨x, l, c, A, L, C, Z, hcs, _, hl, hm, _, hrow⟩
  · injection hcs with hcs _
    exact ⟨none, 0, 0, [], [], hcs, Rd.nil _ _, RowsM.nil _ _⟩
  · injection hcs with hcs _
    have h := argRw_some hl hm hrow
    exact ⟨_, _, _, _, _, hcs, h.rd, h.rows⟩
theorem open_upds {fs : Array Field} {fuel : Nat} {cs : List Value} {x : DataW H × List MemPlace} (he : Try.prog.underlying 61 = some (.struct fs))
    (hone : oneCellFields Try.prog fs = true) (hC : Try.prog.cellsOf 61 = 2) (hfs : fs.size = 2) (f0 : ∀ f, fs[0]? = some f → f.type = 25) (f1 : ∀ f, fs[1]? = some f → f.type = 26)
    (h : DataW.trod enc Try.prog w 0 (fun _ => true) held fuel 59 cs = some x) : ∃ (a : Option Addr) (n c : Nat) (xs : List Upd), cs = [.slice a n c] ∧ ArgUs w a n c xs := by
  rcases open_slice Try.underlying59 h with ⟨hcs, _⟩ | ⟨a, len, cap, m, n, D, Pl, hcs, _, hl, hm, hmm, _, hi⟩
  · exact ⟨none, 0, 0, [], hcs, rfl, by omega, fun i x h => by simp at h, fun i x h => by simp at h⟩
  · have hlm : len ≤ m := by rw [hmm]; split <;> omega
    have hall : ∀ i, ∃ s : Upd, i < len → w.cell? ((a.add (i * 2)).add 0) = some (.slice s.ap s.np s.cp) ∧ w.cell? ((a.add (i * 2)).add 1) = some (.slice s.ad s.nd s.cd) ∧ UpM w s := by
      intro i
      by_cases hil : i < len
      · obtain ⟨cs', hc, ht'⟩ := hi i (by omega)
        rw [hC] at hc
        obtain ⟨_, hcl, hat⟩ := World.cells?_some hc
        obtain ⟨ys, n', _, _, _, hyl, hf⟩ := DataW.trod_struct he ht'
        have fld : ∀ j (hj : j < 2), ∃ f, fs[j]? = some f ∧ DataW.trod enc Try.prog w 0 (fun _ => true) held n' f.type [cs'[j]'(by omega)] = ys[j]? := by
          intro j hj
          have hfj : fs[j]? = some (fs[j]'(by omega)) := Array.getElem?_eq_getElem (by omega)
          obtain ⟨ho, hk1⟩ := hone_of hone j _ hfj
          have h1 := hf j _ hfj
          have h2 : (cs'.drop j).take 1 = [cs'[j]'(by omega)] := by
            rw [List.drop_eq_getElem_cons (by omega)]; rfl
          rw [ho, hk1, h2] at h1
          exact ⟨_, hfj, h1⟩
        have hyz : ys.length = 2 := by omega
        obtain ⟨g0, e0, t0⟩ := fld 0 (by omega)
        obtain ⟨g1, e1, t1⟩ := fld 1 (by omega)
        rw [List.getElem?_eq_getElem (by omega)] at t0 t1
        rw [f0 _ e0] at t0
        rw [f1 _ e1] at t1
        obtain ⟨a0, n0, c0, zs, hv0, r0⟩ := open_nums t0
        obtain ⟨a1, n1, c1, vs, ds, hv1, r1, rr⟩ := open_brows t1
        have k0 := hat 0 (by omega)
        have k1 := hat 1 (by omega)
        rw [List.getElem?_eq_getElem (by omega)] at k0 k1
        exact ⟨⟨a0, n0, c0, zs, a1, n1, c1, vs, ds⟩, fun _ => ⟨by rw [k0, hv0], by rw [k1, hv1], r0, r1, rr⟩⟩
      · exact ⟨⟨none, 0, 0, [], none, 0, 0, [], []⟩, fun h => absurd h hil⟩
    obtain ⟨S, hS⟩ : ∃ S : Nat → Upd, ∀ i, i < len → w.cell? ((a.add (i * 2)).add 0) = some (.slice (S i).ap (S i).np (S i).cp) ∧ w.cell? ((a.add (i * 2)).add 1) = some (.slice (S i).ad (S i).nd (S i).cd) ∧ UpM w (S i) :=
      ⟨fun i => Classical.choose (hall i), fun i => Classical.choose_spec (hall i)⟩
    have hget : ∀ {i : Nat} {x : Upd}, ((List.range len).map S)[i]? = some x → i < len ∧ x = S i := by
      intro i x hx
      by_cases hj : i < len
      · simp [hj] at hx; exact ⟨hj, hx.symm⟩
      · simp [hj] at hx
    refine ⟨some a, len, cap, (List.range len).map S, hcs, by simp, by unfold maxLen at hm; omega, fun i x hx => ?_, fun i x hx => ?_⟩
    · obtain ⟨hil, rfl⟩ := hget hx
      obtain ⟨h1, h2, _⟩ := hS i hil
      have hsp : a.spot = none := by
        have h0 := (hS 0 (by omega)).1
        rw [Nat.zero_mul] at h0
        simp only [Addr.add, if_true, World.cell?] at h0
        split at h0
        · cases hs : a.spot with
          | none => rfl
          | some s => simp [hs] at h0
        · cases h0
      obtain ⟨b, o, s⟩ := a
      simp only at hsp
      subst hsp
      rw [Addr.add_lit, Addr.add_lit] at h1 h2
      exact ⟨b, o, rfl, h1, h2⟩
    · obtain ⟨hil, rfl⟩ := hget hx
      exact (hS i hil).2.2
end
/-- The box of the test. -/
def OkBox (w : World) (sb pb : Nat) (page : Int) : Prop := w.cell? ⟨sb, 0, none⟩ = some (.func (.func 32) #[] #[.pointer (some ⟨pb, 0, none⟩)]) ∧ w.cell? ⟨pb, 0, none⟩ = some (.int .i64 page)
theorem OkBox.fr0 {w w' : World} {sb pb : Nat} {page : Int} (h : OkBox w sb pb page) (f : Fr F0 w w') : OkBox w' sb pb page := ⟨f.cell h.1 id, f.cell h.2 id⟩
def NoP (page : Int) (x : Upd) (w : World) (e : Ending) (w' : World) : Prop := ∃ r : Bool, e = .returned (.bool r) ∧ (r = false → OkU page x) ∧ Fr F0 w w'
set_option maxHeartbeats 1000000 in
theorem not_ok {x : Upd} {w : World} {sb pb : Nat} {page : Int} (U : UpM w x) (hb : OkBox w sb pb page) : Calls Try.prog 41 #[x.agg, .pointer (some ⟨sb, 0, none⟩)] w (NoP page x w) := by
  obtain ⟨y, hy⟩ : ∃ y, y = x := ⟨_, rfl⟩
  obtain ⟨ap, np, cp, zs, ad, nd, cd, vs, ds⟩ := x
  have Hy := Lib.hid hy
  rw [← hy]
  rw [← hy] at U
  clear hy
  obtain ⟨wb, hwb⟩ : ∃ wb, w.alloc (.cells #[.slice ap np cp, .slice ad nd cd] 61) = wb := ⟨_, rfl⟩
  have FB : Hid (Fr F0 w wb) := Lib.hid (by rw [← hwb]; exact (Fr.refl _ _).alloc _)
  have BB : Hid (Blk wb w.heap.size 61 [.slice ap np cp, .slice ad nd cd]) := Lib.hid (by rw [← hwb]; exact Blk.new w 61 _)
  have q0 : wb.cell? ⟨w.heap.size, 0, none⟩ = some (.slice ap np cp) := BB.out.cell (i := 0) rfl
  have q1 : wb.cell? ⟨w.heap.size, 1, none⟩ = some (.slice ad nd cd) := BB.out.cell (i := 1) rfl
  have q2 := (hb.fr0 FB.out).1
  have H := Lib.hid (ok_any (U.fr0 FB.out) (hb.fr0 FB.out).2)
  have ea : y.agg = .agg #[.slice ap np cp, .slice ad nd cd] := by rw [Hy.out]; rfl
  rw [ea]
  rw [ea] at H
  clear U hb ea
  go_enter Try.func41, Try.ntmps41
  go_wp2_with (go_at_call 32; refine H.out.mono ?_; rintro e w' ⟨r, rfl, h1, h2⟩; have H1 := Lib.hid h1; have H2 := Lib.hid h2; clear h1 h2)
  go_ret
  exact ⟨!r, rfl, fun h => H1.out (by simpa using h), FB.out.trans0 H2.out⟩
set_option maxHeartbeats 1000000 in
theorem IndexU {w : World} {a : Option Addr} {n c : Nat} {xs : List Upd} {sb pb : Nat} {page : Int} (hA : ArgUs w a n c xs) (hb : OkBox w sb pb page) :
    Calls Try.prog 66 #[.slice a n c, .func (.func 41) #[] #[.pointer (some ⟨sb, 0, none⟩)]] w fun e w' => ∃ z : Int, e = .returned (.int .i64 z) ∧ (z < 0 → ∀ x ∈ xs, OkU page x) ∧ Fr F0 w w' := by
  have HA := Lib.hid hA
  have Hl := Lib.hid hA.len
  have Hb := Lib.hid hb
  have hmax := hA.max
  clear hA hb
  go_enter Try.func66, Try.ntmps66
  go_wp2_with fail
  go_loopw [5, 8] (fun _ i wr => ∃ k : Nat, k ≤ n ∧ i = .int .i64 k ∧ (∀ j x, j < k → xs[j]? = some x → OkU page x) ∧ Fr F0 w wr) (fun _ i _ => n - (intOf i).toNat)
  case atStart => exact ⟨0, by omega, rfl, fun j x h => by omega, Fr.refl _ _⟩
  case round =>
    obtain ⟨k, hk, rfl, hno, hF⟩ := hrel
    replace hno := Lib.hid hno
    replace hF := Lib.hid hF
    by_cases hlt : k < n
    · obtain ⟨x, hx⟩ : ∃ x, xs[k]? = some x := ⟨_, List.getElem?_eq_getElem (by rw [Hl.out]; exact hlt)⟩
      obtain ⟨b, o, rfl, x0, x1⟩ := (HA.out.fr0 hF.out).cells k x hx
      have Hx := Lib.hid hx
      have hcall := not_ok ((HA.out.fr0 hF.out).upd k x hx) (Hb.out.fr0 hF.out)
      have hcall2 : Calls Try.prog 41 #[.agg #[.slice x.ap x.np x.cp, .slice x.ad x.nd x.cd], .pointer (some ⟨sb, 0, none⟩)] wr (NoP page x wr) := hcall
      have HC := Lib.hid hcall2
      clear hx hcall hcall2
      go_wp2_with fail
      refine HC.out.mono ?_
      rintro e w' ⟨r, rfl, h1, F2⟩
      have H1 := Lib.hid h1
      replace hF := Lib.hid (hF.out.trans0 F2)
      clear F2 x0 x1 HC h1
      cases r
      · go_wp2_with fail
        go_round
        case rel =>
          refine ⟨k + 1, by omega, by go_num, fun j y hj hy => ?_, hF.out⟩
          rcases Nat.lt_or_ge j k with h | h
          · exact hno.out j y h hy
          · have : j = k := by omega
            subst this
            rw [Hx.out] at hy
            injection hy with hy
            rw [← hy]
            exact H1.out (by simp)
        case measure => simp [intOf]; omega
      · go_wp2_with fail
        go_ret
        exact ⟨_, rfl, fun h => by omega, hF.out⟩
    · obtain rfl : n = k := by omega
      go_wp2_with fail
      go_ret
      refine ⟨_, rfl, fun _ x hx => ?_, hF.out⟩
      obtain ⟨j, hj, rfl⟩ := List.mem_iff_getElem.1 hx
      exact hno.out j _ (by rw [← Hl.out]; exact hj) (List.getElem?_eq_getElem hj)
theorem ContainsU {w : World} {a : Option Addr} {n c : Nat} {xs : List Upd} {sb pb : Nat} {page : Int} (hA : ArgUs w a n c xs) (hb : OkBox w sb pb page) :
    Calls Try.prog 40 #[.slice a n c, .func (.func 41) #[] #[.pointer (some ⟨sb, 0, none⟩)]] w fun e w' => ∃ r : Bool, e = .returned (.bool r) ∧ (r = false → ∀ x ∈ xs, OkU page x) ∧ Fr F0 w w' := by
  have H := Lib.hid (IndexU hA hb)
  clear hA hb
  go_enter Try.func40, Try.ntmps40
  go_wp2_with fail
  refine H.out.mono ?_
  rintro e w' ⟨z, rfl, h1, F1⟩
  have H1 := Lib.hid h1
  clear h1
  go_wp2_with fail
  go_ret
  exact ⟨_, rfl, fun h => H1.out (by simpa using h), F1⟩
end Go.Proofs.Ytehpikjhjghplaa
/- What pages show after an update: a copy of the rows, longer, and a row turned. -/
namespace Go.Proofs.Ytehpikjhjghplaa
open Go.RowKit
attribute [local go_sem ↓] Go.wp_at_zero Go.wp_at_succ
theorem RowsM.one {w : World} {S : Nat → Prop} {vs : List Value} {ds : List (List UInt8)} (h : RowsM w S vs ds) : ∀ u ∈ vs, u.oneCell' = true := by
  intro u hu
  obtain ⟨i, hi, rfl⟩ := List.mem_iff_getElem.1 hu
  obtain ⟨a, c, hv, _⟩ := h.row i _ _ (List.getElem?_eq_getElem hi) (List.getElem?_eq_getElem (by rw [← h.len]; exact hi))
  rw [hv]; rfl
def Off (T : Nat → Prop) (w : World) (a : Option Addr) (j : Nat) : Prop := T j ∧ j < w.heap.size ∧ ¬ onBlk a j
/-- Rows that lie apart from their slice. -/
structure Bk (T : Nat → Prop) (w : World) (B : Nat) (a : Option Addr) (n c : Nat) (vs : List Value) (P : List (List UInt8)) : Prop where
  own : Own w B 22 a n c vs
  rows : RowsM w (Off T w a) vs P
theorem Bk.len {T : Nat → Prop} {w : World} {B : Nat} {a : Option Addr} {n c : Nat} {vs : List Value} {P : List (List UInt8)} (h : Bk T w B a n c vs P) : P.length = n := by rw [← h.rows.len, h.own.len]
theorem Bk.fr0 {T : Nat → Prop} {w w' : World} {B : Nat} {a : Option Addr} {n c : Nat} {vs : List Value} {P : List (List UInt8)} (h : Bk T w B a n c vs P) (f : Fr F0 w w') : Bk T w' B a n c vs P :=
  ⟨h.own.fr0 f, (h.rows.fr0 f).mono (fun _ hk => ⟨hk.1, Nat.lt_of_lt_of_le hk.2.1 f.size, hk.2.2⟩)⟩
theorem Bk.set {T : Nat → Prop} {w : World} {B : Nat} {a : Option Addr} {n c p : Nat} {vs : List Value} {P : List (List UInt8)} {u : Value} {d : List UInt8} (h : Bk T w B a n c vs P) {g : Nat} (hg : a = some ⟨g, 0, none⟩) (hu : RowM w (Off T w a) u d) :
    Bk T (w.setCell ⟨g, p, none⟩ u) B a n c (vs.set p u) (P.set p d) := by
  subst hg
  have f : Fr (fun j => j = g) w (w.setCell ⟨g, p, none⟩ u) := Fr.setCell (S := fun j => j = g) (p := ⟨g, p, none⟩) (Fr.refl _ _) (fun _ => rfl) u
  have hoff : ∀ j, Off T w (some ⟨g, 0, none⟩) j → ¬ j = g := fun j hj e => hj.2.2 ((onBlk_some _ _ _ _).2 e)
  have hup : ∀ j, Off T w (some ⟨g, 0, none⟩) j → Off T (w.setCell ⟨g, p, none⟩ u) (some ⟨g, 0, none⟩) j := fun j hj => ⟨hj.1, Nat.lt_of_lt_of_le hj.2.1 f.size, hj.2.2⟩
  exact ⟨h.own.set u, ((h.rows.fr f hoff).set (hu.fr f hoff)).mono hup⟩
theorem Bk.app {T : Nat → Prop} {w w5 : World} {B : Nat} {a a5 : Option Addr} {n c c5 m : Nat} {vs : List Value} {P : List (List UInt8)} {u : Value} {d : List UInt8} (h : Bk T w B a n c vs P)
    (own5 : Own w5 B 22 a5 m c5 (vs ++ [u])) (fr5 : Fr (onBlk a) w w5) (at5 : ∀ k, onBlk a5 k → onBlk a k ∨ w.heap.size ≤ k) (hu : RowM w (Off T w a) u d) : Bk T w5 B a5 m c5 (vs ++ [u]) (P ++ [d]) := by
  have hoff : ∀ j, Off T w a j → ¬ onBlk a j := fun j hj => hj.2.2
  have hup : ∀ j, Off T w a j → Off T w5 a5 j := fun j hj => ⟨hj.1, Nat.lt_of_lt_of_le hj.2.1 fr5.size, fun h5 => (at5 j h5).elim hj.2.2 (fun h6 => by have := hj.2.1; omega)⟩
  exact ⟨own5, ((h.rows.fr fr5 hoff).snoc (hu.fr fr5 hoff)).mono hup⟩
/-- A zero row made anew. -/
theorem zrow_new (w : World) (page : Nat) (hp : page ≤ 1000000) : RowM (w.alloc (.cells (Array.replicate page (Value.int .u8 0)) 5)) (fun j => j = w.heap.size) (.slice (some ⟨w.heap.size, 0, none⟩) page page) (zrow page) := by
  have e : (zrow page).length = page := by unfold zrow; rw [List.length_replicate]
  have h : Own (w.alloc (.cells (Array.replicate page (Value.int .u8 0)) 5)) w.heap.size 5 (some ⟨w.heap.size, 0, none⟩) page page (byt (zrow page)) := by
    have h := Own.lit (w := w) (B := w.heap.size) (T := 5) (byt (zrow page)) page (by simp [byt, e]) (by omega) (by omega)
    have e2 : (byt (zrow page)).toArray = Array.replicate page (Value.int .u8 0) := by rw [← zrow_byt, List.toArray_replicate]
    rwa [e2] at h
  refine ⟨_, page, by rw [e], by rw [e]; exact Nat.le_refl _, by rw [e]; exact h.rd, fun _ k hk => (onBlk_some _ _ _ _).1 hk⟩
set_option maxRecDepth 100000 in
theorem Clone_rows {a : Option Addr} {n c : Nat} {vs : List Value} {w : World} (hr : Rd w a n vs) (h1 : ∀ u ∈ vs, u.oneCell' = true) (hn2 : n ≤ 1000000) :
    Calls Try.prog 67 #[.slice a n c] w fun e w' => ∃ a' c', e = .returned (.slice a' n c') ∧ Own w' w.heap.size 22 a' n c' vs ∧ Fr F0 w w' := by
  have hnil := fun (w : World) (a : Option Addr) (l c : Nat) => Lib.run_eql_slice_nil (P := Try.prog) w 26 22 a l c 0 0 Try.underlying26
  cases a with
  | none =>
    have h0 : n = 0 := by
      rcases Nat.eq_zero_or_pos n with h | h
      · exact h
      · obtain ⟨b, o, h, _⟩ := hr.cells h; cases h
    subst h0
    have hx : vs = [] := List.length_eq_zero_iff.1 (by have := hr.len; omega)
    subst hx
    clear hr
    go_enter Try.func67, Try.ntmps67
    go_wp2_with fail
    go_ret
    exact ⟨none, 0, rfl, Own.nil _ _ _, Fr.refl _ _⟩
  | some ad =>
    have hO : Own (w.alloc (.cells (#[] : Array Value) 22)) w.heap.size 22 (some ⟨w.heap.size, 0, none⟩) 0 0 [] := Own.lit [] 0 rfl (by omega) (by omega)
    have hF : Fr F0 w (w.alloc (.cells (#[] : Array Value) 22)) := (Fr.refl _ _).alloc _
    replace hO := Lib.hid hO
    have hR := Lib.hid (hr.fr0 hF)
    have H1 := Lib.hid h1
    replace hF := Lib.hid hF
    clear hr h1
    go_enter Try.func67, Try.ntmps67
    go_wp2_with (at_builtin; refine wpAppRd ER hO.out hR.out H1.out (by omega) (by omega) (by simp) n (by omega) rfl rfl ?_; intro a' c' w' own' fr' at')
    go_ret
    refine ⟨a', c', rfl, by simpa using own', hF.out.trans fr' (fun k hk hs => ?_)⟩
    have := (onBlk_some _ _ _ _).1 hs
    omega
theorem padP_padP {page n m : Nat} {o : List (List UInt8)} (h : o.length ≤ n) (h2 : n ≤ m) (h3 : m = max o.length m) : padP page m (padP page n o) = padP page m o := by
  unfold padP
  rw [List.length_append, List.length_replicate, List.append_assoc, List.replicate_append_replicate]
  congr 2
  omega
def lenV : Value → Nat
  | .slice _ n _ => n
  | _ => 0
end Go.Proofs.Ytehpikjhjghplaa
/- apply. -/
namespace Go.Proofs.Ytehpikjhjghplaa
open Go.RowKit
attribute [local go_sem ↓] Go.wp_at_zero Go.wp_at_succ
def upP (page : Nat) (P : List (List UInt8)) (zs : List Int) (ds : List (List UInt8)) (k : Nat) : List (List UInt8) := (((zs.map Int.toNat).zip ds).take k).foldl (pgStep page) P
theorem upP_succ {page : Nat} {P : List (List UInt8)} {zs : List Int} {ds : List (List UInt8)} {k p : Nat} {d : List UInt8} (h1 : zs[k]? = some (p : Int)) (h2 : ds[k]? = some d) : upP page P zs ds (k + 1) = (padP page (p + 1) (upP page P zs ds k)).set p d := by
  unfold upP
  have h : ((zs.map Int.toNat).zip ds)[k]? = some (p, d) := by
    rw [List.getElem?_zip_eq_some]
    refine ⟨?_, h2⟩
    rw [List.getElem?_map, h1]
    rfl
  rw [List.take_add_one, h, List.foldl_append]
  rfl
/-- What apply leaves. -/
def ApPost (T : Nat → Prop) (w : World) (P' : List (List UInt8)) (m : Nat) (e : Ending) (w' : World) : Prop :=
  ∃ (a : Option Addr) (n c : Nat) (vs : List Value), e = .returned (.slice a n c) ∧ Rd w' a n vs ∧ RowsM w' (fun j => T j ∧ j < w'.heap.size) vs P' ∧ n ≤ m ∧ (∀ j, onBlk a j → w.heap.size ≤ j) ∧ Fr F0 w w'
set_option maxHeartbeats 4000000 in
set_option maxRecDepth 100000 in
theorem apply_any {T : Nat → Prop} {aw : Option Addr} {nw cw : Nat} {vsw : List Value} {P : List (List UInt8)} {x : Upd} {w : World} {page m : Nat} (hr : Rd w aw nw vsw) (hR : RowsM w (fun j => T j ∧ j < w.heap.size) vsw P) (U : UpM w x) (hV : RowsM w (fun j => T j ∧ j < w.heap.size) x.vs x.ds) (hT : ∀ j, w.heap.size ≤ j → T j) (ok : OkU page x) (hp : page ≤ 256) (hl : nw ≤ m) (hm : 30 ≤ m) (hm2 : m ≤ 1000) :
    Calls Try.prog 43 #[.slice aw nw cw, x.agg, .int .i64 page] w (ApPost T w (((x.zs.map Int.toNat).zip x.ds).foldl (pgStep page) P) m) := by
  obtain ⟨ap, np, cp, zs, ad, nd, cd, vs, ds⟩ := x
  have hzl : zs.length = np := by simpa using U.rp.len
  have hnd : nd = np := ok.len
  have hdl : ds.length = np := by have h := U.rows.len; have h2 := U.rr.len; have := ok.len; simp only at h h2 this; omega
  have hsm : ∀ (k : Nat) z, zs[k]? = some z → 0 ≤ z ∧ z < 30 := fun k z h => by
    have h1 := ok.small
    rw [List.any_eq_false] at h1
    have h2 := h1 z (List.mem_of_getElem? h)
    unfold in30 at h2
    simp at h2
    omega
  have hfin : upP page P zs ds np = ((zs.map Int.toNat).zip ds).foldl (pgStep page) P := by
    unfold upP; rw [List.take_of_length_le (by rw [List.length_zip, List.length_map]; omega)]
  have h6 : np ≤ 6 := ok.six
  have hmx := U.rp.max
  dsimp only
  rw [← hfin]
  subst hnd
  have mk5 : ∀ w, (Instr.makeSlice 22 (.int .i64 page) (.int .i64 page)).run Try.prog w = .ok (.slice (some ⟨w.heap.size, 0, none⟩) page page) (w.alloc (.cells (Array.replicate page (.int .u8 0)) 5)) := fun w => run_mk E5 rfl page (by omega) (by omega) w
  have BB : Hid (Blk (w.alloc (.cells #[.slice ap nd cp, .slice ad nd cd] 61)) w.heap.size 61 [.slice ap nd cp, .slice ad nd cd]) := Lib.hid (Blk.new w 61 _)
  have FB : Hid (Fr F0 w (w.alloc (.cells #[.slice ap nd cp, .slice ad nd cd] 61))) := Lib.hid ((Fr.refl _ _).alloc _)
  have HU := Lib.hid U
  have HV := Lib.hid hV
  have HT := Lib.hid hT
  have HSm := Lib.hid hsm
  have HZl := Lib.hid hzl
  have HDl := Lib.hid hdl
  have HR := Lib.hid hR
  have HRd := Lib.hid hr
  obtain ⟨bU, hbU⟩ : ∃ b, b = w.heap.size := ⟨_, rfl⟩
  have HbU := Lib.hid hbU
  have P0l : Hid (P.length = nw) := Lib.hid (by rw [← hR.len, hr.len])
  clear U hV hT ok hfin hsm hzl hdl hR hr
  unfold Upd.agg
  dsimp only
  rw [← hbU] at BB
  clear hbU
  go_enter Try.func43, Try.ntmps43
  go_wp2_with fail
  rw [← HbU.out]
  refine (Clone_rows (HRd.out.fr0 FB.out) HR.out.one (by omega)).mono ?_
  rintro e w1 ⟨a1, c1, rfl, O1, F1⟩
  have B1 := Lib.hid (BB.out.fr F1 id)
  have K1 : Hid (Bk T w1 (bU + 1) a1 nw c1 vsw P) := Lib.hid ⟨O1.mono (by have := HbU.out; have h3 := (show (w.alloc (.cells #[.slice ap nd cp, .slice ad nd cd] 61)).heap.size = w.heap.size + 1 by simp); omega), ((HR.out.fr0 FB.out).fr0 F1).mono (fun j hj => ⟨hj.1, Nat.lt_of_lt_of_le hj.2 (Nat.le_trans FB.out.size F1.size), fun h => by have h1 := (O1.blk j h).1; have h2 : j < w.heap.size := hj.2; have h3 := FB.out.size; omega⟩)⟩
  have FW := Lib.hid (FB.out.trans0 F1)
  clear O1 F1 BB FB
  have x0 := B1.out.cell (i := 0) rfl
  have x1 := B1.out.cell (i := 1) rfl
  go_wp2_with fail
  clear x0 x1
  go_loopw [7, 8, 9, 15] (fun s7 _ _ s15 wr => ∃ (k n c : Nat) (a : Option Addr) (us : List Value), k ≤ nd ∧ s15 = .int .i64 k ∧ s7 = .slice a n c ∧ n ≤ m ∧ Hid (Bk T wr (bU + 1) a n c us (upP page P zs ds k)) ∧ Hid (Blk wr bU 61 [.slice ap nd cp, .slice ad nd cd]) ∧ Hid (Fr F0 w wr)) (fun _ _ _ s15 _ => nd - (intOf s15).toNat)
  case atStart => exact ⟨0, nw, c1, a1, vsw, by omega, rfl, rfl, hl, K1, B1, FW⟩
  case round =>
    clear K1 B1 FW
    obtain ⟨k, n, c, a, us, hk, rfl, rfl, hn, K, B, F⟩ := hrel
    by_cases hlt : k < nd
    · obtain ⟨b1, o1, z, rfl, hz, hc1⟩ := (HU.out.rp.fr0 F.out).ix hlt
      have hz30 := HSm.out k z hz
      obtain ⟨p, rfl⟩ := Int.eq_ofNat_of_zero_le hz30.1
      have hp30 : p < 30 := by omega
      obtain ⟨b2, o2, ar, cr, d, rfl, hdk, hc2, hrow⟩ := rows_ix HU.out.rr HV.out hlt
      have Hz := Lib.hid hz
      have Hdk := Lib.hid hdk
      have x0 := B.out.cell (i := 0) rfl
      have x1 := B.out.cell (i := 1) rfl
      obtain ⟨dl, hdl⟩ : ∃ n, n = d.length := ⟨_, rfl⟩
      rw [← hdl] at hc2 hrow
      clear hdl
      have Hrow := Lib.hid hrow
      clear hz hdk hrow hz30
      go_wp2_with fail
      clear x0 x1
      go_loopw [7] (fun s7 wr2 => ∃ (n2 c2 : Nat) (a2 : Option Addr) (us2 : List Value), s7 = .slice a2 n2 c2 ∧ n ≤ n2 ∧ n2 ≤ max n (p + 1) ∧ Hid (Bk T wr2 (bU + 1) a2 n2 c2 us2 (padP page n2 (upP page P zs ds k))) ∧ Hid (Blk wr2 bU 61 [.slice (some ⟨b1, o1, none⟩) nd cp, .slice (some ⟨b2, o2, none⟩) nd cd]) ∧ Hid (Fr F0 w wr2)) (fun s7 _ => p + 1 - lenV s7)
      case atStart => exact ⟨n, c, a, us, rfl, by omega, by omega, Lib.hid (by rw [padP_of_le (by rw [K.out.len]; exact Nat.le_refl _)]; exact K.out), B, F⟩
      case round =>
        obtain ⟨n2, c2, a2, us2, rfl, hn1, hn2, K2, B2, F2⟩ := hrel
        have y2 := F2.out.cell hc2 id
        have Kl := K.out.len
        by_cases hle : n2 ≤ p
        · clear y2
          go_wp2_with (at_builtin; refine wpAppAt ER (K2.out.own.alloc _) (by omega) (by omega) (by have h1 := B2.out.lt; simp; omega) (u := .slice (some ⟨wr.heap.size, 0, none⟩) page page) rfl rfl (congrArg (fun k => Value.slice (some ⟨k, 0, none⟩) 1 1) (show wr.heap.size + 1 = (wr.alloc (.cells (Array.replicate page (.int .u8 0)) 5)).heap.size by simp)) ?_; intro a5 c5 w5 own5 fr5 at5)
          have hob := K2.out.own.blk
          have hsz := HbU.out
          have hK5 : Bk T w5 (bU + 1) a5 (n2 + 1) c5 (us2 ++ [.slice (some ⟨wr.heap.size, 0, none⟩) page page]) (padP page (n2 + 1) (upP page P zs ds k)) := by
            rw [padP_succ (by rw [Kl]; exact hn1)]
            exact (K2.out.fr0 ((Fr.refl _ _).alloc _)).app own5 fr5 at5 ((zrow_new wr page (by omega)).mono (fun j e => ⟨HT.out j (by rw [e]; exact F2.out.size), by rw [e]; simp, fun h => by have := (hob j h).2; omega⟩))
          have hB5 := (B2.out.fr ((Fr.refl F0 _).alloc (.cells (Array.replicate page (Value.int .u8 0)) 5)) id).fr fr5 (fun h => by have := (hob _ h).1; omega)
          have hF5 : Fr F0 w w5 := (F2.out.alloc _).trans fr5 (fun j h1 h2 => by have := (hob _ h2).1; omega)
          have K5 := Lib.hid hK5
          have B5 := Lib.hid hB5
          have F5 := Lib.hid hF5
          clear hob hsz hK5 hB5 hF5 own5 fr5 at5 K2 B2 F2
          go_wp2_with fail
          go_roundw
          case rel => exact ⟨n2 + 1, c5, a5, _, rfl, by omega, by omega, K5, B5, F5⟩
          case measure => simp [lenV]; omega
        · have hlt2 : p < n2 := by omega
          obtain ⟨g, rfl, _, _, hgc, hgf⟩ := K2.out.own.at (by omega)
          have hul := K2.out.own.len
          have z1 := hgc p (us2[p]'(by omega)) (List.getElem?_eq_getElem (by omega))
          have z2 := hgf p
          have hob := K2.out.own.blk
          have hgb : bU + 1 ≤ g := (hob g ((onBlk_some _ _ _ _).2 rfl)).1
          have hsz := HbU.out
          have hK5 := K2.out.set (p := p) rfl ((Hrow.out.fr F2.out (fun _ _ => id)).mono (fun j hj => show Off T wr (some ⟨g, 0, none⟩) j from ⟨hj.1, Nat.lt_of_lt_of_le hj.2 F2.out.size, fun h => by have := (hob j h).1; have := hj.2; omega⟩))
          rw [show (padP page n2 (upP page P zs ds k)).set p d = upP page P zs ds (k + 1) by
            rw [upP_succ Hz.out Hdk.out]
            have : padP page n2 (upP page P zs ds k) = padP page (p + 1) (upP page P zs ds k) := by
              unfold padP; rw [Kl]; congr 2; omega
            rw [this]] at hK5
          have hB5 := B2.out.fr (Fr.setCell (S := fun j => j = g) (p := ⟨g, p, none⟩) (Fr.refl _ wr) (fun _ => rfl) (.slice ar dl cr)) (fun h => by omega)
          have hF5 : Fr F0 w (wr.setCell ⟨g, p, none⟩ (.slice ar dl cr)) := F2.out.setCell (p := ⟨g, p, none⟩) (fun h => by simp only at h; omega) _
          have K5 := Lib.hid hK5
          have B5 := Lib.hid hB5
          have F5 := Lib.hid hF5
          have x0 := B2.out.cell (i := 0) rfl
          have x1 := B2.out.cell (i := 1) rfl
          clear hob hsz hK5 hB5 hF5 hgc hgf
          go_wp2_with fail
          go_roundw
          case rel => exact ⟨k + 1, n2, c2, _, _, by omega, by go_num, rfl, by omega, K5, B5, F5⟩
          case measure => simp [intOf]; omega
    · obtain rfl : nd = k := by omega
      go_wp2_with fail
      go_ret
      exact ⟨a, n, c, us, rfl, K.out.own.rd, K.out.rows.mono (fun j hj => ⟨hj.1, hj.2.1⟩), hn, fun j h => by have := (K.out.own.blk j h).1; have := HbU.out; omega, F.out⟩
end Go.Proofs.Ytehpikjhjghplaa
